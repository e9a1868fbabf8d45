/- Contract: wal.steps: calls of a disk one behind the other, up to the first error. Contracts: wal.May, may, read at the laws' conf; calls of the disk as values. Calls of the disk as values: closures and the method value, each told as a Doer. The log in memory; contracts: may, used, open, Room, full, First, Next, Down. DERIVED: THE SHELF's CONTRACTS AT THIS DUMP, IN PLAIN WORDS (tools/lay-plain.mjs out of 'TryShelf.lean', which tools/lay-shelf.mjs wrote): THE SAME DECLARATIONS UNDER THE SAME NAMES: 'import', 'namespace', 'open', 'def', 'theorem' AND NOTHING ELSE: no command of the shelf's: FOR A HAND-IN. Each laying: the table of numbers ('.._ren') and one theorem, a field a fact of the dump's own or the kernel's comparison; each contract: ONE APPLICATION. Contracts: strings.Builder's copyCheck, WriteByte on an empty one; wire.Uints of one number below 128. -/
import Derived.Test.YtniflkggcceagaaQv00
import Derived.Test.YtniflkggcceagaaQv01
import Derived.Shelf.Strings.Builder1
import Derived.Shelf.Strings.BuilderF
import Derived.Shelf.Strings.BuilderK
import Derived.Shelf.Strings.BuilderCap
import Derived.Test.YtniflkggcceagaaProg
namespace Go.Proofs.Ytniflkggcceagaa
open Go Go.RowKit
inductive Dc where
  | write (f : Int) (s : List UInt8)
  | cut (f : Int) (n : Nat)
  | sync
def Dk.do (D : Dk) : Dc → Int × Dk
  | .write f s => D.write f s
  | .cut f n => D.cutF f n
  | .sync => D.sync
def Dc.fits (D : Dk) : Dc → Prop
  | .write _ s => s.length ≤ 1073741824
  | .cut f n => n ≤ (D.now f.toNat).length
  | .sync => True
def Dk.steps : List Dc → Dk → Int × Dk
  | [], D => (0, D)
  | c :: r, D => if (D.do c).1 = 0 then Dk.steps r (D.do c).2 else D.do c
def fitsS : List Dc → Dk → Prop
  | [], _ => True
  | c :: r, D => c.fits D ∧ ((D.do c).1 = 0 → fitsS r (D.do c).2)
theorem lensN_upd (g : Nat → List UInt8) (f : Nat) (t : List UInt8) : ∀ k, f < k → lensN (upd g f t) k + (g f).length = lensN g k + t.length
  | 0, h => by omega
  | k + 1, h => by
    show lensN (upd g f t) k + (upd g f t k).length + _ = lensN g k + (g k).length + _
    by_cases e : k = f
    · subst e
      have : ∀ j, j ≤ k → lensN (upd g k t) j = lensN g j := fun j => by
        induction j with
        | zero => intro _; rfl
        | succ j ih => intro hj; show _ + _ = _ + _; rw [ih (by omega)]; simp [upd, show ¬ j = k by omega]
      rw [this k (Nat.le_refl _)]
      simp [upd]; omega
    · have := lensN_upd g f t k (by omega)
      have h2 : upd g f t k = g k := by simp [upd, e]
      rw [h2]; omega
theorem lensN_le (g : Nat → List UInt8) : ∀ (k i : Nat), i < k → (g i).length ≤ lensN g k
  | 0, _, h => by omega
  | k + 1, i, h => by
    show _ ≤ lensN g k + _
    by_cases e : i = k
    · subst e; omega
    · have := lensN_le g k i (by omega); omega
theorem take_all (s : List UInt8) (h : s.length ≤ 1073741824) : s.take (max 0 (min allB (s.length : Int))).toNat = s := List.take_of_length_le (by unfold allB; omega)
theorem DkOk.do {D : Dk} (h : DkOk D) (hn : D.n ≤ 16) (c : Dc) (hc : c.fits D) (hl : D.loose.length + 1 ≤ 1000000) : DkOk (D.do c).2 ∧ (D.do c).2.n = D.n ∧ (D.do c).2.loose.length ≤ D.loose.length + 1 := by
  obtain ⟨K, e1, e2, e3, e4, e5⟩ := h.burn
  cases c with
  | write f s =>
    show DkOk (D.write f s).2 ∧ (D.write f s).2.n = D.n ∧ (D.write f s).2.loose.length ≤ D.loose.length + 1
    unfold Dk.write
    split
    · exact ⟨K, e1, by rw [e3]; omega⟩
    · split
      · exact ⟨K, e1, by dsimp only; rw [e3]; omega⟩
      · split
        · exact ⟨K, e1, by dsimp only; rw [e3]; omega⟩
        · rename_i h1 h2 h3
          have hf : f.toNat < 16 := by omega
          refine ⟨⟨K.room, fun i hi => ?_, by dsimp only; rw [e3, List.length_append]; simpa using hl, K.fuse⟩, e1, by dsimp only; rw [e3, List.length_append]; simp⟩
          have hs : s.length ≤ 1073741824 := hc
          have hu := lensN_upd D.burn.2.now f.toNat (D.burn.2.now f.toNat ++ s) 16 hf
          have h4 := lensN_le (upd D.burn.2.now f.toNat (D.burn.2.now f.toNat ++ s)) 16 i hi
          rw [List.length_append] at hu
          have h5 : (upd D.burn.2.now f.toNat (D.burn.2.now f.toNat ++ s.take (max 0 (min allB (s.length : Int))).toNat) i).length ≤ 1073741824 := by
            rw [take_all s hs]
            unfold Dk.left at h3
            have := K.room
            omega
          exact h5
  | cut f n =>
    show DkOk (D.cutF f n).2 ∧ (D.cutF f n).2.n = D.n ∧ (D.cutF f n).2.loose.length ≤ D.loose.length + 1
    unfold Dk.cutF
    split
    · exact ⟨K, e1, by rw [e3]; omega⟩
    · split
      · exact ⟨K, e1, by dsimp only; rw [e3]; omega⟩
      · refine ⟨⟨K.room, fun i hi => ?_, by dsimp only; rw [e3, List.length_append]; simpa using hl, K.fuse⟩, e1, by dsimp only; rw [e3, List.length_append]; simp⟩
        have h5 : (upd D.burn.2.now f.toNat ((D.burn.2.now f.toNat).take n) i).length ≤ 1073741824 := by
          unfold upd
          split
          · rename_i e
            have := K.now i hi
            rw [List.length_take, ← e]; omega
          · exact K.now i hi
        exact h5
  | sync =>
    show DkOk D.sync.2 ∧ D.sync.2.n = D.n ∧ D.sync.2.loose.length ≤ D.loose.length + 1
    unfold Dk.sync
    split
    · exact ⟨K, e1, by rw [e3]; omega⟩
    · exact ⟨⟨K.room, K.now, by simp, K.fuse⟩, e1, by simp⟩
def Doer (S0 : Nat → Prop) (w0 : World) (d : Nat) (v : Value) (c : Dc) : Prop := ∃ fn bd cp, v = .func (.func fn) bd cp ∧ (∀ args w, (callFunc fn args).run Try.prog w = .ok (.enter fn args) w) ∧
  ∀ (w : World) (D : Dk), DiskAt w (Gr S0 w0 w) d D → ButS S0 w0 w → DkOk D → c.fits D → Calls Try.prog fn (bd ++ cp) w (DkG (Gr S0 w0 w) d w (D.do c))
theorem DkG.gr {S : Nat → Prop} {d : Nat} {w w1 w2 : World} {r : Int × Dk} {e : Ending} (h : DkG (Gr S w w1) d w1 r e w2) (hb : ButS S w w1) : DkG S d w r e w2 := ⟨h.1, h.2.1.gr hb.size h.2.2.size, hb.gr h.2.2⟩
set_option maxRecDepth 100000 in
set_option maxHeartbeats 1000000 in
theorem wal_steps (w : World) {S : Nat → Prop} {d : Nat} {D : Dk} (a : Option Addr) (cap : Nat) (vs : List Value) (cs : List Dc) (h : DiskAt w S d D) (hk : DkOk D) (hl : D.loose.length + cs.length ≤ 1000000) (hlen : vs.length = cs.length)
    (hrow : cs = [] ∨ ∃ g, a = some ⟨g, 0, none⟩ ∧ ¬ S g ∧ g < w.heap.size ∧ ∀ i v, vs[i]? = some v → w.cell? ⟨g, i, none⟩ = some v) (hdo : ∀ (i : Nat) (v : Value) (c : Dc), vs[i]? = some v → cs[i]? = some c → Doer S w d v c) (hfit : fitsS cs D) :
    Calls Try.prog 50 #[.slice a cs.length cap] w (DkG S d w (Dk.steps cs D)) := by
  have HDO := Lib.hid hdo; have HROW := Lib.hid hrow; have HLE := Lib.hid hlen
  obtain ⟨n, hn⟩ : ∃ n, cs.length = n := ⟨_, rfl⟩
  rw [hn] at hl ⊢
  have HN := Lib.hid hn
  have hnb : n ≤ 1000000 := by omega
  have H0 : Hid (∃ D', Dk.steps cs D = Dk.steps (cs.drop 0) D' ∧ DiskAt w (Gr S w w) d D' ∧ DkOk D' ∧ D'.loose.length + (n - 0) ≤ 1000000 ∧ fitsS (cs.drop 0) D') := Lib.hid ⟨D, rfl, h.more (fun k hk => Or.inl hk) (fun k hk => by rcases hk with hk | hk; (· exact h.own k hk); (· exact hk.2)), hk, hl, hfit⟩
  clear h hk hl hlen hrow hdo hfit hn
  go_enter Try.func50, Try.ntmps50
  go_wp2_with fail
  go_loopw [8] (fun i wr => ∃ q : Nat, q ≤ n ∧ i = .int .i64 q ∧ Hid (ButS S w wr) ∧ Hid (∃ D', Dk.steps cs D = Dk.steps (cs.drop q) D' ∧ DiskAt wr (Gr S w wr) d D' ∧ DkOk D' ∧ D'.loose.length + (n - q) ≤ 1000000 ∧ fitsS (cs.drop q) D')) (fun i _ => n - (intOf i).toNat)
  case atStart => exact ⟨0, Nat.zero_le _, rfl, Lib.hid (ButS.refl _), H0⟩
  case round =>
    obtain ⟨q, hq, rfl, HB, HI⟩ := hrel
    obtain ⟨D', e0, h1, h2, h3, h4⟩ := HI.out
    by_cases hlt : q < n
    · have hqi : (q : Int) < (n : Int) := by omega
      have HLT := Lib.hid hlt
      obtain ⟨c, hc⟩ : ∃ c, cs[q]? = some c := ⟨_, List.getElem?_eq_getElem (by rw [HN.out]; exact hlt)⟩
      obtain ⟨v, hv⟩ : ∃ v, vs[q]? = some v := ⟨_, List.getElem?_eq_getElem (by rw [HLE.out, HN.out]; exact hlt)⟩
      obtain ⟨g, rfl, hSg, hgl, hcells⟩ := HROW.out.resolve_left (fun e => by have := HN.out; rw [e] at this; simp at this; omega)
      have cq : wr.cell? ⟨g, q, none⟩ = some v := (HB.out.cell (p := ⟨g, q, none⟩) hgl hSg).trans (hcells q v hv)
      have hd : cs.drop q = c :: cs.drop (q + 1) := by
        obtain ⟨h5, h6⟩ := List.getElem?_eq_some_iff.1 hc
        rw [List.drop_eq_getElem_cons h5, h6]
      rw [hd] at e0 h4
      obtain ⟨fn, bd, cp, rfl, eg, hC⟩ := HDO.out q v c hv hc
      have HC := Lib.hid (hC wr D' h1 HB.out h2 h4.1)
      obtain ⟨K1, K2, K3⟩ := h2.do h1.n16.2 c h4.1 (by omega)
      have HE0 := Lib.hid e0; have H4 := Lib.hid h4.2; have HK1 := Lib.hid K1; have HK3 := Lib.hid K3
      have H3 := Lib.hid h3
      obtain ⟨r, hr⟩ : ∃ r, D'.do c = r := ⟨_, rfl⟩
      have HST : Hid (Dk.steps (c :: cs.drop (q + 1)) D' = if r.1 = 0 then Dk.steps (cs.drop (q + 1)) r.2 else r) := Lib.hid (by rw [← hr]; rfl)
      rw [hr] at HC H4 HK1 HK3
      obtain ⟨er, D2⟩ := r
      unfold DkG at HC
      clear hC hc hv hcells hd e0 h1 h2 h3 h4 K1 K2 K3 hr HI H0
      go_wp2_with fail
      refine HC.out.mono ?_
      rintro e w3 ⟨rfl, g3, b3⟩
      have HG3 := Lib.hid g3; have HB3 := Lib.hid b3
      clear g3 b3
      have hs1 := HB.out.size; have hs3 := HB3.out.size
      by_cases he : er = 0
      · have heb : (er != 0) = false := by simp [he]
        have H5 : Hid (∃ D', Dk.steps cs D = Dk.steps (cs.drop (q + 1)) D' ∧ DiskAt w3 (Gr S w w3) d D' ∧ DkOk D' ∧ D'.loose.length + (n - (q + 1)) ≤ 1000000 ∧ fitsS (cs.drop (q + 1)) D') := Lib.hid ⟨D2, by rw [HE0.out, HST.out, if_pos he], HG3.out.gr hs1 hs3, HK1.out, by have := HK3.out; have := H3.out; have := HLT.out; omega, H4.out he⟩
        clear he
        go_wp2_with fail
        go_roundw
        case rel => exact ⟨q + 1, by have := HLT.out; omega, by go_num, Lib.hid (HB.out.gr HB3.out), H5⟩
        case measure => have := HLT.out; simp [intOf]; omega
      · have heb : (er != 0) = true := by simpa using he
        go_wp2_with fail
        go_ret
        have hfin : DkG S d w (er, D2) (.returned (.int .i64 er)) w3 := DkG.gr ⟨rfl, HG3.out, HB3.out⟩ HB.out
        rw [HE0.out, HST.out, if_neg he]
        exact hfin
    · obtain rfl : q = n := by omega
      have hd : cs.drop q = [] := List.drop_of_length_le (by rw [HN.out]; exact Nat.le_refl _)
      rw [hd] at e0
      have HE0 := Lib.hid e0; have H1 := Lib.hid h1
      clear e0 h1 h2 h3 h4 HI
      go_wp2_with fail
      go_ret
      rw [HE0.out]
      exact ⟨rfl, H1.out, HB.out⟩
end Go.Proofs.Ytniflkggcceagaa

namespace Go.Proofs.Ytniflkggcceagaa
open Go Go.RowKit
abbrev confV : Value := .agg #[.int .i64 3, .int .i64 100, .int .i64 60]
theorem wal_May1 (w : World) (n a b : Int) (h : a ≤ n ∧ n ≤ b) : Calls Try.prog 77 #[.int .i64 n, .int .i64 a, .int .i64 b] w fun e w' => e = .returned (.bool true) ∧ w' = w := by
  obtain ⟨h1, h2⟩ := h
  go_enter Try.func77, Try.ntmps77
  go_wp2_with fail
  go_ret
  exact ⟨rfl, rfl⟩
theorem wal_May (w : World) : Calls Try.prog 63 #[confV] w fun e w' => e = .returned (.bool true) ∧ Below w.heap.size w w' := by
  have HM := fun w => wal_May1 w 3 2 16 (by decide)
  have HM2 := fun w => wal_May1 w 100 64 4194304 (by decide)
  have HM3 := fun w => wal_May1 w 60 32 4194304 (by decide)
  go_enter Try.func63, Try.ntmps63
  go_upto_region 1 with fail
  refine wp_abs (F := fun W => One w.heap.size #[.int .i64 3, .int .i64 100, .int .i64 60] W ∧ Below w.heap.size w W) ⟨One.of _ _ _, (Below.refl _ _).alloc (Nat.le_refl _) _⟩ ?_
  rintro W0 ⟨hO, hb⟩
  have c0 := hO.c 0; have c1 := hO.c 1; have c2 := hO.c 2
  simp at c0 c1 c2
  go_wp2_with fail
  refine (HM W0).mono ?_
  rintro e w1 ⟨rfl, hw⟩
  subst w1
  go_wp2_with fail
  refine (HM2 W0).mono ?_
  rintro e w1 ⟨rfl, hw⟩
  subst w1
  go_wp2_with fail
  refine (HM3 W0).mono ?_
  rintro e w1 ⟨rfl, hw⟩
  subst w1
  go_wp2_with fail
  go_ret
  exact ⟨rfl, hb⟩
set_option maxRecDepth 100000 in
set_option maxHeartbeats 1000000 in
theorem wal_may (w : World) {S : Nat → Prop} {d : Nat} {D : Dk} (h : DiskAt w S d D) (hn : 3 ≤ D.n) : Calls Try.prog 43 #[.pointer (some ⟨d, 0, none⟩), confV] w fun e w' => e = .returned (.int .i64 0) ∧ Below w.heap.size w w' := by
  have H := Lib.hid h
  have hdl := h.lt
  have hnb : decide ((D.n : Int) < 3) = false := by simp; omega
  have hn3 : ¬ (D.n : Int) < 3 := by omega
  clear h
  go_enter Try.func43, Try.ntmps43
  go_upto_region 3 with fail
  refine wp_abs (F := fun W => One w.heap.size #[.int .i64 3, .int .i64 100, .int .i64 60] W ∧ Below w.heap.size w W) ⟨One.of _ _ _, (Below.refl _ _).alloc (Nat.le_refl _) _⟩ ?_
  rintro W0 ⟨hO, hb⟩
  have HO := Lib.hid hO; have HB := Lib.hid hb
  have HD0 := Lib.hid (H.out.step hb)
  clear hO hb
  refine wp_region_quiet (C := fun W => Hid (Below W0.heap.size W0 W)) (by kernel_rfl) (by kernel_rfl) (Lib.hid (Below.drew (Below.refl _ _))) ?_
  refine (quiet_plain' ?_ (confV) (fun w' hw' => ?_) ?_ : _)
  · exact rfl
  · have hy := HO.out.step hw'.out; have c0 := hy.c 0; have c1 := hy.c 1; have c2 := hy.c 2; simp at c0 c1 c2
    go_simp
  go_frame
  refine (quiet_call' ?_ (.bool true) 63 #[confV] (fun w' hw' => ⟨?_, ?_⟩) ?_ : _)
  · exact rfl
  · have hy := HO.out.step hw'.out; have c0 := hy.c 0; have c1 := hy.c 1; have c2 := hy.c 2; simp at c0 c1 c2
    go_simp
  · exact (wal_May w').mono (fun e wz h => ⟨h.1, Lib.hid (hw'.out.trans (h.2.mono hw'.out.size))⟩)
  go_frame
  refine (quiet_plain' ?_ (.bool false) (fun w' hw' => ?_) ?_ : _)
  · exact rfl
  · go_simp
  go_frame
  refine (quiet_plain' ?_ (.bool false) (fun w' hw' => ?_) ?_ : _)
  · exact rfl
  · go_simp
  go_frame
  refine (quiet_plain' ?_ (.pointer (some ⟨d, 0, none⟩)) (fun w' hw' => ?_) ?_ : _)
  · exact rfl
  · go_simp
  go_frame
  refine (quiet_call' ?_ (.int .i64 (D.n : Int)) 64 #[.pointer (some ⟨d, 0, none⟩)] (fun w' hw' => ⟨?_, ?_⟩) ?_ : _)
  · exact rfl
  · have hy := HO.out.step hw'.out; have c0 := hy.c 0; have c1 := hy.c 1; have c2 := hy.c 2; simp at c0 c1 c2
    go_simp
  · exact (disk_Files w' (HD0.out.step hw'.out)).mono (fun e wz h => ⟨h.1, by rw [h.2]; exact hw'⟩)
  go_frame
  refine (quiet_plain' ?_ (.pointer (some ⟨w.heap.size, 0, none⟩)) (fun w' hw' => ?_) ?_ : _)
  · exact rfl
  · go_simp
  go_frame
  refine (quiet_plain' ?_ (.int .i64 3) (fun w' hw' => ?_) ?_ : _)
  · exact rfl
  · have hy := HO.out.step hw'.out; have c0 := hy.c 0; have c1 := hy.c 1; have c2 := hy.c 2; simp at c0 c1 c2
    go_simp
  go_frame
  refine (quiet_plain' ?_ (.bool false) (fun w' hw' => ?_) ?_ : _)
  · exact rfl
  · go_simp
  go_frame
  refine (quiet_plain' ?_ (.bool false) (fun w' hw' => ?_) ?_ : _)
  · exact rfl
  · go_simp
  go_frame
  refine (quiet_plain' ?_ (.bool false) (fun w' hw' => ?_) ?_ : _)
  · exact rfl
  · go_simp
  go_frame
  refine (wpQuiet_nil ?_ : _)
  intro W6 hW6
  go_wp2_with fail
  go_ret
  exact ⟨rfl, HB.out.trans (hW6.out.mono HB.out.size)⟩
theorem infoStr' : (Try.prog.info? 9).map (fun i => (i.zero, i.size, i.bytes)) = some (some (.string ⟨#[]⟩), 1, 16) := by kernel_rfl
def filesV (g : Nat → List UInt8) (k : Nat) : List Value := (List.range k).map (fun i => .string (bs (g i)))
theorem filesV_succ (g : Nat → List UInt8) (k : Nat) : filesV g (k + 1) = filesV g k ++ [.string (bs (g k))] := by simp [filesV, List.range_succ]
set_option maxRecDepth 100000 in
set_option maxHeartbeats 1000000 in
theorem wal_read (w : World) {S : Nat → Prop} {d : Nat} {D : Dk} (h : DiskAt w S d D) (hn : 3 ≤ D.n) (hf : D.fuse ≠ 0) : Calls Try.prog 44 #[.pointer (some ⟨d, 0, none⟩), confV] w fun e w' => ∃ a cap, e = .returned (.tuple #[.slice a 3 cap, .int .i64 0]) ∧ w'.ownsRow w.heap.size 9 1 (.slice a 3 cap) 3 (filesV D.now 3) ∧ Below w.heap.size w w' := by
  obtain ⟨i0, hi, hz0, hz1, hz2⟩ := info_parts infoStr'
  have H := Lib.hid h
  have hrd : Hid (∀ k : Nat, k < 3 → D.read (k : Int) = (D.now k, 0)) := Lib.hid (fun k hk => by
    unfold Dk.read; rw [if_neg hf, if_pos (by omega)]; rfl)
  clear h
  go_enter Try.func44, Try.ntmps44
  go_upto_region 2 with fail
  refine wp_abs (F := fun W => Hid (DiskAt W S d D) ∧ Hid (Below w.heap.size w W)) ⟨Lib.hid (H.out.step ((Below.refl _ _).alloc (Nat.le_refl _) _)), Lib.hid ((Below.refl _ _).alloc (Nat.le_refl _) _)⟩ ?_
  rintro W0 ⟨HD0, HB0⟩
  go_loopw [4, 11] (fun l i wr => ∃ (k : Nat) (a : Option Addr) (cap : Nat), k ≤ 3 ∧ i = .int .i64 k ∧ l = .slice a k cap ∧ Hid (wr.ownsRow w.heap.size 9 1 (.slice a k cap) k (filesV D.now k)) ∧ Hid (Below w.heap.size w wr)) (fun _ i _ => 3 - (intOf i).toNat)
  case atStart => exact ⟨0, none, 0, by omega, rfl, rfl, Lib.hid (World.ownsRow_nil _ _ _ _), HB0⟩
  case round =>
    obtain ⟨k, a, cap, hk, rfl, rfl, HR, HB⟩ := hrel
    by_cases hlt : k < 3
    · have hki : (k : Int) < 3 := by omega
      have HRD := Lib.hid (disk_Read wr (k : Int) (H.out.but (ButS.of (S := fun _ => False) HB.out) (fun _ _ h => h)))
      rw [hrd.out k hlt] at HRD
      obtain ⟨s, hs⟩ : ∃ s, D.now k = s := ⟨_, rfl⟩
      rw [hs] at HRD
      dsimp only at HRD
      have HS := Lib.hid hs
      have HLT := Lib.hid hlt
      have hbs := HB.out.size
      clear hs
      go_wp2_with fail
      refine HRD.out.mono ?_
      rintro e w2 ⟨rfl, hw2⟩
      subst w2
      go_wp2_with (first
        | (at_builtin; refine wpList_append_own _ rfl _ _ 33 rfl w.heap.size 9 i0 (.string ⟨#[]⟩) 1 16 Try.underlying33 hi hz0 hz1 hz2 rfl (by decide) (.slice a k cap) k (filesV D.now k) rfl (ownBelow HR.out ((Below.refl _ _).alloc (Nat.le_refl _) _)) ⟨wr.heap.size, 0, none⟩ 1 1 [.string (bs s)] rfl rfl (World.news_of_block (MapKept.heap_alloc _ _).1) (by intro u hu; simp only [List.mem_cons, List.mem_nil_iff, or_false] at hu; rcases hu with rfl; rfl) (by unfold maxLen; omega) (by omega) (by simp; omega) ?_; intro v5 w5 hown5 hg5 _; obtain ⟨a6, c6, rfl⟩ := ownShape hown5; have Hown5 := Lib.hid hown5; have Hg5 := Lib.hid hg5; clear hown5 hg5)
        | fail)
      go_roundw
      case rel =>
        refine ⟨k + 1, a6, c6, by have := HLT.out; omega, by go_num, rfl, Lib.hid ?_, Lib.hid ?_⟩
        · rw [filesV_succ, HS.out]; exact Hown5.out
        · exact ((HB.out.alloc hbs _).grown Hg5.out (by simp; omega) (fun j hj => ownAbove HR.out j hj))
      case measure => have := HLT.out; simp [intOf]; omega
    · obtain rfl : k = 3 := by omega
      go_wp2_with fail
      go_ret2
      exact ⟨a, cap, rfl, HR.out, HB.out⟩
end Go.Proofs.Ytniflkggcceagaa

namespace Go.Proofs.Ytniflkggcceagaa
open Go Go.RowKit
theorem DkG.same {S : Nat → Prop} {d : Nat} {w w' : World} {r : Int × Dk} {e : Ending} (h : e = .returned (.int .i64 r.1) ∧ DiskAt w' S d r.2 ∧ ButS (fun k => k = d) w w') (hd : S d) : DkG S d w r e w' :=
  ⟨h.1, h.2.1.more (fun k hk => Or.inl hk) (fun k hk => by rcases hk with hk | hk; (· exact h.2.1.own k hk); (· exact hk.2)), h.2.2.mono (fun k hk => by rw [hk]; exact hd)⟩
theorem doer_sync (S0 : Nat → Prop) (w0 : World) (d : Nat) : Doer S0 w0 d (.func (.func 38) #[.pointer (some ⟨d, 0, none⟩)] #[]) .sync :=
  ⟨_, _, _, rfl, enters_of Try.func38 (by kernel_rfl) rfl, fun w D h hb hk hf => (disk_Sync w h hk.fuse).mono (fun e w' g => DkG.same g h.dd)⟩
theorem open2 (w : World) {S : Nat → Prop} {d : Nat} {D : Dk} (f : Int) (b1 b2 : Nat) (h : DiskAt w S d D) (hk : DkOk D) (h1 : w.cell? ⟨b1, 0, none⟩ = some (.pointer (some ⟨d, 0, none⟩))) (h2 : w.cell? ⟨b2, 0, none⟩ = some (.int .i64 f)) :
    Calls Try.prog 49 #[.pointer (some ⟨b1, 0, none⟩), .pointer (some ⟨b2, 0, none⟩)] w (DkG S d w (D.cutF f 0)) := by
  have HC := Lib.hid (disk_Cut w f 0 h hk (Nat.zero_le _))
  clear h hk
  obtain ⟨r, hr⟩ : ∃ r, D.cutF f 0 = r := ⟨_, rfl⟩
  rw [hr] at HC ⊢
  clear hr
  go_enter Try.func49, Try.ntmps49
  go_wp2_with fail
  refine HC.out.mono ?_
  rintro e w1 ⟨rfl, g1, g2⟩
  have G1 := Lib.hid g1; have G2 := Lib.hid g2; clear g1 g2 HC
  go_wp2_with fail
  go_ret
  exact ⟨rfl, G1.out, G2.out⟩
theorem open1 (w : World) {S : Nat → Prop} {d : Nat} {D : Dk} (f : Int) (n b1 b2 b3 : Nat) (h : DiskAt w S d D) (hk : DkOk D) (hn : n ≤ (D.now f.toNat).length) (h1 : w.cell? ⟨b1, 0, none⟩ = some (.pointer (some ⟨d, 0, none⟩))) (h2 : w.cell? ⟨b2, 0, none⟩ = some (.int .i64 f)) (h3 : w.cell? ⟨b3, 5, none⟩ = some (.int .i64 (n : Int))) :
    Calls Try.prog 48 #[.pointer (some ⟨b1, 0, none⟩), .pointer (some ⟨b2, 0, none⟩), .pointer (some ⟨b3, 0, none⟩)] w (DkG S d w (D.cutF f n)) := by
  have HC := Lib.hid (disk_Cut w f n h hk hn)
  clear h hk hn
  obtain ⟨r, hr⟩ : ∃ r, D.cutF f n = r := ⟨_, rfl⟩
  rw [hr] at HC ⊢
  clear hr
  go_enter Try.func48, Try.ntmps48
  go_wp2_with fail
  refine HC.out.mono ?_
  rintro e w1 ⟨rfl, g1, g2⟩
  have G1 := Lib.hid g1; have G2 := Lib.hid g2; clear g1 g2 HC
  go_wp2_with fail
  go_ret
  exact ⟨rfl, G1.out, G2.out⟩
theorem make2 (w : World) {S : Nat → Prop} {d : Nat} {D : Dk} (s : List UInt8) (b1 b2 : Nat) (h : DiskAt w S d D) (hk : DkOk D) (hs : s.length ≤ 1073741824) (h1 : w.cell? ⟨b1, 0, none⟩ = some (.pointer (some ⟨d, 0, none⟩))) (h2 : w.cell? ⟨b2, 0, none⟩ = some (.string (bs s))) :
    Calls Try.prog 52 #[.pointer (some ⟨b1, 0, none⟩), .pointer (some ⟨b2, 0, none⟩)] w (DkG S d w (D.write 0 s)) := by
  have HC := Lib.hid (disk_Write w 0 s h hk hs)
  clear h hk
  obtain ⟨r, hr⟩ : ∃ r, D.write 0 s = r := ⟨_, rfl⟩
  rw [hr] at HC ⊢
  clear hr
  go_enter Try.func52, Try.ntmps52
  go_wp2_with fail
  refine HC.out.mono ?_
  rintro e w1 ⟨rfl, g1, g2⟩
  have G1 := Lib.hid g1; have G2 := Lib.hid g2; clear g1 g2 HC
  go_wp2_with fail
  go_ret
  exact ⟨rfl, G1.out, G2.out⟩
theorem doer_make2 {S0 : Nat → Prop} {w0 : World} {d : Nat} {s : List UInt8} {b1 b2 : Nat} (n1 : ¬ S0 b1) (n2 : ¬ S0 b2) (h1 : w0.cell? ⟨b1, 0, none⟩ = some (.pointer (some ⟨d, 0, none⟩))) (h2 : w0.cell? ⟨b2, 0, none⟩ = some (.string (bs s))) :
    Doer S0 w0 d (.func (.func 52) #[] #[.pointer (some ⟨b1, 0, none⟩), .pointer (some ⟨b2, 0, none⟩)]) (.write 0 s) :=
  ⟨_, _, _, rfl, enters_of Try.func52 (by kernel_rfl) rfl, fun w _ h hb hk hf => make2 w s b1 b2 h hk hf ((hb.cell (p := ⟨b1, 0, none⟩) (cell_lt h1) n1).trans h1) ((hb.cell (p := ⟨b2, 0, none⟩) (cell_lt h2) n2).trans h2)⟩
theorem doer_open2 {S0 : Nat → Prop} {w0 : World} {d : Nat} {f : Int} {b1 b2 : Nat} (n1 : ¬ S0 b1) (n2 : ¬ S0 b2) (h1 : w0.cell? ⟨b1, 0, none⟩ = some (.pointer (some ⟨d, 0, none⟩))) (h2 : w0.cell? ⟨b2, 0, none⟩ = some (.int .i64 f)) :
    Doer S0 w0 d (.func (.func 49) #[] #[.pointer (some ⟨b1, 0, none⟩), .pointer (some ⟨b2, 0, none⟩)]) (.cut f 0) :=
  ⟨_, _, _, rfl, enters_of Try.func49 (by kernel_rfl) rfl, fun w _ h hb hk _ => open2 w f b1 b2 h hk ((hb.cell (p := ⟨b1, 0, none⟩) (cell_lt h1) n1).trans h1) ((hb.cell (p := ⟨b2, 0, none⟩) (cell_lt h2) n2).trans h2)⟩
theorem doer_open1 {S0 : Nat → Prop} {w0 : World} {d : Nat} {f : Int} {n b1 b2 b3 : Nat} (n1 : ¬ S0 b1) (n2 : ¬ S0 b2) (n3 : ¬ S0 b3) (h1 : w0.cell? ⟨b1, 0, none⟩ = some (.pointer (some ⟨d, 0, none⟩))) (h2 : w0.cell? ⟨b2, 0, none⟩ = some (.int .i64 f)) (h3 : w0.cell? ⟨b3, 5, none⟩ = some (.int .i64 (n : Int))) :
    Doer S0 w0 d (.func (.func 48) #[] #[.pointer (some ⟨b1, 0, none⟩), .pointer (some ⟨b2, 0, none⟩), .pointer (some ⟨b3, 0, none⟩)]) (.cut f n) :=
  ⟨_, _, _, rfl, enters_of Try.func48 (by kernel_rfl) rfl, fun w _ h hb hk hf => open1 w f n b1 b2 b3 h hk hf ((hb.cell (p := ⟨b1, 0, none⟩) (cell_lt h1) n1).trans h1) ((hb.cell (p := ⟨b2, 0, none⟩) (cell_lt h2) n2).trans h2) ((hb.cell (p := ⟨b3, 5, none⟩) (cell_lt h3) n3).trans h3)⟩
end Go.Proofs.Ytniflkggcceagaa

namespace Go.Proofs.Ytniflkggcceagaa
open Go Go.RowKit
structure Wa where
  gen : Nat
  first : Nat
  next : Nat
  files : List Int
  sizes : List Nat
  reserved : Int
  down : Int
def intsV (l : List Int) : List Value := l.map (fun n => .int .i64 n)
def natsV (l : List Nat) : List Value := l.map (fun (n : Nat) => .int .i64 ((n : Nat) : Int))
structure WalAt (w : World) (T : Nat → Prop) (x d : Nat) (W : Wa) : Prop where
  own : ∀ k, T k → k < w.heap.size
  xx : T x
  c0 : w.cell? ⟨x, 0, none⟩ = some (.pointer (some ⟨d, 0, none⟩))
  c1 : w.cell? ⟨x, 1, none⟩ = some (.int .i64 3)
  c2 : w.cell? ⟨x, 2, none⟩ = some (.int .i64 100)
  c3 : w.cell? ⟨x, 3, none⟩ = some (.int .i64 60)
  c4 : w.cell? ⟨x, 4, none⟩ = some (.int .u64 (W.gen : Int))
  c5 : w.cell? ⟨x, 5, none⟩ = some (.int .u64 (W.first : Int))
  c6 : w.cell? ⟨x, 6, none⟩ = some (.int .u64 (W.next : Int))
  c9 : w.cell? ⟨x, 9, none⟩ = some (.int .i64 W.reserved)
  c10 : w.cell? ⟨x, 10, none⟩ = some (.int .i64 W.down)
  fz : ∀ j, w.frozen? ⟨x, j, none⟩ = false
  rows : ∃ fv sv, w.cell? ⟨x, 7, none⟩ = some fv ∧ w.cell? ⟨x, 8, none⟩ = some sv ∧ w.ownsRow 0 3 1 fv W.files.length (intsV W.files) ∧ w.ownsRow 0 3 1 sv W.sizes.length (natsV W.sizes) ∧
    (∀ b, fv.ownBlock = some b → T b ∧ b ≠ x ∧ sv.ownBlock ≠ some b) ∧ (∀ b, sv.ownBlock = some b → T b ∧ b ≠ x)
theorem WalAt.lt {w : World} {T : Nat → Prop} {x d : Nat} {W : Wa} (h : WalAt w T x d W) : x < w.heap.size := cell_lt h.c0
theorem WalAt.but {w w' : World} {T S : Nat → Prop} {x d : Nat} {W : Wa} (h : WalAt w T x d W) (hb : ButS S w w') (hd : ∀ k, T k → ¬ S k) : WalAt w' T x d W := by
  obtain ⟨fv, sv, l1, l2, l3, l4, l5, l6⟩ := h.rows
  have cc : ∀ j, w'.cell? ⟨x, j, none⟩ = w.cell? ⟨x, j, none⟩ := fun j => hb.cell (p := ⟨x, j, none⟩) h.lt (hd _ h.xx)
  exact ⟨fun k hk => Nat.lt_of_lt_of_le (h.own k hk) hb.size, h.xx, (cc 0).trans h.c0, (cc 1).trans h.c1, (cc 2).trans h.c2, (cc 3).trans h.c3, (cc 4).trans h.c4, (cc 5).trans h.c5, (cc 6).trans h.c6, (cc 9).trans h.c9, (cc 10).trans h.c10, fun j => (hb.frozen (p := ⟨x, j, none⟩) h.lt (hd _ h.xx)).trans (h.fz j), fv, sv, (cc 7).trans l1, (cc 8).trans l2,
    own_same l3 (fun g hg => hb.block g (h.own _ (l5 g hg).1) (hd _ (l5 g hg).1)), own_same l4 (fun g hg => hb.block g (h.own _ (l6 g hg).1) (hd _ (l6 g hg).1)), l5, l6⟩
theorem WalAt.step {w w' : World} {T : Nat → Prop} {x d : Nat} {W : Wa} (h : WalAt w T x d W) (hb : Below w.heap.size w w') : WalAt w' T x d W := h.but (ButS.of hb (S := fun _ => False)) (fun _ _ h => h)
theorem WalAt.drewN {w : World} {T : Nat → Prop} {x d : Nat} {W : Wa} (h : WalAt w T x d W) (n : Nat) : WalAt (w.drewN n) T x d W := h.step ⟨rfl, rfl, rfl, Nat.le_refl _, fun _ _ => rfl⟩
theorem WalAt.turn {w w' : World} {T : Nat → Prop} {x d : Nat} {W W' : Wa} (h : WalAt w T x d W) (hb : ButS (fun k => k = x) w w') (hf : W'.files = W.files) (hs : W'.sizes = W.sizes)
    (cc : ∀ j, j < 4 ∨ j = 7 ∨ j = 8 → w'.cell? ⟨x, j, none⟩ = w.cell? ⟨x, j, none⟩) (c4 : w'.cell? ⟨x, 4, none⟩ = some (.int .u64 (W'.gen : Int))) (c5 : w'.cell? ⟨x, 5, none⟩ = some (.int .u64 (W'.first : Int))) (c6 : w'.cell? ⟨x, 6, none⟩ = some (.int .u64 (W'.next : Int)))
    (c9 : w'.cell? ⟨x, 9, none⟩ = some (.int .i64 W'.reserved)) (c10 : w'.cell? ⟨x, 10, none⟩ = some (.int .i64 W'.down)) (fz : ∀ j, w'.frozen? ⟨x, j, none⟩ = false) : WalAt w' T x d W' := by
  obtain ⟨fv, sv, l1, l2, l3, l4, l5, l6⟩ := h.rows
  refine ⟨fun k hk => Nat.lt_of_lt_of_le (h.own k hk) hb.size, h.xx, (cc 0 (by omega)).trans h.c0, (cc 1 (by omega)).trans h.c1, (cc 2 (by omega)).trans h.c2, (cc 3 (by omega)).trans h.c3, c4, c5, c6, c9, c10, fz, fv, sv, (cc 7 (by omega)).trans l1, (cc 8 (by omega)).trans l2, ?_, ?_, l5, l6⟩
  · rw [hf]; exact own_same l3 (fun g hg => hb.block g (h.own _ (l5 g hg).1) (l5 g hg).2.1)
  · rw [hs]; exact own_same l4 (fun g hg => hb.block g (h.own _ (l6 g hg).1) (l6 g hg).2)
theorem WalAt.setDown {w : World} {T : Nat → Prop} {x d : Nat} {W : Wa} (h : WalAt w T x d W) (v : Int) : WalAt (w.setCell ⟨x, 10, none⟩ (.int .i64 v)) T x d { W with down := v } := by
  have far : ∀ j, j ≠ 10 → (w.setCell ⟨x, 10, none⟩ (.int .i64 v)).cell? ⟨x, j, none⟩ = w.cell? ⟨x, j, none⟩ := fun j hj => World.cell?_setCell_other _ _ _ _ (by intro e; injection e with _ e; exact hj e.symm)
  exact h.turn (ButS.set (S := fun k => k = x) w (p := ⟨x, 10, none⟩) rfl _) rfl rfl (fun j hj => far j (by omega)) ((far 4 (by omega)).trans h.c4) ((far 5 (by omega)).trans h.c5) ((far 6 (by omega)).trans h.c6) ((far 9 (by omega)).trans h.c9) (World.cell?_setCell_same' _ _ _ (by rw [h.c10]; rfl)) (fun j => by rw [World.frozen?_setCell]; exact h.fz j)
theorem WalAt.setReserved {w : World} {T : Nat → Prop} {x d : Nat} {W : Wa} (h : WalAt w T x d W) (v : Int) : WalAt (w.setCell ⟨x, 9, none⟩ (.int .i64 v)) T x d { W with reserved := v } := by
  have far : ∀ j, j ≠ 9 → (w.setCell ⟨x, 9, none⟩ (.int .i64 v)).cell? ⟨x, j, none⟩ = w.cell? ⟨x, j, none⟩ := fun j hj => World.cell?_setCell_other _ _ _ _ (by intro e; injection e with _ e; exact hj e.symm)
  exact h.turn (ButS.set (S := fun k => k = x) w (p := ⟨x, 9, none⟩) rfl _) rfl rfl (fun j hj => far j (by omega)) ((far 4 (by omega)).trans h.c4) ((far 5 (by omega)).trans h.c5) ((far 6 (by omega)).trans h.c6) (World.cell?_setCell_same' _ _ _ (by rw [h.c9]; rfl)) ((far 10 (by omega)).trans h.c10) (fun j => by rw [World.frozen?_setCell]; exact h.fz j)
theorem WalAt.setNext {w : World} {T : Nat → Prop} {x d : Nat} {W : Wa} (h : WalAt w T x d W) (v : Nat) : WalAt (w.setCell ⟨x, 6, none⟩ (.int .u64 (v : Int))) T x d { W with next := v } := by
  have far : ∀ j, j ≠ 6 → (w.setCell ⟨x, 6, none⟩ (.int .u64 (v : Int))).cell? ⟨x, j, none⟩ = w.cell? ⟨x, j, none⟩ := fun j hj => World.cell?_setCell_other _ _ _ _ (by intro e; injection e with _ e; exact hj e.symm)
  exact h.turn (ButS.set (S := fun k => k = x) w (p := ⟨x, 6, none⟩) rfl _) rfl rfl (fun j hj => far j (by omega)) ((far 4 (by omega)).trans h.c4) ((far 5 (by omega)).trans h.c5) (World.cell?_setCell_same' _ _ _ (by rw [h.c6]; rfl)) ((far 9 (by omega)).trans h.c9) ((far 10 (by omega)).trans h.c10) (fun j => by rw [World.frozen?_setCell]; exact h.fz j)

def Wa.mayE (W : Wa) : Int := if W.down ≠ 0 then 121 else 0
theorem wal_mayW (w : World) {T : Nat → Prop} {x d : Nat} {W : Wa} (h : WalAt w T x d W) : Calls Try.prog 31 #[.pointer (some ⟨x, 0, none⟩)] w fun e w' => e = .returned (.int .i64 W.mayE) ∧ w' = w := by
  have c0 := h.c0; have c10 := h.c10
  clear h
  unfold Wa.mayE
  obtain ⟨dn, hdn⟩ : ∃ z, W.down = z := ⟨_, rfl⟩
  rw [hdn] at c10 ⊢
  clear hdn
  by_cases hz : dn = 0
  · have hb : (dn != 0) = false := by simp [hz]
    rw [if_neg (by simpa using hz)]
    clear hz
    go_enter Try.func31, Try.ntmps31
    go_wp2_with fail
    go_ret
    exact ⟨rfl, rfl⟩
  · have hb : (dn != 0) = true := by simpa using hz
    rw [if_pos hz]
    clear hz
    go_enter Try.func31, Try.ntmps31
    go_wp2_with fail
    go_ret
    exact ⟨rfl, rfl⟩
def sumL (l : List Nat) : Nat := l.foldl (· + ·) 0
theorem sumL_take (l : List Nat) (q : Nat) (h : q < l.length) : sumL (l.take (q + 1)) = sumL (l.take q) + l.getD q 0 := by
  unfold sumL
  rw [List.take_succ_eq_append_getElem h, List.foldl_append, List.getD_eq_getElem?_getD, List.getElem?_eq_getElem h]; rfl
theorem row_at {w : World} {e n : Nat} {a : Option Addr} {cap : Nat} {xs : List Value} (h : w.ownsRow 0 e 1 (.slice a n cap) n xs) (hx : xs.length = n) : n = 0 ∨ ∃ g, a = some ⟨g, 0, none⟩ ∧ ∀ i v, xs[i]? = some v → w.cell? ⟨g, i, none⟩ = some v ∧ w.frozen? ⟨g, i, none⟩ = false := by
  rcases h.2 with ⟨hv, hn⟩ | ⟨g, cap', cur, hv, hB, hg, rest⟩
  · exact Or.inl hn
  · right
    simp only [Value.slice.injEq] at hv
    obtain ⟨rfl, _, rfl⟩ := hv
    refine ⟨g, rfl, fun i v hiv => ⟨?_, ?_⟩⟩
    · have hi := (List.getElem?_eq_some_iff.1 hiv).1
      rw [World.ownsRow.cellAt h i (by omega)]; exact hiv
    · exact frozen_of hg i
set_option maxRecDepth 100000 in
theorem wal_used (w : World) {T : Nat → Prop} {x d : Nat} {W : Wa} (h : WalAt w T x d W) (hn : W.sizes.length ≤ 1000) (hs : ∀ n ∈ W.sizes, n ≤ 1073741824) : Calls Try.prog 29 #[.pointer (some ⟨x, 0, none⟩)] w fun e w' => e = .returned (.int .i64 (sumL W.sizes : Nat)) ∧ w' = w := by
  obtain ⟨fv, sv, l1, l2, l3, l4, l5, l6⟩ := h.rows
  obtain ⟨a, cap, rfl⟩ := ownShape l4
  have hr := row_at l4 (by simp [natsV])
  obtain ⟨Z, hZ⟩ : ∃ Z, W.sizes = Z := ⟨_, rfl⟩
  rw [hZ] at hn hs hr l2 ⊢
  obtain ⟨n, hnn⟩ : ∃ n, Z.length = n := ⟨_, rfl⟩
  rw [hnn] at hn hr l2
  have HR := Lib.hid hr; have HS := Lib.hid hs; have HN := Lib.hid hnn
  have hbd : ∀ q, q ≤ n → sumL (Z.take q) ≤ q * 1073741824 := fun q => by
    induction q with
    | zero => intro _; simp [sumL]
    | succ q ih =>
      intro hq
      rw [sumL_take Z q (by omega)]
      have h1 := ih (by omega)
      have h2 := hs (Z.getD q 0) (by rw [List.getD_eq_getElem?_getD, List.getElem?_eq_getElem (by omega)]; exact List.getElem_mem _)
      omega
  have HBD := Lib.hid hbd
  clear h l1 l3 l4 l5 l6 hr hs hZ hnn hbd
  go_enter Try.func29, Try.ntmps29
  go_wp2_with fail
  go_loopw [2, 10] (fun z i wr => ∃ (q m : Nat), q ≤ n ∧ i = .int .i64 q ∧ z = .int .i64 m ∧ Hid (m = sumL (Z.take q)) ∧ wr = w) (fun _ i _ => n - (intOf i).toNat)
  case atStart => exact ⟨0, 0, Nat.zero_le _, rfl, rfl, Lib.hid (by simp [sumL]), rfl⟩
  case round =>
    obtain ⟨q, m, hq, rfl, rfl, HM, hw⟩ := hrel
    subst wr
    by_cases hlt : q < n
    · have hqi : (q : Int) < (n : Int) := by omega
      obtain ⟨g, rfl, hc⟩ := HR.out.resolve_left (by omega)
      obtain ⟨s, hs⟩ : ∃ s, Z.getD q 0 = s := ⟨_, rfl⟩
      have hz : Z[q]? = some s := by rw [← hs, List.getD_eq_getElem?_getD, List.getElem?_eq_getElem (by rw [HN.out]; exact hlt)]; rfl
      have cq := (hc q (.int .i64 (s : Int)) (by simp [natsV, hz])).1
      have HM2 : Hid (m + s = sumL (Z.take (q + 1))) := Lib.hid (by rw [sumL_take Z q (by rw [HN.out]; exact hlt), hs, HM.out])
      obtain ⟨ms, hms⟩ : ∃ k, m + s = k := ⟨_, rfl⟩
      have hmi : (m : Int) + (s : Int) = (ms : Int) := by omega
      rw [hms] at HM2
      have hmw2 : IntKind.i64.wrap (ms : Int) = (ms : Int) := by
        have h1 := HBD.out (q + 1) (by omega); have h2 := HM2.out
        rw [IntKind.wrap_i64]; omega
      clear hc hs hz hms
      go_wp2_with fail
      go_roundw
      case rel => exact ⟨q + 1, ms, by omega, by go_num, rfl, HM2, trivial⟩
      case measure => simp [intOf]; omega
    · obtain rfl : q = n := by omega
      go_wp2_with fail
      go_ret
      exact ⟨by rw [HM.out, ← HN.out, List.take_length]; rfl, rfl⟩
end Go.Proofs.Ytniflkggcceagaa

namespace Go.Proofs
open Go.Shelf
def Try.lays169_ren : Go.Shelf.Ren := ⟨fun | 169 => 76 | n => n, fun | 70 => 116 | 9 => 9 | 0 => 0 | 72 => 118 | 37 => 53 | 127 => 136 | 3 => 3 | 5 => 5 | n => n, fun | n => n⟩
theorem Try.lays169 : Go.Proofs.Lays.n169 Try.prog Try.lays169_ren := {
  mixed := by kernel_rfl
  f169 := Try.func76.trans (congrArg some (by kernel_rfl))
  t0 := Try.underlying0
  a0 := Try.isAgg0
  z0 := Try.sizeOf0
  v0 := Try.zeroValue0
  t3 := Try.underlying3
  a3 := Try.isAgg3
  z3 := Try.sizeOf3
  v3 := Try.zeroValue3
  t9 := Try.underlying9
  a9 := Try.isAgg9
  z9 := Try.sizeOf9
  v9 := Try.zeroValue9
  t37 := Try.underlying53
  a37 := Try.isAgg53
  z37 := Try.sizeOf53
  v37 := Try.zeroValue53
  t70 := Try.underlying116
  a70 := Try.isAgg116
  z70 := Try.sizeOf116
  v70 := Try.zeroValue116
  t72 := Try.underlying118
  a72 := Try.isAgg118
  z72 := Try.sizeOf118
  v72 := Try.zeroValue118
  t127 := Try.underlying136
  a127 := Try.isAgg136
  z127 := Try.sizeOf136
  v127 := Try.zeroValue136 }
theorem Try.Builder_Extra_169 : Builder.Extra Try.prog Try.lays169_ren := {
  sizeBuilder := by kernel_rfl
  liesBuilder := by kernel_rfl
  t5 := Try.underlying5
  a5 := Try.isAgg5
  z5 := Try.sizeOf5
  v5 := Try.zeroValue5
  infoByte := by kernel_rfl
  cellsByte := by kernel_rfl
  sizeByte := by kernel_rfl
  neB5 := by decide }
open Go.RowKit in
theorem Try.Builder_String (B b : Nat) (l : List UInt8) (w : World) (h : Lib.IsBuilder 118 5 B b (Lib.byteCells l) w) (h0 : l ≠ []) :
    Calls Try.prog 76 #[.pointer (some ⟨b, 0, none⟩)] w fun e w' => e = .returned (.string ⟨l.toArray⟩) ∧ Below B w w' := Any.Builder_String Try.lays169 Try.Builder_Extra_169 B b l w h h0
end Go.Proofs

namespace Go.Proofs.Ytniflkggcceagaa
open Go Go.RowKit
set_option maxHeartbeats 1000000 in
set_option maxRecDepth 100000 in
theorem copyCheck (w : World) (b : Nat) (h0 : w.cell? ⟨b, 0, none⟩ = some (.pointer none)) (hsh : w.shape? b = some (118, 2)) (hfz : w.frozen? ⟨b, 0, none⟩ = false) :
    Calls Try.prog 83 #[.pointer (some ⟨b, 0, none⟩)] w fun e w' => e = .returned (.tuple #[]) ∧ w' = w.setCell ⟨b, 0, none⟩ (.pointer (some ⟨b, 0, none⟩)) := by
  obtain ⟨j, hj, hjs⟩ := Option.map_eq_some_iff.1 (show (Try.prog.info? 118).map (·.size) = some 2 by kernel_rfl)
  have hlies := Try.Builder_Extra_169.liesBuilder
  go_enter Try.func83, Try.ntmps83
  go_wp2
  rw [Lib.run_to_unsafe w ⟨b, 0, none⟩ Try.underlying116 Try.underlying139 hj (by rw [hjs]; decide) hsh (Nat.zero_lt_succ 1)]
  simp only [Result.andThen]
  rw [Oper.upon_value]
  go_wp2
  rw [run_callFunc_extern Try.func85 (by kernel_rfl) (by kernel_rfl) (by kernel_rfl) (e := Extern.AbiNoEscape.same) (by kernel_rfl)]
  rw [Lib.run_noEscape]
  simp only [Result.andThen]
  rw [Oper.upon_value]
  go_wp2
  rw [Lib.run_from_unsafe w ⟨b, 0, none⟩ Try.underlying139 Try.underlying116 hj hsh hlies]
  simp only [Result.andThen]
  rw [Oper.upon_value]
  go_wp2
  go_end0
  exact ⟨rfl, rfl⟩
theorem infoU8 : (Try.prog.info? 5).map (fun i => (i.zero, i.size, i.bytes)) = some (some (.int .u8 0), 1, 1) := by kernel_rfl
set_option maxHeartbeats 1000000 in
set_option maxRecDepth 100000 in
theorem writeByte (B b : Nat) (c : Int) (w : World) (h : Lib.BuilderAt 118 5 B b (.pointer none) [] w) (hBw : B ≤ w.heap.size) :
    Calls Try.prog 75 #[.pointer (some ⟨b, 0, none⟩), .int .u8 c] w fun e w' => e = .returned .nilIface ∧ Lib.BuilderAt 118 5 B b (.pointer (some ⟨b, 0, none⟩)) [.int .u8 c] w' ∧ Below B w w' := by
  obtain ⟨i0, hi, hz0, hz1, hz2⟩ := info_parts infoU8
  have HC := Lib.hid (copyCheck w b h.cell0 h.shape h.frozen0)
  have H := Lib.hid h
  clear h
  go_enter Try.func75, Try.ntmps75
  go_wp2_with fail
  refine HC.out.mono ?_
  rintro e w1 ⟨rfl, hw1⟩
  have h1 : Lib.BuilderAt 118 5 B b (.pointer (some ⟨b, 0, none⟩)) [] w1 := by rw [hw1]; exact H.out.used _
  have hb1 : Below B w w1 := by rw [hw1]; exact (Below.refl B w).setCell (p := ⟨b, 0, none⟩) H.out.1 _
  obtain ⟨hB, v, hbk, hown, hne⟩ := h1
  have c0 : w1.cell? ⟨b, 0, none⟩ = some (.pointer (some ⟨b, 0, none⟩)) := by rw [Lib.cell_of_heap hbk]; rfl
  have c1 : w1.cell? ⟨b, 1, none⟩ = some v := by rw [Lib.cell_of_heap hbk]; rfl
  clear hw1
  go_wp2_with (at_builtin; refine wpList_append_own _ rfl _ _ 53 rfl B 5 i0 (.int .u8 0) 1 1 Try.underlying53 hi hz0 hz1 hz2 rfl (by decide) _ _ _ rfl (hown.alloc _) ⟨w1.heap.size, 0, none⟩ 1 1 [.int .u8 c] rfl rfl ?c1 ?c2 ?c3 ?c4 ?c5 ?_)
  case c1 =>
    intro j u hj
    match j, hj with
    | 0, hj => simp at hj; subst hj; simp [Addr.add]
  case c2 => intro u hu; simp at hu; subst hu; rfl
  case c3 => simp [maxLen]
  case c4 => simp
  case c5 => have := hb1.size; simp; omega
  intro v' w2 hown' hgrow _
  have hlt : b < w1.heap.size := lt_of_block hbk
  have hb2 : w2.heap[b]? = some (.cells #[.pointer (some ⟨b, 0, none⟩), v] 118 (0, 0)) := by
    rw [hgrow.block b (by simp; omega) (fun e => hne e.symm), Lib.alloc_old w1 _ b hlt]
    exact hbk
  have d0 : w2.cell? ⟨b, 0, none⟩ = some (.pointer (some ⟨b, 0, none⟩)) := by rw [Lib.cell_of_heap hb2]; rfl
  have d1 : w2.cell? ⟨b, 1, none⟩ = some v := by rw [Lib.cell_of_heap hb2]; rfl
  have f1 : w2.frozen? ⟨b, 1, none⟩ = false := Lib.frozen_of_heap hb2 1
  obtain ⟨g, cap, rfl⟩ : ∃ g cap, v' = .slice (some ⟨g, 0, none⟩) 1 cap := by
    rcases hown'.2 with ⟨_, h0⟩ | ⟨g, cap, cur, hv, _⟩
    · simp at h0
    · exact ⟨g, cap, hv⟩
  go_wp2
  go_ret
  refine ⟨rfl, ?_, ?_⟩
  · exact Lib.BuilderAt.put (T := 118) (e := 5) hB hb2 (bs' := [.int .u8 c]) (by simpa using hown') (by decide)
  · exact ((hb1.alloc (by have := hb1.size; omega) _).grown hgrow (by have := hb1.size; simp; omega) (fun k hk => (hown.lt k hk).1)).setCell (p := ⟨b, 1, none⟩) hB _

set_option maxHeartbeats 2000000 in
set_option maxRecDepth 100000 in
theorem wire_Uints1 (x : Nat) (hx : x < 128) (g : Nat) (w : World) (hc : w.cell? ⟨g, 0, none⟩ = some (.int .u64 (x : Int))) :
    Calls Try.prog 61 #[.slice (some ⟨g, 0, none⟩) 1 1] w fun e w' => e = .returned (.string (bs [UInt8.ofNat x])) ∧ Below w.heap.size w w' := by
  have hg := cell_lt hc
  go_enter Try.func61, Try.ntmps61
  go_upto_region 2 with fail
  refine wp_abs (F := fun W => Hid (Below w.heap.size w W) ∧ Hid (Lib.BuilderAt 118 5 w.heap.size w.heap.size (.pointer none) [] W)) ⟨Lib.hid ((Below.refl _ _).alloc (Nat.le_refl _) _), Lib.hid ⟨Nat.le_refl _, .slice none 0 0, (MapKept.heap_alloc _ _).1, World.ownsRow_nil _ _ _ _, fun h => by cases h⟩⟩ ?_
  rintro W0 ⟨HB0, HBu⟩
  have hx7 : ¬ ((x : Int) > 127) := by omega
  have hx8 : decide ((x : Int) > 127) = false := by simp; omega
  have hx9 : ¬ ((127 : Int) < (x : Int)) := by omega
  have hxw : IntKind.u8.wrap (x : Int) = (x : Int) := by rw [IntKind.wrap_u8]; omega
  go_wp2_with fail
  go_loopw [8] (fun i wr => (i = .int .i64 0 ∧ wr = W0) ∨ (i = .int .i64 1 ∧ Hid (Lib.BuilderAt 118 5 w.heap.size w.heap.size (.pointer (some ⟨w.heap.size, 0, none⟩)) [.int .u8 (x : Int)] wr) ∧ Hid (Below w.heap.size w wr))) (fun i _ => 1 - (intOf i).toNat)
  case atStart => exact Or.inl ⟨rfl, rfl⟩
  case round =>
    rcases hrel with ⟨rfl, rfl⟩ | ⟨rfl, hb, hbw⟩
    · have hcr : wr.cell? ⟨g, 0, none⟩ = some (.int .u64 (x : Int)) := (HB0.out.cell (p := ⟨g, 0, none⟩) hg).trans hc
      have HW := Lib.hid (writeByte w.heap.size w.heap.size (x : Int) wr HBu.out HB0.out.size)
      go_wp2_with fail
      go_loopw [5] (fun v wq => v = .int .u64 (x : Int) ∧ wq = wr) (fun _ _ => 0)
      case atStart => exact ⟨rfl, rfl⟩
      case round =>
        obtain ⟨rfl, rfl⟩ := hrel
        go_wp2_with fail
        refine HW.out.mono ?_
        rintro e w1 ⟨rfl, hb1, hbw1⟩
        have HBU1 := Lib.hid hb1; have HBW1 := Lib.hid hbw1
        clear hb1 hbw1
        go_wp2_with fail
        go_roundw
        case rel => exact Or.inr ⟨rfl, HBU1, Lib.hid (HB0.out.trans HBW1.out)⟩
        case measure => simp [intOf]
    · have HS := Lib.hid (Try.Builder_String w.heap.size w.heap.size [UInt8.ofNat x] wr (Or.inr (by
        have : Lib.byteCells [UInt8.ofNat x] = [.int .u8 (x : Int)] := by simp [Lib.byteCells]; omega
        rw [this]; exact hb.out)) (by simp))
      go_wp2_with fail
      refine HS.out.mono ?_
      rintro e w1 ⟨rfl, hb1⟩
      have HB1 := Lib.hid hb1
      clear hb1
      go_wp2_with fail
      go_ret
      exact ⟨rfl, hbw.out.trans HB1.out⟩
end Go.Proofs.Ytniflkggcceagaa
