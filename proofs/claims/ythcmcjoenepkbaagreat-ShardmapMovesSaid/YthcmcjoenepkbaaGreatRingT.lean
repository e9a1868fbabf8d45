/- The ring, told by its shards: what New, Owner, Len, Spans, Shards answer. -/
import Derived.Test.YthcmcjoenepkbaaGreatRingS
namespace Go.Proofs.YthcmcjoenepkbaaGreat
open Go Go.RowKit Go.Maps

theorem point_lt (s i : Nat) : Sh.point s i < M64 := hash_lt _
theorem mem_puts {l : List Nat} {k : Nat} {x : Nat × Nat} : x ∈ puts l k ↔ ∃ s ∈ l, ∃ i, i < k ∧ x = (Sh.point s i, s) := by
  simp only [puts, puts1, List.mem_flatMap, List.mem_map, List.mem_range]
  constructor
  · rintro ⟨s, hs, i, hi, rfl⟩; exact ⟨s, hs, i, hi, rfl⟩
  · rintro ⟨s, hs, i, hi, rfl⟩; exact ⟨s, hs, i, hi, rfl⟩
theorem puts_inb {l : List Nat} {k : Nat} (h : ∀ s ∈ l, s < M32) : InB (puts l k) := by
  rintro x hx
  obtain ⟨s, hs, i, _, rfl⟩ := mem_puts.1 hx
  exact ⟨point_lt s i, h s hs⟩
theorem puts_ne {l : List Nat} {k : Nat} (h : 1 ≤ l.length) (hk : 1 ≤ k) : puts l k ≠ [] := by
  intro e
  have := puts_length l k
  rw [e] at this
  have h2 : 1 * 1 ≤ l.length * k := Nat.mul_le_mul h hk
  simp at this
  omega
theorem puts_mem {l m : List Nat} {k : Nat} (h : ∀ x, x ∈ l ↔ x ∈ m) (x : Nat × Nat) : x ∈ puts l k ↔ x ∈ puts m k := by
  rw [mem_puts, mem_puts]
  constructor
  · rintro ⟨s, hs, r⟩; exact ⟨s, (h s).1 hs, r⟩
  · rintro ⟨s, hs, r⟩; exact ⟨s, (h s).2 hs, r⟩
theorem puts_desc {k : Nat} : ∀ {l : List Nat}, l.Pairwise (fun a b => b ≤ a) → (puts l k).Pairwise (fun x y => y.2 ≤ x.2)
  | [], _ => by simp [puts]
  | a :: l, h => by
    rw [List.pairwise_cons] at h
    have he : puts (a :: l) k = puts1 a k ++ puts l k := rfl
    rw [he, List.pairwise_append]
    refine ⟨?_, puts_desc h.2, fun x hx y hy => ?_⟩
    · rw [puts1, List.pairwise_map]
      exact List.pairwise_iff_getElem.2 (fun _ _ _ _ _ => Nat.le_refl _)
    · obtain ⟨i, _, rfl⟩ := List.mem_map.1 hx
      obtain ⟨s, hs, j, _, rfl⟩ := mem_puts.1 hy
      exact h.1 s hs

/-- A ring of shards S with k points each, at r. -/
structure IsRing (w : World) (r : Nat) (S : List Nat) (k : Nat) : Prop where
  ex : ∃ (srt : List Nat) (pts : List Int), srt.Perm S ∧ srt.Pairwise (· < ·) ∧ RingAt w r pts (puts srt.reverse k) (srt.map Int.ofNat)
  b32 : ∀ s ∈ S, 0 < s ∧ s < 4294967296
  nd : S.Nodup
  l1 : 1 ≤ S.length
  l16 : S.length ≤ 16
  k1 : 1 ≤ k
  k64 : k ≤ 64
/-- Whose a place is. -/
noncomputable def ownS (S : List Nat) (k h : Nat) : Nat := ownF (puts S k) h

theorem IsRing.below {w w' : World} {r : Nat} {S : List Nat} {k : Nat} (h : IsRing w r S k) (hb : Below w.heap.size w w') : IsRing w' r S k := by
  obtain ⟨⟨srt, pts, h1, h2, h3⟩, h4, h5, h6, h7, h8, h9⟩ := h
  exact ⟨⟨srt, pts, h1, h2, h3.below hb⟩, h4, h5, h6, h7, h8, h9⟩
theorem perm_mem_rev {srt S : List Nat} (h : srt.Perm S) (x : Nat) : x ∈ srt.reverse ↔ x ∈ S := by rw [List.mem_reverse]; exact h.mem_iff
theorem rev_facts {srt S : List Nat} {k : Nat} (hp : srt.Perm S) (hs : srt.Pairwise (· < ·)) (hb : ∀ s ∈ S, 0 < s ∧ s < 4294967296) (hl : 1 ≤ S.length) (hl2 : S.length ≤ 16) (hk : 1 ≤ k) (hk2 : k ≤ 64) :
    InB (puts srt.reverse k) ∧ Least (puts srt.reverse k) ∧ (puts srt.reverse k).length = S.length * k ∧ (∀ h, ownF (puts srt.reverse k) h = ownS S k h) ∧ S.length * k ≤ 1024 := by
  have hB : InB (puts srt.reverse k) := puts_inb (fun s h => (hb s ((perm_mem_rev hp s).1 h)).2)
  refine ⟨hB, least_of _ (puts_desc ?_), ?_, fun h => ?_, Nat.mul_le_mul hl2 hk2⟩
  · rw [List.pairwise_reverse]
    exact hs.imp (fun h => Nat.le_of_lt h)
  · rw [puts_length, List.length_reverse, hp.length_eq]
  · exact ownF_perm (fun x => puts_mem (fun y => (perm_mem_rev hp y).symm) x) (puts_ne hl hk) hB h

theorem ringNew (S : List Nat) (k : Nat) (b off cap : Nat) (w : World) (hb : b < w.heap.size) (hc : ∀ i, i < S.length → w.cell? ⟨b, off + i, none⟩ = some (.int .u32 ((S.getD i 0 : Nat) : Int)))
    (hk : 1 ≤ k) (hk2 : k ≤ 64) (hl : 1 ≤ S.length) (hl2 : S.length ≤ 16) (hnd : S.Nodup) (h0 : ∀ s ∈ S, 0 < s ∧ s < 4294967296) :
    Calls Tryz.prog 23 #[.int .i64 (k : Int), .slice (some ⟨b, off, none⟩) S.length cap] w fun e w' => ∃ r, e = .returned (.tuple #[.pointer (some ⟨r, 0, none⟩), .int .i64 0]) ∧ IsRing w' r S k ∧ Below w.heap.size w w' := by
  refine (ring_New S k b off cap w hb hc hk hk2 hl hl2 hnd h0).mono ?_
  rintro e w' ⟨r, srt, pts, rfl, hp, hs, hr, hbl⟩
  exact ⟨r, rfl, ⟨⟨srt, pts, hp, hs, hr⟩, h0, hnd, hl, hl2, hk, hk2⟩, hbl⟩

theorem ringOwner (r : Nat) (S : List Nat) (k h : Nat) (hh : h < M64) (w : World) (hR : IsRing w r S k) :
    Calls Tryz.prog 62 #[.pointer (some ⟨r, 0, none⟩), .int .u64 (h : Int)] w fun e w' => e = .returned (.int .u32 (ownS S k h : Nat)) ∧ Below w.heap.size w w' := by
  obtain ⟨⟨srt, pts, h1, h2, h3⟩, h4, h5, h6, h7, h8, h9⟩ := hR
  obtain ⟨f1, f2, f3, f4, f5⟩ := rev_facts h1 h2 h4 h6 h7 h8 h9
  rw [← f4]
  exact ring_Owner r pts _ _ h hh w h3 f1 f2 (by omega)

theorem points_apart {S : List Nat} {k n s : Nat} {p : Nat} {pts : List Int} {srt : List Nat} (hp : srt.Perm S) (hnd : pts.Nodup) (hmem : ∀ x, x ∈ pts ↔ ∃ p : Nat, x = (p : Int) ∧ (lastOf (puts srt.reverse k) p).isSome = true) (hl : pts.length = S.length * k) (h1 : (p, n) ∈ puts S k) (h2 : (p, s) ∈ puts S k) : s = n := by
  by_cases e : s = n
  · exact e
  · have := pts_apart hnd hmem ((puts_mem (perm_mem_rev hp) _).2 h1) ((puts_mem (perm_mem_rev hp) _).2 h2) e
    rw [puts_length, List.length_reverse, hp.length_eq] at this
    omega

theorem ringLen (r : Nat) (S : List Nat) (k : Nat) (w : World) (hR : IsRing w r S k) :
    Calls Tryz.prog 60 #[.pointer (some ⟨r, 0, none⟩)] w fun e w' => ∃ n : Nat, e = .returned (.int .i64 (n : Int)) ∧ 1 ≤ n ∧ n ≤ S.length * k ∧ (n = S.length * k → ∀ p s t, (p, s) ∈ puts S k → (p, t) ∈ puts S k → s = t) ∧ (∀ l : List Nat, l.Nodup → (∀ p ∈ l, ∃ s, (p, s) ∈ puts S k) → l.length ≤ n) ∧ Below w.heap.size w w' := by
  obtain ⟨⟨srt, pts, h1, h2, h3⟩, h4, h5, h6, h7, h8, h9⟩ := hR
  obtain ⟨f1, f2, f3, f4, f5⟩ := rev_facts h1 h2 h4 h6 h7 h8 h9
  refine (ring_Len r pts _ _ w h3).mono ?_
  rintro e w' ⟨rfl, hb⟩
  refine ⟨pts.length, rfl, List.length_pos_iff.2 h3.pos, by have := pts_length h3.nodup h3.mem; omega, fun e p s t a b => points_apart h1 h3.nodup h3.mem e b a, fun l hl hm => ?_, hb⟩
  have := length_le_of_sub (l.map Int.ofNat) pts (List.pairwise_map.2 (hl.imp (fun h e => h (Int.ofNat.inj e)))) (fun x hx => by
    obtain ⟨p, hp, rfl⟩ := List.mem_map.1 hx
    obtain ⟨s, hs⟩ := hm p hp
    obtain ⟨t, ht⟩ := lastOf_ex ((puts_mem (perm_mem_rev h1) _).2 hs)
    exact (h3.mem _).2 ⟨p, rfl, by rw [ht]; rfl⟩)
  simpa using this

def SpansGivesS (S : List Nat) (k : Nat) (w : World) (e : Ending) (w' : World) : Prop := ∃ g cp sp, e = .returned (.slice (some ⟨g, 0, none⟩) sp.length cp) ∧ w'.ownsRow w.heap.size 42 2 (.slice (some ⟨g, 0, none⟩) sp.length cp) sp.length (spV sp) ∧ SpI (ownS S k) sp M64 ∧ sp.length ≤ S.length * k + 1 ∧ Below w.heap.size w w'
theorem ringSpans (r : Nat) (S : List Nat) (k : Nat) (w : World) (hR : IsRing w r S k) :
    Calls Tryz.prog 40 #[.pointer (some ⟨r, 0, none⟩)] w (SpansGivesS S k w) := by
  obtain ⟨⟨srt, pts, h1, h2, h3⟩, h4, h5, h6, h7, h8, h9⟩ := hR
  obtain ⟨f1, f2, f3, f4, f5⟩ := rev_facts h1 h2 h4 h6 h7 h8 h9
  refine (ring_Spans r pts _ _ w h3 f1 f2 (by omega)).mono ?_
  rintro e w' ⟨g, cp, sp, rfl, hrow, hsp, hl, hb⟩
  have he : ownF (puts srt.reverse k) = ownS S k := funext f4
  rw [he] at hsp
  exact ⟨g, cp, sp, rfl, hrow, hsp, by omega, hb⟩

/-- Of one shard alone there is one span. -/
theorem ownS_one {s k h : Nat} (hk : 1 ≤ k) (_hb : s < 4294967296) : ownS [s] k h = s := by
  have hne : puts [s] k ≠ [] := puts_ne (by simp) hk
  obtain ⟨p, hp⟩ := (ownF_is h hne).mem
  obtain ⟨t, ht, i, _, e⟩ := mem_puts.1 hp
  have h2 : ownF (puts [s] k) h = t := congrArg Prod.snd e
  have h3 : t = s := by simpa using ht
  show ownF (puts [s] k) h = s
  rw [h2, h3]
theorem one_span {s k : Nat} {sp : List (Nat × Nat)} (hk : 1 ≤ k) (hb : s < 4294967296) (h : SpI (ownS [s] k) sp M64) : sp = [(0, s)] := by
  have hall : ∀ i, i < sp.length → (sp.getD i d0).2 = s := fun i hi => by
    have h1 := h.from_ i hi (sp.getD i d0).1 (Nat.le_refl _) (h.lt _ (by rw [List.getD_eq_getElem?_getD, List.getElem?_eq_getElem hi]; exact List.getElem_mem _)) (fun h2 => by
      have := List.pairwise_iff_getElem.1 h.rise i (i + 1) hi h2 (by omega)
      simpa [List.getD_eq_getElem?_getD, List.getElem?_eq_getElem hi, List.getElem?_eq_getElem h2] using this)
    rw [← h1]; exact ownS_one hk hb
  have hl : 0 < sp.length := List.length_pos_iff.2 h.ne
  match sp, h, hall, hl with
  | [x], h, hall, _ =>
    have h0 := h.zero
    have h1 := hall 0 (by simp)
    simp at h0 h1
    rw [show x = (x.1, x.2) from rfl, h0, h1]
  | x :: y :: t, h, hall, _ =>
    exact (h.adj 0 (by simp) ((hall 1 (by simp)).trans (hall 0 (by simp)).symm)).elim
/-- The document's ring of one shard has eight points. -/
theorem eight_of {n : Nat} (h1 : n ≤ [1].length * 8) (h2 : ∀ l : List Nat, l.Nodup → (∀ p ∈ l, ∃ s, (p, s) ∈ puts [1] 8) → l.length ≤ n) : n = 8 := by
  have := h2 _ Sh.eight (fun p hp => by
    obtain ⟨i, hi, rfl⟩ := List.mem_map.1 hp
    exact ⟨1, mem_puts.2 ⟨1, by simp, i, by simpa using hi, rfl⟩⟩)
  simp at this h1
  omega
/-- A shard more: it alone takes places. -/
theorem ownS_more {S : List Nat} {n k h : Nat} (hl : 1 ≤ S.length) (hk : 1 ≤ k) (hb : ∀ s ∈ n :: S, 0 < s ∧ s < 4294967296) : ownS (n :: S) k h = ownS S k h ∨ ownS (n :: S) k h = n := by
  refine ownF_more (ps := puts S k) (qs := puts1 n k) n (fun x => ?_) (fun x hx => ?_) (puts_ne hl hk) (puts_inb (fun s hs => (hb s hs).2)) h
  · show x ∈ puts1 n k ++ puts S k ↔ _
    rw [List.mem_append]; exact Or.comm
  · obtain ⟨i, _, rfl⟩ := List.mem_map.1 hx; rfl
theorem ownS_perm {S T : List Nat} {k h : Nat} (hm : ∀ x, x ∈ S ↔ x ∈ T) (hl : 1 ≤ S.length) (hk : 1 ≤ k) (hb : ∀ s ∈ T, 0 < s ∧ s < 4294967296) : ownS T k h = ownS S k h :=
  ownF_perm (puts_mem hm) (puts_ne hl hk) (puts_inb (fun s hs => (hb s hs).2)) h
/-- A shard's own place, if all points are apart. -/
theorem ownS_own {S : List Nat} {n k i : Nat} (hn : n ∈ S) (hi : i < k) (hb : ∀ s ∈ S, 0 < s ∧ s < 4294967296) (ha : ∀ p s t, (p, s) ∈ puts S k → (p, t) ∈ puts S k → s = t) : ownS S k (Sh.point n i) = n := by
  have hm : (Sh.point n i, n) ∈ puts S k := mem_puts.2 ⟨n, hn, i, hi, rfl⟩
  exact ownF_own (puts_inb (fun s hs => (hb s hs).2)) hm (fun s hs => by rw [ha _ _ _ hm hs]; exact Nat.le_refl _)
end Go.Proofs.YthcmcjoenepkbaaGreat
