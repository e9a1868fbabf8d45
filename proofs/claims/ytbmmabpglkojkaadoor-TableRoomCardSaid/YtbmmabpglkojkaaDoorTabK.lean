/- append onto a list of numbers: that its block bears numbers alone. -/
import Derived.Test.YtbmmabpglkojkaaDoorTabJ
import Derived.Deep.AppendLies
namespace Go.Proofs.YtbmmabpglkojkaaDoor
open Go Go.RowKit

/-- The block o, if there is one, bears numbers alone. -/
def AllU (w : World) (o : Option Nat) : Prop := ∀ g, o = some g → ∀ j u, w.cell? ⟨g, j, none⟩ = some u → ∃ n : Int, u = .int .u64 n
theorem AllU.noVers {w : World} {o : Option Nat} (h : AllU w o) : ∀ k, some k = o → NoVers w k := by
  intro k hk o' n s _ h2
  obtain ⟨m, hm⟩ := h k hk.symm _ _ h2
  cases hm
theorem zeroCells_mem {c : Value} : ∀ {n : Nat} {u : Value}, u ∈ Builtin.zeroCells #[c] n → u = c := by
  intro n u hu
  unfold Builtin.zeroCells at hu
  simp at hu
  obtain ⟨k, _, h⟩ := hu
  rw [Nat.mod_one] at h
  simpa using h.symm
theorem NoVers_of_bare {w : World} {k : Nat} (h : Bare w k) : NoVers w k := h.noVers
/-- Block k bears no text. -/
def NoStr (w : World) (k : Nat) : Prop := ∀ o s, w.cell? ⟨k, o, none⟩ ≠ some (.string s)
theorem Bare.noStr {w : World} {k : Nat} (h : Bare w k) : NoStr w k := fun o s e => (h o _ e).2 s rfl
theorem AllU.noStr {w : World} {o : Option Nat} (h : AllU w o) : ∀ k, some k = o → NoStr w k := by
  intro k hk o' s e
  obtain ⟨m, hm⟩ := h k hk.symm _ _ e
  cases hm
theorem IsRows.but2 {S : Nat → Prop} {w w' : World} {v : Value} {l : List (ByteArray × Cel)} (h : IsRows w v l) (hb : ButS S w w') (hS : ∀ k, S k → NoStr w k ∧ NoVers w k) : IsRows w' v l := by
  obtain ⟨a, cap, hv, h⟩ := h
  refine ⟨a, cap, hv, ?_⟩
  rcases h with h | ⟨b2, off, ha, hlt, hc⟩
  · exact Or.inl h
  · by_cases hl : l = []
    · exact Or.inl hl
    have hn : ¬ S b2 := by
      intro hs
      obtain ⟨h1, _⟩ := hc 0 (List.length_pos_iff.2 hl)
      exact (hS b2 hs).1 _ _ h1
    refine Or.inr ⟨b2, off, ha, by have := hb.size; omega, fun i hi => ?_⟩
    obtain ⟨h1, h2, s, h3, hs⟩ := hc i hi
    exact ⟨(hb.cell hlt hn).trans h1, (hb.cell hlt hn).trans h2, s, (hb.cell hlt hn).trans h3, hs.but hb (fun k hk => (hS k hk).2)⟩
theorem IsNums.but2 {S : Nat → Prop} {w w' : World} {v : Value} {l : List Nat} (h : IsNums w v l) (hb : ButS S w w') (hS : ∀ k, S k → v.ownBlock ≠ some k) : IsNums w' v l := by
  obtain ⟨a, cap, hv, h⟩ := h
  refine ⟨a, cap, hv, ?_⟩
  rcases h with h | ⟨b2, off, ha, hlt, hc⟩
  · exact Or.inl h
  · have hn : ¬ S b2 := fun hs => hS b2 hs (by rw [hv, ha]; rfl)
    exact Or.inr ⟨b2, off, ha, by have := hb.size; omega, fun i hi => (hb.cell hlt hn).trans (hc i hi)⟩
theorem AllU.but {S : Nat → Prop} {w w' : World} {o : Option Nat} (h : AllU w o) (hb : ButS S w w') (hS : ∀ g, o = some g → ¬ S g ∧ g < w.heap.size) : AllU w' o := by
  intro g hg j u hu
  obtain ⟨h1, h2⟩ := hS g hg
  exact h g hg j u ((hb.cell (p := ⟨g, j, none⟩) h2 h1).symm.trans hu)
theorem butRow {w w' : World} {o : Option Nat} (hg : w.grownBy w' o) : ButS (fun k => some k = o) w w' := ⟨hg.os, hg.tape, hg.output, hg.size, fun k hk hn => hg.block k hk hn⟩
section
variable {P : Program} {w : World}
theorem append_allU {t ty e : TypeId} {i : TypeInfo} (ht : P.underlying t = some (.slice e)) (hi : P.info? e = some i) (hz : i.zero = some (.int .u64 0)) (hsize : i.size = 1) (hby : i.bytes = 8)
    {base n : Nat} {v : Value} {xs : List Value} (hown : w.ownsRow base e 1 v n xs) (hall : AllU w v.ownBlock) {a : Addr} {c : Nat} {x : Int} (hnews : w.cell? (a.add 0) = some (.int .u64 x)) (hn : n ≤ 1099511627776)
    {v' : Value} {w' : World} (hrun : (Builtin.append_ #[t, t] ty #[v, .slice (some a) 1 c]).run P w = .ok v' w') : AllU w' v'.ownBlock := by
  have hnw : ∀ j u, [Value.int .u64 x][j]? = some u → w.cell? (a.add j) = some u := by
    intro j u hu
    cases j with
    | zero => simp at hu; subst hu; exact hnews
    | succ j => simp at hu
  have hmem : ∀ {L : List Value} {k : Nat} {t' : TypeId} {W : World} {g : Nat}, (∀ u ∈ L, ∃ n : Int, u = .int .u64 n) → W.heap[g]? = some (.cells (L.toArray ++ Builtin.zeroCells #[.int .u64 0] k) t' (0, 0)) → AllU W (some g) := by
    intro L k t' W g hL hh g' hg' j u hu
    cases hg'
    unfold World.cell? at hu
    rw [hh] at hu
    have hm : u ∈ L.toArray ++ Builtin.zeroCells #[.int .u64 0] k := Array.mem_of_getElem? hu
    rcases Array.mem_append.1 hm with hm | hm
    · exact hL u (by simpa using hm)
    · exact ⟨0, zeroCells_mem hm⟩
  rcases hown.2 with ⟨rfl, rfl⟩ | ⟨g, cap, cur, rfl, hbg, hg, hnc, hcm, hcs, htake⟩
  · have hr := run_append_nil (P := P) w t ty e i _ ht hi hz a 1 c [.int .u64 x] (by simp [hsize]) hnw (by decide) (by decide) (by rw [hby]; decide)
    rw [hrun] at hr
    injection hr with h1 h2
    subst h1; subst h2
    exact hmem (L := [.int .u64 x]) (by simp) (by rw [← show w.drew.heap.size = w.heap.size from rfl]; exact (MapKept.heap_alloc w.drew _).1)
  · have hcur : ∀ u ∈ cur.toList, ∃ n : Int, u = .int .u64 n := by
      intro u hu
      obtain ⟨j, hj⟩ := List.getElem?_of_mem hu
      refine hall g rfl j u ?_
      unfold World.cell?
      rw [hg]
      simpa using hj
    by_cases hroom : n + 1 ≤ cap
    · have hr := run_append_room (P := P) w t ty e i ht hi g n cap cur hg a 1 c [.int .u64 x] (by simp [hsize]) hnw (by intro u hu; rcases List.mem_singleton.1 hu with rfl; rfl) hroom (by rw [hsize, hcs]; simp; omega)
      rw [hrun] at hr
      injection hr with h1 h2
      subst h1; subst h2
      intro g' hg' j u hu
      cases hg'
      unfold World.cell? at hu
      rw [setRow_heap w g cur _ e _ hg] at hu
      have hm := Array.mem_of_getElem? hu
      simp only [List.mem_toArray, List.mem_append] at hm
      rcases hm with (hm | hm) | hm
      · exact hcur u (List.mem_of_mem_take hm)
      · rcases List.mem_singleton.1 hm with rfl; exact ⟨x, rfl⟩
      · exact hcur u (List.mem_of_mem_drop hm)
    · have holds : ∀ j u, xs[j]? = some u → w.cell? ((⟨g, 0, none⟩ : Addr).add j) = some u := hown.cells (g := g) rfl
      have hr := run_append_grow (P := P) w t ty e i _ ht hi hz ⟨g, 0, none⟩ n cap xs (by rw [hsize]; exact hown.1) holds a 1 c [.int .u64 x] (by simp [hsize]) hnw (by omega) (by omega) (growslice_fits (by omega) (by rw [hby]; omega))
      rw [hrun] at hr
      injection hr with h1 h2
      subst h1; subst h2
      refine hmem (L := xs ++ [.int .u64 x]) ?_ (k := (grownCap w (n + 1) cap e - (n + 1))) (t' := e) ?_
      · intro u hu
        rcases List.mem_append.1 hu with hu | hu
        · exact hcur u (by rw [← htake] at hu; exact List.mem_of_mem_take hu)
        · rcases List.mem_singleton.1 hu with rfl; exact ⟨x, rfl⟩
      · have := (MapKept.heap_alloc w.drew (.cells (xs.toArray ++ [Value.int .u64 x].toArray ++ Builtin.zeroCells (Value.int .u64 0).cells (grownCap w (n + 1) cap e - (n + 1))) e)).1
        simpa [Value.cells] using this
end
theorem wpList_append_u {P : Program} (w : World) {ops : Array Oper} {rest : List Oper} {o : Oper} {a : Act} {Q : Exit → Act → World → Prop} (hgd : o.guard = none) (s x : Operand) (t : TypeId)
    (ho : o.op = .call { callee := .builtin .append, args := #[s, x], argTypes := #[t, t] })
    (base : Nat) (e : TypeId) (i : TypeInfo) (ht : P.underlying t = some (.slice e)) (hi : P.info? e = some i) (hz : i.zero = some (.int .u64 0))
    (hsize : i.size = 1) (hby : i.bytes = 8)
    (v : Value) (n : Nat) (xs : List Value) (hs : a.eval s = v) (hown : w.ownsRow base e 1 v n xs) (hall : AllU w v.ownBlock)
    (ad : Addr) (c : Nat) (z : Int) (hx : a.eval x = .slice (some ad) 1 c) (hnews : w.cell? (ad.add 0) = some (.int .u64 z))
    (hn : n ≤ 1099511627776) (hbase : base ≤ w.heap.size)
    (h : ∀ g cap w', w'.ownsRow base e 1 (.slice (some ⟨g, 0, none⟩) (n + 1) cap) (n + 1) (xs ++ [.int .u64 z]) → w.grownBy w' v.ownBlock → (v.ownBlock = some g ∨ g = w.heap.size) → g < w'.heap.size → AllU w' (some g) → wpList P ops Q rest (a.put o.dst (.slice (some ⟨g, 0, none⟩) (n + 1) cap)) w') : wpList P ops Q (o :: rest) a w := by
  refine wpList_plain hgd fun K hK => ?_
  have hnw : ∀ j u, [Value.int .u64 z][j]? = some u → w.cell? (ad.add j) = some u := by
    intro j u hu
    cases j with
    | zero => simp at hu; subst hu; exact hnews
    | succ j => simp at hu
  obtain ⟨g, cap, w', hr, h2, h3, h4, h5⟩ := run_append_lies (P := P) w t o.type base e i (.int .u64 0) 1 8 ht hi hz hsize hby rfl (by decide) v n xs hown ad 1 c [.int .u64 z] rfl hnw (by intro u hu; rcases List.mem_singleton.1 hu with rfl; rfl) (by decide) (by unfold maxLen; omega) (by omega) hbase w.heap.size rfl
  have hU := append_allU ht hi hz hsize hby hown hall hnews hn hr
  unfold Oper.wp execOp
  simp only [ho, resolve, invoke, builtin, Sem.run_bind, Sem.run_pure, Result.andThen_ok, List.map_toArray, List.map_cons, List.map_nil, hs, hx, hr]
  exact hK _ _ (h g cap w' h2 h3 h4 h5 hU)
end Go.Proofs.YtbmmabpglkojkaaDoor
