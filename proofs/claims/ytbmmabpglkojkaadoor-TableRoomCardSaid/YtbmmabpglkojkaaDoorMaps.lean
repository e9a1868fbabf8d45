/- Maps with text keys whose elements are held as they are: what such a map holds, key by key. -/
import Derived.Test.YtbmmabpglkojkaaDoorVers
import Derived.Maps.OwnSet
import Derived.Maps.Ext
import Derived.Maps.RangeWalk
import Derived.Lib.SlMapEqual
import Derived.Lib.SlMapMerge
import Derived.StringKeys
namespace Go.Proofs.YtbmmabpglkojkaaDoor
open Go Go.RowKit
open Go.Maps (has size Canon CanonK Tidy IsMap KeysOf Keyed)

def heldR : Value → Option (DataW Value × List MemPlace) := fun v => some (.held v, [])
def kS (p : ByteArray) : Lit := .string p.data.toList
theorem kS_key (p : ByteArray) : WideAt.IsKeyLit (kS p) := trivial
theorem kS_inj {p q : ByteArray} (h : kS p = kS q) : p = q := by unfold kS at h; injection h with h; exact ba_ext h
theorem kS_ne {p q : ByteArray} (h : p ≠ q) : kS p ≠ kS q := fun e => h (kS_inj e)
theorem keyS {P : Program} {k : TypeId} (hk : P.underlying k = some .string) {s : ByteArray} (hs : s.size ≤ maxLen) : keyOf P k (.string s) = some (kS s) := Go.WideMaps.keyOf_string_mk hk hs
theorem keyS_inv {P : Program} {k : TypeId} (hk : P.underlying k = some .string) {v : Value} {l : Lit} (h : keyOf P k v = some l) : ∃ s : ByteArray, v = .string s ∧ l = kS s ∧ s.size ≤ maxLen := by
  cases v <;> simp [keyOf, hk, mapKey] at h
  obtain ⟨h1, rfl⟩ := h
  exact ⟨_, rfl, rfl, h1⟩

/-- D and M hold alike: the same keys, and at each what G tells. -/
structure Alike {C : Type} (P : Program) (ks : TypeId) (G : Value → C → Prop) (D : DataW Value) (M : DataW C) : Prop where
  canon : CanonK (KeysOf P ks) M
  keys : ∀ k, has D k = has M k
  sizes : size D = size M
  vals : ∀ k, has M k = true → ∃ v c, D.atKey k .nil = .held v ∧ M.atKey k .nil = .held c ∧ G v c

/-- Block b of w is a map that holds, at each text, what M holds, as G tells it of a value. -/
def HoldsMap {C : Type} (P : Program) (ks : TypeId) (G : Value → C → Prop) (w : World) (b : Nat) (M : DataW C) : Prop :=
  ∃ D : DataW Value, w.ownsMap P ks heldR b (size M) D ∧ Alike P ks G D M

section
variable {C : Type} {P : Program} {ks : TypeId} {G : Value → C → Prop} {D : DataW Value} {M : DataW C} {w : World} {b : Nat}

theorem canonK_tidy {Kd : Lit → Prop} (h : CanonK Kd M) : Tidy M := by
  obtain ⟨es, e, hp, _⟩ := h
  exact ⟨es, e, Maps.apart_of_rising hp⟩
theorem canonK_isMap {Kd : Lit → Prop} (h : CanonK Kd M) : IsMap M := (canonK_tidy h).isMap
theorem canonK_del {Kd : Lit → Prop} (h : CanonK Kd M) (k : Lit) : CanonK Kd (M.del k) := by
  obtain ⟨es, rfl, hp, hk⟩ := h
  exact ⟨_, rfl, hp.filter _, fun p hp => hk p (List.mem_filter.1 hp).1⟩
theorem canonK_nil (Kd : Lit → Prop) : CanonK Kd (.map [] : DataW C) := ⟨[], rfl, List.Pairwise.nil, fun p hp => by cases hp⟩

theorem Alike.put (h : Alike P ks G D M) (K : Keyed P ks) (tD : Tidy D) {k : Lit} (hk : KeysOf P ks k) {v : Value} {c : C} (hg : G v c) : Alike P ks G (D.put k (.held v)) (M.put k (.held c)) := by
  have hl := K.one.key hk
  have tM := canonK_tidy h.canon
  refine ⟨Maps.canonK_put K.one hk _ h.canon, fun k' => ?_, ?_, fun k' hk' => ?_⟩
  · by_cases e : k' = k
    · subst e; rw [Maps.has_put_same tD.isMap hl, Maps.has_put_same tM.isMap hl]
    · rw [Maps.has_put_other e, Maps.has_put_other e]; exact h.keys k'
  · rw [Maps.size_put tD, Maps.size_put tM, h.keys k, h.sizes]
  · by_cases e : k' = k
    · subst e; exact ⟨v, c, Maps.atKey_put_same tD.isMap hl _ _, Maps.atKey_put_same tM.isMap hl _ _, hg⟩
    · rw [Maps.has_put_other e] at hk'
      rw [Maps.atKey_put_other e, Maps.atKey_put_other e]; exact h.vals k' hk'
theorem Alike.del (h : Alike P ks G D M) (tD : Tidy D) (k : Lit) : Alike P ks G (D.del k) (M.del k) := by
  have tM := canonK_tidy h.canon
  refine ⟨canonK_del h.canon k, fun k' => ?_, ?_, fun k' hk' => ?_⟩
  · by_cases e : k' = k
    · subst e; rw [Maps.has_del_same, Maps.has_del_same]
    · rw [Maps.has_del_other e, Maps.has_del_other e]; exact h.keys k'
  · have h1 := Maps.size_del (k := k) tD
    have h2 := Maps.size_del (k := k) tM
    rw [h.keys k, h.sizes] at h1
    omega
  · by_cases e : k' = k
    · subst e; rw [Maps.has_del_same] at hk'; cases hk'
    · rw [Maps.has_del_other e] at hk'
      rw [Maps.atKey_del_other e, Maps.atKey_del_other e]; exact h.vals k' hk'
theorem Alike.mono (h : Alike P ks G D M) {G' : Value → C → Prop} (hG : ∀ v c, G v c → G' v c) : Alike P ks G' D M :=
  ⟨h.canon, h.keys, h.sizes, fun k hk => by obtain ⟨v, c, a, b, g⟩ := h.vals k hk; exact ⟨v, c, a, b, hG v c g⟩⟩

theorem own_renorm {n : Nat} (h : w.ownsMap P ks heldR b n D) : w.ownsMap P ks heldR b (size D) D := by
  obtain ⟨es, clock, hb, F, hn, rfl⟩ := h
  refine ⟨es, clock, hb, F, ?_, rfl⟩
  simp [Maps.size, length_sorted]
theorem HoldsMap.of {n : Nat} (h : w.ownsMap P ks heldR b n D) (ha : Alike P ks G D M) : HoldsMap P ks G w b M :=
  ⟨D, by rw [← ha.sizes]; exact own_renorm h, ha⟩
theorem HoldsMap.made (w : World) (P : Program) (ks : TypeId) (G : Value → C → Prop) : HoldsMap P ks G (w.alloc (.map #[] 0)) w.heap.size (.map []) :=
  ⟨_, World.ownsMap_made w P ks heldR, canonK_nil _, fun _ => rfl, rfl, fun k hk => by cases hk⟩
theorem HoldsMap.lt (h : HoldsMap P ks G w b M) : b < w.heap.size := by obtain ⟨D, h, _⟩ := h; exact h.lt
theorem HoldsMap.canon (h : HoldsMap P ks G w b M) : CanonK (KeysOf P ks) M := by obtain ⟨D, _, h⟩ := h; exact h.canon
theorem HoldsMap.move (h : HoldsMap P ks G w b M) {w' : World} (hb : w'.heap[b]? = w.heap[b]?) {G' : Value → C → Prop} (hG : ∀ v c, G v c → G' v c) : HoldsMap P ks G' w' b M := by
  obtain ⟨D, ⟨es, clock, hh, F, hn, hD⟩, ha⟩ := h
  exact ⟨D, ⟨es, clock, hb.trans hh, F, hn, hD⟩, ha.mono hG⟩
theorem HoldsMap.len (h : HoldsMap P ks G w b M) {t e : TypeId} (ht : P.underlying t = some (.map ks e)) (ty : TypeId) : (Builtin.len_ #[t] ty #[.map (some b)]).run P w = .ok (.int .i64 (size M)) w := by
  obtain ⟨D, ho, ha⟩ := h
  rw [ho.len ht ty, ha.sizes]
/-- What is found at a text. -/
theorem HoldsMap.look (h : HoldsMap P ks G w b M) (K : Keyed P ks) {t e : TypeId} (ht : P.underlying t = some (.map ks e)) {z : Value} (hz : (zeroValue e).run P w = .ok z w) {p : ByteArray} (hkey : keyOf P ks (.string p) = some (kS p)) :
    (has M (kS p) = true ∧ ∃ v c, M.atKey (kS p) .nil = .held c ∧ G v c ∧ (Instr.lookup t (.map (some b)) (.string p) true).run P w = .ok (.tuple #[v, .bool true]) w ∧ (Instr.lookup t (.map (some b)) (.string p) false).run P w = .ok v w) ∨
    (has M (kS p) = false ∧ (Instr.lookup t (.map (some b)) (.string p) true).run P w = .ok (.tuple #[z, .bool false]) w ∧ (Instr.lookup t (.map (some b)) (.string p) false).run P w = .ok z w) := by
  obtain ⟨D, ho, ha⟩ := h
  obtain ⟨v1, p1, hr1, hv1⟩ := ho.look_ok K ht hz (zd := .held z) (zp := []) rfl hkey
  obtain ⟨v2, p2, hr2, hv2⟩ := ho.lookup K ht hz (zd := .held z) (zp := []) rfl hkey
  have e1 : DataW.held v1 = D.atKey (kS p) (.held z) := by simpa [heldR] using (congrArg (fun o => o.map Prod.fst) hv1)
  have e2 : DataW.held v2 = D.atKey (kS p) (.held z) := by simpa [heldR] using (congrArg (fun o => o.map Prod.fst) hv2)
  rw [ha.keys] at hr1
  cases hh : has M (kS p) with
  | true =>
    left
    obtain ⟨v, c, hv, hc, hg⟩ := ha.vals _ hh
    have hD : has D (kS p) = true := by rw [ha.keys]; exact hh
    rw [Maps.atKey_indep hD (.held z) .nil, hv] at e1 e2
    injection e1 with e1; injection e2 with e2
    subst e1; subst e2
    rw [hh] at hr1
    exact ⟨rfl, _, c, hc, hg, hr1, hr2⟩
  | false =>
    right
    have hD : has D (kS p) = false := by rw [ha.keys]; exact hh
    rw [Maps.atKey_of_not_has hD] at e1 e2
    injection e1 with e1; injection e2 with e2
    subst e1; subst e2
    rw [hh] at hr1
    exact ⟨rfl, hr1, hr2⟩
end
end Go.Proofs.YtbmmabpglkojkaaDoor
