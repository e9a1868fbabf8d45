/- PlanMoves' walk, for the arguments as they come in. -/
import Derived.Test.YthcmcjoenepkbaaGreatDoorL28m
import Derived.Test.YthcmcjoenepkbaaGreatDoorOpenP
namespace Go.Proofs.YthcmcjoenepkbaaGreatDoor
open Go Go.RowKit

theorem law28_moves_in (p q : Int) (f t : Nat) (tw : Int) (l : List ByteArray) (v : Value) (W : World) (hp : (Lit.int .u8 p).wf = true) (hq : (Lit.int .u8 q).wf = true) (_hf : f < 18446744073709551616) (ht : t < 18446744073709551616) (htw : (Lit.int .u32 tw).wf = true)
    (_hz1 : l.length * 16 ≤ 140737488351232) (hz2 : ∀ i, i < l.length → (l.getD i ByteArray.empty).size ≤ 140737488351232) (hl : IsStrs W v l) (hm : MX W) :
    Calls Tryz.prog 6 #[.int .u8 p, .int .u8 q, .agg #[.int .u64 (f : Int), .int .u64 (t : Int)], .int .u32 tw, v] W fun e W' => e = .returned (.bool true) ∧ Below W.heap.size W W' := by
  obtain ⟨p, rfl, hp'⟩ := nat_of (M := 256) (wf_u8 hp)
  obtain ⟨q, rfl, hq'⟩ := nat_of (M := 256) (wf_u8 hq)
  obtain ⟨tw, rfl, _⟩ := nat_of (M := 4294967296) (wf_u32 htw)
  have h := isNas_of hl
  obtain ⟨a, cp, rfl, _⟩ := hl
  exact law28_moves p q f t tw a l.length cp l hp' hq' ht rfl W h hz2 hm
end Go.Proofs.YthcmcjoenepkbaaGreatDoor
