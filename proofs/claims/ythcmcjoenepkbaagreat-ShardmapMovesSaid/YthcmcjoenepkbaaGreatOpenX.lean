/- ShardmapMoves' walk at arguments as they come in. -/
import Derived.Test.YthcmcjoenepkbaaGreatL27m
import Derived.Test.YthcmcjoenepkbaaGreatOpenV
namespace Go.Proofs.YthcmcjoenepkbaaGreat
open Go Go.ChangeShapes Go.WideShapes Go.ChangeAt Go.RowKit

theorem law27_moves_in (p q : Int) (l : List Mv) (v : Value) (al : List Nat) (v3 : Value) (W : World) (hp : (Lit.int .u8 p).wf = true) (hq : (Lit.int .u8 q).wf = true) (hm : IsMvs W v l) (hok : ∀ x ∈ l, x.Ok) (h3 : NumV .u64 v3 al W) (hal : ∀ z ∈ al, z < 18446744073709551616) :
    Calls Tryz.prog 5 #[.int .u8 p, .int .u8 q, v, v3] W fun e W' => e = .returned (.bool true) ∧ Below W.heap.size W W' := by
  obtain ⟨p, rfl, hp'⟩ := nat_of (M := 256) (wf_u8 hp)
  obtain ⟨q, rfl, hq'⟩ := nat_of (M := 256) (wf_u8 hq)
  obtain ⟨a, cp, rfl, hmm⟩ := hm
  obtain ⟨av, cv, rfl⟩ := h3.shape
  exact law27_moves p q a av l.length cp al.length cv l al hp' hq' rfl rfl W hmm hok h3 hal
end Go.Proofs.YthcmcjoenepkbaaGreat
