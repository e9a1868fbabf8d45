/- Law 26: RingMore, at arguments as they come in. -/
import Derived.Test.YthcmcjoenepkbaaL26m
import Derived.Test.YthcmcjoenepkbaaEndB
namespace Go.Proofs.Ythcmcjoenepkbaa
open Go Go.RowKit

theorem law26_more_in (l : List Nat) (v0 : Value) (o p : Int) (al : List Nat) (v3 : Value) (W : World) (h0 : NumV .u8 v0 l W) (hl : ∀ z ∈ l, z < 256) (ho : (Lit.int .u8 o).wf = true) (hp : (Lit.int .u8 p).wf = true) (h3 : NumV .u64 v3 al W) (hal : ∀ z ∈ al, z < 18446744073709551616) :
    Calls Try.prog 3 #[v0, .int .u8 o, .int .u8 p, v3] W fun e W' => e = .returned (.bool true) ∧ Below W.heap.size W W' := by
  obtain ⟨o', rfl, ho'⟩ := nat_of (M := 256) (wf_u8 ho)
  obtain ⟨p', rfl, hp'⟩ := nat_of (M := 256) (wf_u8 hp)
  exact law26_more l v0 o' p' al v3 W h0 hl ho' hp' h3 hal
end Go.Proofs.Ythcmcjoenepkbaa
