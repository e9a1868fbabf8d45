/- Law 26: RingWhole, at arguments as they come in. -/
import Derived.Test.YthcmcjoenepkbaaL26v
import Derived.Test.YthcmcjoenepkbaaEndB
namespace Go.Proofs.Ythcmcjoenepkbaa
open Go Go.RowKit

theorem law26_whole_in (l : List Nat) (v0 : Value) (p : Int) (al : List Nat) (v2 : Value) (W : World) (h0 : NumV .u8 v0 l W) (hl : ∀ z ∈ l, z < 256) (hp : (Lit.int .u8 p).wf = true) (h2 : NumV .u64 v2 al W) (hal : ∀ z ∈ al, z < 18446744073709551616) :
    Calls Try.prog 4 #[v0, .int .u8 p, v2] W fun e W' => e = .returned (.bool true) ∧ Below W.heap.size W W' := by
  obtain ⟨p', rfl, hp'⟩ := nat_of (M := 256) (wf_u8 hp)
  exact law26_whole l v0 p' al v2 W h0 hl hp' h2 hal
end Go.Proofs.Ythcmcjoenepkbaa
