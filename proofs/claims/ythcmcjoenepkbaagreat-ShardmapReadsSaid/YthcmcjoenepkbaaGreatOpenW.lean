/- ShardmapReads' walk at arguments as they come in. -/
import Derived.Test.YthcmcjoenepkbaaGreatL27r
import Derived.Test.YthcmcjoenepkbaaGreatOpenV
namespace Go.Proofs.YthcmcjoenepkbaaGreat
open Go Go.ChangeShapes Go.WideShapes Go.ChangeAt Go.RowKit

theorem wf_u16 {n : Int} (h : (Lit.int .u16 n).wf = true) : 0 ≤ n ∧ n < 65536 := by
  simp [Lit.wf, IntKind.min, IntKind.max, IntKind.signed, IntKind.bits] at h; omega
theorem law27_reads_in (s : ByteArray) (p q : Int) (l : List Mv) (v : Value) (own : Bool) (at_ tz : Int) (W : World) (hp : (Lit.int .u8 p).wf = true) (hq : (Lit.int .u8 q).wf = true) (hm : IsMvs W v l) (hok : ∀ x ∈ l, x.Ok) (hat : (Lit.int .u16 at_).wf = true) (htz : (Lit.int .u8 tz).wf = true) :
    Calls Tryz.prog 4 #[.string s, .int .u8 p, .int .u8 q, v, .bool own, .int .u16 at_, .int .u8 tz] W fun e w' => e = .returned (.bool true) ∧ Below W.heap.size W w' := by
  obtain ⟨p, rfl, hp'⟩ := nat_of (M := 256) (wf_u8 hp)
  obtain ⟨q, rfl, hq'⟩ := nat_of (M := 256) (wf_u8 hq)
  obtain ⟨at_, rfl, hat'⟩ := nat_of (M := 65536) (wf_u16 hat)
  obtain ⟨tz, rfl, htz'⟩ := nat_of (M := 256) (wf_u8 htz)
  obtain ⟨a, cp, rfl, hmm⟩ := hm
  exact law27_reads s p q at_ tz own a l.length cp l hp' hq' hat' rfl W hmm hok
end Go.Proofs.YthcmcjoenepkbaaGreat
