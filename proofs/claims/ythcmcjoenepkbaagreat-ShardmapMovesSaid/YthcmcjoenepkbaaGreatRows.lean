/-
  No cell of these rows narrows 'for every input' (looked for: loops, veiled, ifaces, maps, wideKeys, modest, calm, conditions, laid).
  DERIVED. THE GIVEN ROWS OF THIS SEAT. 3 by the template 'for every input the law returns true; each argument reads behind the call as it read before'; 0 by the template 'total and deterministic' (their statements: YthcmcjoenepkbaaGreatTotals.lean).
  GIVEN WITH THE SEED: the statements are not yours to turn. If you find one false, say at which input.
  Laid BY PROGRAM, IN A SANDBOX (cutbox-rows.mjs): the forced cells as the released guide's own fill.sh prints them over the translation 2f5f400afa0b55de… (all of the seat's roots in one cut). By AI agents, Wed Nov 11 2026. No macro, syntax, notation, axiom, sorry.
-/
import Derived.Test.YthcmcjoenepkbaaGreatChecked
import GoSem.Claim
import GoSem.ClaimJoined
import GoSem.ClaimMapViews
import Derived.JoinedTies
import Derived.KernelRfl
namespace Go.Proofs.YthcmcjoenepkbaaGreat
/- THE CELL 'sum', in the pinned program and in every row, IS THE sha256 OF THE DUMP (.gsa) THAT YthcmcjoenepkbaaGreatProg.lean LOADS. Nothing in Lean hashes anything: it is a label: what it is worth is what the hold of that sum in a sandbox is worth. -/
noncomputable def Tryz.pinned : Pinned := { name := "ythcmcjoenepkbaagreat", sum := "2f5f400afa0b55de025a056afddf4a7cead114948cdd2c6ef7ba05cb3b4b3427", checked := Tryz.checked }
namespace Rows
def none {H : Type} : Left H := { results := [], args := [] }

/-- 'scriniumlaw27.ShardmapBack': WHATEVER THE INPUT: true; the input reads as it did. -/
def shardmapBackSpec : ChangeSpec := { name := "shardmapBack", fn := fun _ => fun
  | [d1, d2, d3, d4] => { results := [.lit (.bool true)], args := [d1, d2, d3, d4] }
  | _ => none }
def shardmapBackRow : OpenClaim := { program := "ythcmcjoenepkbaagreat", sum := "2f5f400afa0b55de025a056afddf4a7cead114948cdd2c6ef7ba05cb3b4b3427", func := "scrinium/scriniumlaw27.ShardmapBack", spec := "shardmapBack", unfollowed := true, recurses := true, apart := false }
def ShardmapBackSaid : Prop := shardmapBackRow.holds Tryz.pinned (OpenSpec.ofChange shardmapBackSpec)

/-- ITS FALSE NEIGHBOUR: 'it returns false'. Refute it at one input. -/
def shardmapBackWrong : ChangeSpec := { name := "shardmapBack", fn := fun _ => fun
  | [d1, d2, d3, d4] => { results := [.lit (.bool false)], args := [d1, d2, d3, d4] }
  | _ => none }
def ShardmapBackWrongFalsely : Prop := shardmapBackRow.holds Tryz.pinned (OpenSpec.ofChange shardmapBackWrong)

/-- 'scriniumlaw27.ShardmapReads': WHATEVER THE INPUT: true; the input reads as it did. -/
def shardmapReadsSpec : ChangeSpec := { name := "shardmapReads", fn := fun _ => fun
  | [d1, d2, d3, d4, d5, d6, d7] => { results := [.lit (.bool true)], args := [d1, d2, d3, d4, d5, d6, d7] }
  | _ => none }
def shardmapReadsRow : OpenClaim := { program := "ythcmcjoenepkbaagreat", sum := "2f5f400afa0b55de025a056afddf4a7cead114948cdd2c6ef7ba05cb3b4b3427", func := "scrinium/scriniumlaw27.ShardmapReads", spec := "shardmapReads", unfollowed := true, recurses := true, apart := false }
def ShardmapReadsSaid : Prop := shardmapReadsRow.holds Tryz.pinned (OpenSpec.ofChange shardmapReadsSpec)

/-- ITS FALSE NEIGHBOUR: 'it returns false'. Refute it at one input. -/
def shardmapReadsWrong : ChangeSpec := { name := "shardmapReads", fn := fun _ => fun
  | [d1, d2, d3, d4, d5, d6, d7] => { results := [.lit (.bool false)], args := [d1, d2, d3, d4, d5, d6, d7] }
  | _ => none }
def ShardmapReadsWrongFalsely : Prop := shardmapReadsRow.holds Tryz.pinned (OpenSpec.ofChange shardmapReadsWrong)

/-- 'scriniumlaw27.ShardmapMoves': WHATEVER THE INPUT: true; the input reads as it did. -/
def shardmapMovesSpec : ChangeSpec := { name := "shardmapMoves", fn := fun _ => fun
  | [d1, d2, d3, d4] => { results := [.lit (.bool true)], args := [d1, d2, d3, d4] }
  | _ => none }
def shardmapMovesRow : OpenClaim := { program := "ythcmcjoenepkbaagreat", sum := "2f5f400afa0b55de025a056afddf4a7cead114948cdd2c6ef7ba05cb3b4b3427", func := "scrinium/scriniumlaw27.ShardmapMoves", spec := "shardmapMoves", unfollowed := true, recurses := true, apart := false }
def ShardmapMovesSaid : Prop := shardmapMovesRow.holds Tryz.pinned (OpenSpec.ofChange shardmapMovesSpec)

/-- ITS FALSE NEIGHBOUR: 'it returns false'. Refute it at one input. -/
def shardmapMovesWrong : ChangeSpec := { name := "shardmapMoves", fn := fun _ => fun
  | [d1, d2, d3, d4] => { results := [.lit (.bool false)], args := [d1, d2, d3, d4] }
  | _ => none }
def ShardmapMovesWrongFalsely : Prop := shardmapMovesRow.holds Tryz.pinned (OpenSpec.ofChange shardmapMovesWrong)

/- THE SECOND FORM. 'bulk': how many values and letters a reading holds, each counted each time it is reached (what is shared counts as often as it is met; a slice's spare places count too). A statement '..UptoSaid' is the law's where the arguments, and the package variables that the reading takes, are together of bulk at most 1048576: NARROWER than '..Said'. Prove '..Said' where nothing that the law and all that it calls make is longer than what came in: it says more and counts as full. Else prove '..UptoSaid'. A law counts once. -/
mutual
def uptoBulk {H : Type} : DataW H → Nat
  | .lit (.string bytes) => bytes.length + 1
  | .lit _ => 1
  | .nil => 1
  | .ptr d => uptoBulk d + 1
  | .slice elems spare => uptoBulkAll elems + uptoBulkAll spare + 1
  | .agg parts => uptoBulkAll parts + 1
  | .iface _ d => uptoBulk d + 1
  | .map entries => uptoBulkEntries entries + 1
  | .held _ => 1
def uptoBulkAll {H : Type} : List (DataW H) → Nat
  | [] => 0
  | d :: r => uptoBulk d + uptoBulkAll r
def uptoBulkEntries {H : Type} : List (Lit × DataW H) → Nat
  | [] => 0
  | x :: r => uptoBulkEntry x + uptoBulkEntries r
def uptoBulkEntry {H : Type} : Lit × DataW H → Nat
  | (.string bytes, d) => bytes.length + uptoBulk d + 1
  | (_, d) => uptoBulk d + 1
 end
def uptoSmall : (H : Type) → List (DataW H) → Bool := fun _ ds => decide (uptoBulkAll ds ≤ 1048576)
def OpenSpec.upto (s : _root_.Go.ChangeSpec) : _root_.Go.OpenSpec := { _root_.Go.OpenSpec.ofChange s with cond := some uptoSmall }

/-- 'scriniumlaw27.ShardmapBack', WHERE WHAT IT READS IS OF BULK AT MOST 1048576: true; the input reads as it did. -/
def shardmapBackUptoRow : OpenClaim := { program := "ythcmcjoenepkbaagreat", sum := "2f5f400afa0b55de025a056afddf4a7cead114948cdd2c6ef7ba05cb3b4b3427", func := "scrinium/scriniumlaw27.ShardmapBack", spec := "shardmapBack", unfollowed := true, recurses := true, apart := false, narrowed := true }
def ShardmapBackUptoSaid : Prop := shardmapBackUptoRow.holds Tryz.pinned (OpenSpec.upto shardmapBackSpec)

/-- 'scriniumlaw27.ShardmapReads', WHERE WHAT IT READS IS OF BULK AT MOST 1048576: true; the input reads as it did. -/
def shardmapReadsUptoRow : OpenClaim := { program := "ythcmcjoenepkbaagreat", sum := "2f5f400afa0b55de025a056afddf4a7cead114948cdd2c6ef7ba05cb3b4b3427", func := "scrinium/scriniumlaw27.ShardmapReads", spec := "shardmapReads", unfollowed := true, recurses := true, apart := false, narrowed := true }
def ShardmapReadsUptoSaid : Prop := shardmapReadsUptoRow.holds Tryz.pinned (OpenSpec.upto shardmapReadsSpec)

/-- 'scriniumlaw27.ShardmapMoves', WHERE WHAT IT READS IS OF BULK AT MOST 1048576: true; the input reads as it did. -/
def shardmapMovesUptoRow : OpenClaim := { program := "ythcmcjoenepkbaagreat", sum := "2f5f400afa0b55de025a056afddf4a7cead114948cdd2c6ef7ba05cb3b4b3427", func := "scrinium/scriniumlaw27.ShardmapMoves", spec := "shardmapMoves", unfollowed := true, recurses := true, apart := false, narrowed := true }
def ShardmapMovesUptoSaid : Prop := shardmapMovesUptoRow.holds Tryz.pinned (OpenSpec.upto shardmapMovesSpec)

end Rows
end Go.Proofs.YthcmcjoenepkbaaGreat
