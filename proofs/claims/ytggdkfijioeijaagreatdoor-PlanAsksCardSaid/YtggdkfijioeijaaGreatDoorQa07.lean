/- Contract: sha.table. -/
import Derived.Test.YtggdkfijioeijaaGreatDoorQa06
import Derived.Laws.Rows
import Derived.Laws.Tables
import Derived.Laws.CopyOwn
namespace Go.Proofs.YtggdkfijioeijaaGreatDoor
open Go Go.RowKit
def ksV : Array Value := (Sh.ks.map (fun n : Nat => Value.int .u32 (n : Int))).toArray
def z64 : Array Value := (List.replicate 64 (Value.int .u32 0)).toArray
theorem infoT64 : (Tryz.prog.info? 229).map (·.size) = some 64 := by kernel_rfl
theorem op_value {P : Program} {o : Oper} {a : Act} {w w' : World} {K : Act → World → Prop} {Q : Exit → Act → World → Prop} {v : Value} (h : (execOp a.eval o).run P w = .ok (.value v) w') (k : K (a.put o.dst v) w') : Oper.wp P o a w K Q := by
  unfold Oper.wp; rw [h]; exact k
theorem op_call {P : Program} {o : Oper} {a : Act} {w w' : World} {K : Act → World → Prop} {Q : Exit → Act → World → Prop} {f : FuncId} {args : Array Value} (h : (execOp a.eval o).run P w = .ok (.enter f args) w')
    (k : Calls P f args w' (fun e w'' => ∃ v, e = .returned v ∧ K (a.put o.dst v) w'')) : Oper.wp P o a w K Q := by
  unfold Oper.wp; rw [h]
  exact Calls.mono k (fun e w'' ⟨v, he, hk⟩ => by subst he; exact hk)
set_option maxRecDepth 100000 in
set_option maxHeartbeats 4000000 in
theorem sha_table (w : World) : Calls Tryz.prog 161 #[] w fun e w' => e = .returned (.agg ksV) ∧ Below w.heap.size w w' := by
  have hal : (w.alloc (.cells z64 229)).heap[w.heap.size]? = some (.cells z64 229 (0, 0)) := (MapKept.heap_alloc _ _).1
  have hset := setRow_heap _ w.heap.size z64 ksV _ _ hal
  have HS := Lib.hid hset; have HA := Lib.hid hal
  clear hset hal
  go_enter Tryz.func161, Tryz.ntmps161
  go_upto_region 1 with fail
  refine wp_region_list ?_
  refine wpList_plain rfl fun K hK => ?_
  refine op_value (w' := w.alloc (.cells z64 229)) (v := .agg ksV) (by kernel_rfl) (hK _ _ ?_)
  refine wpList_store_row rfl 229 (.tmp 0) (.tmp 1) rfl w.heap.size ksV rfl rfl 229 z64 HA.out infoT64 rfl (by kernel_rfl) ?_
  apply wpList_nil
  go_wp2_with fail
  refine bodyPost_ret (v := .agg ksV) (results_cell_row rfl _ _ w.heap.size _ ksV _ _ rfl HS.out Tryz.underlying229 rfl infoT64) rfl ⟨rfl, ?_⟩
  exact below_setRow ((Below.refl _ _).alloc (Nat.le_refl _) _) (Nat.le_refl _) _
end Go.Proofs.YtggdkfijioeijaaGreatDoor
