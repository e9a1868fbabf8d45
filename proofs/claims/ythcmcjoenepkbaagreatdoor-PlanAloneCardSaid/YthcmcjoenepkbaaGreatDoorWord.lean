/- Contracts: word.Put32, Put64, Get32, Get64, Turn. -/
import Derived.Test.YthcmcjoenepkbaaGreatDoorRow
import Derived.Test.YthcmcjoenepkbaaGreatDoorSha0
import Derived.Laws.BytesArg
import Derived.Deep.OwnRows
namespace Go.Proofs.YthcmcjoenepkbaaGreatDoor
open Go Go.RowKit

/-- A text's bytes as numbers, and back. -/
def nb (s : ByteArray) : List Nat := s.data.toList.map UInt8.toNat
def sb (l : List Nat) : ByteArray := ⟨(l.map UInt8.ofNat).toArray⟩
theorem nb_bytes (s : ByteArray) : Sh.Bytes (nb s) := by
  intro x hx
  obtain ⟨y, _, rfl⟩ := List.mem_map.1 hx
  exact y.toNat_lt
theorem nb_sb {l : List Nat} (h : Sh.Bytes l) : nb (sb l) = l := by
  unfold nb sb
  simp only [List.map_map]
  conv => rhs; rw [← List.map_id l]
  refine List.map_congr_left (fun x hx => ?_)
  have := h x hx
  show (UInt8.ofNat x).toNat = x
  simp; omega
theorem sb_nb (s : ByteArray) : sb (nb s) = s := by
  refine ba_ext ?_
  unfold nb sb
  simp only [List.map_map]
  conv => rhs; rw [← List.map_id s.data.toList]
  exact List.map_congr_left (fun x _ => UInt8.ofNat_toNat)
theorem nb_length (s : ByteArray) : (nb s).length = s.size := by simp [nb]
theorem sb_size (l : List Nat) : (sb l).size = l.length := by simp [sb, ByteArray.size]
theorem strOfNums_nat (l : List Nat) : strOfNums (l.map Int.ofNat) = sb l := by simp [strOfNums, sb]
theorem nb_app (a b : ByteArray) : nb (a ++ b) = nb a ++ nb b := by simp [nb]
theorem sb_app (a b : List Nat) : sb a ++ sb b = sb (a ++ b) := by
  refine ba_ext ?_
  simp [sb]
theorem infoU8 : (Tryz.prog.info? 5).map (fun i => (i.zero, i.size, i.bytes)) = some (some (.int .u8 0), 1, 1) := by kernel_rfl

def cellsuint32 (n k : Nat) : Array Value := #[if 0 < k then (.int .u8 ((n / 16777216 % 256 : Nat) : Int)) else .int .u8 0, if 1 < k then (.int .u8 ((n / 65536 % 256 : Nat) : Int)) else .int .u8 0, if 2 < k then (.int .u8 ((n / 256 % 256 : Nat) : Int)) else .int .u8 0, if 3 < k then (.int .u8 ((n / 1 % 256 : Nat) : Int)) else .int .u8 0]
theorem put_uint32_eq (n : Nat) : Sh.put n 4 = [n / 16777216 % 256, n / 65536 % 256, n / 256 % 256, n / 1 % 256] := by simp [Sh.put]
set_option maxRecDepth 100000 in
set_option maxHeartbeats 4000000 in
theorem word_put_uint32 (n : Nat) (hn : n < 4294967296) (w : World) : Calls Tryz.prog 119 #[.int .u32 (n : Int), .int .i64 4] w fun e w' => e = .returned (.string (sb (Sh.put n 4))) ∧ Below w.heap.size w w' := by
  have hmc : madeCells #[Value.int .u8 0] 4 = cellsuint32 n 0 := by simp [madeCells, cellsuint32, Array.range]; rfl
  have hmk : ∀ w, (Instr.makeSlice 195 (.int .i64 4) (.int .i64 4)).run Tryz.prog w = .ok (.slice (some ⟨w.heap.size, 0, none⟩) 4 4) (w.alloc (.cells (cellsuint32 n 0) 5)) := fun w => by
    rw [← hmc]; exact run_make_row' (P := Tryz.prog) 195 5 (.int .u8 0) 1 Tryz.underlying195 infoU8 rfl .i64 .i64 4 (by decide) (by decide) w
  have hO : One w.heap.size (cellsuint32 n 0) (w.alloc (.cells (cellsuint32 n 0) 5)) := One.of w _ _
  clear hmc
  have HO := Lib.hid hO; clear hO
  have Hb0 : Hid (Below w.heap.size w (w.alloc (.cells (cellsuint32 n 0) 5))) := Lib.hid ((Below.refl _ _).alloc (Nat.le_refl _) _)
  go_enter Tryz.func119, Tryz.ntmps119
  go_wp2
  clear hmk
  go_loopw [10] (fun i wr => ∃ k : Nat, k ≤ 4 ∧ i = .int .i64 k ∧ Hid (One w.heap.size (cellsuint32 n k) wr) ∧ Hid (Below w.heap.size w wr)) (fun i _ => 4 - (intOf i).toNat)
  case atStart => exact ⟨0, by omega, rfl, HO, Hb0⟩
  case round =>
    obtain ⟨k, hk, rfl, HO, Hbw⟩ := hrel
    rcases (show k = 0 ∨ k = 1 ∨ k = 2 ∨ k = 3 ∨ k = 4 by omega) with rfl | rfl | rfl | rfl | rfl
    · have cj : wr.cell? ⟨w.heap.size, 0, none⟩ = some (.int .u8 0) := by rw [HO.out.c]; rfl
      have fj := HO.out.f 0
      have HN : Hid (One w.heap.size (cellsuint32 n 1) (wr.setCell ⟨w.heap.size, 0, none⟩ (.int .u8 ((n / 16777216 % 256 : Nat) : Int)))) := Lib.hid (HO.out.set (i := 0) (by show 0 < 4; decide) _)
      rw [show ((n / 16777216 % 256 : Nat) : Int) = (n : Int) / 16777216 by omega] at HN
      go_wp2
      go_roundw
      case rel => exact ⟨1, by omega, by rfl, HN, Lib.hid (Hbw.out.setCell (Nat.le_refl _) _)⟩
      case measure => simp [intOf]
    · have cj : wr.cell? ⟨w.heap.size, 1, none⟩ = some (.int .u8 0) := by rw [HO.out.c]; rfl
      have fj := HO.out.f 1
      have HN : Hid (One w.heap.size (cellsuint32 n 2) (wr.setCell ⟨w.heap.size, 1, none⟩ (.int .u8 ((n / 65536 % 256 : Nat) : Int)))) := Lib.hid (HO.out.set (i := 1) (by show 1 < 4; decide) _)
      rw [show ((n / 65536 % 256 : Nat) : Int) = (n : Int) / 65536 % 256 by omega] at HN
      go_wp2
      go_roundw
      case rel => exact ⟨2, by omega, by rfl, HN, Lib.hid (Hbw.out.setCell (Nat.le_refl _) _)⟩
      case measure => simp [intOf]
    · have cj : wr.cell? ⟨w.heap.size, 2, none⟩ = some (.int .u8 0) := by rw [HO.out.c]; rfl
      have fj := HO.out.f 2
      have HN : Hid (One w.heap.size (cellsuint32 n 3) (wr.setCell ⟨w.heap.size, 2, none⟩ (.int .u8 ((n / 256 % 256 : Nat) : Int)))) := Lib.hid (HO.out.set (i := 2) (by show 2 < 4; decide) _)
      rw [show ((n / 256 % 256 : Nat) : Int) = (n : Int) / 256 % 256 by omega] at HN
      go_wp2
      go_roundw
      case rel => exact ⟨3, by omega, by rfl, HN, Lib.hid (Hbw.out.setCell (Nat.le_refl _) _)⟩
      case measure => simp [intOf]
    · have cj : wr.cell? ⟨w.heap.size, 3, none⟩ = some (.int .u8 0) := by rw [HO.out.c]; rfl
      have fj := HO.out.f 3
      have HN : Hid (One w.heap.size (cellsuint32 n 4) (wr.setCell ⟨w.heap.size, 3, none⟩ (.int .u8 ((n / 1 % 256 : Nat) : Int)))) := Lib.hid (HO.out.set (i := 3) (by show 3 < 4; decide) _)
      rw [show ((n / 1 % 256 : Nat) : Int) = (n : Int) % 256 by omega] at HN
      go_wp2
      go_roundw
      case rel => exact ⟨4, by omega, by rfl, HN, Lib.hid (Hbw.out.setCell (Nat.le_refl _) _)⟩
      case measure => simp [intOf]
    · have hcv := run_convert_bytes_arg (P := Tryz.prog) wr 195 5 Tryz.underlying195 Tryz.underlying5 w.heap.size 0 4 4 ((Sh.put n 4).map Int.ofNat) (by simp [Sh.put_length]) (fun i hi => by
        rw [HO.out.c, Nat.zero_add, put_uint32_eq]
        rcases (show i = 0 ∨ i = 1 ∨ i = 2 ∨ i = 3 by omega) with rfl | rfl | rfl | rfl <;> rfl) 9 Tryz.underlying9
      rw [strOfNums_nat] at hcv
      go_wp2
      go_ret
      exact ⟨rfl, Hbw.out⟩

def cellsuint64 (n k : Nat) : Array Value := #[if 0 < k then (.int .u8 ((n / 72057594037927936 % 256 : Nat) : Int)) else .int .u8 0, if 1 < k then (.int .u8 ((n / 281474976710656 % 256 : Nat) : Int)) else .int .u8 0, if 2 < k then (.int .u8 ((n / 1099511627776 % 256 : Nat) : Int)) else .int .u8 0, if 3 < k then (.int .u8 ((n / 4294967296 % 256 : Nat) : Int)) else .int .u8 0, if 4 < k then (.int .u8 ((n / 16777216 % 256 : Nat) : Int)) else .int .u8 0, if 5 < k then (.int .u8 ((n / 65536 % 256 : Nat) : Int)) else .int .u8 0, if 6 < k then (.int .u8 ((n / 256 % 256 : Nat) : Int)) else .int .u8 0, if 7 < k then (.int .u8 ((n / 1 % 256 : Nat) : Int)) else .int .u8 0]
theorem put_uint64_eq (n : Nat) : Sh.put n 8 = [n / 72057594037927936 % 256, n / 281474976710656 % 256, n / 1099511627776 % 256, n / 4294967296 % 256, n / 16777216 % 256, n / 65536 % 256, n / 256 % 256, n / 1 % 256] := by simp [Sh.put]
set_option maxRecDepth 100000 in
set_option maxHeartbeats 4000000 in
theorem word_put_uint64 (n : Nat) (hn : n < 18446744073709551616) (w : World) : Calls Tryz.prog 164 #[.int .u64 (n : Int), .int .i64 8] w fun e w' => e = .returned (.string (sb (Sh.put n 8))) ∧ Below w.heap.size w w' := by
  have hmc : madeCells #[Value.int .u8 0] 8 = cellsuint64 n 0 := by simp [madeCells, cellsuint64, Array.range]; rfl
  have hmk : ∀ w, (Instr.makeSlice 195 (.int .i64 8) (.int .i64 8)).run Tryz.prog w = .ok (.slice (some ⟨w.heap.size, 0, none⟩) 8 8) (w.alloc (.cells (cellsuint64 n 0) 5)) := fun w => by
    rw [← hmc]; exact run_make_row' (P := Tryz.prog) 195 5 (.int .u8 0) 1 Tryz.underlying195 infoU8 rfl .i64 .i64 8 (by decide) (by decide) w
  have hO : One w.heap.size (cellsuint64 n 0) (w.alloc (.cells (cellsuint64 n 0) 5)) := One.of w _ _
  clear hmc
  have HO := Lib.hid hO; clear hO
  have Hb0 : Hid (Below w.heap.size w (w.alloc (.cells (cellsuint64 n 0) 5))) := Lib.hid ((Below.refl _ _).alloc (Nat.le_refl _) _)
  go_enter Tryz.func164, Tryz.ntmps164
  go_wp2
  clear hmk
  go_loopw [10] (fun i wr => ∃ k : Nat, k ≤ 8 ∧ i = .int .i64 k ∧ Hid (One w.heap.size (cellsuint64 n k) wr) ∧ Hid (Below w.heap.size w wr)) (fun i _ => 8 - (intOf i).toNat)
  case atStart => exact ⟨0, by omega, rfl, HO, Hb0⟩
  case round =>
    obtain ⟨k, hk, rfl, HO, Hbw⟩ := hrel
    rcases (show k = 0 ∨ k = 1 ∨ k = 2 ∨ k = 3 ∨ k = 4 ∨ k = 5 ∨ k = 6 ∨ k = 7 ∨ k = 8 by omega) with rfl | rfl | rfl | rfl | rfl | rfl | rfl | rfl | rfl
    · have cj : wr.cell? ⟨w.heap.size, 0, none⟩ = some (.int .u8 0) := by rw [HO.out.c]; rfl
      have fj := HO.out.f 0
      have HN : Hid (One w.heap.size (cellsuint64 n 1) (wr.setCell ⟨w.heap.size, 0, none⟩ (.int .u8 ((n / 72057594037927936 % 256 : Nat) : Int)))) := Lib.hid (HO.out.set (i := 0) (by show 0 < 8; decide) _)
      rw [show ((n / 72057594037927936 % 256 : Nat) : Int) = (n : Int) / 72057594037927936 by omega] at HN
      go_wp2
      go_roundw
      case rel => exact ⟨1, by omega, by rfl, HN, Lib.hid (Hbw.out.setCell (Nat.le_refl _) _)⟩
      case measure => simp [intOf]
    · have cj : wr.cell? ⟨w.heap.size, 1, none⟩ = some (.int .u8 0) := by rw [HO.out.c]; rfl
      have fj := HO.out.f 1
      have HN : Hid (One w.heap.size (cellsuint64 n 2) (wr.setCell ⟨w.heap.size, 1, none⟩ (.int .u8 ((n / 281474976710656 % 256 : Nat) : Int)))) := Lib.hid (HO.out.set (i := 1) (by show 1 < 8; decide) _)
      rw [show ((n / 281474976710656 % 256 : Nat) : Int) = (n : Int) / 281474976710656 % 256 by omega] at HN
      go_wp2
      go_roundw
      case rel => exact ⟨2, by omega, by rfl, HN, Lib.hid (Hbw.out.setCell (Nat.le_refl _) _)⟩
      case measure => simp [intOf]
    · have cj : wr.cell? ⟨w.heap.size, 2, none⟩ = some (.int .u8 0) := by rw [HO.out.c]; rfl
      have fj := HO.out.f 2
      have HN : Hid (One w.heap.size (cellsuint64 n 3) (wr.setCell ⟨w.heap.size, 2, none⟩ (.int .u8 ((n / 1099511627776 % 256 : Nat) : Int)))) := Lib.hid (HO.out.set (i := 2) (by show 2 < 8; decide) _)
      rw [show ((n / 1099511627776 % 256 : Nat) : Int) = (n : Int) / 1099511627776 % 256 by omega] at HN
      go_wp2
      go_roundw
      case rel => exact ⟨3, by omega, by rfl, HN, Lib.hid (Hbw.out.setCell (Nat.le_refl _) _)⟩
      case measure => simp [intOf]
    · have cj : wr.cell? ⟨w.heap.size, 3, none⟩ = some (.int .u8 0) := by rw [HO.out.c]; rfl
      have fj := HO.out.f 3
      have HN : Hid (One w.heap.size (cellsuint64 n 4) (wr.setCell ⟨w.heap.size, 3, none⟩ (.int .u8 ((n / 4294967296 % 256 : Nat) : Int)))) := Lib.hid (HO.out.set (i := 3) (by show 3 < 8; decide) _)
      rw [show ((n / 4294967296 % 256 : Nat) : Int) = (n : Int) / 4294967296 % 256 by omega] at HN
      go_wp2
      go_roundw
      case rel => exact ⟨4, by omega, by rfl, HN, Lib.hid (Hbw.out.setCell (Nat.le_refl _) _)⟩
      case measure => simp [intOf]
    · have cj : wr.cell? ⟨w.heap.size, 4, none⟩ = some (.int .u8 0) := by rw [HO.out.c]; rfl
      have fj := HO.out.f 4
      have HN : Hid (One w.heap.size (cellsuint64 n 5) (wr.setCell ⟨w.heap.size, 4, none⟩ (.int .u8 ((n / 16777216 % 256 : Nat) : Int)))) := Lib.hid (HO.out.set (i := 4) (by show 4 < 8; decide) _)
      rw [show ((n / 16777216 % 256 : Nat) : Int) = (n : Int) / 16777216 % 256 by omega] at HN
      go_wp2
      go_roundw
      case rel => exact ⟨5, by omega, by rfl, HN, Lib.hid (Hbw.out.setCell (Nat.le_refl _) _)⟩
      case measure => simp [intOf]
    · have cj : wr.cell? ⟨w.heap.size, 5, none⟩ = some (.int .u8 0) := by rw [HO.out.c]; rfl
      have fj := HO.out.f 5
      have HN : Hid (One w.heap.size (cellsuint64 n 6) (wr.setCell ⟨w.heap.size, 5, none⟩ (.int .u8 ((n / 65536 % 256 : Nat) : Int)))) := Lib.hid (HO.out.set (i := 5) (by show 5 < 8; decide) _)
      rw [show ((n / 65536 % 256 : Nat) : Int) = (n : Int) / 65536 % 256 by omega] at HN
      go_wp2
      go_roundw
      case rel => exact ⟨6, by omega, by rfl, HN, Lib.hid (Hbw.out.setCell (Nat.le_refl _) _)⟩
      case measure => simp [intOf]
    · have cj : wr.cell? ⟨w.heap.size, 6, none⟩ = some (.int .u8 0) := by rw [HO.out.c]; rfl
      have fj := HO.out.f 6
      have HN : Hid (One w.heap.size (cellsuint64 n 7) (wr.setCell ⟨w.heap.size, 6, none⟩ (.int .u8 ((n / 256 % 256 : Nat) : Int)))) := Lib.hid (HO.out.set (i := 6) (by show 6 < 8; decide) _)
      rw [show ((n / 256 % 256 : Nat) : Int) = (n : Int) / 256 % 256 by omega] at HN
      go_wp2
      go_roundw
      case rel => exact ⟨7, by omega, by rfl, HN, Lib.hid (Hbw.out.setCell (Nat.le_refl _) _)⟩
      case measure => simp [intOf]
    · have cj : wr.cell? ⟨w.heap.size, 7, none⟩ = some (.int .u8 0) := by rw [HO.out.c]; rfl
      have fj := HO.out.f 7
      have HN : Hid (One w.heap.size (cellsuint64 n 8) (wr.setCell ⟨w.heap.size, 7, none⟩ (.int .u8 ((n / 1 % 256 : Nat) : Int)))) := Lib.hid (HO.out.set (i := 7) (by show 7 < 8; decide) _)
      rw [show ((n / 1 % 256 : Nat) : Int) = (n : Int) % 256 by omega] at HN
      go_wp2
      go_roundw
      case rel => exact ⟨8, by omega, by rfl, HN, Lib.hid (Hbw.out.setCell (Nat.le_refl _) _)⟩
      case measure => simp [intOf]
    · have hcv := run_convert_bytes_arg (P := Tryz.prog) wr 195 5 Tryz.underlying195 Tryz.underlying5 w.heap.size 0 8 8 ((Sh.put n 8).map Int.ofNat) (by simp [Sh.put_length]) (fun i hi => by
        rw [HO.out.c, Nat.zero_add, put_uint64_eq]
        rcases (show i = 0 ∨ i = 1 ∨ i = 2 ∨ i = 3 ∨ i = 4 ∨ i = 5 ∨ i = 6 ∨ i = 7 by omega) with rfl | rfl | rfl | rfl | rfl | rfl | rfl | rfl <;> rfl) 9 Tryz.underlying9
      rw [strOfNums_nat] at hcv
      go_wp2
      go_ret
      exact ⟨rfl, Hbw.out⟩
end Go.Proofs.YthcmcjoenepkbaaGreatDoor
