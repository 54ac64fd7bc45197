import Derived.Test.YtijgmloodkbljaaGreatDoorTxt
import Derived.Test.YtijgmloodkbljaaGreatDoorRows
import Derived.LaidSub
import Derived.MakeChecks
import Derived.Lib.LaidTab
namespace Go.Proofs.YtijgmloodkbljaaGreatDoor
open Go Go.RowKit

def bitsTab : List Int := [0, 1, 56, 2, 57, 49, 28, 3, 61, 58, 42, 50, 38, 29, 17, 4, 62, 47, 59, 36, 45, 43, 51, 22, 53, 39, 33, 30, 24, 18, 12, 5, 63, 55, 48, 27, 60, 41, 37, 16, 46, 35, 44, 21, 52, 32, 23, 11, 54, 26, 40, 15, 34, 20, 31, 10, 25, 14, 19, 9, 13, 8, 7, 6]
theorem gBits : Tryz.prog.globalNamed "math/bits.deBruijn64tab" = some 7 := by kernel_rfl
theorem ty3 : (Tryz.prog.globals[3]?).map (·.type) = some 350 := by kernel_rfl
theorem ty7 : (Tryz.prog.globals[7]?).map (·.type) = some 365 := by kernel_rfl
theorem c192 : Tryz.prog.cellsOf 192 = 1 := by kernel_rfl
theorem c5 : Tryz.prog.cellsOf 5 = 1 := by kernel_rfl
theorem c350 : Tryz.prog.cellsOf 350 = 20 := by kernel_rfl
theorem c365 : Tryz.prog.cellsOf 365 = 64 := by kernel_rfl
theorem laid_of {W : World} (h : laidMetH Tryz.prog Rows.lexPrintsUptoRow.laid W) : Laid W := by
  have h := (laidMetH_iff.1 h).1
  have hp := laidMet.filter (fun x => x.1 == "internal/strconv.uint64pow10") h
  have hb := laidMet.filter (fun x => x.1 == "math/bits.deBruijn64tab") h
  have e1 : ((Rows.lexPrintsUptoRow.laid.filter fun x => x.2.handleName?.isNone).filter fun x => x.1 == "internal/strconv.uint64pow10") = [("internal/strconv.uint64pow10", Lib.tabData .u64 Lib.pow10Tab)] := by rfl
  have e2 : ((Rows.lexPrintsUptoRow.laid.filter fun x => x.2.handleName?.isNone).filter fun x => x.1 == "math/bits.deBruijn64tab") = [("math/bits.deBruijn64tab", Lib.tabData .u8 bitsTab)] := by rfl
  rw [e1] at hp
  rw [e2] at hb
  have t1 := Lib.tabIs_of_head (rest := []) gTab ty3 Tryz.underlying350 Tryz.underlying192 c192 c350 hp
  have t2 := Lib.tabIs_of_head (rest := []) gBits ty7 Tryz.underlying365 Tryz.underlying5 c5 c365 hb
  have hc : W.cell? ⟨7, 15, none⟩ = some (.int .u8 4) := t2.cell gBits 15 (by decide)
  exact ⟨hc, t1, by have h7 : 7 < W.heap.size := World.block_lt_of_cell? W ⟨7, 15, none⟩ hc; show 8 ≤ W.heap.size; omega⟩
end Go.Proofs.YtijgmloodkbljaaGreatDoor
