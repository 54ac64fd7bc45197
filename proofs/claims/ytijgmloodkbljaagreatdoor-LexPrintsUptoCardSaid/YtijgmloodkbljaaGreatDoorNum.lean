import Derived.Test.YtijgmloodkbljaaGreatDoorTok
import Derived.Laws.BitsAllLaws
import Derived.Lib.LaidTab
import Derived.Lib.ItoaNum
import Derived.Handy
namespace Go.Proofs.YtijgmloodkbljaaGreatDoor
open Go Go.RowKit

set_option maxHeartbeats 1000000 in
theorem f366_16 (w : World) (h : w.cell? ⟨7, 15, none⟩ = some (.int .u8 4)) :
    Calls Tryz.prog 366 #[.int .u64 16] w (Same (.int .i64 4) w) := by
  have h1 : bits .and .u64 16 (IntKind.u64.wrap (-16)) = 16 := by kernel_rfl
  have h2 : IntKind.u64.wrap (16 * 285870213051353865) = 4573923408821661840 := by kernel_rfl
  go_enter Tryz.func366, Tryz.ntmps366
  go_wp2
  go_ret
  exact ⟨rfl, rfl⟩
set_option maxHeartbeats 1000000 in
theorem f354_16 (w : World) :
    Calls Tryz.prog 354 #[.int .i64 16] w (Same (.bool true) w) := by
  have h1 : bits .and .i64 16 15 = 0 := by kernel_rfl
  go_enter Tryz.func354, Tryz.ntmps354
  go_wp2
  go_ret
  exact ⟨rfl, rfl⟩
set_option maxHeartbeats 1000000 in
theorem f355_16 (w : World) (h : w.cell? ⟨7, 15, none⟩ = some (.int .u8 4)) :
    Calls Tryz.prog 355 #[.int .u64 16] w (Same (.int .i64 4) w) := by
  go_enter Tryz.func355, Tryz.ntmps355
  go_wp2_with (go_at_call 366; refine (f366_16 _ h).mono ?_; rintro e w' ⟨rfl, rfl⟩)
  go_ret
  exact ⟨rfl, rfl⟩


theorem dig_hex (n : Nat) (hn : n < 16) (h : n < ({ data := #[48, 49, 50, 51, 52, 53, 54, 55, 56, 57, 97, 98, 99, 100, 101, 102, 103, 104, 105, 106, 107, 108, 109, 110, 111, 112, 113, 114, 115, 116, 117, 118, 119, 120, 121, 122] } : ByteArray).size) : strOfNums [((({ data := #[48, 49, 50, 51, 52, 53, 54, 55, 56, 57, 97, 98, 99, 100, 101, 102, 103, 104, 105, 106, 107, 108, 109, 110, 111, 112, 113, 114, 115, 116, 117, 118, 119, 120, 121, 122] } : ByteArray)[n]'h).toNat : Int)] = ⟨#[hexD n]⟩ := by
  obtain rfl | rfl | rfl | rfl | rfl | rfl | rfl | rfl | rfl | rfl | rfl | rfl | rfl | rfl | rfl | rfl : n = 0 ∨ n = 1 ∨ n = 2 ∨ n = 3 ∨ n = 4 ∨ n = 5 ∨ n = 6 ∨ n = 7 ∨ n = 8 ∨ n = 9 ∨ n = 10 ∨ n = 11 ∨ n = 12 ∨ n = 13 ∨ n = 14 ∨ n = 15 := by omega
  all_goals rfl
theorem zero351 (c : Value) : (Tryz.zeroCells351.setIfInBounds 64 c)[64]? = some c := by
  rw [Array.getElem?_setIfInBounds_self_of_lt (by decide +kernel)]
set_option maxHeartbeats 4000000 in
set_option maxRecDepth 100000 in
theorem f324_16 (n : Nat) (hn : n < 16) (w : World) (h : w.cell? ⟨7, 15, none⟩ = some (.int .u8 4)) (hg : 7 < w.heap.size) :
    Calls Tryz.prog 324 #[.slice none 0 0, .int .u64 n, .int .i64 16, .bool false, .bool false] w (Ret (.tuple #[.slice none 0 0, .string ⟨#[hexD n]⟩]) w) := by
  have hn' : (n : Int) < 16 := by omega
  have hdig := dig_hex n hn
  have key : ∀ c : Int, (convert 65 9 (.slice (some ⟨w.heap.size, 64, none⟩) 1 1)).run Tryz.prog (w.alloc (.cells (Tryz.zeroCells351.setIfInBounds 64 (.int .u8 c)) 351)) = .ok (.string (strOfNums [c])) (w.alloc (.cells (Tryz.zeroCells351.setIfInBounds 64 (.int .u8 c)) 351)) := by
    intro c
    refine run_convert_bytes_arg _ 65 5 Tryz.underlying65 Tryz.underlying5 w.heap.size 64 1 1 [c] rfl ?_ 9 Tryz.underlying9
    intro i hi
    obtain rfl : i = 0 := by omega
    exact (Lib.cell_of_heap (heap_alloc_new w _) 64).trans (zero351 _)
  clear hn
  go_enter Tryz.func324, Tryz.ntmps324
  go_wp2_with (first | (go_at_call 354; refine (f354_16 _).mono ?_; rintro e w' ⟨rfl, rfl⟩) | (go_at_call 355; refine (f355_16 _ ((World.cell?_alloc_lt w _ _ hg).trans h)).mono ?_; rintro e w' ⟨rfl, rfl⟩))
  go_rounds 1
  go_ret2
  exact ⟨rfl, (Below.refl _ _).alloc (Nat.le_refl _) _⟩

set_option maxHeartbeats 1000000 in
theorem f253_16 (n : Nat) (hn : n < 16) (w : World) (h : w.cell? ⟨7, 15, none⟩ = some (.int .u8 4)) (hg : 7 < w.heap.size) :
    Calls Tryz.prog 253 #[.int .i64 n, .int .i64 16] w (Ret (.string ⟨#[hexD n]⟩) w) := by
  have hn' : (n : Int) < 16 := by omega
  go_enter Tryz.func253, Tryz.ntmps253
  go_wp2_with (go_at_call 324; refine (f324_16 n hn _ h hg).mono ?_)
  rintro e w1 ⟨rfl, hb⟩
  go_wp2
  go_ret
  exact ⟨rfl, hb⟩
theorem f189_16 (n : Nat) (hn : n < 16) (w : World) (h : w.cell? ⟨7, 15, none⟩ = some (.int .u8 4)) (hg : 7 < w.heap.size) :
    Calls Tryz.prog 189 #[.int .i64 n, .int .i64 16] w (Ret (.string ⟨#[hexD n]⟩) w) := by
  go_enter Tryz.func189, Tryz.ntmps189
  go_wp2_with (go_at_call 253; refine (f253_16 n hn _ h hg).mono ?_)
  rintro e w1 ⟨rfl, hb⟩
  go_wp2
  go_ret
  exact ⟨rfl, hb⟩
end Go.Proofs.YtijgmloodkbljaaGreatDoor
