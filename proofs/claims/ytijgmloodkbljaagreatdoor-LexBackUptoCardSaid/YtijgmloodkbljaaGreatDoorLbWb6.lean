/-
  PROVED: the card 'LexBackUptoCardSaid': for every slice of tokens and every text that are at most 1048576 in bulk, ramblelaw15.LexBack returns true and leaves what it was handed as it was. CONDITIONS: the bulk; the listed variables of the standard library hold at the start what the program's text lays (the card ties them).
-/
import Derived.Test.YtijgmloodkbljaaGreatDoorLbWb5
namespace Go.Proofs.YtijgmloodkbljaaGreatDoor.lexBack
open Go Go.ChangeShapes Go.WideShapes Go.ChangeAt Go.RowKit
set_option maxRecDepth 100000 in
theorem plain (f : FuncId) (fn : Func) (hf : Tryz.pinned.checked.prog.funcNamed "ramble/ramblelaw15.LexBack" = some f) (hfn : Tryz.pinned.checked.prog.funcs[f]? = some fn) :
    true = Tryz.pinned.checked.prog.looks [] ∧ ∀ (j : Nat) t, fn.params[j]? = some t → Tryz.pinned.checked.prog.wantsStandIn t = false := by
  obtain rfl : f = 4 := Option.some.inj ((show Tryz.prog.funcNamed "ramble/ramblelaw15.LexBack" = some 4 by kernel_rfl).symm.trans hf) |>.symm
  obtain rfl : fn = Tryz.f4 := (Option.some.inj (Tryz.func4.symm.trans hfn)).symm
  refine ⟨by kernel_rfl, fun j t ht => ?_⟩
  rw [Tryz.params4] at ht
  have h := Array.mem_of_getElem? ht
  have h2 : t = 22 ∨ t = 9 := by simpa using h
  rcases h2 with rfl | rfl
  · exact (show Tryz.prog.wantsStandIn 22 = false by kernel_rfl)
  · exact (show Tryz.prog.wantsStandIn 9 = false by kernel_rfl)

theorem cw : Rows.lexBackUptoRow.wfByText (Rows.OpenSpec.upto Rows.lexBackSpec) = true := by kernel_rfl
theorem cm : Tryz.pinned.checked.prog.mainIs = some (true, "4d0ee415914720a5d5c4effde0965ce9a0462bd87a681ec7afa73020f5da21f4".toList) := by kernel_rfl
theorem cg : false = Rows.lexBackUptoRow.goesBy Tryz.pinned.checked.prog := by kernel_rfl
set_option maxRecDepth 100000 in
theorem cardUpto : Rows.LexBackUptoCardSaid :=
  Claim7.holds_tied_plain_at .later [] _ _ _ _ saidUpto (fun _ h => by cases h) cw (fun _ h => by cases h) lexBackUpto_row_tie rfl ⟨rfl, rfl⟩ cm rfl plain cg
end Go.Proofs.YtijgmloodkbljaaGreatDoor.lexBack
