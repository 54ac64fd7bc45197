/-
  PROVED: the card 'LexPrintsUptoCardSaid': for every slice of tokens that is at most 1048576 in bulk, ramblelaw15.LexPrints returns true and leaves what it was handed as it was. CONDITIONS: the bulk; the listed variables of the standard library hold at the start what the program's text lays (the card ties them).
-/
import Derived.Test.YtijgmloodkbljaaGreatDoorWi5
namespace Go.Proofs.YtijgmloodkbljaaGreatDoor.lexPrints
open Go Go.ChangeShapes Go.WideShapes Go.ChangeAt Go.RowKit
set_option maxRecDepth 100000 in
theorem plain (f : FuncId) (fn : Func) (hf : Tryz.pinned.checked.prog.funcNamed "ramble/ramblelaw15.LexPrints" = some f) (hfn : Tryz.pinned.checked.prog.funcs[f]? = some fn) :
    true = Tryz.pinned.checked.prog.looks [] ∧ ∀ (j : Nat) t, fn.params[j]? = some t → Tryz.pinned.checked.prog.wantsStandIn t = false := by
  obtain rfl : f = 3 := Option.some.inj ((show Tryz.prog.funcNamed "ramble/ramblelaw15.LexPrints" = some 3 by kernel_rfl).symm.trans hf) |>.symm
  obtain rfl : fn = Tryz.f3 := (Option.some.inj (Tryz.func3.symm.trans hfn)).symm
  refine ⟨by kernel_rfl, fun j t ht => ?_⟩
  rw [Tryz.params3] at ht
  obtain rfl : t = 22 := by simpa using Array.mem_of_getElem? ht
  exact (show Tryz.prog.wantsStandIn 22 = false by kernel_rfl)

theorem cw : Rows.lexPrintsUptoRow.wfByText (Rows.OpenSpec.upto Rows.lexPrintsSpec) = true := by kernel_rfl
theorem cm : Tryz.pinned.checked.prog.mainIs = some (true, "4d0ee415914720a5d5c4effde0965ce9a0462bd87a681ec7afa73020f5da21f4".toList) := by kernel_rfl
theorem cg : false = Rows.lexPrintsUptoRow.goesBy Tryz.pinned.checked.prog := by kernel_rfl
set_option maxRecDepth 100000 in
theorem cardUpto : Rows.LexPrintsUptoCardSaid :=
  Claim7.holds_tied_plain_at .later [] _ _ _ _ saidUpto (fun _ h => by cases h) cw (fun _ h => by cases h) lexPrintsUpto_row_tie rfl ⟨rfl, rfl⟩ cm rfl plain cg
end Go.Proofs.YtijgmloodkbljaaGreatDoor.lexPrints
