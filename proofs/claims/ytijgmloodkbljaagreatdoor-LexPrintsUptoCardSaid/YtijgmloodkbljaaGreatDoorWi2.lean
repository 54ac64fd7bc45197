import Derived.Test.YtijgmloodkbljaaGreatDoorWi1
namespace Go.Proofs.YtijgmloodkbljaaGreatDoor.lexPrints
open Go Go.ChangeShapes Go.WideShapes Go.ChangeAt Go.RowKit

theorem fact1 : Tryz.pinned.checked.prog.funcNamed Rows.lexPrintsUptoRow.func = some 3 := by kernel_rfl
theorem fact3 : Tryz.f3.isInstance Tryz.pinned.checked.prog Rows.lexPrintsUptoRow.origin Rows.lexPrintsUptoRow.targs := of_decide_eq_true (by kernel_rfl)
theorem fact4 : Tryz.f3.isWrapper Tryz.pinned.checked.prog Rows.lexPrintsUptoRow.wrapper Rows.lexPrintsUptoRow.mainSum := by
  unfold Func.isWrapper; first | (rw [if_pos (by decide +kernel)]; kernel_rfl) | (rw [if_neg (by decide +kernel)]; exact ⟨rfl, rfl⟩)
end Go.Proofs.YtijgmloodkbljaaGreatDoor.lexPrints
