import Derived.Test.YtijgmloodkbljaaGreatDoorLbWb1
namespace Go.Proofs.YtijgmloodkbljaaGreatDoor.lexBack
open Go Go.ChangeShapes Go.WideShapes Go.ChangeAt Go.RowKit

theorem fact1 : Tryz.pinned.checked.prog.funcNamed Rows.lexBackUptoRow.func = some 4 := by kernel_rfl
theorem fact3 : Tryz.f4.isInstance Tryz.pinned.checked.prog Rows.lexBackUptoRow.origin Rows.lexBackUptoRow.targs := of_decide_eq_true (by kernel_rfl)
theorem fact4 : Tryz.f4.isWrapper Tryz.pinned.checked.prog Rows.lexBackUptoRow.wrapper Rows.lexBackUptoRow.mainSum := by
  unfold Func.isWrapper; first | (rw [if_pos (by decide +kernel)]; kernel_rfl) | (rw [if_neg (by decide +kernel)]; exact ⟨rfl, rfl⟩)
end Go.Proofs.YtijgmloodkbljaaGreatDoor.lexBack
