import Derived.Test.YtijgmloodkbljaaGreatDoorLbWb2
import Derived.Test.YtijgmloodkbljaaGreatDoorFaQZ
namespace Go.Proofs.YtijgmloodkbljaaGreatDoor.lexBack
open Go Go.ChangeShapes Go.WideShapes Go.ChangeAt Go.RowKit
set_option maxRecDepth 100000 in
theorem saidUpto : Rows.LexBackUptoSaid :=
  OpenClaim.holds_of_cond 4 Tryz.f4 rfl rfl rfl rfl rfl rfl rfl ⟨rfl, rfl, rfl, rfl, rfl⟩ rfl rfl rfl rfl rfl fact1 Tryz.func4 closed fact3 fact4
    (fun os started H enc _ F => by rw [OpenClaim.pre_eq_preRow]; exact liftedUpto os started H enc F)
end Go.Proofs.YtijgmloodkbljaaGreatDoor.lexBack
