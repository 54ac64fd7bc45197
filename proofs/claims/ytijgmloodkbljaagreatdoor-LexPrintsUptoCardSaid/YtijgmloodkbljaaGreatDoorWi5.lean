import Derived.Test.YtijgmloodkbljaaGreatDoorWi2
import Derived.Test.YtijgmloodkbljaaGreatDoorFaPZ
namespace Go.Proofs.YtijgmloodkbljaaGreatDoor.lexPrints
open Go Go.ChangeShapes Go.WideShapes Go.ChangeAt Go.RowKit
set_option maxRecDepth 100000 in
theorem saidUpto : Rows.LexPrintsUptoSaid :=
  OpenClaim.holds_of_cond 3 Tryz.f3 rfl rfl rfl rfl rfl rfl rfl ⟨rfl, rfl, rfl, rfl, rfl⟩ rfl rfl rfl rfl rfl fact1 Tryz.func3 closed fact3 fact4
    (fun os started H enc _ F => by rw [OpenClaim.pre_eq_preRow]; exact liftedUpto os started H enc F)
end Go.Proofs.YtijgmloodkbljaaGreatDoor.lexPrints
