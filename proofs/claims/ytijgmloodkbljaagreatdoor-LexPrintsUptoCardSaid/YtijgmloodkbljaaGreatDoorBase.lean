import Derived.Test.YtijgmloodkbljaaGreatDoorProg
import Derived.Test.YtijgmloodkbljaaGreatDoorPur
import Derived.WalkKit
import Derived.WalkLawsBesides
import Derived.WalkSpells
import Derived.Below
import Derived.Deep.QuietTactic
import Derived.BigQuiet
import Derived.Deep.Draws
import Derived.Deep.RegionHeld3
namespace Go.Proofs.YtijgmloodkbljaaGreatDoor
open Go Go.RowKit

end Go.Proofs.YtijgmloodkbljaaGreatDoor
