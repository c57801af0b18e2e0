import Derived.Test.YthjpbbbmnmhmmaaGreatDoorLawake
import Derived.Test.YthjpbbbmnmhmmaaGreatDoorPawake
set_option linter.unusedVariables false
set_option linter.unusedSimpArgs false
namespace Go.Proofs.YthjpbbbmnmhmmaaGreatDoor
open Go.RowKit Go.Shelf Go.Lib

theorem awakeV (w : World) (hE : Env w) : Ans Tryz.prog 15 #[] w (.bool true) := walk_awake w hE awake_true
end Go.Proofs.YthjpbbbmnmhmmaaGreatDoor
