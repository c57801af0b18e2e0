import Derived.Test.YthjpbbbmnmhmmaaGreatDoorLBigParts
import Derived.Test.YthjpbbbmnmhmmaaGreatDoorM10
set_option linter.unusedVariables false
set_option linter.unusedSimpArgs false
namespace Go.Proofs.YthjpbbbmnmhmmaaGreatDoor
open Go.RowKit Go.Shelf Go.Lib

theorem BigParts_true (x y : Vl) (n : Int) (hx : x.inp) (hy : y.inp) (hn : Small64 n) : BigParts_s18 x y n = true := by
  unfold BigParts_s18
  split
  · rfl
  · unfold BigParts_s17 BigParts_s16 BigParts_s15 BigParts_s14 BigParts_s13 BigParts_s12 BigParts_s11 BigParts_s10 BigParts_s9 BigParts_s8 BigParts_s7 BigParts_s6 BigParts_s5 BigParts_s4
    simp [veq_refl]
end Go.Proofs.YthjpbbbmnmhmmaaGreatDoor
