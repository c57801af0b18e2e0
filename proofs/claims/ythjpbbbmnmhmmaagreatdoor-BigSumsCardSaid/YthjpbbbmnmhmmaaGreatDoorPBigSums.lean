import Derived.Test.YthjpbbbmnmhmmaaGreatDoorLBigSums
import Derived.Test.YthjpbbbmnmhmmaaGreatDoorM10
set_option linter.unusedVariables false
set_option linter.unusedSimpArgs false
namespace Go.Proofs.YthjpbbbmnmhmmaaGreatDoor
open Go.RowKit Go.Shelf Go.Lib

theorem BigSums_true (x y : Vl) (hx : x.inp) (hy : y.inp) : BigSums_s14 x y = true := by
  unfold BigSums_s14
  split
  · rfl
  · unfold BigSums_s13 BigSums_s12 BigSums_s11 BigSums_s10 BigSums_s9 BigSums_s8 BigSums_s7 BigSums_s6 BigSums_s5 BigSums_s4 BigSums_s3
    simp [veq_refl]
end Go.Proofs.YthjpbbbmnmhmmaaGreatDoor
