import Derived.Test.YthjpbbbmnmhmmaaGreatDoorLBigTexts
import Derived.Test.YthjpbbbmnmhmmaaGreatDoorM10
set_option linter.unusedVariables false
set_option linter.unusedSimpArgs false
namespace Go.Proofs.YthjpbbbmnmhmmaaGreatDoor
open Go.RowKit Go.Shelf Go.Lib

theorem BigTexts_true (v : Vl) (s : List UInt8) (hv : v.inp) (hs : s.length ≤ 9223372036854775807) : BigTexts_s8 v s = true := by
  unfold BigTexts_s8
  split
  · rfl
  · unfold BigTexts_s7 BigTexts_s6 BigTexts_s5 BigTexts_s4 BigTexts_s3 BigTexts_s2 BigTexts_s1
    simp [veq_refl]
end Go.Proofs.YthjpbbbmnmhmmaaGreatDoor
