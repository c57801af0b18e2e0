import Derived.Test.YthjpbbbmnmhmmaaGreatDoorLawake
import Derived.Test.YthjpbbbmnmhmmaaGreatDoorM10
set_option linter.unusedVariables false
set_option linter.unusedSimpArgs false
namespace Go.Proofs.YthjpbbbmnmhmmaaGreatDoor
open Go.RowKit Go.Shelf Go.Lib

theorem of_small {z : Int} (h : -9223372036854775808 ≤ z ∧ z ≤ 9223372036854775807) : Vl.of z = ⟨1, z, []⟩ := if_pos h
theorem of_big {z : Int} (h : ¬ (-9223372036854775808 ≤ z ∧ z ≤ 9223372036854775807)) : Vl.of z = ⟨2, 0, itoa z⟩ := if_neg h
theorem itoa_of {l : List UInt8} (h : AllD l) (hne : l ≠ []) (hz : l.head? = some 48 → l = [48]) : itoa ((dv l : Nat) : Int) = l := by
  unfold itoa
  rw [if_neg (by omega), Int.toNat_natCast, digits_dv h hne hz]

theorem itoa63 : itoa 9223372036854775808 = [57, 50, 50, 51, 51, 55, 50, 48, 51, 54, 56, 53, 52, 55, 55, 53, 56, 48, 56] := by
  have := itoa_of (l := [57, 50, 50, 51, 51, 55, 50, 48, 51, 54, 56, 53, 52, 55, 55, 53, 56, 48, 56]) (by decide) (by decide) (by decide)
  rw [show ((dv [57, 50, 50, 51, 51, 55, 50, 48, 51, 54, 56, 53, 52, 55, 55, 53, 56, 48, 56] : Nat) : Int) = 9223372036854775808 by decide +kernel] at this
  exact this
theorem itoa64 : itoa 18446744073709551616 = [49, 56, 52, 52, 54, 55, 52, 52, 48, 55, 51, 55, 48, 57, 53, 53, 49, 54, 49, 54] := by
  have := itoa_of (l := [49, 56, 52, 52, 54, 55, 52, 52, 48, 55, 51, 55, 48, 57, 53, 53, 49, 54, 49, 54]) (by decide) (by decide) (by decide)
  rw [show ((dv [49, 56, 52, 52, 54, 55, 52, 52, 48, 55, 51, 55, 48, 57, 53, 53, 49, 54, 49, 54] : Nat) : Int) = 18446744073709551616 by decide +kernel] at this
  exact this

theorem awake_true : true = awake_s11 := by
  have e0 : addR (⟨1, 9223372036854775807, []⟩ : Vl) (⟨1, 1, []⟩ : Vl) = (Vl.of 9223372036854775808, 0) := by
    unfold addR; rw [opR_some (num_one _) (num_one _)]; exact limZ_ok' (nd20 (by decide))
  have e1 : subR (Vl.of 9223372036854775808) (⟨1, 1, []⟩ : Vl) = (⟨1, 9223372036854775807, []⟩, 0) := by
    unfold subR; rw [opR_some (vl_num_of (nd20 (by decide))) (num_one _)]
    exact (limZ_ok' (z := 9223372036854775807) (nd20 (by decide))).trans (by rw [of_small (by omega)])
  have e2 : mulR (⟨1, 4294967296, []⟩ : Vl) (⟨1, 4294967296, []⟩ : Vl) = (Vl.of 18446744073709551616, 0) := by
    unfold mulR; rw [opR_some (num_one _) (num_one _)]; exact limZ_ok' (z := 18446744073709551616) (nd20 (by decide))
  have e3 : divR (⟨1, 7, []⟩ : Vl) (⟨1, (-2), []⟩ : Vl) = (⟨1, -4, []⟩, 0) := by
    unfold divR; rw [opR_some (num_one _) (num_one _)]; unfold divF; rw [if_neg (by decide)]
    exact (limZ_ok' (z := -4) (nd20 (by decide))).trans (by rw [of_small (by omega)])
  have e4 : modR (⟨1, (-7), []⟩ : Vl) (⟨1, 2, []⟩ : Vl) = (⟨1, 1, []⟩, 0) := by
    unfold modR; rw [opR_some (num_one _) (num_one _)]; unfold modF; rw [if_neg (by decide)]
    exact (limZ_ok' (z := 1) (nd20 (by decide))).trans (by rw [of_small (by omega)])
  have e5 : powR (⟨1, 2, []⟩ : Vl) 64 = (Vl.of 18446744073709551616, 0) := by
    unfold powR; rw [num_one]; dsimp only; rw [if_neg (by decide)]
    exact limZ_ok' (z := 18446744073709551616) (nd20 (by decide))
  have e6 : rootR (⟨1, 99, []⟩ : Vl) = (⟨1, 9, []⟩, 0) := by
    unfold rootR; rw [num_one]; dsimp only; rw [if_neg (by decide)]
    rw [show isq (99 : Int).natAbs = 9 from isq_uniq (n := 99) (r := 9) (by decide) (by decide)]
    rw [of_small (by omega)]; rfl
  have e7 : ofR ([48, 48, 55] : List UInt8) = (Vl.zero, 31) := by
    have h : readZ [48, 48, 55] = none := by decide
    unfold ofR; rw [h]
  have e8 : gcdR (⟨1, 12, []⟩ : Vl) (⟨1, (-18), []⟩ : Vl) = (⟨1, 6, []⟩, 0) := by
    unfold gcdR; rw [opR_some (num_one _) (num_one _)]
    exact (limZ_ok' (z := 6) (nd20 (by decide))).trans (by rw [of_small (by omega)])
  unfold awake_s11 awake_s10 awake_s9 awake_s8 awake_s7 awake_s6 awake_s5 awake_s4 awake_s3 awake_s2 awake_s1 awake_s0
  simp only [e0, e1, e2, e3, e4, e5, e6, e7, e8]
  rw [of_big (z := 9223372036854775808) (by omega), of_big (z := 18446744073709551616) (by omega), itoa63, itoa64]
  decide
end Go.Proofs.YthjpbbbmnmhmmaaGreatDoor
