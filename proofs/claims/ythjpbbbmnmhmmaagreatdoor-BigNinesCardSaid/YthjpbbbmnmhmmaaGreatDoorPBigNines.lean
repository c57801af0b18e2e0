import Derived.Test.YthjpbbbmnmhmmaaGreatDoorLBigNines
import Derived.Test.YthjpbbbmnmhmmaaGreatDoorM10
set_option linter.unusedVariables false
set_option linter.unusedSimpArgs false
namespace Go.Proofs.YthjpbbbmnmhmmaaGreatDoor
open Go.RowKit Go.Shelf Go.Lib

theorem textR_some {a : Vl} {x : Int} (ha : a.num = some x) : textR a = (itoa x, 0) := by unfold textR; rw [ha]
theorem textR_none {a : Vl} (ha : a.num = none) : textR a = ([], 31) := by unfold textR; rw [ha]

theorem nbyte_dig {r : Nat} (h : r < 10) : nbyte (UInt8.ofNat (48 + r)) = r := by
  have : r = 0 ∨ r = 1 ∨ r = 2 ∨ r = 3 ∨ r = 4 ∨ r = 5 ∨ r = 6 ∨ r = 7 ∨ r = 8 ∨ r = 9 := by omega
  rcases this with rfl | rfl | rfl | rfl | rfl | rfl | rfl | rfl | rfl | rfl <;> decide
theorem nsum_dec (n : Nat) : nsum (decDigits n) % 9 = (n : Int) % 9 := by
  induction n using Nat.strongRecOn with
  | ind n ih =>
    by_cases h : n < 10
    · rw [decDigits_one h]
      simp only [nsum, nbyte_dig h]
      omega
    · rw [decDigits_big h, nsum_app]
      have h1 := ih (n / 10) (by omega)
      simp only [nsum, nbyte_dig (Nat.mod_lt n (by decide : 10 > 0))]
      omega
theorem nine_itoa (z : Int) : nineI (itoa z) = z % 9 := by
  unfold itoa
  by_cases h : z < 0
  · rw [if_pos h]
    have h1 := nsum_dec z.natAbs
    unfold nineI
    rw [if_pos (by rfl)]
    have h2 : nsum (45 :: decDigits z.natAbs) = nsum (decDigits z.natAbs) := by simp [nsum, nbyte]
    rw [h2]
    omega
  · rw [if_neg h]
    have h1 := nsum_dec z.toNat
    unfold nineI
    rw [if_neg (digit_not_minus z.toNat)]
    omega

theorem BigNines_true (x y : Vl) (hx : x.inp) (hy : y.inp) : BigNines_s12 x y = true := by
  unfold BigNines_s12
  by_cases hs : ((!(shortB x)) || (!(shortB y))) = true
  · rw [if_pos hs]; rfl
  rw [if_neg hs]
  unfold BigNines_s11 BigNines_s10 BigNines_s9
  cases ha : x.num with
  | none => rw [textR_none ha, if_pos (by simp)]; rfl
  | some a =>
    cases hb : y.num with
    | none => rw [textR_none hb, if_pos (by simp)]; rfl
    | some b =>
      rw [textR_some ha, textR_some hb, if_neg (by simp)]
      unfold BigNines_s8 BigNines_s7 BigNines_s6 BigNines_s5 BigNines_s4
      rw [if_neg (by
        intro h
        simp only [Bool.and_eq_true, beq_iff_eq] at h
        obtain ⟨h1, h2⟩ := h
        obtain ⟨a', b', ha', hb', n1, q1⟩ := addR_zero h1
        obtain rfl : a = a' := Option.some.inj (ha.symm.trans ha')
        obtain rfl : b = b' := Option.some.inj (hb.symm.trans hb')
        rw [q1, textR_some (num_of n1)] at h2
        dsimp only at h2
        rw [nine_itoa, nine_itoa, nine_itoa, ← Int.add_emod] at h2
        simp at h2)]
      unfold BigNines_s3
      by_cases h : (mulR x y).2 = 0
      case neg => simp [h]
      obtain ⟨a', b', ha', hb', n1, q1⟩ := mulR_zero h
      obtain rfl : a = a' := Option.some.inj (ha.symm.trans ha')
      obtain rfl : b = b' := Option.some.inj (hb.symm.trans hb')
      rw [q1, textR_some (num_of n1)]
      dsimp only
      rw [nine_itoa, nine_itoa, nine_itoa, ← Int.mul_emod]
      simp
end Go.Proofs.YthjpbbbmnmhmmaaGreatDoor
