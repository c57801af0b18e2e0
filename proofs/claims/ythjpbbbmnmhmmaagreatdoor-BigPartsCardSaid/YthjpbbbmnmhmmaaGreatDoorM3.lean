import Derived.Test.YthjpbbbmnmhmmaaGreatDoorA2
import Derived.Test.YthjpbbbmnmhmmaaGreatDoorM2
set_option linter.unusedVariables false
set_option linter.unusedSimpArgs false
namespace Go.Proofs.YthjpbbbmnmhmmaaGreatDoor

theorem cmpI_self (x : Int) : cmpI x x = 0 := by unfold cmpI; rw [if_neg (by omega), if_neg (by omega)]
theorem cmpI_zero {x y : Int} : cmpI x y = 0 ↔ x = y := by unfold cmpI; split; · constructor <;> intro h <;> omega
                                                           split <;> constructor <;> intro h <;> omega

theorem cmpDown_cons (x y : Int) (xs ys : List Int) (k : Nat) : cmpDown (x :: xs) (y :: ys) (k + 1) = if cmpDown xs ys k = 0 then cmpI x y else cmpDown xs ys k := by
  induction k with
  | zero =>
    have e1 : rd (x :: xs) 0 = x := by simp [rd]
    have e2 : rd (y :: ys) 0 = y := by simp [rd]
    rw [cmpDown, cmpDown, cmpDown, e1, e2, if_pos rfl]
    by_cases h : x = y
    · rw [if_pos h]; exact (cmpI_zero.2 h).symm
    · rw [if_neg h]
  | succ k ih =>
    have e1 : rd (x :: xs) (k + 1) = rd xs k := by simp [rd]
    have e2 : rd (y :: ys) (k + 1) = rd ys k := by simp [rd]
    rw [cmpDown, e1, e2, ih]
    conv => rhs; rw [cmpDown]
    by_cases h : rd xs k = rd ys k
    · rw [if_pos h, if_pos h]
    · rw [if_neg h, if_neg h, if_neg (fun e => h (cmpI_zero.1 e))]

theorem cmpDown_dig : ∀ (a b : Nat), (dig a).length = (dig b).length → cmpDown (dig a) (dig b) (dig a).length = cmpI a b := by
  intro a
  induction a using Nat.strongRecOn with
  | _ a ih =>
    intro b h
    by_cases ha : a = 0
    · subst ha
      have hb : b = 0 := by
        rw [dig_zero] at h
        by_cases hb : b = 0
        · exact hb
        · rw [dig_pos hb] at h; simp at h
      subst hb; rw [dig_zero]; simp only [List.length_nil, cmpDown]; rw [cmpI_self]
    · have hb : b ≠ 0 := by intro e; subst e; rw [dig_zero, dig_pos ha] at h; simp at h
      rw [dig_pos ha, dig_pos hb] at h ⊢
      simp only [List.length_cons] at h ⊢
      rw [cmpDown_cons, ih (a / 1000000) (by omega) (b / 1000000) (by omega)]
      unfold cmpI
      repeat' split
      all_goals omega

theorem cmp_dig (a b : Nat) : (if (dig a).length = (dig b).length then cmpDown (dig a) (dig b) (dig a).length else cmpI ((dig a).length : Int) ((dig b).length : Int)) = cmpI a b := by
  by_cases h : (dig a).length = (dig b).length
  · rw [if_pos h, cmpDown_dig a b h]
  · rw [if_neg h]
    rcases Nat.lt_or_ge a b with hab | hab
    · have := dig_len_mono (Nat.le_of_lt hab)
      unfold cmpI; rw [if_pos (by omega), if_pos (by omega)]
    · have := dig_len_mono hab
      have hne : a ≠ b := by intro e; subst e; exact h rfl
      unfold cmpI; rw [if_neg (by omega), if_pos (by omega), if_neg (by omega), if_pos (by omega)]
end Go.Proofs.YthjpbbbmnmhmmaaGreatDoor
