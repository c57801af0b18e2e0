import Derived.Test.YthjpbbbmnmhmmaaGreatDoorM6
set_option linter.unusedVariables false
set_option linter.unusedSimpArgs false
namespace Go.Proofs.YthjpbbbmnmhmmaaGreatDoor

/-- The greatest number whose square is at most n. -/
def isq : Nat → Nat
  | 0 => 0
  | n + 1 => if (isq n + 1) * (isq n + 1) ≤ n + 1 then isq n + 1 else isq n

theorem isq_spec : ∀ n, isq n * isq n ≤ n ∧ n < (isq n + 1) * (isq n + 1)
  | 0 => by simp [isq]
  | n + 1 => by
    obtain ⟨h1, h2⟩ := isq_spec n
    rw [isq]
    split
    · rename_i h
      refine ⟨h, ?_⟩
      have e : (isq n + 1 + 1) * (isq n + 1 + 1) = (isq n + 1) * (isq n + 1) + 2 * (isq n + 1) + 1 := by
        rw [Nat.mul_add, Nat.add_mul]; omega
      omega
    · omega

theorem sq_mono {a b : Nat} (h : a ≤ b) : a * a ≤ b * b := Nat.mul_le_mul h h

theorem isq_uniq {n r : Nat} (h1 : r * r ≤ n) (h2 : n < (r + 1) * (r + 1)) : isq n = r := by
  obtain ⟨a, b⟩ := isq_spec n
  have c1 : ¬ isq n + 1 ≤ r := fun h => by have := sq_mono h; omega
  have c2 : ¬ r + 1 ≤ isq n := fun h => by have := sq_mono h; omega
  omega

theorem isq_le {n r : Nat} (h : n < (r + 1) * (r + 1)) : isq n ≤ r := by
  obtain ⟨a, b⟩ := isq_spec n
  have c2 : ¬ r + 1 ≤ isq n := fun h => by have := sq_mono h; omega
  omega

theorem amgm (a b : Nat) : 4 * (a * b) ≤ (a + b) * (a + b) := by
  rcases Nat.le_total a b with h | h
  · obtain ⟨d, rfl⟩ : ∃ d, b = a + d := ⟨b - a, by omega⟩
    rw [show (a + (a + d)) * (a + (a + d)) = 4 * (a * (a + d)) + d * d by
      simp only [Nat.mul_add, Nat.add_mul]
      rw [Nat.mul_comm d a]; omega]
    omega
  · obtain ⟨d, rfl⟩ : ∃ d, a = b + d := ⟨a - b, by omega⟩
    rw [show (b + d + b) * (b + d + b) = 4 * ((b + d) * b) + d * d by
      simp only [Nat.mul_add, Nat.add_mul]
      rw [Nat.mul_comm d b]; omega]
    omega

/-- A step from above doesn't pass the root. -/
theorem newton_ge {x r : Nat} (hr : 0 < r) : isq x ≤ (r + x / r) / 2 := by
  refine isq_le ?_
  obtain ⟨q, hq⟩ : ∃ q, x / r = q := ⟨_, rfl⟩
  rw [hq]
  obtain ⟨m, hm⟩ : ∃ m, (r + q) / 2 = m := ⟨_, rfl⟩
  rw [hm]
  have h1 : x < r * (q + 1) := by
    have := Nat.lt_mul_div_succ x hr
    rw [hq] at this; exact this
  have h2 := amgm r (q + 1)
  have h3 : r + (q + 1) ≤ 2 * (m + 1) := by omega
  have h4 := sq_mono h3
  have h5 : 2 * (m + 1) * (2 * (m + 1)) = 4 * ((m + 1) * (m + 1)) := by
    rw [Nat.mul_mul_mul_comm]
  omega

/-- A step that leads no nearer stands at the root. -/
theorem newton_end {x r : Nat} (hr : 0 < r) (hs : isq x ≤ r) (h : r ≤ (r + x / r) / 2) : r = isq x := by
  have h1 : r ≤ x / r := by omega
  have h2 : r * r ≤ x := by
    have := Nat.mul_le_mul_left r h1
    exact Nat.le_trans this (Nat.mul_div_le x r)
  obtain ⟨a, b⟩ := isq_spec x
  have c1 : ¬ isq x + 1 ≤ r := fun h => by have := sq_mono h; omega
  omega

theorem newton_zero {r : Nat} : (r + 0 / r) / 2 = r / 2 := by simp

theorem isq_zero_iff {x : Nat} : isq x = 0 ↔ x = 0 := by
  obtain ⟨a, b⟩ := isq_spec x
  constructor
  · intro h; rw [h] at b; omega
  · rintro rfl; rfl

theorem isq_self_le (x : Nat) : isq x ≤ x := by
  obtain ⟨a, b⟩ := isq_spec x
  rcases Nat.eq_zero_or_pos (isq x) with h | h
  · omega
  · exact Nat.le_trans (Nat.le_mul_of_pos_right _ h) a

theorem isq_lt_pow {x k : Nat} (h : x < 1000000 ^ k) : isq x < 1000000 ^ (k / 2 + 1) := by
  obtain ⟨a, b⟩ := isq_spec x
  rcases Nat.lt_or_ge (isq x) (1000000 ^ (k / 2 + 1)) with h' | h'
  · exact h'
  · have h1 := sq_mono h'
    rw [← Nat.pow_add] at h1
    have h2 : (1000000 : Nat) ^ k ≤ 1000000 ^ (k / 2 + 1 + (k / 2 + 1)) := Nat.pow_le_pow_right (by decide) (by omega)
    omega

theorem dig_lt_pow (n : Nat) : n < 1000000 ^ (dig n).length := by
  induction n using Nat.strongRecOn with
  | ind n ih =>
    by_cases h : n = 0
    · subst h; simp [dig]
    · rw [dig]
      simp only [h, dite_false, List.length_cons, Nat.pow_succ]
      have := ih (n / 1000000) (by omega)
      omega

theorem dig_pow (k : Nat) : dig (1000000 ^ k) = List.replicate k 0 ++ [1] := by
  induction k with
  | zero => decide +kernel
  | succ k ih =>
    have h0 : 0 < 1000000 ^ k := Nat.pow_pos (by decide)
    rw [dig, dif_neg (by rw [Nat.pow_succ]; omega)]
    have e1 : 1000000 ^ (k + 1) % 1000000 = 0 := by rw [Nat.pow_succ]; omega
    have e2 : 1000000 ^ (k + 1) / 1000000 = 1000000 ^ k := by rw [Nat.pow_succ]; omega
    rw [e1, e2, ih, List.replicate_succ]
    rfl
end Go.Proofs.YthjpbbbmnmhmmaaGreatDoor
