import Derived.Test.YthjpbbbmnmhmmaaGreatDoorM1
set_option linter.unusedVariables false
set_option linter.unusedSimpArgs false
namespace Go.Proofs.YthjpbbbmnmhmmaaGreatDoor

theorem rd_set_eq {zs : List Int} {j : Nat} (h : j < zs.length) (v : Int) : rd (zs.set j v) j = v := by simp [rd, h]
theorem rd_set_ne {zs : List Int} {j k : Nat} (h : j ≠ k) (v : Int) : rd (zs.set j v) k = rd zs k := by simp [rd, List.getElem?_set_ne h]

theorem val_set_add : ∀ (zs : List Int) (j : Nat) (d : Int), j < zs.length → val (zs.set j (rd zs j + d)) = val zs + d * 1000000 ^ j
  | [], j, d, h => by simp at h
  | z :: zs, 0, d, h => by simp [rd, val]; omega
  | z :: zs, j + 1, d, h => by
    have := val_set_add zs j d (by simpa using h)
    simp only [List.set_cons_succ, val]
    have e : rd (z :: zs) (j + 1) = rd zs j := by simp [rd]
    rw [e, this, Int.pow_succ, Int.mul_add, Int.mul_comm (1000000 ^ j) 1000000, ← Int.mul_assoc d, Int.mul_comm d 1000000, Int.mul_assoc 1000000 d]
    omega

theorem val_take_succ {xs : List Int} {i : Nat} (h : i < xs.length) : val (xs.take (i + 1)) = val (xs.take i) + rd xs i * 1000000 ^ i := by
  rw [List.take_succ_eq_append_getElem h, val_append, List.length_take, Nat.min_eq_left (Nat.le_of_lt h), rd_lt h]
  simp [val, Int.mul_comm]

theorem val_replicate (n : Nat) : val (List.replicate n 0) = 0 := by
  induction n with
  | zero => rfl
  | succ n ih => simp [List.replicate_succ, val, ih]

/-- What the sums of products hold when i rounds of the outer loop and k of the inner one are over. -/
structure Prods (xs ys : List Int) (i k : Nat) (zs : List Int) : Prop where
  len : zs.length = xs.length + ys.length
  v : val zs = val (xs.take i) * val ys + rd xs i * val (ys.take k) * 1000000 ^ i
  lo : ∀ j, 0 ≤ rd zs j
  hi : ∀ j, j < i + k → rd zs j ≤ (i + 1 : Nat) * 1000000000000
  hj : ∀ j, i + k ≤ j → rd zs j ≤ (i : Nat) * 1000000000000

theorem Prods.start (xs ys : List Int) : Prods xs ys 0 0 (List.replicate (xs.length + ys.length) 0) := by
  refine ⟨by simp, by simp [val_replicate, val], fun j => ?_, fun j h => absurd h (by omega), fun j _ => ?_⟩ <;>
  · have : rd (List.replicate (xs.length + ys.length) (0 : Int)) j = 0 := by
      unfold rd; rw [List.getElem?_replicate]; split <;> rfl
    rw [this]; simp

theorem Prods.step {xs ys zs : List Int} {i k : Nat} (h : Prods xs ys i k zs) (hx : InR xs) (hy : InR ys) (hi : i < xs.length) (hk : k < ys.length) :
    Prods xs ys i (k + 1) (zs.set (i + k) (rd zs (i + k) + rd xs i * rd ys k)) := by
  have hl : i + k < zs.length := by have := h.len; omega
  have b1 := InR.at hx i
  have b2 := InR.at hy k
  have p0 : 0 ≤ rd xs i * rd ys k := Int.mul_nonneg b1.1 b2.1
  have p1 : rd xs i * rd ys k ≤ 1000000 * 1000000 := Int.mul_le_mul (by omega) (by omega) b2.1 (by decide)
  refine ⟨by simpa using h.len, ?_, fun j => ?_, fun j hj => ?_, fun j hj => ?_⟩
  · rw [val_set_add _ _ _ hl, h.v, val_take_succ hk, Int.pow_add, Int.mul_add (rd xs i), Int.add_mul (rd xs i * val (List.take k ys)), Int.add_assoc,
      Int.mul_comm ((1000000 : Int) ^ i) (1000000 ^ k), ← Int.mul_assoc (rd xs i * rd ys k), ← Int.mul_assoc (rd xs i) (rd ys k)]
  · by_cases e : i + k = j
    · subst e; rw [rd_set_eq hl]; have := h.lo (i + k); omega
    · rw [rd_set_ne e]; exact h.lo j
  · by_cases e : i + k = j
    · subst e; rw [rd_set_eq hl]; have := h.hj (i + k) (Nat.le_refl _); omega
    · rw [rd_set_ne e]; exact h.hi j (by omega)
  · rw [rd_set_ne (by omega)]; exact h.hj j (by omega)

theorem Prods.next {xs ys zs : List Int} {i : Nat} (h : Prods xs ys i ys.length zs) (hi : i < xs.length) : Prods xs ys (i + 1) 0 zs := by
  refine ⟨h.len, ?_, h.lo, fun j hj => ?_, fun j hj => ?_⟩
  · rw [h.v, val_take_succ hi]; simp only [List.take_length, List.take_zero, val]; rw [Int.add_mul, Int.mul_assoc (rd xs i), Int.mul_comm (val ys), ← Int.mul_assoc (rd xs i)]; simp
  · by_cases e : j < i + ys.length
    · have := h.hi j e; omega
    · have := h.hj j (by omega); omega
  · by_cases e : j < i + ys.length
    · have := h.hi j e; omega
    · have := h.hj j (by omega); omega

theorem Prods.done {xs ys zs : List Int} (h : Prods xs ys xs.length 0 zs) : val zs = val xs * val ys := by
  rw [h.v]; simp [val]
end Go.Proofs.YthjpbbbmnmhmmaaGreatDoor
