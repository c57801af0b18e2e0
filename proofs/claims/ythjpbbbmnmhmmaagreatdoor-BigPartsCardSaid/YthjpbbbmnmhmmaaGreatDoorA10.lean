import Derived.Test.YthjpbbbmnmhmmaaGreatDoorA9
import Derived.Test.YthjpbbbmnmhmmaaGreatDoorM3
set_option linter.unusedVariables false
set_option linter.unusedSimpArgs false
namespace Go.Proofs.YthjpbbbmnmhmmaaGreatDoor
open Go.RowKit Go.Shelf

theorem compareN_calls (va vb : Value) (m n : Nat) (w : World) (ha : RI w va (dig m)) (hb : RI w vb (dig n)) :
    Calls Tryz.prog 63 #[va, vb] w fun e w' => e = .returned (.int .i64 (cmpI m n)) ∧ Below w.heap.size w w' := by
  have := compare_calls va vb (dig m) (dig n) w ha hb
  rw [cmp_dig] at this
  exact this

/-- The state of the division when the digits from k on are done. -/
structure Dv (m n : Nat) (k R : Nat) (zs : List Int) : Prop where
  len : zs.length = (dig m).length
  rng : InR zs
  zero : ∀ j, j < k → rd zs j = 0
  q : ∃ A Q : Nat, val ((dig m).drop k) = A ∧ A = Q * n + R ∧ val zs = (Q : Int) * 1000000 ^ k
  r : R < n

theorem Dv.start (m n : Nat) (hn : n ≠ 0) : Dv m n (dig m).length 0 (List.replicate (dig m).length 0) := by
  refine ⟨by simp, fun x hx => by rw [List.eq_of_mem_replicate hx]; omega, fun j hj => by rw [rd_lt (by simpa using hj)]; simp, ⟨0, 0, by simp [val], by simp, by rw [val_replicate]; simp⟩, by omega⟩

theorem Dv.next {m n k R : Nat} {zs : List Int} (h : Dv m n (k + 1) R zs) (hk : k < (dig m).length) :
    (∃ x : Nat, rd (dig m) k = x ∧ x < 1000000 ∧ (∀ d : Nat, d * n ≤ x + 1000000 * R → x + 1000000 * R < (d + 1) * n → d < 1000000 → Dv m n k (x + 1000000 * R - d * n) (zs.set k d)) ∧
      (x + 1000000 * R < n → Dv m n k (x + 1000000 * R) zs)) := by
  have hx := InR.at (dig_inR m) k
  obtain ⟨x, ex⟩ := Int.eq_ofNat_of_zero_le hx.1
  obtain ⟨A, Q, h1, h2, h3⟩ := h.q
  have hl := h.len
  have hA : val ((dig m).drop k) = ((x + 1000000 * A : Nat) : Int) := by
    rw [List.drop_eq_getElem_cons hk, val, h1, ← rd_lt hk, ex]; simp
  have hz := h.zero k (by omega)
  refine ⟨x, ex, by omega, fun d hd1 hd2 hd3 => ?_, fun hlt => ?_⟩
  · refine ⟨by simpa using hl, fun y hy => ?_, fun j hj => ?_, ⟨x + 1000000 * A, 1000000 * Q + d, hA, ?_, ?_⟩, ?_⟩
    · rcases List.mem_or_eq_of_mem_set hy with hy | rfl
      · exact h.rng y hy
      · omega
    · rw [rd_set_ne (by omega)]; exact h.zero j (by omega)
    · subst h2
      rw [Nat.mul_add, Nat.add_mul, Nat.mul_assoc]; omega
    · have := val_set_add zs k d (by omega)
      rw [hz, Int.zero_add] at this
      rw [this, h3, Int.pow_succ]
      rw [show ((1000000 * Q + d : Nat) : Int) = 1000000 * (Q : Int) + d by omega]
      rw [Int.add_mul, Int.mul_comm ((1000000 : Int) ^ k) 1000000, ← Int.mul_assoc, Int.mul_comm (Q : Int) 1000000]
    · rw [Nat.add_mul] at hd2; omega
  · refine ⟨hl, h.rng, fun j hj => h.zero j (by omega), ⟨x + 1000000 * A, 1000000 * Q, hA, ?_, ?_⟩, hlt⟩
    · subst h2
      rw [Nat.mul_add, Nat.mul_assoc]; omega
    · rw [h3, Int.pow_succ]
      rw [show ((1000000 * Q : Nat) : Int) = 1000000 * (Q : Int) by omega]
      rw [Int.mul_comm ((1000000 : Int) ^ k) 1000000, ← Int.mul_assoc, Int.mul_comm (Q : Int) 1000000]

theorem Dv.done {m n R : Nat} {zs : List Int} (h : Dv m n 0 R zs) : (val zs).toNat = m / n ∧ R = m % n := by
  obtain ⟨A, Q, h1, h2, h3⟩ := h.q
  have hn : 0 < n := by have := h.r; omega
  rw [List.drop_zero, val_dig] at h1
  have : m = A := by omega
  subst this
  simp only [Int.pow_zero, Int.mul_one] at h3
  have e1 : m / n = Q := by rw [h2, Nat.mul_comm, Nat.mul_add_div hn, Nat.div_eq_of_lt h.r]; omega
  have e2 : m % n = R := by rw [h2, Nat.mul_comm, Nat.mul_add_mod, Nat.mod_eq_of_lt h.r]
  rw [h3, e1, e2]; simp
end Go.Proofs.YthjpbbbmnmhmmaaGreatDoor
