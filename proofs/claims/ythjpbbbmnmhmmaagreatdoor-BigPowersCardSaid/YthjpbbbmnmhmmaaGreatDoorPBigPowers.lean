import Derived.Test.YthjpbbbmnmhmmaaGreatDoorLBigPowers
import Derived.Test.YthjpbbbmnmhmmaaGreatDoorM10
set_option linter.unusedVariables false
set_option linter.unusedSimpArgs false
namespace Go.Proofs.YthjpbbbmnmhmmaaGreatDoor
open Go.RowKit Go.Shelf Go.Lib

theorem powR_some {a : Vl} {x n : Int} (ha : a.num = some x) (h0 : 0 ≤ n) (h1 : n ≤ 2000) : powR a n = limZ (x ^ n.toNat) := by
  unfold powR; rw [ha]; dsimp only; rw [if_neg (by omega)]
theorem powR_zero {a : Vl} {n : Int} (h0 : 0 ≤ n) (h1 : n ≤ 2000) (h : (powR a n).2 = 0) : ∃ x, a.num = some x ∧ Nd (x ^ n.toNat) ∧ powR a n = (Vl.of (x ^ n.toNat), 0) := by
  cases ha : a.num with
  | none => unfold powR at h; rw [ha] at h; simp at h
  | some x =>
    rw [powR_some ha h0 h1] at h ⊢
    obtain ⟨h2, h3⟩ := limZ_zero h
    exact ⟨x, rfl, h2, h3⟩
theorem int_mul_pow (a b : Int) : ∀ n : Nat, (a * b) ^ n = a ^ n * b ^ n
  | 0 => by simp
  | n + 1 => by
    rw [Int.pow_succ, Int.pow_succ, Int.pow_succ, int_mul_pow a b n]
    rw [Int.mul_assoc, Int.mul_assoc, ← Int.mul_assoc (b ^ n), ← Int.mul_assoc a (b ^ n), Int.mul_comm (b ^ n) a]

/-- The end of the law: a power of a product. -/
theorem powers_end {x y : Vl} {n : Int} (h0 : 0 ≤ n) (h1 : n ≤ 2000) :
    (true && ((((!((powR x n).2 == 0)) || (!((powR y n).2 == 0))) || (!((mulR x y).2 == 0))) || (((powR (mulR x y).1 n).2 == (mulR (powR x n).1 (powR y n).1).2) && (veq (powR (mulR x y).1 n).1 (mulR (powR x n).1 (powR y n).1).1)))) = true := by
  by_cases e0 : (powR x n).2 = 0
  case neg => simp [e0]
  by_cases e1 : (powR y n).2 = 0
  case neg => simp [e1]
  by_cases e2 : (mulR x y).2 = 0
  case neg => simp [e2]
  obtain ⟨a, ha, hn, q0⟩ := powR_zero h0 h1 e0
  obtain ⟨b, hb, hm, q1⟩ := powR_zero h0 h1 e1
  obtain ⟨a', b', ha', hb', hp, q2⟩ := mulR_zero e2
  obtain rfl : a = a' := Option.some.inj (ha.symm.trans ha')
  obtain rfl : b = b' := Option.some.inj (hb.symm.trans hb')
  rw [q0, q1, q2, powR_some (num_of hp) h0 h1, mulR_some (num_of hn) (num_of hm), int_mul_pow]
  simp [veq_refl]

theorem BigPowers_true (x y : Vl) (n m : Int) (hx : x.inp) (hy : y.inp) (hn : Small64 n) (hm : Small64 m) : BigPowers_s18 x y n m = true := by
  unfold BigPowers_s18
  by_cases hs : ((((((!(shortB x)) || (!(shortB y))) || (decide ((n : Int) < 0))) || (decide ((m : Int) < 0))) || (decide ((1000 : Int) < n))) || (decide ((1000 : Int) < m))) = true
  · rw [if_pos hs]; rfl
  rw [if_neg hs]
  have hs' : 0 ≤ n ∧ 0 ≤ m ∧ n ≤ 1000 ∧ m ≤ 1000 := by
    simp only [Bool.or_eq_true, decide_eq_true_eq, not_or] at hs
    omega
  obtain ⟨n0, m0, n1, m1⟩ := hs'
  unfold BigPowers_s17 BigPowers_s16 BigPowers_s15
  rw [show wrap64 (n + m) = n + m by unfold wrap64; omega]
  unfold BigPowers_s14
  by_cases h : (((powR x n).2 == 0) && ((powR x m).2 == 0)) = true
  · rw [if_pos h]
    unfold BigPowers_s8 BigPowers_s7
    rw [if_neg (by
      intro hh
      simp only [Bool.and_eq_true, beq_iff_eq] at h
      obtain ⟨a, ha, hn, q0⟩ := powR_zero n0 (by omega) h.1
      obtain ⟨a', ha', hm, q1⟩ := powR_zero m0 (by omega) h.2
      obtain rfl : a = a' := Option.some.inj (ha.symm.trans ha')
      rw [q0, q1, mulR_some (num_of hn) (num_of hm), powR_some ha (by omega) (by omega), ← Int.pow_add, show n.toNat + m.toNat = (n + m).toNat by omega] at hh
      simp [veq_refl] at hh)]
    unfold BigPowers_s6 BigPowers_s5 BigPowers_s4 BigPowers_s3 BigPowers_s2
    exact powers_end n0 (by omega)
  · rw [if_neg h]
    unfold BigPowers_s13 BigPowers_s12 BigPowers_s11 BigPowers_s10 BigPowers_s9
    exact powers_end n0 (by omega)
end Go.Proofs.YthjpbbbmnmhmmaaGreatDoor
