import Derived.Test.YthjpbbbmnmhmmaaGreatDoorLBigDivisors
import Derived.Test.YthjpbbbmnmhmmaaGreatDoorM10
set_option linter.unusedVariables false
set_option linter.unusedSimpArgs false
namespace Go.Proofs.YthjpbbbmnmhmmaaGreatDoor
open Go.RowKit Go.Shelf Go.Lib

theorem modR_some {a b : Vl} {x y : Int} (ha : a.num = some x) (hb : b.num = some y) (h : y ≠ 0) : modR a b = limZ (x.fmod y) := (opR_some ha hb).trans (if_neg h)
theorem modR_by0 {a b : Vl} {x : Int} (ha : a.num = some x) (hb : b.num = some 0) : modR a b = (Vl.zero, 30) := (opR_some ha hb).trans (if_pos rfl)
theorem nd_fmod {x y : Int} (hy : y ≠ 0) (h : Nd y) : Nd (x.fmod y) := nd_le (fmod_abs x y hy) h
theorem modR_zero {a b : Vl} (h : (modR a b).2 = 0) : ∃ x y, a.num = some x ∧ b.num = some y ∧ y ≠ 0 ∧ Nd (x.fmod y) ∧ modR a b = (Vl.of (x.fmod y), 0) := by
  obtain ⟨x, y, h1, h2, h3, h4⟩ := opR_zero h
  by_cases h0 : y = 0
  · subst h0; rw [show modF x 0 = (Vl.zero, 30) from if_pos rfl] at h3; simp at h3
  · rw [show modF x y = limZ (x.fmod y) from if_neg h0] at h3 h4
    obtain ⟨h5, h6⟩ := limZ_zero h3
    exact ⟨x, y, h1, h2, h0, h5, h4.trans h6⟩
theorem gcdR_some {a b : Vl} {x y : Int} (ha : a.num = some x) (hb : b.num = some y) : gcdR a b = limZ ((Nat.gcd x.natAbs y.natAbs : Nat) : Int) := opR_some ha hb
theorem fmod_dvd {x y : Int} (h : x.fmod y = 0) : y.natAbs ∣ x.natAbs := by
  have := Int.fmod_def x y
  rw [h] at this
  exact Int.natAbs_dvd_natAbs.2 ⟨x.fdiv y, by omega⟩
theorem dvd_fmod {x y : Int} (h : y.natAbs ∣ x.natAbs) : x.fmod y = 0 := by
  obtain ⟨k, hk⟩ := Int.natAbs_dvd_natAbs.1 h
  by_cases h0 : y = 0
  · subst h0; simp at hk; subst hk; simp
  · rw [Int.fmod_def, hk, Int.mul_fdiv_cancel_left _ h0]; omega
theorem gcd_fmod (x y : Int) : Nat.gcd y.natAbs (x.fmod y).natAbs = Nat.gcd x.natAbs y.natAbs := by
  have hd := Int.fmod_def x y
  apply Nat.dvd_antisymm
  · have h1 : ((Nat.gcd y.natAbs (x.fmod y).natAbs : Nat) : Int) ∣ y := Int.ofNat_dvd_left.2 (Nat.gcd_dvd_left _ _)
    have h2 : ((Nat.gcd y.natAbs (x.fmod y).natAbs : Nat) : Int) ∣ x.fmod y := Int.ofNat_dvd_left.2 (Nat.gcd_dvd_right _ _)
    have h3 : ((Nat.gcd y.natAbs (x.fmod y).natAbs : Nat) : Int) ∣ x := by
      have h4 := Int.dvd_add h2 (Int.dvd_mul_of_dvd_left (b := y) (c := x.fdiv y) h1)
      rw [show x.fmod y + y * x.fdiv y = x by omega] at h4
      exact h4
    exact Nat.dvd_gcd (Int.ofNat_dvd_left.1 h3) (Int.ofNat_dvd_left.1 h1)
  · have h1 : ((Nat.gcd x.natAbs y.natAbs : Nat) : Int) ∣ x := Int.ofNat_dvd_left.2 (Nat.gcd_dvd_left _ _)
    have h2 : ((Nat.gcd x.natAbs y.natAbs : Nat) : Int) ∣ y := Int.ofNat_dvd_left.2 (Nat.gcd_dvd_right _ _)
    have h3 : ((Nat.gcd x.natAbs y.natAbs : Nat) : Int) ∣ x.fmod y := by
      rw [hd]
      exact Int.dvd_sub h1 (Int.dvd_mul_of_dvd_left (b := y) (c := x.fdiv y) h2)
    exact Nat.dvd_gcd (Int.ofNat_dvd_left.1 h2) (Int.ofNat_dvd_left.1 h3)

/-- The end of the law. -/
theorem divisors_end {x y : Vl} {a b : Int} (oy : y.ok) (ha : x.num = some a) (hb : y.num = some b) (hg : Nd ((Nat.gcd a.natAbs b.natAbs : Nat) : Int)) (h : ¬ (!((modR x y).2 == 0)) = true) :
    ((true && ((gcdR y (modR x y).1).2 == 0)) && (veq (gcdR y (modR x y).1).1 (Vl.of ((Nat.gcd a.natAbs b.natAbs : Nat) : Int)))) = true := by
  obtain ⟨a', b', ha', hb', h0, n1, q1⟩ := modR_zero (show (modR x y).2 = 0 by simpa using h)
  obtain rfl : a = a' := Option.some.inj (ha.symm.trans ha')
  obtain rfl : b = b' := Option.some.inj (hb.symm.trans hb')
  rw [q1, gcdR_some hb (num_of n1), gcd_fmod, limZ_ok' hg]
  simp [veq_refl]

theorem BigDivisors_true (x y z : Vl) (hx : x.inp) (hy : y.inp) (hz : z.inp) : BigDivisors_s28 x y z = true := by
  unfold BigDivisors_s28
  by_cases hs : (((!(shortB x)) || (!(shortB y))) || (!(shortB z))) = true
  · rw [if_pos hs]; rfl
  rw [if_neg hs]
  have hs' : shortB x = true ∧ shortB y = true ∧ shortB z = true := by
    cases h1 : shortB x <;> cases h2 : shortB y <;> cases h3 : shortB z <;> simp_all
  have ox := short_ok hx hs'.1; have oy := short_ok hy hs'.2.1; have oz := short_ok hz hs'.2.2
  unfold BigDivisors_s27 BigDivisors_s26
  cases ha : x.num with
  | none =>
    have e : gcdR x y = (Vl.zero, 31) := opR_none1 ha
    rw [e]; simp [BigDivisors_s1]
  | some a =>
    cases hb : y.num with
    | none =>
      have e : gcdR x y = (Vl.zero, 31) := opR_none2 hb
      rw [e]; simp [BigDivisors_s1]
    | some b =>
      have na := nd_num ox ha
      have nb := nd_num oy hb
      obtain ⟨g, hg⟩ : ∃ g, Nat.gcd a.natAbs b.natAbs = g := ⟨_, rfl⟩
      have ng : Nd (g : Int) := by
        rw [← hg]
        by_cases h0 : a.natAbs = 0
        · rw [h0, Nat.gcd_zero_left]; exact nd_le (by simp) nb
        · exact nd_le (by rw [Int.natAbs_natCast]; exact Nat.gcd_le_left _ (by omega)) na
      have eg : gcdR x y = (Vl.of (g : Int), 0) := (gcdR_some ha hb).trans (by rw [hg, limZ_ok' ng])
      rw [eg, if_neg (by simp)]
      unfold BigDivisors_s25
      have hz : veq x (⟨1, 0, []⟩ : Vl) = decide (a = 0) := by rw [of_num ox ha, veq_zero na]
      have hz' : veq y (⟨1, 0, []⟩ : Vl) = decide (b = 0) := by rw [of_num oy hb, veq_zero nb]
      have hiff : g = 0 ↔ a = 0 ∧ b = 0 := by
        rw [← hg]
        constructor
        · intro h
          have h1 := Nat.eq_zero_of_gcd_eq_zero_left h
          have h2 := Nat.eq_zero_of_gcd_eq_zero_right h
          omega
        · rintro ⟨rfl, rfl⟩; rfl
      rw [if_neg (by
        dsimp only
        rw [negB_of, veq_zero ng, hz, hz']
        have e1 : decide ((g : Int) < 0) = false := by simp
        have e2 : decide ((g : Int) = 0) = (decide (a = 0) && decide (b = 0)) := by
          by_cases h : g = 0
          · obtain ⟨rfl, rfl⟩ := hiff.1 h; simp [h]
          · have h' : ¬ (a = 0 ∧ b = 0) := fun h2 => h (hiff.2 h2)
            have h3 : ¬ (g : Int) = 0 := by omega
            simp only [h3, decide_false]
            by_cases h4 : a = 0
            · have h5 : ¬ b = 0 := fun h5 => h' ⟨h4, h5⟩
              simp [h5]
            · simp [h4]
        rw [e1, e2]; simp)]
      unfold BigDivisors_s24
      by_cases hg0 : g = 0
      · rw [if_pos (by dsimp only; rw [veq_zero ng]; simpa using hg0)]; rfl
      have hg1 : (g : Int) ≠ 0 := by omega
      rw [if_neg (by dsimp only; rw [veq_zero ng]; simpa using hg0)]
      have d1 : a.fmod g = 0 := dvd_fmod (by rw [Int.natAbs_natCast, ← hg]; exact Nat.gcd_dvd_left _ _)
      have d2 : b.fmod g = 0 := dvd_fmod (by rw [Int.natAbs_natCast, ← hg]; exact Nat.gcd_dvd_right _ _)
      unfold BigDivisors_s23 BigDivisors_s22 BigDivisors_s21
      have e1 : modR x (Vl.of (g : Int)) = (⟨1, 0, []⟩, 0) := (modR_some ha (num_of ng) hg1).trans (by rw [d1, limZ_ok' nd_zero, of_zero])
      have e2 : modR y (Vl.of (g : Int)) = (⟨1, 0, []⟩, 0) := (modR_some hb (num_of ng) hg1).trans (by rw [d2, limZ_ok' nd_zero, of_zero])
      dsimp only
      rw [e1, e2, if_neg (by simp [veq_refl])]
      unfold BigDivisors_s20 BigDivisors_s19 BigDivisors_s18
      by_cases h : (((((modR x z).2 == 0) && ((modR y z).2 == 0)) && (veq (modR x z).1 (⟨1, 0, []⟩ : Vl))) && (veq (modR y z).1 (⟨1, 0, []⟩ : Vl))) = true
      · rw [if_pos h]
        simp only [Bool.and_eq_true, beq_iff_eq] at h
        obtain ⟨⟨⟨h1, h2⟩, h3⟩, h4⟩ := h
        obtain ⟨a', c, ha', hc, c0, n1, q1⟩ := modR_zero h1
        obtain ⟨b', c', hb', hc', _, n2, q2⟩ := modR_zero h2
        obtain rfl : a = a' := Option.some.inj (ha.symm.trans ha')
        obtain rfl : b = b' := Option.some.inj (hb.symm.trans hb')
        obtain rfl : c = c' := Option.some.inj (hc.symm.trans hc')
        rw [q1] at h3; rw [q2] at h4
        rw [veq_zero n1] at h3; rw [veq_zero n2] at h4
        have d3 : (g : Int).fmod c = 0 := dvd_fmod (by
          rw [Int.natAbs_natCast, ← hg]
          exact Nat.dvd_gcd (fmod_dvd (by simpa using h3)) (fmod_dvd (by simpa using h4)))
        unfold BigDivisors_s12 BigDivisors_s11
        have e3 : modR (Vl.of (g : Int)) z = (⟨1, 0, []⟩, 0) := (modR_some (num_of ng) hc c0).trans (by rw [d3, limZ_ok' nd_zero, of_zero])
        dsimp only
        rw [e3, if_neg (by simp [veq_refl])]
        unfold BigDivisors_s10 BigDivisors_s9
        by_cases h5 : (!((modR x y).2 == 0)) = true
        · rw [if_pos h5]; rfl
        rw [if_neg h5]
        unfold BigDivisors_s8 BigDivisors_s7
        have := divisors_end oy ha hb (by rw [hg]; exact ng) h5
        rw [hg] at this
        exact this
      · rw [if_neg h]
        unfold BigDivisors_s17 BigDivisors_s16
        by_cases h5 : (!((modR x y).2 == 0)) = true
        · rw [if_pos h5]; rfl
        rw [if_neg h5]
        unfold BigDivisors_s15 BigDivisors_s14
        have := divisors_end oy ha hb (by rw [hg]; exact ng) h5
        rw [hg] at this
        exact this
end Go.Proofs.YthjpbbbmnmhmmaaGreatDoor
