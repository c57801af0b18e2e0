import Derived.Test.YthjpbbbmnmhmmaaGreatDoorM5
set_option linter.unusedVariables false
set_option linter.unusedSimpArgs false
namespace Go.Proofs.YthjpbbbmnmhmmaaGreatDoor

theorem fdiv_uniq {x y q r : Int} (h : x = y * q + r) (hr : (0 ≤ r ∧ r < y) ∨ (y < r ∧ r ≤ 0)) : x.fdiv y = q ∧ x.fmod y = r := by
  have key : ∀ {x y q r : Int}, x = y * q + r → 0 ≤ r → r < y → x.fdiv y = q := by
    intro x y q r h h0 h1
    rw [Int.fdiv_eq_ediv_of_nonneg _ (by omega)]
    exact ((Int.ediv_emod_unique (a := x) (b := y) (r := r) (q := q) (by omega)).2 ⟨by omega, h0, h1⟩).1
  have hq : x.fdiv y = q := by
    rcases hr with ⟨h0, h1⟩ | ⟨h0, h1⟩
    · exact key h h0 h1
    · rw [← Int.neg_fdiv_neg]
      exact key (x := -x) (y := -y) (q := q) (r := -r) (by rw [Int.neg_mul]; omega) (by omega) (by omega)
  exact ⟨hq, by rw [Int.fmod_def, hq]; omega⟩

theorem floor_facts (x y : Int) (hy : y ≠ 0) :
    (if decide (x < 0) = decide (y < 0) ∨ x.natAbs % y.natAbs = 0 then
      x.fdiv y = (if (decide (x < 0) != decide (y < 0)) then -((x.natAbs / y.natAbs : Nat) : Int) else ((x.natAbs / y.natAbs : Nat) : Int)) ∧
      x.fmod y = (if decide (y < 0) then -((x.natAbs % y.natAbs : Nat) : Int) else ((x.natAbs % y.natAbs : Nat) : Int))
    else x.fdiv y = -((x.natAbs / y.natAbs + 1 : Nat) : Int) ∧
      x.fmod y = (if decide (y < 0) then -((y.natAbs - x.natAbs % y.natAbs : Nat) : Int) else ((y.natAbs - x.natAbs % y.natAbs : Nat) : Int))) := by
  obtain ⟨m, hm⟩ : ∃ m, x.natAbs = m := ⟨_, rfl⟩
  obtain ⟨n, hn⟩ : ∃ n, y.natAbs = n := ⟨_, rfl⟩
  rw [hm, hn]
  have hn0 : 0 < n := by omega
  have hdm := Nat.div_add_mod m n
  have hml := Nat.mod_lt m hn0
  obtain ⟨q, hq⟩ : ∃ q, m / n = q := ⟨_, rfl⟩
  obtain ⟨r, hr⟩ : ∃ r, m % n = r := ⟨_, rfl⟩
  rw [hq, hr] at hdm ⊢
  rw [hr] at hml
  have hd : (n : Int) * (q : Int) + (r : Int) = (m : Int) := by rw [← hdm]; simp
  obtain ⟨P, hP⟩ : ∃ P : Int, (n : Int) * (q : Int) = P := ⟨_, rfl⟩
  rw [hP] at hd
  have e1 : ∀ s : Int, (-(n : Int)) * s = -((n : Int) * s) := fun s => Int.neg_mul _ _
  have e2 : ∀ s : Int, (n : Int) * (-s) = -((n : Int) * s) := fun s => Int.mul_neg _ _
  by_cases hx : x < 0
  · have hxm : x = -(m : Int) := by omega
    by_cases hyn : y < 0
    · have hyy : y = -(n : Int) := by omega
      simp only [hx, hyn, decide_true, true_or, if_true, bne_self_eq_false, Bool.false_eq_true, if_false]
      exact fdiv_uniq (by rw [hyy, e1, hP]; omega) (.inr ⟨by omega, by omega⟩)
    · have hyy : y = (n : Int) := by omega
      simp only [hx, hyn, decide_true, decide_false, Bool.true_eq_false, false_or, Bool.false_eq_true, if_false]
      by_cases h0 : r = 0
      · rw [if_pos h0]
        exact fdiv_uniq (q := -(q : Int)) (by rw [hyy, e2, hP]; omega) (.inl ⟨by omega, by omega⟩)
      · rw [if_neg h0]
        refine fdiv_uniq ?_ (.inl ⟨by omega, by omega⟩)
        rw [hyy, e2, Int.natCast_add, Int.mul_add, hP]
        simp; omega
  · have hxm : x = (m : Int) := by omega
    by_cases hyn : y < 0
    · have hyy : y = -(n : Int) := by omega
      simp only [hx, hyn, decide_true, decide_false, Bool.false_eq_true, false_or, if_true]
      by_cases h0 : r = 0
      · rw [if_pos h0]
        exact fdiv_uniq (q := -(q : Int)) (by rw [hyy, e1, e2, hP]; omega) (.inr ⟨by omega, by omega⟩)
      · rw [if_neg h0]
        refine fdiv_uniq ?_ (.inr ⟨by omega, by omega⟩)
        rw [hyy, e1, e2, Int.natCast_add, Int.mul_add, hP]
        simp; omega
    · have hyy : y = (n : Int) := by omega
      simp only [hx, hyn, decide_false, true_or, if_true, bne_self_eq_false, Bool.false_eq_true, if_false]
      exact fdiv_uniq (by rw [hyy, hP]; omega) (.inl ⟨by omega, by omega⟩)
end Go.Proofs.YthjpbbbmnmhmmaaGreatDoor
