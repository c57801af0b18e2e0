import Derived.Test.YthjpbbbmnmhmmaaGreatDoorLBigFloor
import Derived.Test.YthjpbbbmnmhmmaaGreatDoorM10
set_option linter.unusedVariables false
set_option linter.unusedSimpArgs false
namespace Go.Proofs.YthjpbbbmnmhmmaaGreatDoor
open Go.RowKit Go.Shelf Go.Lib

theorem divR_some {a b : Vl} {x y : Int} (ha : a.num = some x) (hb : b.num = some y) (h : y ≠ 0) : divR a b = limZ (x.fdiv y) := (opR_some ha hb).trans (if_neg h)
theorem modR_some {a b : Vl} {x y : Int} (ha : a.num = some x) (hb : b.num = some y) (h : y ≠ 0) : modR a b = limZ (x.fmod y) := (opR_some ha hb).trans (if_neg h)
theorem divR_by0 {a b : Vl} {x : Int} (ha : a.num = some x) (hb : b.num = some 0) : divR a b = (Vl.zero, 30) := (opR_some ha hb).trans (if_pos rfl)
theorem modR_by0 {a b : Vl} {x : Int} (ha : a.num = some x) (hb : b.num = some 0) : modR a b = (Vl.zero, 30) := (opR_some ha hb).trans (if_pos rfl)

theorem fmod_sign {x y : Int} (hy : y ≠ 0) : (0 < y → 0 ≤ x.fmod y ∧ x.fmod y < y) ∧ (y < 0 → y < x.fmod y ∧ x.fmod y ≤ 0) := by
  have h := floor_facts x y hy
  have hm := Nat.mod_lt x.natAbs (show 0 < y.natAbs by omega)
  obtain ⟨k, hk⟩ : ∃ k, x.natAbs % y.natAbs = k := ⟨_, rfl⟩
  rw [hk] at h hm
  constructor
  · intro h0
    have e : decide (y < 0) = false := by simp; omega
    rw [e] at h
    split at h
    · rw [h.2]; simp; omega
    · rename_i hn
      have : k ≠ 0 := fun e => hn (.inr e)
      rw [h.2]; simp; omega
  · intro h0
    have e : decide (y < 0) = true := by simp; omega
    rw [e] at h
    split at h
    · rw [h.2]; simp; omega
    · rename_i hn
      have : k ≠ 0 := fun e => hn (.inr e)
      rw [h.2]; simp; omega
theorem nd_fmod {x y : Int} (hy : y ≠ 0) (h : Nd y) : Nd (x.fmod y) := nd_le (fmod_abs x y hy) h

theorem floor_last {x y : Vl} {a b : Int} (ox : x.ok) (ha : x.num = some a) (hb : y.num = some b) (h0 : b ≠ 0) (h : (mulR x y).2 = 0) :
    ((((true && ((divR (mulR x y).1 y).2 == 0)) && ((modR (mulR x y).1 y).2 == 0)) && (veq (divR (mulR x y).1 y).1 x)) && (veq (modR (mulR x y).1 y).1 (⟨1, 0, []⟩ : Vl))) = true := by
  obtain ⟨a', b', ha', hb', n1, q1⟩ := mulR_zero h
  obtain rfl : a = a' := Option.some.inj (ha.symm.trans ha')
  obtain rfl : b = b' := Option.some.inj (hb.symm.trans hb')
  have e1 : (a * b).fdiv b = a := Int.mul_fdiv_cancel a h0
  have e2 : (a * b).fmod b = 0 := by rw [Int.fmod_def, e1, Int.mul_comm b a]; omega
  rw [q1, divR_some (num_of n1) hb h0, modR_some (num_of n1) hb h0, e1, e2, limZ_ok' (nd_num ox ha), limZ_ok' nd_zero, ← of_num ox ha, ← of_zero]
  simp [veq_refl]

theorem floor_cond {x y : Vl} {a b : Int} (ha : x.num = some a) (hb : y.num = some b) (h0 : b ≠ 0) (nb : Nd b) (h1 : (divR x y).2 = 0) :
    ¬ (((((subR x (modR x y).1).2 == 0) && ((mulR y (divR x y).1).2 == 0)) && (!(veq (subR x (modR x y).1).1 (mulR y (divR x y).1).1))) = true) := by
  intro h
  simp only [Bool.and_eq_true, beq_iff_eq] at h
  obtain ⟨⟨h2, h3⟩, h4⟩ := h
  rw [divR_some ha hb h0] at h1 h3 h4
  obtain ⟨n1, q1⟩ := limZ_zero h1
  rw [modR_some ha hb h0, limZ_ok' (nd_fmod h0 nb), subR_some ha (num_of (nd_fmod h0 nb)), q1, mulR_some hb (num_of n1)] at h4
  rw [show a - a.fmod b = b * a.fdiv b by have := Int.fmod_def a b; omega] at h4
  simp [veq_refl] at h4

theorem BigFloor_true (x y : Vl) (hx : x.inp) (hy : y.inp) : BigFloor_s47 x y = true := by
  unfold BigFloor_s47
  by_cases hs : ((!(shortB x)) || (!(shortB y))) = true
  · rw [if_pos hs]; rfl
  rw [if_neg hs]
  have hs' : shortB x = true ∧ shortB y = true := by
    cases h1 : shortB x <;> cases h2 : shortB y <;> simp_all
  have ox := short_ok hx hs'.1; have oy := short_ok hy hs'.2
  unfold BigFloor_s46 BigFloor_s45 BigFloor_s44 BigFloor_s43
  cases ha : x.num with
  | none =>
    have e1 : divR x y = (Vl.zero, 31) := opR_none1 ha
    have e2 : modR x y = (Vl.zero, 31) := opR_none1 ha
    rw [e1, e2]
    unfold BigFloor_s42 BigFloor_s2
    simp
  | some a =>
    cases hb : y.num with
    | none =>
      have e1 : divR x y = (Vl.zero, 31) := opR_none2 hb
      have e2 : modR x y = (Vl.zero, 31) := opR_none2 hb
      rw [e1, e2]
      unfold BigFloor_s42 BigFloor_s2
      simp
    | some b =>
      by_cases h0 : b = 0
      · subst h0
        rw [divR_by0 ha hb, modR_by0 ha hb]
        unfold BigFloor_s42 BigFloor_s2
        rw [of_num oy hb, of_zero]
        simp [veq_refl]
      · have nb := nd_num oy hb
        have nr := nd_fmod (x := a) h0 nb
        have em : modR x y = (Vl.of (a.fmod b), 0) := (modR_some ha hb h0).trans (limZ_ok' nr)
        have hd : (divR x y).2 = 0 ∨ (divR x y).2 = 2 := by
          rw [divR_some ha hb h0]
          rcases limZ_err (a.fdiv b) with h | h
          · exact .inl h
          · exact .inr (by rw [h])
        rw [if_neg (by
          rw [em]
          rcases hd with h | h <;> simp [h])]
        unfold BigFloor_s42
        rw [if_neg (by rw [em]; simp)]
        unfold BigFloor_s41
        obtain ⟨sp, sn⟩ := fmod_sign (x := a) h0
        rw [if_neg (by
          rw [em, negB_of, negB_num oy hb, veq_zero nr]
          intro h
          simp at h
          obtain ⟨h1, h2⟩ := h
          rcases Int.lt_or_gt_of_ne h0 with hlt | hgt
          · have := sn hlt; exact h2 ⟨fun _ => hlt, fun _ => by omega⟩
          · have := sp hgt; exact h2 ⟨fun h => by omega, fun h => by omega⟩)]
        unfold BigFloor_s40 BigFloor_s39
        rw [negB_num oy hb]
        by_cases hneg : b < 0
        · rw [if_pos (by simpa using hneg)]
          unfold BigFloor_s21 BigFloor_s20
          have el : lessR y (modR x y).1 = (true, 0) := by
            rw [em, lessR_some hb (num_of nr)]; simp; exact (sn hneg).1
          rw [if_neg (by rw [el]; simp)]
          unfold BigFloor_s19
          by_cases h1 : ((divR x y).2 == 0) = true
          · rw [if_pos h1]
            unfold BigFloor_s13 BigFloor_s12 BigFloor_s11
            rw [if_neg (floor_cond ha hb h0 nb (by simpa using h1))]
            unfold BigFloor_s10
            by_cases h2 : (!((mulR x y).2 == 0)) = true
            · rw [if_pos h2]; rfl
            rw [if_neg h2]
            unfold BigFloor_s9 BigFloor_s8 BigFloor_s7
            exact floor_last ox ha hb h0 (by simpa using h2)
          · rw [if_neg h1]
            unfold BigFloor_s18
            by_cases h2 : (!((mulR x y).2 == 0)) = true
            · rw [if_pos h2]; rfl
            rw [if_neg h2]
            unfold BigFloor_s17 BigFloor_s16 BigFloor_s15
            exact floor_last ox ha hb h0 (by simpa using h2)
        · rw [if_neg (by simpa using hneg)]
          unfold BigFloor_s38
          have el : lessR (modR x y).1 y = (true, 0) := by
            rw [em, lessR_some (num_of nr) hb]; simp; exact (sp (by omega)).2
          rw [if_neg (by rw [el]; simp)]
          unfold BigFloor_s37
          by_cases h1 : ((divR x y).2 == 0) = true
          · rw [if_pos h1]
            unfold BigFloor_s31 BigFloor_s30 BigFloor_s29
            rw [if_neg (floor_cond ha hb h0 nb (by simpa using h1))]
            unfold BigFloor_s28
            by_cases h2 : (!((mulR x y).2 == 0)) = true
            · rw [if_pos h2]; rfl
            rw [if_neg h2]
            unfold BigFloor_s27 BigFloor_s26 BigFloor_s25
            exact floor_last ox ha hb h0 (by simpa using h2)
          · rw [if_neg h1]
            unfold BigFloor_s36
            by_cases h2 : (!((mulR x y).2 == 0)) = true
            · rw [if_pos h2]; rfl
            rw [if_neg h2]
            unfold BigFloor_s35 BigFloor_s34 BigFloor_s33
            exact floor_last ox ha hb h0 (by simpa using h2)
end Go.Proofs.YthjpbbbmnmhmmaaGreatDoor
