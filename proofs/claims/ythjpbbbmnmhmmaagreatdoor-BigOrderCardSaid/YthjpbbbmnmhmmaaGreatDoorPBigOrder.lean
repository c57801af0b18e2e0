import Derived.Test.YthjpbbbmnmhmmaaGreatDoorLBigOrder
import Derived.Test.YthjpbbbmnmhmmaaGreatDoorM10
set_option linter.unusedVariables false
set_option linter.unusedSimpArgs false
namespace Go.Proofs.YthjpbbbmnmhmmaaGreatDoor
open Go.RowKit Go.Shelf Go.Lib

theorem decide_add (a b c : Int) : decide (a + c < b + c) = decide (a < b) := by simp
theorem decide_mul {a b c : Int} (h : 0 < c) : decide (a * c < b * c) = decide (a < b) := by
  have : a * c < b * c ↔ a < b := ⟨fun h' => Int.lt_of_mul_lt_mul_right h' (by omega), fun h' => Int.mul_lt_mul_of_pos_right h' h⟩
  simp [this]

theorem order_end {x y z : Vl} {a b c : Int} (ha : x.num = some a) (hb : y.num = some b) (hc : z.num = some c) (h1 : (mulR x z).2 = 0) (h2 : (mulR y z).2 = 0) (h3 : 0 < c) :
    ((true && ((lessR (mulR x z).1 (mulR y z).1).2 == 0)) && ((lessR (mulR x z).1 (mulR y z).1).1 == (lessR x y).1)) = true := by
  obtain ⟨a', c', ha', hc', n1, q1⟩ := mulR_zero h1
  obtain ⟨b', c'', hb', hc'', n2, q2⟩ := mulR_zero h2
  obtain rfl : a = a' := Option.some.inj (ha.symm.trans ha')
  obtain rfl : b = b' := Option.some.inj (hb.symm.trans hb')
  obtain rfl : c = c' := Option.some.inj (hc.symm.trans hc')
  obtain rfl : c = c'' := Option.some.inj (hc.symm.trans hc'')
  rw [q1, q2, lessR_some (num_of n1) (num_of n2), lessR_some ha hb, decide_mul h3]
  simp

theorem order_cond {x y z : Vl} {c : Int} (oz : z.ok) (hc : z.num = some c) (h : ¬ ((((!((mulR x z).2 == 0)) || (!((mulR y z).2 == 0))) || (negB z)) || (veq z (⟨1, 0, []⟩ : Vl))) = true) : (mulR x z).2 = 0 ∧ (mulR y z).2 = 0 ∧ 0 < c := by
  simp only [Bool.or_eq_true, Bool.not_eq_true', beq_eq_false_iff_ne, not_or, ne_eq, Decidable.not_not] at h
  obtain ⟨⟨⟨h1, h2⟩, h3⟩, h4⟩ := h
  rw [negB_num oz hc] at h3
  rw [of_num oz hc, veq_zero (nd_num oz hc)] at h4
  simp at h3 h4
  exact ⟨h1, h2, by omega⟩

theorem BigOrder_true (x y z : Vl) (hx : x.inp) (hy : y.inp) (hz : z.inp) : BigOrder_s25 x y z = true := by
  unfold BigOrder_s25
  by_cases hs : (((!(shortB x)) || (!(shortB y))) || (!(shortB z))) = true
  · rw [if_pos hs]; rfl
  rw [if_neg hs]
  have hs' : shortB x = true ∧ shortB y = true ∧ shortB z = true := by
    cases h1 : shortB x <;> cases h2 : shortB y <;> cases h3 : shortB z <;> simp_all
  have ox := short_ok hx hs'.1; have oy := short_ok hy hs'.2.1; have oz := short_ok hz hs'.2.2
  unfold BigOrder_s24 BigOrder_s23 BigOrder_s22 BigOrder_s21 BigOrder_s20
  by_cases h : ((!((lessR x y).2 == 0)) || (!((lessR y z).2 == 0))) = true
  · rw [if_pos h]; rfl
  rw [if_neg h]
  simp only [Bool.or_eq_true, Bool.not_eq_true', beq_eq_false_iff_ne, not_or, ne_eq, Decidable.not_not] at h
  obtain ⟨a, b, ha, hb, q0⟩ := lessR_zero h.1
  obtain ⟨b', c, hb', hc, q2⟩ := lessR_zero h.2
  obtain rfl : b = b' := Option.some.inj (hb.symm.trans hb')
  unfold BigOrder_s19
  rw [if_neg (by
    rw [q0, q2, lessR_some hb ha, lessR_some ha hc, veq_num ox oy ha hb]
    have e1 : decide (a = b) = ((!decide (a < b)) && (!decide (b < a))) := by
      by_cases h1 : a < b
      · have : ¬ a = b := by omega
        simp [h1, this]
      · by_cases h2 : b < a
        · have : ¬ a = b := by omega
          simp [h2, this]
        · have : a = b := by omega
          simp [this]
    have e2 : (decide (a < b) && decide (b < a)) = false := by simp; omega
    have e3 : ((decide (a < b) && decide (b < c)) && (!decide (a < c))) = false := by simp; omega
    rw [e1, e3]
    simp [e2])]
  unfold BigOrder_s18 BigOrder_s17 BigOrder_s16 BigOrder_s15 BigOrder_s14
  by_cases h : (((addR x z).2 == 0) && ((addR y z).2 == 0)) = true
  · rw [if_pos h]
    unfold BigOrder_s9 BigOrder_s8
    rw [if_neg (by
      intro hh
      simp only [Bool.and_eq_true, beq_iff_eq] at h
      obtain ⟨a', c', ha', hc', n1, q1⟩ := addR_zero h.1
      obtain ⟨b', c'', hb', hc'', n2, q2⟩ := addR_zero h.2
      obtain rfl : a = a' := Option.some.inj (ha.symm.trans ha')
      obtain rfl : b = b' := Option.some.inj (hb.symm.trans hb')
      obtain rfl : c = c' := Option.some.inj (hc.symm.trans hc')
      obtain rfl : c = c'' := Option.some.inj (hc.symm.trans hc'')
      rw [q1, q2, lessR_some (num_of n1) (num_of n2), lessR_some ha hb, decide_add] at hh
      simp at hh)]
    unfold BigOrder_s7
    by_cases h' : ((((!((mulR x z).2 == 0)) || (!((mulR y z).2 == 0))) || (negB z)) || (veq z (⟨1, 0, []⟩ : Vl))) = true
    · rw [if_pos h']; rfl
    rw [if_neg h']
    obtain ⟨p1, p2, p3⟩ := order_cond oz hc h'
    unfold BigOrder_s6 BigOrder_s5
    exact order_end ha hb hc p1 p2 p3
  · rw [if_neg h]
    unfold BigOrder_s13
    by_cases h' : ((((!((mulR x z).2 == 0)) || (!((mulR y z).2 == 0))) || (negB z)) || (veq z (⟨1, 0, []⟩ : Vl))) = true
    · rw [if_pos h']; rfl
    rw [if_neg h']
    obtain ⟨p1, p2, p3⟩ := order_cond oz hc h'
    unfold BigOrder_s12 BigOrder_s11
    exact order_end ha hb hc p1 p2 p3
end Go.Proofs.YthjpbbbmnmhmmaaGreatDoor
