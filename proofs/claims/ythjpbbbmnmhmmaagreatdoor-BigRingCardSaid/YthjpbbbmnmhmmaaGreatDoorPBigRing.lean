import Derived.Test.YthjpbbbmnmhmmaaGreatDoorLBigRing
import Derived.Test.YthjpbbbmnmhmmaaGreatDoorM10
set_option linter.unusedVariables false
set_option linter.unusedSimpArgs false
namespace Go.Proofs.YthjpbbbmnmhmmaaGreatDoor
open Go.RowKit Go.Shelf Go.Lib

theorem BigRing_true (x y z : Vl) (hx : x.inp) (hy : y.inp) (hz : z.inp) : BigRing_s24 x y z = true := by
  unfold BigRing_s24
  by_cases hs : (((!(shortB x)) || (!(shortB y))) || (!(shortB z))) = true
  · rw [if_pos hs]; rfl
  rw [if_neg hs]
  have hs' : shortB x = true ∧ shortB y = true ∧ shortB z = true := by
    cases h1 : shortB x <;> cases h2 : shortB y <;> cases h3 : shortB z <;> simp_all
  have ox := short_ok hx hs'.1; have oy := short_ok hy hs'.2.1; have oz := short_ok hz hs'.2.2
  unfold BigRing_s23 BigRing_s22 BigRing_s21 BigRing_s20 BigRing_s19
  rw [addR_comm y x, mulR_comm y x]
  rw [if_neg (by simp [veq_refl])]
  unfold BigRing_s18 BigRing_s17 BigRing_s16 BigRing_s15
  rw [if_neg (by
    intro h
    simp only [Bool.and_eq_true, beq_iff_eq] at h
    obtain ⟨⟨h1, h2⟩, h3⟩ := h
    obtain ⟨a, b, ha, hb, hn, e1⟩ := addR_zero h1
    obtain ⟨b', c, hb', hc, hn', e2⟩ := addR_zero h2
    obtain rfl : b = b' := Option.some.inj (hb.symm.trans hb')
    rw [e1, e2, addR_some (num_of hn) hc, addR_some ha (num_of hn'), Int.add_assoc] at h3
    simp [veq_refl] at h3)]
  unfold BigRing_s14 BigRing_s13
  rw [if_neg (by
    intro h
    simp only [Bool.and_eq_true, beq_iff_eq] at h
    obtain ⟨h1, h3⟩ := h
    obtain ⟨a, b, ha, hb, hn, e1⟩ := addR_zero h1
    rw [e1, subR_some (num_of hn) hb, show a + b - b = a by omega, limZ_ok' (nd_num ox ha), ← of_num ox ha] at h3
    simp [veq_refl] at h3)]
  unfold BigRing_s12 BigRing_s11 BigRing_s10 BigRing_s9
  rw [if_neg (by
    intro h
    simp only [Bool.and_eq_true, beq_iff_eq] at h
    obtain ⟨⟨⟨⟨h1, h2⟩, h4⟩, h5⟩, h3⟩ := h
    obtain ⟨a, b, ha, hb, hn, e1⟩ := mulR_zero h1
    obtain ⟨b', c, hb', hc, hn', e2⟩ := mulR_zero h2
    obtain rfl : b = b' := Option.some.inj (hb.symm.trans hb')
    rw [e1, e2, mulR_some (num_of hn) hc, mulR_some ha (num_of hn'), Int.mul_assoc] at h3
    simp [veq_refl] at h3)]
  unfold BigRing_s8 BigRing_s7 BigRing_s6 BigRing_s5
  by_cases h1 : (addR y z).2 = 0
  case neg => simp [h1]
  by_cases h2 : (mulR x y).2 = 0
  case neg => simp [h2]
  by_cases h3 : (mulR x z).2 = 0
  case neg => simp [h3]
  obtain ⟨b, c, hb, hc, hn1, e1⟩ := addR_zero h1
  obtain ⟨a, b', ha, hb', hn2, e2⟩ := mulR_zero h2
  obtain ⟨a', c', ha', hc', hn3, e3⟩ := mulR_zero h3
  obtain rfl : b = b' := Option.some.inj (hb.symm.trans hb')
  obtain rfl : a = a' := Option.some.inj (ha.symm.trans ha')
  obtain rfl : c = c' := Option.some.inj (hc.symm.trans hc')
  rw [e1, e2, e3, mulR_some ha (num_of hn1), addR_some (num_of hn2) (num_of hn3), ← Int.mul_add]
  simp [veq_refl]
end Go.Proofs.YthjpbbbmnmhmmaaGreatDoor
