import Derived.Test.YthjpbbbmnmhmmaaGreatDoorLBigBack
import Derived.Test.YthjpbbbmnmhmmaaGreatDoorM10
set_option linter.unusedVariables false
set_option linter.unusedSimpArgs false
namespace Go.Proofs.YthjpbbbmnmhmmaaGreatDoor
open Go.RowKit Go.Shelf Go.Lib

theorem textR_some {a : Vl} {x : Int} (ha : a.num = some x) : textR a = (itoa x, 0) := by unfold textR; rw [ha]
theorem textR_none {a : Vl} (ha : a.num = none) : textR a = ([], 31) := by unfold textR; rw [ha]
theorem digitsR_some {a : Vl} {x : Int} (ha : a.num = some x) : digitsR a = (((nDigits x.natAbs : Nat) : Int), 0) := by unfold digitsR; rw [ha]
theorem digitsR_none {a : Vl} (ha : a.num = none) : digitsR a = (0, 31) := by unfold digitsR; rw [ha]
theorem checkR_some {a : Vl} {x : Int} (ha : a.num = some x) : checkR a = 0 := by unfold checkR; rw [ha]
theorem checkR_none {a : Vl} (ha : a.num = none) : checkR a = 31 := by unfold checkR; rw [ha]
theorem ofR_some {t : List UInt8} {z : Int} (h : readZ t = some z) : ofR t = (Vl.of z, 0) := by unfold ofR; rw [h]
theorem ofR_none {t : List UInt8} (h : readZ t = none) : ofR t = (Vl.zero, 31) := by unfold ofR; rw [h]
theorem nd_mono' {a b : Nat} (h : a ≤ b) : nDigits a ≤ nDigits b := by
  have hp := nDigits_pos b
  obtain ⟨k, hk⟩ : ∃ k, nDigits b = k + 1 := ⟨nDigits b - 1, by omega⟩
  rw [hk]
  exact nd_mono h (by omega)

theorem back_end {v u : Vl} {a : Int} (ou : u.ok) (hv : v.num = some a) :
    (true && ((!((digitsR u).2 == 0)) || ((((lessR v u).2 == 0) && ((lessR (⟨1, 0, []⟩ : Vl) v).2 == 0)) && (((((!(lessR (⟨1, 0, []⟩ : Vl) v).1) || (!(decide (((digitsR v).1 : Int) < (digitsR u).1)))) || (lessR v u).1) || ((u.k == 1) && (decide ((u.n : Int) < 0)))) || ((decide ((0 : Int) < ((u.t.length : Nat) : Int))) && (u.t.head? == some 45)))))) = true := by
  cases hu : u.num with
  | none => rw [digitsR_none hu]; simp
  | some c =>
    rw [digitsR_some hu, digitsR_some hv, lessR_some hv hu, lessR_some (num_one 0) hv]
    by_cases h1 : 0 < a
    case neg => simp [h1]
    by_cases h2 : nDigits a.natAbs < nDigits c.natAbs
    case neg => simp [h2]
    by_cases h3 : a < c
    case pos => simp [h3]
    by_cases h4 : c < 0
    case neg =>
      have := nd_mono' (show c.natAbs ≤ a.natAbs by omega)
      omega
    have hn : negB u = true := by rw [negB_num ou hu]; simpa using h4
    unfold negB at hn
    rw [Bool.or_eq_true] at hn
    rcases hn with h | h
    · simp [h]
    · have hl : 0 < u.t.length := by
        cases ht : u.t with
        | nil => rw [ht] at h; simp at h
        | cons x l => simp
      simp [h, hl]

theorem back_mid {v : Vl} {a : Int} (ov : v.ok) (hv : v.num = some a) : ofR (textR v).1 = (v, 0) := by
  rw [textR_some hv, ofR_some (readZ_itoa a (nd_num ov hv)), ← of_num ov hv]

theorem BigBack_true (v u : Vl) (s : List UInt8) (hv : v.inp) (hu : u.inp) (hs : s.length ≤ 9223372036854775807) : BigBack_s28 v u s = true := by
  unfold BigBack_s28
  by_cases hs : (((!(shortB v)) || (!(shortB u))) || (decide ((800 : Int) < ((s.length : Nat) : Int)))) = true
  · rw [if_pos hs]; rfl
  rw [if_neg hs]
  have hs' : shortB v = true ∧ shortB u = true := by
    cases h1 : shortB v <;> cases h2 : shortB u <;> simp_all
  have ov := short_ok hv hs'.1; have ou := short_ok hu hs'.2
  unfold BigBack_s27 BigBack_s26
  cases hz : readZ s with
  | some z =>
    obtain ⟨e, nz⟩ := readZ_some hz
    rw [ofR_some hz, if_pos (by simp)]
    unfold BigBack_s14 BigBack_s13
    rw [if_neg (by
      dsimp only
      rw [textR_some (num_of nz), checkR_some (num_of nz), ← e]
      simp)]
    unfold BigBack_s12 BigBack_s11
    cases ha : v.num with
    | none =>
      rw [textR_none ha, if_pos (by simp)]
      unfold BigBack_s2
      rw [checkR_none ha]; rfl
    | some a =>
      rw [if_neg (by rw [textR_some ha]; simp)]
      unfold BigBack_s10 BigBack_s9 BigBack_s8 BigBack_s7
      rw [if_neg (by rw [back_mid ov ha, digitsR_some ha]; simp [veq_refl])]
      unfold BigBack_s6 BigBack_s5 BigBack_s4
      exact back_end ou ha
  | none =>
    rw [ofR_none hz, if_neg (by simp)]
    unfold BigBack_s25 BigBack_s24
    cases ha : v.num with
    | none =>
      rw [textR_none ha, if_pos (by simp)]
      unfold BigBack_s15
      rw [checkR_none ha]; rfl
    | some a =>
      rw [if_neg (by rw [textR_some ha]; simp)]
      unfold BigBack_s23 BigBack_s22 BigBack_s21 BigBack_s20
      rw [if_neg (by rw [back_mid ov ha, digitsR_some ha]; simp [veq_refl])]
      unfold BigBack_s19 BigBack_s18 BigBack_s17
      exact back_end ou ha
end Go.Proofs.YthjpbbbmnmhmmaaGreatDoor
