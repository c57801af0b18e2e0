import Derived.Test.YthjpbbbmnmhmmaaGreatDoorLBigRoots
import Derived.Test.YthjpbbbmnmhmmaaGreatDoorM10
set_option linter.unusedVariables false
set_option linter.unusedSimpArgs false
namespace Go.Proofs.YthjpbbbmnmhmmaaGreatDoor
open Go.RowKit Go.Shelf Go.Lib

theorem isq_sq (n : Nat) : isq (n * n) = n := isq_uniq (Nat.le_refl _) (Nat.mul_lt_mul'' (Nat.lt_succ_self n) (Nat.lt_succ_self n))
theorem rootR_pos {x : Vl} {a : Int} (ha : x.num = some a) (h : 0 ≤ a) : rootR x = (Vl.of (isq a.natAbs : Nat), 0) := by
  unfold rootR; rw [ha]; exact if_neg (by omega)
theorem rootR_neg {x : Vl} {a : Int} (ha : x.num = some a) (h : a < 0) : rootR x = (Vl.zero, 1) := by
  unfold rootR; rw [ha]; exact if_pos h
theorem rootR_none {x : Vl} (ha : x.num = none) : rootR x = (Vl.zero, 31) := by unfold rootR; rw [ha]
theorem nd_isq {a : Int} (h : Nd a) : Nd ((isq a.natAbs : Nat) : Int) := nd_le (by rw [Int.natAbs_natCast]; exact isq_self_le _) h
theorem nd_isq1 {a : Int} (h : Nd a) : Nd ((isq a.natAbs : Nat) + 1 : Int) := by
  obtain ⟨s, hs⟩ : ∃ s, isq a.natAbs = s := ⟨_, rfl⟩
  have h1 := (isq_spec a.natAbs).1
  rw [hs] at h1 ⊢
  by_cases h2 : s ≤ 1
  · exact nd20 (by omega)
  · refine nd_le ?_ h
    have h3 := Nat.mul_le_mul (show 2 ≤ s by omega) (Nat.le_refl s)
    omega

theorem root_square {x : Vl} {a : Int} (ox : x.ok) (ha : x.num = some a) (h : (mulR x x).2 = 0) : rootR (mulR x x).1 = (Vl.of ((a.natAbs : Nat) : Int), 0) := by
  obtain ⟨a', a'', ha', ha'', n1, q1⟩ := mulR_zero h
  obtain rfl : a = a' := Option.some.inj (ha.symm.trans ha')
  obtain rfl : a = a'' := Option.some.inj (ha.symm.trans ha'')
  rw [q1, rootR_pos (num_of n1) (by rcases Int.le_total 0 a with h | h; exact Int.mul_nonneg h h; exact Int.mul_nonneg_of_nonpos_of_nonpos h h), Int.natAbs_mul, isq_sq]

theorem BigRoots_true (x : Vl) (hx : x.inp) : BigRoots_s28 x = true := by
  unfold BigRoots_s28
  by_cases hs : (!(shortB x)) = true
  · rw [if_pos hs]; rfl
  rw [if_neg hs]
  have ox := short_ok hx (by simpa using hs)
  unfold BigRoots_s27 BigRoots_s26
  cases ha : x.num with
  | none =>
    rw [rootR_none ha, if_neg (by simp)]
    unfold BigRoots_s25
    rw [if_neg (by simp)]
    unfold BigRoots_s24 BigRoots_s23
    have e : mulR x x = (Vl.zero, 31) := opR_none1 ha
    rw [e]; simp [BigRoots_s17]
  | some a =>
    have na := nd_num ox ha
    by_cases hneg : a < 0
    · rw [rootR_neg ha hneg, if_neg (by simp)]
      have en : negB x = true := by rw [negB_num ox ha]; simpa using hneg
      unfold BigRoots_s25
      rw [if_neg (by rw [en]; simp)]
      unfold BigRoots_s24 BigRoots_s23
      by_cases h : (!((mulR x x).2 == 0)) = true
      · rw [if_pos h]; rfl
      rw [if_neg h]
      unfold BigRoots_s22 BigRoots_s21
      rw [if_pos en]
      unfold BigRoots_s19 BigRoots_s18
      rw [root_square ox ha (by simpa using h), subR_some (num_one 0) ha, show (0 : Int) - a = ((a.natAbs : Nat) : Int) by omega, limZ_ok' (nd_le (by simp) na)]
      simp [veq_refl]
    · have hpos : 0 ≤ a := by omega
      obtain ⟨s, hs2⟩ : ∃ s, isq a.natAbs = s := ⟨_, rfl⟩
      have ns := nd_isq na
      have ns1 := nd_isq1 na
      have hsp := isq_spec a.natAbs
      have er := rootR_pos ha hpos
      rw [hs2] at ns ns1 hsp er
      have en : negB x = false := by rw [negB_num ox ha]; simpa using hneg
      rw [er, if_pos (by simp)]
      unfold BigRoots_s15 BigRoots_s14 BigRoots_s13 BigRoots_s12 BigRoots_s11 BigRoots_s10
      have nss : Nd ((s : Int) * s) := nd_le (by rw [Int.natAbs_mul, Int.natAbs_natCast]; exact hsp.1) na
      have e1 : mulR (Vl.of (s : Int)) (Vl.of (s : Int)) = (Vl.of ((s : Int) * s), 0) := (mulR_some (num_of ns) (num_of ns)).trans (limZ_ok' nss)
      have e2 : addR (Vl.of (s : Int)) (⟨1, 1, []⟩ : Vl) = (Vl.of ((s : Int) + 1), 0) := (addR_some (num_of ns) (num_one 1)).trans (limZ_ok' ns1)
      have e3 : mulR (Vl.of ((s : Int) + 1)) (Vl.of ((s : Int) + 1)) = limZ (((s : Int) + 1) * ((s : Int) + 1)) := mulR_some (num_of ns1) (num_of ns1)
      have c1 : (s : Int) * s ≤ a := by
        have := hsp.1
        have h2 : ((s * s : Nat) : Int) ≤ (a.natAbs : Int) := by exact_mod_cast this
        rw [Int.natCast_mul] at h2; omega
      have c2 : a < ((s : Int) + 1) * ((s : Int) + 1) := by
        have := hsp.2
        have h2 : (a.natAbs : Int) < (((s + 1) * (s + 1) : Nat) : Int) := by exact_mod_cast this
        rw [Int.natCast_mul] at h2
        have h3 : ((s + 1 : Nat) : Int) = (s : Int) + 1 := by omega
        rw [h3] at h2; omega
      have e4 : lessR x (Vl.of ((s : Int) * s)) = (false, 0) := by
        rw [lessR_some ha (num_of nss)]; simp; exact c1
      rw [if_neg (by
        dsimp only
        rw [e1, e2]
        dsimp only
        rw [e3, e4]
        rcases limZ_err (((s : Int) + 1) * ((s : Int) + 1)) with h | h
        · obtain ⟨n3, q3⟩ := limZ_zero h
          rw [q3, lessR_some ha (num_of n3)]
          simp
          exact c2
        · rw [h]; simp)]
      unfold BigRoots_s9 BigRoots_s8
      by_cases h : (!((mulR x x).2 == 0)) = true
      · rw [if_pos h]; rfl
      rw [if_neg h]
      unfold BigRoots_s7 BigRoots_s6
      rw [if_neg (by rw [en]; simp)]
      unfold BigRoots_s5
      rw [root_square ox ha (by simpa using h), show ((a.natAbs : Nat) : Int) = a by omega, ← of_num ox ha]
      have h0 : (mulR x x).2 = 0 := by simpa using h
      simp [veq_refl, h0]
end Go.Proofs.YthjpbbbmnmhmmaaGreatDoor
