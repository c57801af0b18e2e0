import Derived.Test.YthjpbbbmnmhmmaaGreatDoorLBigMachine
import Derived.Test.YthjpbbbmnmhmmaaGreatDoorM10
set_option linter.unusedVariables false
set_option linter.unusedSimpArgs false
namespace Go.Proofs.YthjpbbbmnmhmmaaGreatDoor
open Go.RowKit Go.Shelf Go.Lib

theorem wrap_small (z : Int) : Small64 (wrap64 z) := by unfold Small64 wrap64; omega
theorem wrap_id {z : Int} (h : Small64 z) : wrap64 z = z := by unfold Small64 at h; unfold wrap64; omega
theorem wrap_mod (z : Int) : ∃ k : Int, wrap64 z = z + 18446744073709551616 * k := ⟨-((z + 9223372036854775808) / 18446744073709551616), by unfold wrap64; omega⟩
theorem of_small' {z : Int} (h : Small64 z) : Vl.of z = ⟨1, z, []⟩ := if_pos h
theorem nd_small' {z : Int} (h : Small64 z) : Nd z := nd20 (by unfold Small64 at h; omega)

theorem chk {z : Int} (hz : Nd z) {c : Bool} (hc : c = !decide (Small64 z)) : (c == veq (Vl.of z) (⟨1, wrap64 z, []⟩ : Vl)) = false ∧ (c != ((Vl.of z).k == 2)) = false := by
  rw [← of_small' (wrap_small z), veq_of hz (nd_small' (wrap_small z)), hc]
  by_cases h : Small64 z
  · rw [wrap_id h, of_small' h]; simp [h]
  · have e : ¬ z = wrap64 z := fun e => h (by rw [e]; exact wrap_small z)
    have e2 : Vl.of z = ⟨2, 0, itoa z⟩ := if_neg h
    rw [e2]; simp [h, e]

theorem sum_wraps {x y : Int} (hx : Small64 x) (hy : Small64 y) :
    ((((decide ((0 : Int) < x)) && (decide ((0 : Int) < y))) && (decide ((wrap64 (x + y) : Int) < 0))) || (((decide ((x : Int) < 0)) && (decide ((y : Int) < 0))) && (!(decide ((wrap64 (x + y) : Int) < 0))))) = !decide (Small64 (x + y)) := by
  rw [Bool.eq_iff_iff]
  simp only [Bool.or_eq_true, Bool.and_eq_true, decide_eq_true_eq, Bool.not_eq_true', decide_eq_false_iff_not]
  unfold Small64 wrap64 at *
  omega
theorem sub_wraps {x y : Int} (hx : Small64 x) (hy : Small64 y) :
    (((decide ((x : Int) < 0)) != (decide ((y : Int) < 0))) && ((decide ((wrap64 (x - y) : Int) < 0)) != (decide ((x : Int) < 0)))) = !decide (Small64 (x - y)) := by
  obtain ⟨d, hd⟩ : ∃ d, wrap64 (x - y) = d := ⟨_, rfl⟩
  rw [hd]
  have hs : Small64 (x - y) ↔ ¬ (((x < 0) ∧ ¬ (y < 0) ∧ ¬ (d < 0)) ∨ (¬ (x < 0) ∧ (y < 0) ∧ d < 0)) := by
    rw [← hd]; unfold Small64 wrap64 at *; omega
  by_cases h1 : x < 0 <;> by_cases h2 : y < 0 <;> by_cases h3 : d < 0 <;> simp [h1, h2, h3] at hs ⊢ <;> exact hs
theorem mul_wraps {x y : Int} (hx : Small64 x) (hy : Small64 y) :
    ((!(x == 0)) && ((!((wrap64 (Int.tdiv (wrap64 (x * y)) x)) == y)) || ((x == (-1)) && (y == (-9223372036854775808))))) = !decide (Small64 (x * y)) := by
  by_cases h0 : x = 0
  · subst h0; simp [Small64]
  obtain ⟨k, hk⟩ := wrap_mod (x * y)
  have hi := wrap_small (x * y)
  obtain ⟨i, hiE⟩ : ∃ i, wrap64 (x * y) = i := ⟨_, rfl⟩
  rw [hiE] at hk hi
  by_cases hs : Small64 (x * y)
  · have e1 : wrap64 (x * y) = x * y := wrap_id hs
    rw [e1, Int.mul_tdiv_cancel_left y h0, wrap_id hy]
    have e2 : ((x == (-1)) && (y == (-9223372036854775808))) = false := by
      by_cases hx1 : x = -1
      · subst hx1
        have : ¬ y = -9223372036854775808 := by rintro rfl; unfold Small64 at hs; omega
        simp [this]
      · simp [hx1]
    simp [hs, e2]
  · rw [hiE]
    have hq := Int.tmod_def i x
    have hm : (i.tmod x).natAbs < x.natAbs := by rw [Int.natAbs_tmod]; exact Nat.mod_lt _ (by omega)
    have hd : (i.tdiv x).natAbs = i.natAbs / x.natAbs := Int.natAbs_tdiv i x
    have hdl := Nat.div_le_self i.natAbs x.natAbs
    obtain ⟨q, hqE⟩ : ∃ q, i.tdiv x = q := ⟨_, rfl⟩
    rw [hqE] at hq hd ⊢
    have key : wrap64 q = y → x = -1 ∧ y = -9223372036854775808 := by
      intro hw
      by_cases hqs : Small64 q
      · exfalso
        rw [wrap_id hqs] at hw
        subst hw
        obtain ⟨z, hz⟩ : ∃ z, x * q = z := ⟨_, rfl⟩
        rw [hz] at hq hk hs
        apply hs
        have hk0 : k = 0 := by unfold Small64 at *; omega
        subst hk0
        have : i = z := by omega
        rw [← this]; exact hi
      · have hx1 : x.natAbs = 1 := by
          have h2 : ¬ 2 ≤ x.natAbs := fun h2 => by
            have h3 : i.natAbs / x.natAbs ≤ i.natAbs / 2 := Nat.div_le_div_left h2 (by decide)
            unfold Small64 at *; omega
          omega
        rw [hx1, Nat.div_one] at hd
        have hx2 : x = 1 ∨ x = -1 := by omega
        rcases hx2 with rfl | rfl
        · exfalso; rw [Int.tdiv_one] at hqE; subst hqE; exact hqs hi
        · refine ⟨rfl, ?_⟩
          rw [← hw]
          unfold Small64 at hqs hi
          have hq1 : q = 9223372036854775808 ∨ q = -9223372036854775808 := by omega
          rcases hq1 with rfl | rfl
          · unfold wrap64; omega
          · omega
    by_cases hw : wrap64 q = y
    · obtain ⟨a, b⟩ := key hw
      subst a; subst b
      simp
      unfold Small64; omega
    · simp [h0, hw, hs]

theorem BigMachine_true (x y : Int) (hx : Small64 x) (hy : Small64 y) : BigMachine_s15 x y = true := by
  have hsx := hx; have hsy := hy
  unfold Small64 at hsx hsy
  have n0 : Nd (x + y) := nd20 (by omega)
  have n1 : Nd (x - y) := nd20 (by omega)
  have n2 : Nd (x * y) := by
    refine Nat.le_trans (nDigits_le (k := 39) (d := (x * y).natAbs) ?_) (by decide)
    rw [Int.natAbs_mul]
    have h1 : x.natAbs ≤ 9223372036854775808 := by omega
    have h2 : y.natAbs ≤ 9223372036854775808 := by omega
    exact Nat.lt_of_le_of_lt (Nat.mul_le_mul h1 h2) (by decide)
  unfold BigMachine_s15 BigMachine_s14 BigMachine_s13 BigMachine_s12
  rw [addR_some (num_one x) (num_one y), subR_some (num_one x) (num_one y), mulR_some (num_one x) (num_one y), limZ_ok' n0, limZ_ok' n1, limZ_ok' n2]
  rw [if_neg (by simp)]
  unfold BigMachine_s11 BigMachine_s10 BigMachine_s9
  obtain ⟨p1, p2⟩ := chk n0 (sum_wraps hx hy)
  rw [if_neg (by dsimp only; rw [p1, p2]; simp)]
  unfold BigMachine_s8 BigMachine_s7 BigMachine_s6
  obtain ⟨q1, q2⟩ := chk n1 (sub_wraps hx hy)
  rw [if_neg (by dsimp only; rw [q1, q2]; simp)]
  unfold BigMachine_s5 BigMachine_s4 BigMachine_s3
  obtain ⟨t1, t2⟩ := chk n2 (mul_wraps hx hy)
  dsimp only
  revert t1 t2
  generalize ((!(x == 0)) && ((!((wrap64 (Int.tdiv (wrap64 (x * y)) x)) == y)) || ((x == (-1)) && (y == (-9223372036854775808))))) = c
  generalize veq (Vl.of (x * y)) (⟨1, wrap64 (x * y), []⟩ : Vl) = v
  generalize ((Vl.of (x * y)).k == 2) = u
  cases c <;> cases v <;> cases u <;> simp
end Go.Proofs.YthjpbbbmnmhmmaaGreatDoor
