import Derived.Test.YthjpbbbmnmhmmaaGreatDoorA17
set_option linter.unusedVariables false
set_option linter.unusedSimpArgs false
namespace Go.Proofs.YthjpbbbmnmhmmaaGreatDoor
open Go.RowKit Go.Shelf Go.Lib

set_option maxRecDepth 100000 in
set_option maxHeartbeats 4000000 in
theorem less_calls (va vb : Value) (x y : Int) (w : World) (ha : WH w va x) (hb : WH w vb y) :
    Calls Tryz.prog 72 #[va, vb] w fun e w' => e = .returned (.bool (decide (x < y))) ∧ Below w.heap.size w w' := by
  obtain ⟨a, an, ac, rfl, hra⟩ := ha.parts
  obtain ⟨b, bn, bc, rfl, hrb⟩ := hb.parts
  have HA := Lib.hid hra; have HB := Lib.hid hrb
  clear ha hb hra hrb
  obtain ⟨m, hm⟩ : ∃ m, x.natAbs = m := ⟨_, rfl⟩
  obtain ⟨n, hn⟩ : ∃ n, y.natAbs = n := ⟨_, rfl⟩
  obtain ⟨p, hp⟩ : ∃ p, decide (x < 0) = p := ⟨_, rfl⟩
  obtain ⟨q, hq⟩ : ∃ q, decide (y < 0) = q := ⟨_, rfl⟩
  have HM := Lib.hid hm; have HN := Lib.hid hn; have HP := Lib.hid hp; have HQ := Lib.hid hq
  obtain ⟨R, hR⟩ : ∃ R, decide (x < y) = R := ⟨_, rfl⟩
  have HRes := Lib.hid hR
  rw [hm] at HA; rw [hn] at HB; rw [hp, hq, hR]
  clear hm hn hp hq hR
  have hb : ∀ o o', Below w.heap.size w ((w.alloc o).alloc o') := fun o o' => ((Below.refl _ w).alloc (Nat.le_refl _) o).alloc (by simp) o'
  have HBB := Lib.hid hb
  clear hb
  have hc : Hid (cmpI (m : Int) (n : Int) = if m < n then -1 else if n < m then 1 else 0) := Lib.hid (by unfold cmpI; simp)
  by_cases hpq : p = q
  · subst hpq
    have hcase : Hid (decide (x < y) = R) := HRes
    rcases Nat.lt_trichotomy m n with h | h | h
    all_goals
      have HMN := Lib.hid h
      obtain ⟨c, hcc⟩ : ∃ c, cmpI (m : Int) (n : Int) = c := ⟨_, rfl⟩
      have HC := Lib.hid hcc
      have hres : R = ((decide (c < 0) && !p) || (decide (0 < c) && p)) := by
        rw [← hcc, hc.out, ← HRes.out]
        have h1 := HP.out; have h2 := HQ.out; have h3 := HMN.out; have h4 := HM.out; have h5 := HN.out
        rw [← h4, ← h5] at h3 ⊢
        first | rw [if_pos h3] | (rw [if_neg (by omega), if_neg (by omega)]) | (rw [if_neg (by omega), if_pos h3])
        cases p <;> simp at h1 h2 ⊢ <;> omega
      have hcv : c = -1 ∨ c = 0 ∨ c = 1 := by rw [← hcc, hc.out]; split <;> (try split) <;> simp
      have HRR := Lib.hid hres
      clear hres h hcc
      rcases hcv with rfl | rfl | rfl <;> cases p
    all_goals
      go_enter Tryz.func72, Tryz.ntmps72
      go_wp2_with fail
      refine (compareN_calls _ _ m n _ (HA.out.below (HBB.out _ _)) (HB.out.below (HBB.out _ _))).mono ?_
      rw [HC.out]
      rintro e w4 ⟨rfl, hb4⟩
      have a0 := cell_on hb4 (cell_on ((Below.refl _ _).alloc (Nat.le_refl _) _) (cell_in w #[.slice a an ac, .bool _] 62 0 rfl))
      have a1 := cell_on hb4 (cell_on ((Below.refl _ _).alloc (Nat.le_refl _) _) (cell_in w #[.slice a an ac, .bool _] 62 1 rfl))
      have HB4 := Lib.hid (below_then (HBB.out _ _) hb4)
      clear hb4
      go_wp2_with fail
      go_ret
      exact ⟨ret_bool (by rw [HRR.out]; rfl), HB4.out⟩
  · have HPQ := Lib.hid hpq
    have hpq1 : (p == q) = false := by simp [hpq]
    have hpq2 : (p != q) = true := by simp [hpq]
    clear hpq
    go_enter Tryz.func72, Tryz.ntmps72
    go_wp2_with fail
    go_ret
    refine ⟨ret_bool ?_, HBB.out _ _⟩
    rw [← HRes.out]
    have h1 := HP.out; have h2 := HQ.out; have h4 := HPQ.out
    cases p <;> cases q <;> simp at h1 h2 h4 ⊢ <;> omega
end Go.Proofs.YthjpbbbmnmhmmaaGreatDoor
