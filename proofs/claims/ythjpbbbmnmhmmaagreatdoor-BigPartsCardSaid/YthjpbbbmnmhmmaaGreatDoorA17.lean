import Derived.Test.YthjpbbbmnmhmmaaGreatDoorA16
set_option linter.unusedVariables false
set_option linter.unusedSimpArgs false
namespace Go.Proofs.YthjpbbbmnmhmmaaGreatDoor
open Go.RowKit Go.Shelf Go.Lib

/-- A whole whose parts are named. -/
def WP (W : World) (sv : Value) (b : Bool) (z : Int) : Prop := RI W sv (dig z.natAbs) ∧ b = decide (z < 0)

theorem WH.parts {W : World} {v : Value} {z : Int} (h : WH W v z) : ∃ a n c, v = .agg #[.slice a n c, .bool (decide (z < 0))] ∧ RI W (.slice a n c) (dig z.natAbs) := by
  obtain ⟨sv, rfl, h⟩ := h
  obtain ⟨a, ca, e, _⟩ := id h
  subst e
  exact ⟨_, _, _, rfl, h⟩

set_option maxRecDepth 100000 in
set_option maxHeartbeats 4000000 in
theorem sum_calls (va vb : Value) (x y : Int) (w : World) (ha : WH w va x) (hb : WH w vb y) (hla : (dig x.natAbs).length ≤ 1000) (hlb : (dig y.natAbs).length ≤ 1000) :
    Calls Tryz.prog 99 #[va, vb] w fun e w' => ∃ v, e = .returned v ∧ FormW v ∧ WH w' v (x + y) ∧ Below w.heap.size w w' := by
  obtain ⟨a, an, ac, rfl, hra⟩ := ha.parts
  obtain ⟨b, bn, bc, rfl, hrb⟩ := hb.parts
  have HA := Lib.hid hra; have HB := Lib.hid hrb
  have HLA := Lib.hid hla; have HLB := Lib.hid hlb
  clear ha hb hra hrb hla hlb
  obtain ⟨m, hm⟩ : ∃ m, x.natAbs = m := ⟨_, rfl⟩
  obtain ⟨n, hn⟩ : ∃ n, y.natAbs = n := ⟨_, rfl⟩
  obtain ⟨p, hp⟩ : ∃ p, decide (x < 0) = p := ⟨_, rfl⟩
  obtain ⟨q, hq⟩ : ∃ q, decide (y < 0) = q := ⟨_, rfl⟩
  have HM := Lib.hid hm; have HN := Lib.hid hn; have HP := Lib.hid hp; have HQ := Lib.hid hq
  rw [hm] at HA HLA; rw [hn] at HB HLB; rw [hp, hq]
  clear hm hn hp hq
  obtain ⟨W0, hW0⟩ : ∃ W0, (w.alloc (.cells #[.slice a an ac, .bool p] 62)).alloc (.cells #[.slice b bn bc, .bool q] 62) = W0 := ⟨_, rfl⟩
  have hs0 : W0.heap.size = w.heap.size + 1 + 1 := by rw [← hW0]; simp
  have hbw0 : Below w.heap.size w W0 := by rw [← hW0]; exact ((Below.refl _ w).alloc (Nat.le_refl _) _).alloc (by simp) _
  have a0 : W0.cell? ⟨w.heap.size, 0, none⟩ = some (.slice a an ac) := by rw [← hW0]; exact cell_on ((Below.refl _ _).alloc (Nat.le_refl _) _) (cell_in _ _ _ 0 rfl)
  have a1 : W0.cell? ⟨w.heap.size, 1, none⟩ = some (.bool p) := by rw [← hW0]; exact cell_on ((Below.refl _ _).alloc (Nat.le_refl _) _) (cell_in _ _ _ 1 rfl)
  have b0 : W0.cell? ⟨w.heap.size + 1, 0, none⟩ = some (.slice b bn bc) := by rw [← hW0]; exact cell_in2 _ _ _ _ 0 rfl
  have b1 : W0.cell? ⟨w.heap.size + 1, 1, none⟩ = some (.bool q) := by rw [← hW0]; exact cell_in2 _ _ _ _ 1 rfl
  obtain ⟨W, hW⟩ : ∃ W, W0.alloc (.cells #[.slice none 0 0, .bool false] 62) = W := ⟨_, rfl⟩
  have hbW : Below W0.heap.size W0 W := by rw [← hW]; exact (Below.refl _ _).alloc (Nat.le_refl _) _
  have HR := resW_new W0 62
  rw [hW] at HR
  replace a0 := cell_on hbW a0; replace a1 := cell_on hbW a1; replace b0 := cell_on hbW b0; replace b1 := cell_on hbW b1
  have HBW := Lib.hid (below_then hbw0 hbW)
  have DR := Lib.hid ((Below.refl W.heap.size W).drew)
  have HRR := Lib.hid HR
  have HWA := Lib.hid (HA.out.below HBW.out); have HWB := Lib.hid (HB.out.below HBW.out)
  have g1 : ¬ w.heap.size = W0.heap.size := by omega
  have g2 : ¬ W0.heap.size = w.heap.size := by omega
  have g3 : ¬ w.heap.size + 1 = W0.heap.size := by omega
  have g4 : ¬ W0.heap.size = w.heap.size + 1 := by omega
  have G5 := Lib.hid (show w.heap.size ≤ W0.heap.size by omega)
  clear hbw0 hbW HR hs0
  by_cases hpq : p = q
  · subst hpq
    go_enter Tryz.func99, Tryz.ntmps99
    go_wp2_with fail
    go_region_held3 (fun w' => w'.cell? ⟨w.heap.size, 0, none⟩ = some (.slice a an ac) ∧ w'.cell? ⟨w.heap.size, 1, none⟩ = some (.bool p) ∧ w'.cell? ⟨w.heap.size + 1, 0, none⟩ = some (.slice b bn bc) ∧ w'.cell? ⟨w.heap.size + 1, 1, none⟩ = some (.bool p))
      (first | go_keep | (go_split_ands; exact ⟨cell_on hb5 a0, cell_on hb5 a1, cell_on hb5 b0, cell_on hb5 b1⟩) | (go_split_ands; exact ⟨cell_on hb6 a0, cell_on hb6 a1, cell_on hb6 b0, cell_on hb6 b1⟩))
      (first | (go_at_call 62; refine (plus_calls _ _ m n _ (HWA.out.below DR.out) (HWB.out.below DR.out) (by have := HLA.out; omega) (by have := HLB.out; omega)).mono ?_; rintro e w5 ⟨v5, rfl, hR5, hb5'⟩; have hb5 := below_then DR.out hb5'; have HB5 := Lib.hid hb5; have HR5 := Lib.hid hR5; obtain ⟨a5, c5, rfl, hq5⟩ := hR5; clear hb5' hq5)
             | (go_at_call 52; refine (signed_calls _ _ _ _ HR5.out).mono ?_; rintro e w6 ⟨v6, rfl, hW6, hb6', b6, rfl⟩; have hb6 := below_then HB5.out hb6'; have HB6 := Lib.hid hb6; have HW6 := Lib.hid hW6; have y0 := (HRR.out.below hb6).c0; have y1 := (HRR.out.below hb6).c1; have y2 := (HRR.out.below hb6).f0; have y3 := (HRR.out.below hb6).f1; clear hb6' hW6))
    go_wp2_with fail
    refine bodyPost_ret (v := .agg #[.slice a5 (dig (m + n)).length c5, .bool b6]) (by simp [results, Tryz.results99, go_sem, *]) rfl ?_
    refine ⟨_, rfl, ⟨_, _, _, _, rfl⟩, ?_, below_put (below_then HBW.out HB6.out) G5.out _ _⟩
    refine WH.put ?_ (HRR.out.below HB6.out).ni _ _
    have e : (if p then -((m + n : Nat) : Int) else ((m + n : Nat) : Int)) = x + y := by
      rw [← HM.out, ← HN.out]; have h1 := HP.out; have h2 := HQ.out
      cases p <;> simp at h1 h2 ⊢ <;> omega
    rw [← e]; exact HW6.out
  · have HPQ := Lib.hid hpq
    have hpq' : (p == q) = false := by simp [hpq]
    clear hpq
    by_cases hmn : m < n
    · have hc : cmpI (m : Int) (n : Int) = -1 := by unfold cmpI; rw [if_pos (by omega)]
      have HC := Lib.hid hc
      have HMN := Lib.hid hmn
      clear hc hmn
      go_enter Tryz.func99, Tryz.ntmps99
      go_wp2_with fail
      refine (compareN_calls _ _ m n _ HWA.out HWB.out).mono ?_
      rw [HC.out]
      rintro e w4 ⟨rfl, hb4⟩
      replace a0 := cell_on hb4 a0
      replace a1 := cell_on hb4 a1
      replace b0 := cell_on hb4 b0
      replace b1 := cell_on hb4 b1
      have HBW4 := Lib.hid (below_then HBW.out hb4)
      have DR4 := Lib.hid ((Below.refl w4.heap.size w4).drew)
      have HRR4 := Lib.hid (HRR.out.below hb4)
      have HWA4 := Lib.hid (HWA.out.below hb4)
      have HWB4 := Lib.hid (HWB.out.below hb4)
      clear hb4
      go_wp2_with fail
      go_region_held3 (fun w' => w'.cell? ⟨w.heap.size, 0, none⟩ = some (.slice a an ac) ∧ w'.cell? ⟨w.heap.size, 1, none⟩ = some (.bool p) ∧ w'.cell? ⟨w.heap.size + 1, 0, none⟩ = some (.slice b bn bc) ∧ w'.cell? ⟨w.heap.size + 1, 1, none⟩ = some (.bool q))
        (first | go_keep | (go_split_ands; exact ⟨cell_on hb5 a0, cell_on hb5 a1, cell_on hb5 b0, cell_on hb5 b1⟩) | (go_split_ands; exact ⟨cell_on hb6 a0, cell_on hb6 a1, cell_on hb6 b0, cell_on hb6 b1⟩))
        (first | (go_at_call 86; refine (minus_calls _ _ n m _ (HWB4.out.below DR4.out) (HWA4.out.below DR4.out) (by have := HLB.out; omega) (by have := HLA.out; omega) (Nat.le_of_lt HMN.out)).mono ?_; rintro e w5 ⟨v5, rfl, hR5, hb5'⟩; have hb5 := below_then DR4.out hb5'; have HB5 := Lib.hid hb5; have HR5 := Lib.hid hR5; obtain ⟨a5, c5, rfl, hq5⟩ := hR5; clear hb5' hq5)
               | (go_at_call 52; refine (signed_calls _ _ _ _ HR5.out).mono ?_; rintro e w6 ⟨v6, rfl, hW6, hb6', b6, rfl⟩; have hb6 := below_then HB5.out hb6'; have HB6 := Lib.hid hb6; have HW6 := Lib.hid hW6; have y0 := (HRR4.out.below hb6).c0; have y1 := (HRR4.out.below hb6).c1; have y2 := (HRR4.out.below hb6).f0; have y3 := (HRR4.out.below hb6).f1; clear hb6' hW6))
      go_wp2_with fail
      refine bodyPost_ret (v := .agg #[.slice a5 (dig (n - m)).length c5, .bool b6]) (by simp [results, Tryz.results99, go_sem, *]) rfl ?_
      refine ⟨_, rfl, ⟨_, _, _, _, rfl⟩, ?_, below_put (below_then HBW4.out HB6.out) G5.out _ _⟩
      refine WH.put ?_ (HRR4.out.below HB6.out).ni _ _
      have e : (if q then -((n - m : Nat) : Int) else ((n - m : Nat) : Int)) = x + y := by
        rw [← HM.out, ← HN.out]; have h1 := HP.out; have h2 := HQ.out; have h3 := HMN.out; rw [← HM.out, ← HN.out] at h3; have h4 := HPQ.out
        cases p <;> cases q <;> simp at h1 h2 h4 ⊢ <;> omega
      rw [← e]; exact HW6.out
    · have hc : ¬ cmpI (m : Int) (n : Int) < 0 := by have := cmpI_ge (x := (m : Int)) (y := (n : Int)) (by omega); omega
      obtain ⟨r, hr⟩ : ∃ r, cmpI (m : Int) (n : Int) = r := ⟨_, rfl⟩
      have HC := Lib.hid hr
      rw [hr] at hc
      have HMN := Lib.hid (Nat.le_of_not_lt hmn)
      clear hmn hr
      go_enter Tryz.func99, Tryz.ntmps99
      go_wp2_with fail
      refine (compareN_calls _ _ m n _ HWA.out HWB.out).mono ?_
      rw [HC.out]
      rintro e w4 ⟨rfl, hb4⟩
      replace a0 := cell_on hb4 a0
      replace a1 := cell_on hb4 a1
      replace b0 := cell_on hb4 b0
      replace b1 := cell_on hb4 b1
      have HBW4 := Lib.hid (below_then HBW.out hb4)
      have DR4 := Lib.hid ((Below.refl w4.heap.size w4).drew)
      have HRR4 := Lib.hid (HRR.out.below hb4)
      have HWA4 := Lib.hid (HWA.out.below hb4)
      have HWB4 := Lib.hid (HWB.out.below hb4)
      clear hb4
      go_wp2_with fail
      go_region_held3 (fun w' => w'.cell? ⟨w.heap.size, 0, none⟩ = some (.slice a an ac) ∧ w'.cell? ⟨w.heap.size, 1, none⟩ = some (.bool p) ∧ w'.cell? ⟨w.heap.size + 1, 0, none⟩ = some (.slice b bn bc) ∧ w'.cell? ⟨w.heap.size + 1, 1, none⟩ = some (.bool q))
        (first | go_keep | (go_split_ands; exact ⟨cell_on hb5 a0, cell_on hb5 a1, cell_on hb5 b0, cell_on hb5 b1⟩) | (go_split_ands; exact ⟨cell_on hb6 a0, cell_on hb6 a1, cell_on hb6 b0, cell_on hb6 b1⟩))
        (first | (go_at_call 86; refine (minus_calls _ _ m n _ (HWA4.out.below DR4.out) (HWB4.out.below DR4.out) (by have := HLA.out; omega) (by have := HLB.out; omega) HMN.out).mono ?_; rintro e w5 ⟨v5, rfl, hR5, hb5'⟩; have hb5 := below_then DR4.out hb5'; have HB5 := Lib.hid hb5; have HR5 := Lib.hid hR5; obtain ⟨a5, c5, rfl, hq5⟩ := hR5; clear hb5' hq5)
               | (go_at_call 52; refine (signed_calls _ _ _ _ HR5.out).mono ?_; rintro e w6 ⟨v6, rfl, hW6, hb6', b6, rfl⟩; have hb6 := below_then HB5.out hb6'; have HB6 := Lib.hid hb6; have HW6 := Lib.hid hW6; have y0 := (HRR4.out.below hb6).c0; have y1 := (HRR4.out.below hb6).c1; have y2 := (HRR4.out.below hb6).f0; have y3 := (HRR4.out.below hb6).f1; clear hb6' hW6))
      go_wp2_with fail
      refine bodyPost_ret (v := .agg #[.slice a5 (dig (m - n)).length c5, .bool b6]) (by simp [results, Tryz.results99, go_sem, *]) rfl ?_
      refine ⟨_, rfl, ⟨_, _, _, _, rfl⟩, ?_, below_put (below_then HBW4.out HB6.out) G5.out _ _⟩
      refine WH.put ?_ (HRR4.out.below HB6.out).ni _ _
      have e : (if p then -((m - n : Nat) : Int) else ((m - n : Nat) : Int)) = x + y := by
        rw [← HM.out, ← HN.out]; have h1 := HP.out; have h2 := HQ.out; have h3 := HMN.out; rw [← HM.out, ← HN.out] at h3; have h4 := HPQ.out
        cases p <;> cases q <;> simp at h1 h2 h4 ⊢ <;> omega
      rw [← e]; exact HW6.out
end Go.Proofs.YthjpbbbmnmhmmaaGreatDoor
