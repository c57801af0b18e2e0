import Derived.Test.YthjpbbbmnmhmmaaGreatDoorA18
import Derived.Test.YthjpbbbmnmhmmaaGreatDoorM6
set_option linter.unusedVariables false
set_option linter.unusedSimpArgs false
namespace Go.Proofs.YthjpbbbmnmhmmaaGreatDoor
open Go.RowKit Go.Shelf Go.Lib

theorem dig_one : dig 1 = [1] := by decide +kernel

theorem RI.one {W : World} {g : Nat} {t : TypeId} (h : W.cell? ⟨g, 0, none⟩ = some (.int .i64 1)) : RI W (.slice (some ⟨g, 0, none⟩) 1 1) (dig 1) := by
  rw [dig_one]
  refine ⟨_, 1, rfl, by simp, fun _ => ⟨g, 0, rfl, fun j hj => ?_⟩⟩
  have : j = 0 := by simpa using hj
  subst this; simpa [rd] using h

set_option maxRecDepth 100000 in
set_option maxHeartbeats 2000000 in
theorem floor_zero (va vb : Value) (x : Int) (w : World) (ha : WH w va x) (hb : WH w vb 0) :
    Calls Tryz.prog 103 #[va, vb] w fun e w' => e = .panicked (badV 30) ∧ Below w.heap.size w w' := by
  obtain ⟨a, an, ac, rfl, hra⟩ := ha.parts
  obtain ⟨b, bn, bc, rfl, hrb⟩ := hb.parts
  have HB := Lib.hid hrb
  clear ha hb hra hrb
  have hb : ∀ o1 o2 o3 o4, Below w.heap.size w ((((w.alloc o1).alloc o2).alloc o3).alloc o4) := fun o1 o2 o3 o4 => ((((Below.refl _ w).alloc (Nat.le_refl _) o1).alloc (by simp) o2).alloc (by simp <;> omega) o3).alloc (by simp <;> omega) o4
  have HBB := Lib.hid hb
  clear hb
  go_enter Tryz.func103, Tryz.ntmps103
  go_wp2_with fail
  refine (none_calls _ _ _ (HB.out.below (HBB.out _ _ _ _))).mono ?_
  rw [show decide (dig (Int.natAbs 0) = []) = true from by simp [dig_zero]]
  rintro e w4 ⟨rfl, rfl⟩
  go_wp2_with fail
  exact ⟨rfl, rfl, HBB.out _ _ _ _⟩

theorem NoInt.put {W : World} {g g' : Nat} (h : NoInt W g) (hg : ¬ g = g') (u u' : Value) (j j' : Nat) : NoInt ((W.setCell ⟨g', j, none⟩ u).setCell ⟨g', j', none⟩ u') g := fun i x => by
  rw [World.cell?_setCell_other _ _ _ _ (fun e => hg (congrArg Addr.block e).symm), World.cell?_setCell_other _ _ _ _ (fun e => hg (congrArg Addr.block e).symm)]
  exact h i x

theorem cell_one_new' (w : World) (v : Value) : ((w.alloc (.cells #[v] 3)).drew).cell? ⟨w.heap.size, 0, none⟩ = some v := by
  have := cell_in w #[v] 3 0 rfl
  exact this

set_option maxRecDepth 100000 in
set_option maxHeartbeats 4000000 in
theorem floor_calls (va vb : Value) (x y : Int) (w : World) (ha : WH w va x) (hb : WH w vb y) (hla : (dig x.natAbs).length ≤ 400) (hlb : (dig y.natAbs).length ≤ 400) (hy : y ≠ 0) :
    Calls Tryz.prog 103 #[va, vb] w fun e w' => ∃ v v', e = .returned (.tuple #[v, v']) ∧ FormW v ∧ FormW v' ∧ WH w' v (x.fdiv y) ∧ WH w' v' (x.fmod y) ∧ Below w.heap.size w w' := by
  have hff := floor_facts x y hy
  obtain ⟨a, an, ac, rfl, hra⟩ := ha.parts
  obtain ⟨b, bn, bc, rfl, hrb⟩ := hb.parts
  have HA := Lib.hid hra; have HB := Lib.hid hrb
  have HLA := Lib.hid hla; have HLB := Lib.hid hlb
  clear ha hb hra hrb hla hlb
  obtain ⟨Q, hQ⟩ : ∃ Q, x.fdiv y = Q := ⟨_, rfl⟩
  obtain ⟨R, hR⟩ : ∃ R, x.fmod y = R := ⟨_, rfl⟩
  obtain ⟨m, hm⟩ : ∃ m, x.natAbs = m := ⟨_, rfl⟩
  obtain ⟨n, hn⟩ : ∃ n, y.natAbs = n := ⟨_, rfl⟩
  obtain ⟨p, hp⟩ : ∃ p, decide (x < 0) = p := ⟨_, rfl⟩
  obtain ⟨q, hq⟩ : ∃ q, decide (y < 0) = q := ⟨_, rfl⟩
  have hn0 : n ≠ 0 := by omega
  rw [hQ, hR, hm, hn, hp, hq] at hff
  rw [hm] at HA HLA; rw [hn] at HB HLB; rw [hp, hq, hQ, hR]
  clear hm hn hp hq hy hQ hR
  have hnil : Hid (decide (dig n = []) = false) := Lib.hid (by simp [dig_eq_nil, hn0])
  have HN0 := Lib.hid hn0
  clear hn0
  obtain ⟨W0, hW0⟩ : ∃ W0, (w.alloc (.cells #[.slice a an ac, .bool p] 62)).alloc (.cells #[.slice b bn bc, .bool q] 62) = W0 := ⟨_, rfl⟩
  have hs0 : W0.heap.size = w.heap.size + 1 + 1 := by rw [← hW0]; simp
  have hbw0 : Below w.heap.size w W0 := by rw [← hW0]; exact ((Below.refl _ w).alloc (Nat.le_refl _) _).alloc (by simp) _
  have a0 : W0.cell? ⟨w.heap.size, 0, none⟩ = some (.slice a an ac) := by rw [← hW0]; exact cell_on ((Below.refl _ _).alloc (Nat.le_refl _) _) (cell_in _ _ _ 0 rfl)
  have a1 : W0.cell? ⟨w.heap.size, 1, none⟩ = some (.bool p) := by rw [← hW0]; exact cell_on ((Below.refl _ _).alloc (Nat.le_refl _) _) (cell_in _ _ _ 1 rfl)
  have b0 : W0.cell? ⟨w.heap.size + 1, 0, none⟩ = some (.slice b bn bc) := by rw [← hW0]; exact cell_in2 _ _ _ _ 0 rfl
  have b1 : W0.cell? ⟨w.heap.size + 1, 1, none⟩ = some (.bool q) := by rw [← hW0]; exact cell_in2 _ _ _ _ 1 rfl
  obtain ⟨W1, hW1⟩ : ∃ W1, W0.alloc (.cells #[.slice none 0 0, .bool false] 62) = W1 := ⟨_, rfl⟩
  have hs1 : W1.heap.size = W0.heap.size + 1 := by rw [← hW1]; simp
  obtain ⟨W, hW⟩ : ∃ W, W1.alloc (.cells #[.slice none 0 0, .bool false] 62) = W := ⟨_, rfl⟩
  have hbW1 : Below W1.heap.size W1 W := by rw [← hW]; exact (Below.refl _ _).alloc (Nat.le_refl _) _
  have hbW0 : Below W0.heap.size W0 W1 := by rw [← hW1]; exact (Below.refl _ _).alloc (Nat.le_refl _) _
  have HR1 := resW_new W0 62
  rw [hW1] at HR1
  replace HR1 := HR1.below hbW1
  have HR2 := resW_new W1 62
  rw [hW] at HR2
  have hbW := below_then hbW0 hbW1
  replace a0 := cell_on hbW a0; replace a1 := cell_on hbW a1; replace b0 := cell_on hbW b0; replace b1 := cell_on hbW b1
  have HBW := Lib.hid (below_then hbw0 hbW)
  have HRa := Lib.hid HR1
  have HRb := Lib.hid HR2
  have HWA := Lib.hid (HA.out.below HBW.out); have HWB := Lib.hid (HB.out.below HBW.out)
  have g1 : ¬ w.heap.size = W0.heap.size := by omega
  have g2 : ¬ W0.heap.size = w.heap.size := by omega
  have g3 : ¬ w.heap.size + 1 = W0.heap.size := by omega
  have g4 : ¬ W0.heap.size = w.heap.size + 1 := by omega
  have g5 : ¬ w.heap.size = W1.heap.size := by omega
  have g6 : ¬ W1.heap.size = w.heap.size := by omega
  have g7 : ¬ w.heap.size + 1 = W1.heap.size := by omega
  have g8 : ¬ W1.heap.size = w.heap.size + 1 := by omega
  have g9 : ¬ W1.heap.size = W0.heap.size := by omega
  have g10 : ¬ W0.heap.size = W1.heap.size := by omega
  have G5 := Lib.hid (show w.heap.size ≤ W0.heap.size ∧ w.heap.size ≤ W1.heap.size by omega)
  clear hbw0 hbW hbW0 hbW1 HR1 HR2 hs0 hs1
  have hcase : (p = q ∨ m % n = 0 ∧ p ≠ q) ∨ (p ≠ q ∧ m % n ≠ 0) := by
    by_cases h1 : p = q
    · exact .inl (.inl h1)
    · by_cases h2 : m % n = 0
      · exact .inl (.inr ⟨h2, h1⟩)
      · exact .inr ⟨h1, h2⟩
  rcases hcase with (rfl | ⟨h0, hpq⟩) | ⟨hpq, h0⟩
  · rw [if_pos (Or.inl rfl), bne_self_eq_false] at hff
    have HFF := Lib.hid hff
    clear hff
    go_enter Tryz.func103, Tryz.ntmps103
    go_wp2_with fail
    refine (none_calls _ _ _ HWB.out).mono ?_
    rw [hnil.out]
    rintro e w3 ⟨rfl, rfl⟩
    go_wp2_with fail
    refine (divide_calls _ _ m n _ HWA.out HWB.out (by have := HLA.out; omega) (by have := HLB.out; omega) HN0.out).mono ?_
    rintro e w4 ⟨qv, rv, rfl, hq4, hr4, hb4⟩
    have HQ4 := Lib.hid hq4; have HR4 := Lib.hid hr4
    obtain ⟨qa, qc, rfl, _⟩ := hq4
    obtain ⟨ra, rc, rfl, _⟩ := hr4
    replace a0 := cell_on hb4 a0
    replace a1 := cell_on hb4 a1
    replace b0 := cell_on hb4 b0
    replace b1 := cell_on hb4 b1
    have HBW4 := Lib.hid (below_then HBW.out hb4)
    have DR4 := Lib.hid ((Below.refl w4.heap.size w4).drew)
    have HRa4 := Lib.hid (HRa.out.below hb4)
    have HRb4 := Lib.hid (HRb.out.below hb4)
    have HWB4 := Lib.hid (HWB.out.below hb4)
    clear hb4
    obtain ⟨L, hL⟩ : ∃ L, (dig (m % n)).length = L := ⟨_, rfl⟩
    have HL := Lib.hid hL
    rw [hL]
    rw [hL] at HR4
    go_wp2_with fail
    go_region_held3 (fun w' => w'.cell? ⟨w.heap.size, 0, none⟩ = some (.slice a an ac) ∧ w'.cell? ⟨w.heap.size, 1, none⟩ = some (.bool p) ∧ w'.cell? ⟨w.heap.size + 1, 0, none⟩ = some (.slice b bn bc) ∧ w'.cell? ⟨w.heap.size + 1, 1, none⟩ = some (.bool p))
      (first | go_keep | (go_split_ands; exact ⟨cell_on hb6 a0, cell_on hb6 a1, cell_on hb6 b0, cell_on hb6 b1⟩) | (go_split_ands; exact ⟨cell_on hb7 a0, cell_on hb7 a1, cell_on hb7 b0, cell_on hb7 b1⟩))
      (first | (go_at_call 52; refine (signed_calls _ _ _ _ (HR4.out.below HB6.out)).mono ?_; rintro e w7 ⟨v7, rfl, hW7, hb7', b7, rfl⟩; have hb7 := below_then HB6.out hb7'; have HB7 := Lib.hid hb7; have HW7 := Lib.hid hW7; have HW6' := Lib.hid (HW6.out.below hb7'); have y0 := (HRa4.out.below hb7).c0; have y1 := (HRa4.out.below hb7).c1; have y2 := (HRa4.out.below hb7).f0; have y3 := (HRa4.out.below hb7).f1; have z0 := (HRb4.out.below hb7).c0; have z1 := (HRb4.out.below hb7).c1; have z2 := (HRb4.out.below hb7).f0; have z3 := (HRb4.out.below hb7).f1; clear hb7' hW7)
             | (go_at_call 52; refine (signed_calls _ _ _ _ (HQ4.out.below DR4.out)).mono ?_; rintro e w6 ⟨v6, rfl, hW6, hb6', b6, rfl⟩; have hb6 := below_then DR4.out hb6'; have HB6 := Lib.hid hb6; have HW6 := Lib.hid hW6; clear hb6' hW6))
    go_wp2_with fail
    refine bodyPost_ret (v := .tuple #[.agg #[.slice qa (dig (m / n)).length qc, .bool b6], .agg #[.slice ra L rc, .bool b7]]) (by simp [results, Tryz.results103, go_sem, *]) rfl ?_
    have hni := (HRa4.out.below HB7.out).ni
    have hni2 := (HRb4.out.below HB7.out).ni
    refine ⟨_, _, rfl, ⟨_, _, _, _, rfl⟩, ⟨_, _, _, _, rfl⟩, ?_, ?_, below_put (below_put (below_then HBW4.out HB7.out) G5.out.1 _ _) G5.out.2 _ _⟩
    · refine WH.put (WH.put ?_ hni _ _) (hni2.put g9 _ _ _ _) _ _
      rw [HFF.out.1]
      exact HW6'.out
    · refine WH.put (WH.put ?_ hni _ _) (hni2.put g9 _ _ _ _) _ _
      rw [HFF.out.2]
      exact HW7.out
  · rw [if_pos (Or.inr h0), show (p != q) = true by simp [hpq]] at hff
    have HFF := Lib.hid hff
    have hpq1 : (p == q) = false := by simp [hpq]
    have hpq2 : (p != q) = true := by simp [hpq]
    have H0 := Lib.hid h0
    clear hff hpq h0
    go_enter Tryz.func103, Tryz.ntmps103
    go_wp2_with fail
    refine (none_calls _ _ _ HWB.out).mono ?_
    rw [hnil.out]
    rintro e w3 ⟨rfl, rfl⟩
    go_wp2_with fail
    refine (divide_calls _ _ m n _ HWA.out HWB.out (by have := HLA.out; omega) (by have := HLB.out; omega) HN0.out).mono ?_
    rintro e w4 ⟨qv, rv, rfl, hq4, hr4, hb4⟩
    have HQ4 := Lib.hid hq4; have HR4 := Lib.hid hr4
    obtain ⟨qa, qc, rfl, _⟩ := hq4
    obtain ⟨ra, rc, rfl, _⟩ := hr4
    replace a0 := cell_on hb4 a0
    replace a1 := cell_on hb4 a1
    replace b0 := cell_on hb4 b0
    replace b1 := cell_on hb4 b1
    have HBW4 := Lib.hid (below_then HBW.out hb4)
    have DR4 := Lib.hid ((Below.refl w4.heap.size w4).drew)
    have HRa4 := Lib.hid (HRa.out.below hb4)
    have HRb4 := Lib.hid (HRb.out.below hb4)
    have HWB4 := Lib.hid (HWB.out.below hb4)
    clear hb4
    obtain ⟨L, hL⟩ : ∃ L, (dig (m % n)).length = L := ⟨_, rfl⟩
    have HL := Lib.hid hL
    rw [hL]
    rw [hL] at HR4
    obtain rfl : L = 0 := by rw [← HL.out, H0.out, dig_zero]; rfl
    go_wp2_with fail
    go_region_held3 (fun w' => w'.cell? ⟨w.heap.size, 0, none⟩ = some (.slice a an ac) ∧ w'.cell? ⟨w.heap.size, 1, none⟩ = some (.bool p) ∧ w'.cell? ⟨w.heap.size + 1, 0, none⟩ = some (.slice b bn bc) ∧ w'.cell? ⟨w.heap.size + 1, 1, none⟩ = some (.bool q))
      (first | go_keep | (go_split_ands; exact ⟨cell_on hb6 a0, cell_on hb6 a1, cell_on hb6 b0, cell_on hb6 b1⟩) | (go_split_ands; exact ⟨cell_on hb7 a0, cell_on hb7 a1, cell_on hb7 b0, cell_on hb7 b1⟩))
      (first | (go_at_call 52; refine (signed_calls _ _ _ _ (HR4.out.below HB6.out)).mono ?_; rintro e w7 ⟨v7, rfl, hW7, hb7', b7, rfl⟩; have hb7 := below_then HB6.out hb7'; have HB7 := Lib.hid hb7; have HW7 := Lib.hid hW7; have HW6' := Lib.hid (HW6.out.below hb7'); have y0 := (HRa4.out.below hb7).c0; have y1 := (HRa4.out.below hb7).c1; have y2 := (HRa4.out.below hb7).f0; have y3 := (HRa4.out.below hb7).f1; have z0 := (HRb4.out.below hb7).c0; have z1 := (HRb4.out.below hb7).c1; have z2 := (HRb4.out.below hb7).f0; have z3 := (HRb4.out.below hb7).f1; clear hb7' hW7)
             | (go_at_call 52; refine (signed_calls _ _ _ _ (HQ4.out.below DR4.out)).mono ?_; rintro e w6 ⟨v6, rfl, hW6, hb6', b6, rfl⟩; have hb6 := below_then DR4.out hb6'; have HB6 := Lib.hid hb6; have HW6 := Lib.hid hW6; clear hb6' hW6))
    go_wp2_with fail
    refine bodyPost_ret (v := .tuple #[.agg #[.slice qa (dig (m / n)).length qc, .bool b6], .agg #[.slice ra 0 rc, .bool b7]]) (by simp [results, Tryz.results103, go_sem, *]) rfl ?_
    have hni := (HRa4.out.below HB7.out).ni
    have hni2 := (HRb4.out.below HB7.out).ni
    refine ⟨_, _, rfl, ⟨_, _, _, _, rfl⟩, ⟨_, _, _, _, rfl⟩, ?_, ?_, below_put (below_put (below_then HBW4.out HB7.out) G5.out.1 _ _) G5.out.2 _ _⟩
    · refine WH.put (WH.put ?_ hni _ _) (hni2.put g9 _ _ _ _) _ _
      rw [HFF.out.1]
      exact HW6'.out
    · refine WH.put (WH.put ?_ hni _ _) (hni2.put g9 _ _ _ _) _ _
      rw [HFF.out.2]
      exact HW7.out
  · rw [if_neg (by rintro (h | h); exact hpq h; exact h0 h)] at hff
    have HFF := Lib.hid hff
    have hpq1 : (p == q) = false := by simp [hpq]
    have hpq2 : (p != q) = true := by simp [hpq]
    have H0 := Lib.hid h0
    clear hff hpq h0
    go_enter Tryz.func103, Tryz.ntmps103
    go_wp2_with fail
    refine (none_calls _ _ _ HWB.out).mono ?_
    rw [hnil.out]
    rintro e w3 ⟨rfl, rfl⟩
    go_wp2_with fail
    refine (divide_calls _ _ m n _ HWA.out HWB.out (by have := HLA.out; omega) (by have := HLB.out; omega) HN0.out).mono ?_
    rintro e w4 ⟨qv, rv, rfl, hq4, hr4, hb4⟩
    have HQ4 := Lib.hid hq4; have HR4 := Lib.hid hr4
    obtain ⟨qa, qc, rfl, _⟩ := hq4
    obtain ⟨ra, rc, rfl, _⟩ := hr4
    replace a0 := cell_on hb4 a0
    replace a1 := cell_on hb4 a1
    replace b0 := cell_on hb4 b0
    replace b1 := cell_on hb4 b1
    have HBW4 := Lib.hid (below_then HBW.out hb4)
    have DR4 := Lib.hid ((Below.refl w4.heap.size w4).drew)
    have HRa4 := Lib.hid (HRa.out.below hb4)
    have HRb4 := Lib.hid (HRb.out.below hb4)
    have HWB4 := Lib.hid (HWB.out.below hb4)
    clear hb4
    obtain ⟨L, hL⟩ : ∃ L, (dig (m % n)).length = L := ⟨_, rfl⟩
    have HL := Lib.hid hL
    rw [hL]
    rw [hL] at HR4
    have hL0 : ((L : Int) == 0) = false := by
      have : L ≠ 0 := fun h => H0.out (by have := HL.out; rw [h] at this; exact dig_eq_nil.1 (List.eq_nil_of_length_eq_zero this))
      simp; omega
    have HLQ : Hid ((dig (m / n)).length ≤ 10000) := Lib.hid (Nat.le_trans (dig_len_mono (Nat.div_le_self m n)) (by have := HLA.out; omega))
    have hMN : m % n ≤ n := Nat.le_of_lt (Nat.mod_lt _ (Nat.pos_of_ne_zero HN0.out))
    have HMN := Lib.hid hMN
    have HLR : Hid ((dig (m % n)).length ≤ 10000) := Lib.hid (Nat.le_trans (dig_len_mono hMN) (by have := HLB.out; omega))
    have DRA4 : Hid (∀ o, Below w4.heap.size w4 (w4.alloc o).drew) := Lib.hid fun o => ((Below.refl w4.heap.size w4).alloc (Nat.le_refl _) o).drew
    clear hMN
    go_wp2_with fail
    go_region_held3 (fun w' => w'.cell? ⟨w.heap.size, 0, none⟩ = some (.slice a an ac) ∧ w'.cell? ⟨w.heap.size, 1, none⟩ = some (.bool p) ∧ w'.cell? ⟨w.heap.size + 1, 0, none⟩ = some (.slice b bn bc) ∧ w'.cell? ⟨w.heap.size + 1, 1, none⟩ = some (.bool q))
      (first | go_keep | (go_split_ands; exact ⟨cell_on hb5 a0, cell_on hb5 a1, cell_on hb5 b0, cell_on hb5 b1⟩) | (go_split_ands; exact ⟨cell_on hb6 a0, cell_on hb6 a1, cell_on hb6 b0, cell_on hb6 b1⟩) | (go_split_ands; exact ⟨cell_on hb8 a0, cell_on hb8 a1, cell_on hb8 b0, cell_on hb8 b1⟩) | (go_split_ands; exact ⟨cell_on hb7 a0, cell_on hb7 a1, cell_on hb7 b0, cell_on hb7 b1⟩))
      (first | (go_at_call 62; refine (plus_calls _ _ (m / n) 1 _ (HQ4.out.below (DRA4.out _)) (RI.one (t := 3) (cell_one_new' _ _)) HLQ.out (by decide +kernel)).mono ?_; rintro e w5 ⟨v5, rfl, hR5, hb5'⟩; have hb5 := below_then (DRA4.out _) hb5'; have HB5 := Lib.hid hb5; have HR5 := Lib.hid hR5; obtain ⟨a5, c5, rfl, hq5⟩ := hR5; clear hb5' hq5)
                   | (go_at_call 52; refine (signed_calls _ _ _ _ HR8.out).mono ?_; rintro e w7 ⟨v7, rfl, hW7, hb7', b7, rfl⟩; have hb7 := below_then HB8.out hb7'; have HB7 := Lib.hid hb7; have HW7 := Lib.hid hW7; have HW6' := Lib.hid (HW6''.out.below hb7'); have y0 := (HRa4.out.below hb7).c0; have y1 := (HRa4.out.below hb7).c1; have y2 := (HRa4.out.below hb7).f0; have y3 := (HRa4.out.below hb7).f1; have z0 := (HRb4.out.below hb7).c0; have z1 := (HRb4.out.below hb7).c1; have z2 := (HRb4.out.below hb7).f0; have z3 := (HRb4.out.below hb7).f1; clear hb7' hW7)
                   | (go_at_call 86; refine (minus_calls _ _ n (m % n) _ (HWB4.out.below HB6.out) (HR4.out.below HB6.out) (by have := HLB.out; omega) HLR.out HMN.out).mono ?_; rintro e w8 ⟨v8, rfl, hR8, hb8'⟩; have hb8 := below_then HB6.out hb8'; have HB8 := Lib.hid hb8; have HR8 := Lib.hid hR8; have HW6'' := Lib.hid (HW6.out.below hb8'); obtain ⟨a8, c8, rfl, hq8⟩ := hR8; clear hb8' hq8)
                   | (go_at_call 52; refine (signed_calls _ _ _ _ HR5.out).mono ?_; rintro e w6 ⟨v6, rfl, hW6, hb6', b6, rfl⟩; have hb6 := below_then HB5.out hb6'; have HB6 := Lib.hid hb6; have HW6 := Lib.hid hW6; clear hb6' hW6))
    go_wp2_with fail
    refine bodyPost_ret (v := .tuple #[.agg #[.slice a5 (dig (m / n + 1)).length c5, .bool b6], .agg #[.slice a8 (dig (n - m % n)).length c8, .bool b7]]) (by simp [results, Tryz.results103, go_sem, *]) rfl ?_
    have hni := (HRa4.out.below HB7.out).ni
    have hni2 := (HRb4.out.below HB7.out).ni
    refine ⟨_, _, rfl, ⟨_, _, _, _, rfl⟩, ⟨_, _, _, _, rfl⟩, ?_, ?_, below_put (below_put (below_then HBW4.out HB7.out) G5.out.1 _ _) G5.out.2 _ _⟩
    · refine WH.put (WH.put ?_ hni _ _) (hni2.put g9 _ _ _ _) _ _
      rw [HFF.out.1]
      exact HW6'.out
    · refine WH.put (WH.put ?_ hni _ _) (hni2.put g9 _ _ _ _) _ _
      rw [HFF.out.2]
      exact HW7.out
end Go.Proofs.YthjpbbbmnmhmmaaGreatDoor
