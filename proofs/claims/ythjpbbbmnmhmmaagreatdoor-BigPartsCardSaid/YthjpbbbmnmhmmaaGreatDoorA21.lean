import Derived.Test.YthjpbbbmnmhmmaaGreatDoorA20
set_option linter.unusedVariables false
set_option linter.unusedSimpArgs false
namespace Go.Proofs.YthjpbbbmnmhmmaaGreatDoor
open Go.RowKit Go.Shelf Go.Lib

/-- The number that a slice's cells hold: the measure of Euclid's loop. -/
def sliceVal (W : World) (v : Value) : Nat :=
  match v with
  | .slice (some a) n _ => (val ((List.range n).map fun j => match W.cell? ⟨a.block, a.off + j, none⟩ with | some (.int _ x) => x | _ => 0)).toNat
  | _ => 0

theorem sliceVal_RI {W : World} {v : Value} {n : Nat} (h : RI W v (dig n)) : sliceVal W v = n := by
  obtain ⟨a, cap, rfl, hl, hc⟩ := h
  by_cases h0 : dig n = []
  · have hn := dig_eq_nil.1 h0
    subst hn
    rw [h0]
    cases a with
    | none => rfl
    | some a => simp [sliceVal, val]
  · obtain ⟨b, off, rfl, hc'⟩ := hc h0
    have e : (List.range (dig n).length).map (fun j => match W.cell? ⟨b, off + j, none⟩ with | some (.int _ x) => x | _ => 0) = dig n := by
      apply List.ext_getElem
      · simp
      · intro i h1 h2
        simp only [List.getElem_map, List.getElem_range]
        rw [hc' i h2]
        simp [rd, List.getElem?_eq_getElem h2]
    unfold sliceVal
    simp only
    rw [e, val_dig]; simp

set_option maxRecDepth 100000 in
set_option maxHeartbeats 4000000 in
theorem gcd_calls (va vb : Value) (x y : Int) (w : World) (ha : WH w va x) (hb : WH w vb y) (hla : (dig x.natAbs).length ≤ 400) (hlb : (dig y.natAbs).length ≤ 400) :
    Calls Tryz.prog 105 #[va, vb] w (OpPost w (((Nat.gcd x.natAbs y.natAbs : Nat) : Int))) := by
  obtain ⟨a, an, ac, rfl, hra⟩ := ha.parts
  obtain ⟨b, bn, bc, rfl, hrb⟩ := hb.parts
  have HA := Lib.hid hra; have HB := Lib.hid hrb
  have HWA0 := Lib.hid ha; have HWB0 := Lib.hid hb
  have HLA := Lib.hid hla; have HLB := Lib.hid hlb
  clear ha hb hra hrb hla hlb
  obtain ⟨m, hm⟩ : ∃ m, x.natAbs = m := ⟨_, rfl⟩
  obtain ⟨n, hn⟩ : ∃ n, y.natAbs = n := ⟨_, rfl⟩
  obtain ⟨p, hp⟩ : ∃ p, decide (x < 0) = p := ⟨_, rfl⟩
  obtain ⟨q, hq⟩ : ∃ q, decide (y < 0) = q := ⟨_, rfl⟩
  have HM := Lib.hid hm; have HN := Lib.hid hn; have HP := Lib.hid hp; have HQ := Lib.hid hq
  rw [hm] at HA; rw [hn] at HB; rw [hp] at HWA0 ⊢; rw [hq] at HWB0 ⊢
  clear hm hn hp hq
  have htwo := two_in w a an ac p b bn bc q 62 62 62
  obtain ⟨W, hW⟩ : ∃ W, ((w.alloc (.cells #[.slice a an ac, .bool p] 62)).alloc (.cells #[.slice b bn bc, .bool q] 62)).alloc (.cells #[.slice none 0 0, .bool false] 62) = W := ⟨_, rfl⟩
  rw [hW] at htwo
  have T0 := Lib.hid htwo
  have a0 := htwo.a0; have a1 := htwo.a1; have b0 := htwo.b0; have b1 := htwo.b1
  have DR := Lib.hid ((Below.refl W.heap.size W).drew)
  have hlt := htwo.r.lt
  have hTW := Lib.hid ((Below.refl w.heap.size w).trans htwo.bel)
  obtain ⟨g1, g2, g3, g4⟩ := two_ne w.heap.size
  clear htwo
  obtain ⟨Z, hZ⟩ : ∃ Z, ((Nat.gcd x.natAbs y.natAbs : Nat) : Int) = Z := ⟨_, rfl⟩
  have HZ := Lib.hid hZ
  rw [hZ]
  clear hZ
  go_enter Tryz.func105, Tryz.ntmps105
  go_wp2_with fail
  go_quiet (fail)
  obtain ⟨W2, hW2, hbd⟩ := drew_fresh W nq
  rw [hW2]
  have T2 := Lib.hid (T0.out.below hbd)
  have RA2 := Lib.hid ((HA.out.below T0.out.bel).below hbd)
  have RB2 := Lib.hid ((HB.out.below T0.out.bel).below hbd)
  clear hbd hW2 a0 a1 b0 b1
  go_wp2_with fail
  go_loopw [5, 6] (fun v5 v6 wr => ∃ (i j : Nat) (a5 : Option Addr) (L5 c5 : Nat) (a6 : Option Addr) (L6 c6 : Nat), v5 = .slice a5 L5 c5 ∧ v6 = .slice a6 L6 c6 ∧ Hid (RI wr (.slice a5 L5 c5) (dig i)) ∧ Hid (RI wr (.slice a6 L6 c6) (dig j)) ∧ Hid (Nat.gcd i j = Nat.gcd m n ∧ (dig i).length ≤ 400 ∧ (dig j).length ≤ 400) ∧ Hid (Two w wr a an ac p b bn bc q)) (fun _ v6 wr => sliceVal wr v6)
  case atStart => exact ⟨m, n, _, _, _, _, _, _, rfl, rfl, RA2, RB2, Lib.hid ⟨rfl, by have h := HLA.out; rw [HM.out] at h; exact h, by have h := HLB.out; rw [HN.out] at h; exact h⟩, T2⟩
  case round =>
    obtain ⟨i, j, a5, L5, c5, a6, L6, c6, rfl, rfl, R5, R6, HG, T3⟩ := hrel
    have hL : Hid (L6 = (dig j).length) := Lib.hid (by obtain ⟨_, _, e, _⟩ := R6.out; cases e; rfl)
    by_cases h0 : L6 = 0
    · subst h0
      have hj0 : j = 0 := dig_eq_nil.1 (List.eq_nil_of_length_eq_zero hL.out.symm)
      have HI := Lib.hid (show i = Nat.gcd m n from by have := HG.out.1; rw [hj0, Nat.gcd_zero_right] at this; exact this)
      clear hj0 hL R6
      go_wp2_with fail
      refine (signed_calls _ i false _ R5.out).mono ?_
      rintro e w7 ⟨v7, rfl, hW7, hb7, b7, rfl⟩
      have HB7 := Lib.hid hb7; have HW7 := Lib.hid hW7
      have y0 := (T3.out.below hb7).r.c0; have y1 := (T3.out.below hb7).r.c1; have y2 := (T3.out.below hb7).r.f0; have y3 := (T3.out.below hb7).r.f1
      clear hb7 hW7
      go_wp2_with fail
      refine bodyPost_ret (v := .agg #[.slice a5 L5 c5, .bool b7]) (by simp [results, Tryz.results105, go_sem, *]) rfl ?_
      refine ⟨_, rfl, ⟨_, _, _, _, rfl⟩, ?_, below_put (T3.out.below HB7.out).bel (by omega) _ _⟩
      refine WH.put ?_ (T3.out.below HB7.out).r.ni _ _
      have e : (if false = true then -(i : Int) else (i : Int)) = Z := by rw [← HZ.out, HM.out, HN.out, ← HI.out]; rfl
      rw [← e]; exact HW7.out
    · have hL0 : (0 : Int) < (L6 : Int) := by omega
      have hj0 : j ≠ 0 := fun e => h0 (by rw [hL.out, e, dig_zero]; rfl)
      have HJ := Lib.hid hj0
      clear h0 hj0
      go_wp2_with fail
      refine (divide_calls _ _ i j _ R5.out R6.out (by have := HG.out.2.1; omega) (by have := HG.out.2.2; omega) HJ.out).mono ?_
      rintro e w4 ⟨qv, rv, rfl, hq4, hr4, hb4⟩
      have HR4 := Lib.hid hr4
      have R6' := Lib.hid (R6.out.below hb4)
      have T4 := Lib.hid (T3.out.below hb4)
      obtain ⟨qa, qc, rfl, _⟩ := hq4
      obtain ⟨ra, rc, rfl, _⟩ := hr4
      clear hb4
      go_wp2_with fail
      refine ⟨⟨j, i % j, _, _, _, _, _, _, rfl, rfl, R6', HR4, Lib.hid ⟨by rw [← HG.out.1, Nat.gcd_comm j, ← Nat.gcd_rec, Nat.gcd_comm], HG.out.2.2, Nat.le_trans (dig_len_mono (Nat.le_of_lt (Nat.mod_lt _ (Nat.pos_of_ne_zero HJ.out)))) HG.out.2.2⟩, T4⟩, ?_⟩
      rw [sliceVal_RI HR4.out, sliceVal_RI R6.out]
      exact Nat.mod_lt _ (Nat.pos_of_ne_zero HJ.out)
end Go.Proofs.YthjpbbbmnmhmmaaGreatDoor
