import Derived.Test.YthjpbbbmnmhmmaaGreatDoorA27
import Derived.Test.YthjpbbbmnmhmmaaGreatDoorA11
import Derived.Test.YthjpbbbmnmhmmaaGreatDoorM9
import Derived.Test.YthjpbbbmnmhmmaaGreatDoorA21
set_option linter.unusedVariables false
set_option linter.unusedSimpArgs false
namespace Go.Proofs.YthjpbbbmnmhmmaaGreatDoor
open Go.RowKit Go.Shelf Go.Lib

set_option maxRecDepth 100000 in
set_option maxHeartbeats 2000000 in
theorem divide_nil (va vb : Value) (n : Nat) (w : World) (ha : RI w va (dig 0)) (hb : RI w vb (dig n)) :
    Calls Tryz.prog 61 #[va, vb] w fun e w' => ∃ q r, e = .returned (.tuple #[q, r]) ∧ RI w' q (dig 0) ∧ RI w' r (dig 0) ∧ Below w.heap.size w w' := by
  rw [dig_zero] at ha ⊢
  obtain ⟨a, ca, rfl, _, _⟩ := ha
  obtain ⟨b, cb, rfl, _, _⟩ := hb
  obtain ⟨i0, hi, hz0, hz1, hz2⟩ := info_parts infoInt
  simp only [List.length_nil]
  go_enter Tryz.func61, Tryz.ntmps61
  go_wp2_with (at_make; refine wpList_make_full w rfl _ _ 60 rfl w.heap.size 3 i0 (.int .i64 0) 1 Tryz.underlying60 hi hz0 hz1 _ _ _ _ 0 rfl rfl rfl rfl (by rw [hz2]; omega) (by unfold maxLen; omega) (Nat.le_refl _) ?_; intro w1 hown hgrow)
  have hO : OwnI w1 w.heap.size w.heap.size 0 [] := ⟨by simp, by
    have := hown; simp only [Value.cells, Nat.mul_one, toList_madeCells_one] at this; exact this⟩
  have hB0 : Below w.heap.size w w1 := (Below.refl _ w).grown hgrow (Nat.le_refl _) (fun k e => by cases e)
  have HO := Lib.hid hO; have HB0 := Lib.hid hB0
  clear hown hgrow hO hB0
  go_loopw [7, 8] (fun r t wr => t = .int .i64 (-1) ∧ r = .slice none 0 0 ∧ Hid (OwnI wr w.heap.size w.heap.size 0 []) ∧ Hid (Below w.heap.size w wr)) (fun _ t _ => (RowKit.intOf t + 1).toNat)
  case atStart => exact ⟨rfl, rfl, HO, HB0⟩
  case round =>
    clear HO HB0
    obtain ⟨rfl, rfl, hO, hbel⟩ := hrel
    have hq := Lib.hid (hO.out.reads (by omega))
    go_wp2_with fail
    refine (values_digits _ [] _ hq.out).mono ?_
    rintro e w2 ⟨fv, rfl, hI, hb2⟩
    have hI' := Lib.hid hI
    have hb2' := Lib.hid hb2
    clear hI hb2
    go_wp2_with fail
    refine (gathered_calls _ fv [] w2 hI'.out hb2'.out.size (by simp) (fun x hx => by cases hx)).mono ?_
    rintro e w3 ⟨qv, rfl, hQ, hb3, _⟩
    have hQ' := Lib.hid hQ
    have hb3' := Lib.hid (below_then hb2'.out hb3)
    clear hQ hb3
    go_wp2_with fail
    go_ret2
    have h0 : dig (val []).toNat = [] := by rw [show (val ([] : List Int)).toNat = 0 from rfl]; exact dig_zero
    exact ⟨_, _, rfl, by rw [← h0]; exact hQ'.out, RI.nil _, hbel.out.trans (hb3'.out.mono hbel.out.size)⟩

theorem divide_any (va vb : Value) (m n : Nat) (w : World) (ha : RI w va (dig m)) (hb : RI w vb (dig n)) (hla : (dig m).length ≤ 500) (hlb : (dig n).length ≤ 500) (hn : n = 0 → m = 0) :
    Calls Tryz.prog 61 #[va, vb] w fun e w' => ∃ q r, e = .returned (.tuple #[q, r]) ∧ RI w' q (dig (m / n)) ∧ RI w' r (dig (m % n)) ∧ Below w.heap.size w w' := by
  by_cases h : n = 0
  · obtain rfl := hn h
    rw [Nat.zero_div, Nat.zero_mod]
    exact divide_nil va vb n w ha hb
  · exact divide_calls va vb m n w ha hb hla hlb h

theorem dig_len_add {m n k : Nat} (hm : (dig m).length ≤ k) (hn : (dig n).length ≤ k) : (dig (m + n)).length ≤ k + 1 := by
  have h1 := dig_lt m; have h2 := dig_lt n
  have p1 : (1000000 : Nat) ^ (dig m).length ≤ 1000000 ^ k := Nat.pow_le_pow_right (by decide) hm
  have p2 : (1000000 : Nat) ^ (dig n).length ≤ 1000000 ^ k := Nat.pow_le_pow_right (by decide) hn
  exact dig_len (k + 1) _ (by rw [Nat.pow_succ]; omega)

theorem dig_two : dig 2 = [2] := by decide +kernel
theorem RI.two {W : World} {g : Nat} {t : TypeId} (h : W.cell? ⟨g, 0, none⟩ = some (.int .i64 2)) : RI W (.slice (some ⟨g, 0, none⟩) 1 1) (dig 2) := by
  rw [dig_two]
  refine ⟨_, 1, rfl, by simp, fun _ => ⟨g, 0, rfl, fun j hj => ?_⟩⟩
  obtain rfl : j = 0 := by simp at hj; omega
  exact h

theorem resAt_root {T : Array Value} {gv ge : Nat} (h4 : T[2]? = some (.pointer (some ⟨gv, 0, none⟩))) (h5 : T[3]? = some (.pointer (some ⟨ge, 0, none⟩))) : ResAt Tryz.f25 T gv ge := by
  intro W k n e t h
  simp [results, Tryz.results25, go_sem, h.v0, h.v1, h.v2, h.e0, vE, h4, h5]

set_option maxRecDepth 100000 in
set_option maxHeartbeats 2000000 in
theorem root_none {k n : Int} {t : List UInt8} (h : VOk k n t) (hz : numZ k n t = none) (w : World) (hE : Env w) :
    Ans Tryz.prog 25 #[.agg #[.int .i64 k, .int .i64 n, .string ⟨t.toArray⟩]] w (.tuple #[vE 0 0 [], .int .i64 31]) := by
  have HE := Lib.hid hE
  have HV := Lib.hid h
  have HZ := Lib.hid hz
  clear hz hE h
  have hR := res2_in w (.cells #[.int .i64 k, .int .i64 n, .string ⟨t.toArray⟩] 23) 23 26
  obtain ⟨W, hW⟩ : ∃ W, ((w.alloc (.cells #[.int .i64 k, .int .i64 n, .string ⟨t.toArray⟩] 23)).alloc (.cells #[.int .i64 0, .int .i64 0, .string ⟨#[]⟩] 23)).alloc (.cells #[.int .i64 0] 26) = W := ⟨_, rfl⟩
  obtain ⟨q0, q1, q2⟩ := box3_in w (.int .i64 k) (.int .i64 n) (.string ⟨t.toArray⟩) 23 (.cells #[.int .i64 0, .int .i64 0, .string ⟨#[]⟩] 23) (.cells #[.int .i64 0] 26)
  rw [hW] at hR q0 q1 q2
  have O := Lib.hid hR
  have HEW := Lib.hid (HE.out.below hR.bel)
  clear hR
  go_enter_defers Tryz.func25, Tryz.ntmps25
  go_wp2_with fail
  refine (need_none HV.out HZ.out _ HEW.out).mono ?_
  rintro e w5 ⟨rfl, hb5⟩
  have O5 := Lib.hid (O.out.below hb5)
  clear hb5
  exact O5.out.panic 31 (resAt_root rfl rfl)

set_option maxRecDepth 100000 in
set_option maxHeartbeats 2000000 in
theorem root_neg {k n : Int} {t : List UInt8} {x : Int} (h : VOk k n t) (hz : numZ k n t = some x) (hx : x < 0) (w : World) (hE : Env w) :
    Ans Tryz.prog 25 #[.agg #[.int .i64 k, .int .i64 n, .string ⟨t.toArray⟩]] w (.tuple #[vE 0 0 [], .int .i64 1]) := by
  have HX := Lib.hid hx
  clear hx
  have HE := Lib.hid hE
  have HV := Lib.hid h
  have HZ := Lib.hid hz
  clear hz hE h
  have hR := res2_in w (.cells #[.int .i64 k, .int .i64 n, .string ⟨t.toArray⟩] 23) 23 26
  obtain ⟨W, hW⟩ : ∃ W, ((w.alloc (.cells #[.int .i64 k, .int .i64 n, .string ⟨t.toArray⟩] 23)).alloc (.cells #[.int .i64 0, .int .i64 0, .string ⟨#[]⟩] 23)).alloc (.cells #[.int .i64 0] 26) = W := ⟨_, rfl⟩
  obtain ⟨q0, q1, q2⟩ := box3_in w (.int .i64 k) (.int .i64 n) (.string ⟨t.toArray⟩) 23 (.cells #[.int .i64 0, .int .i64 0, .string ⟨#[]⟩] 23) (.cells #[.int .i64 0] 26)
  rw [hW] at hR q0 q1 q2
  have O := Lib.hid hR
  have HEW := Lib.hid (HE.out.below hR.bel)
  clear hR
  go_enter_defers Tryz.func25, Tryz.ntmps25
  go_wp2_with fail
  refine (need_some HV.out HZ.out _ HEW.out).mono ?_
  rintro e w5 ⟨v, rfl, ⟨a, an, ac, p, rfl⟩, hW5, hb5⟩
  obtain ⟨sv, e5, hri⟩ := hW5
  have hp : p = true := by cases e5; simp [HX.out]
  clear e5 hri
  subst hp
  have O5 := Lib.hid (O.out.below hb5)
  have z0 := O5.out.r.c0; have z1 := O5.out.r.c1; have z2 := O5.out.r.c2; have z3 := O5.out.r.f0; have z4 := O5.out.r.f1; have z5 := O5.out.r.f2
  have w0 := O5.out.e0; have w1 := O5.out.f0
  have hl := O5.out.lt; have hl1 := O5.out.r.lt
  have n5 : ¬ w.heap.size + 1 = w.heap.size + 1 + 1 := by omega
  have n6 : ¬ w.heap.size + 1 + 1 = w.heap.size + 1 := by omega
  clear hb5
  go_wp2_with fail
  exact leave_idle (resAt_root rfl rfl) ((O5.out.put 0 0 1 []).1.below ((Below.refl _ _).alloc (Nat.le_refl _) _)) ((O5.out.put 0 0 1 []).2.alloc (O5.out.put 0 0 1 []).2.size _)

/-- The state of Root's loop. -/
structure RootS (w w5 W : World) (gx X R : Nat) (a : Option Addr) (an ac : Nat) (rv : Value) : Prop where
  x0 : W.cell? ⟨gx, 0, none⟩ = some (.slice a an ac)
  hx : RI W (.slice a an ac) (dig X)
  hr : RI W rv (dig R)
  le : isq X ≤ R
  nz : R = 0 → X = 0
  len : (dig R).length ≤ 400
  res : Res2 w W (w.heap.size + 1) (w.heap.size + 1 + 1)
  bel : Below w5.heap.size w5 W

theorem set_last (k : Nat) : (List.replicate (k + 1) (0 : Int)).set k 1 = dig (1000000 ^ k) := by
  rw [dig_pow, List.replicate_succ', List.set_append_right _ _ (by simp)]
  simp

theorem RootS.below {w w5 W W' : World} {gx X R : Nat} {a : Option Addr} {an ac : Nat} {rv : Value} (h : RootS w w5 W gx X R a an ac rv) (hb : Below W.heap.size W W') : RootS w w5 W' gx X R a an ac rv :=
  ⟨cell_on hb h.x0, h.hx.below hb, h.hr.below hb, h.le, h.nz, h.len, h.res.below hb, below_then h.bel hb⟩

set_option maxRecDepth 100000 in
set_option maxHeartbeats 4000000 in
theorem root_some {k n : Int} {t : List UInt8} {x : Int} (h : VOk k n t) (hz : numZ k n t = some x) (hx : 0 ≤ x) (w : World) (hE : Env w) :
    Ans Tryz.prog 25 #[.agg #[.int .i64 k, .int .i64 n, .string ⟨t.toArray⟩]] w (.tuple #[vv ((isq x.natAbs : Nat) : Int), .int .i64 0]) := by
  have HX := Lib.hid hx
  have hnd := (numZ_nd h.n hz).1
  have hlen := dig_len_nd hnd
  obtain ⟨X, hXx⟩ : ∃ X, x.natAbs = X := ⟨_, rfl⟩
  rw [hXx] at hnd hlen ⊢
  obtain ⟨k', n', t', hv⟩ : ∃ k' n' t', vv ((isq X : Nat) : Int) = .agg #[.int .i64 k', .int .i64 n', .string ⟨List.toArray t'⟩] := by
    unfold vv; split
    · exact ⟨_, _, [], rfl⟩
    · exact ⟨_, _, _, rfl⟩
  rw [hv]
  have HVV := Lib.hid hv
  have HND := Lib.hid hnd; have HLEN := Lib.hid hlen; have HXX := Lib.hid hXx
  obtain ⟨i0, hi, hz0, hz1, hz2⟩ := info_parts infoInt
  clear hx hnd hlen hXx hv
  have HE := Lib.hid hE
  have HV := Lib.hid h
  have HZ := Lib.hid hz
  clear hz hE h
  have hR := res2_in w (.cells #[.int .i64 k, .int .i64 n, .string ⟨t.toArray⟩] 23) 23 26
  obtain ⟨W, hW⟩ : ∃ W, ((w.alloc (.cells #[.int .i64 k, .int .i64 n, .string ⟨t.toArray⟩] 23)).alloc (.cells #[.int .i64 0, .int .i64 0, .string ⟨#[]⟩] 23)).alloc (.cells #[.int .i64 0] 26) = W := ⟨_, rfl⟩
  obtain ⟨q0, q1, q2⟩ := box3_in w (.int .i64 k) (.int .i64 n) (.string ⟨t.toArray⟩) 23 (.cells #[.int .i64 0, .int .i64 0, .string ⟨#[]⟩] 23) (.cells #[.int .i64 0] 26)
  rw [hW] at hR q0 q1 q2
  have O := Lib.hid hR
  have HEW := Lib.hid (HE.out.below hR.bel)
  clear hR
  go_enter_defers Tryz.func25, Tryz.ntmps25
  go_wp2_with fail
  refine (need_some HV.out HZ.out _ HEW.out).mono ?_
  rintro e w5 ⟨v, rfl, ⟨a, an, ac, p, rfl⟩, hW5, hb5⟩
  obtain ⟨sv, e5, hri⟩ := hW5
  have hp : p = false := by cases e5; have := HX.out; simp; omega
  have he5 : sv = .slice a an ac := by cases e5; rfl
  subst he5
  rw [HXX.out] at hri
  have han : an = (dig X).length := by obtain ⟨_, _, e, _⟩ := hri; cases e; rfl
  clear e5
  subst hp
  subst han
  have HR5 := Lib.hid hri
  have O5 := Lib.hid (O.out.below hb5)
  have HE5 := Lib.hid (HEW.out.below hb5)
  clear hb5 hri q0 q1 q2
  obtain ⟨L, hL⟩ : ∃ L, (dig X).length = L := ⟨_, rfl⟩
  have HL := Lib.hid hL
  have hL70 : L ≤ 70 := by have := HLEN.out; omega
  rw [hL]
  clear hL
  go_upto_region 5 with fail
  have hb6 : Below w5.heap.size w5 (w5.alloc (.cells #[.slice a L ac, .bool false] 62)) := (Below.refl _ _).alloc (Nat.le_refl _) _
  have x0 : (w5.alloc (.cells #[.slice a L ac, .bool false] 62)).cell? ⟨w5.heap.size, 0, none⟩ = some (.slice a L ac) := cell_in _ _ _ 0 rfl
  have hlt6 : w5.heap.size < (w5.alloc (.cells #[.slice a L ac, .bool false] 62)).heap.size := by simp
  obtain ⟨W6, hW6⟩ : ∃ W, w5.alloc (.cells #[.slice a L ac, .bool false] 62) = W := ⟨_, rfl⟩
  obtain ⟨gx, hgx⟩ : ∃ g, w5.heap.size = g := ⟨_, rfl⟩
  rw [hW6] at hb6 x0 hlt6 ⊢
  have HB6 := Lib.hid hb6
  rw [hgx] at x0 hlt6 ⊢
  have HGX := Lib.hid hgx
  clear hW6 hb6 hgx
  obtain ⟨M, hM⟩ : ∃ M : Nat, L / 2 + 2 = M := ⟨_, rfl⟩
  have hM2 : ((L : Int) / 2 + 2) = (M : Int) := by omega
  have hM50 : M ≤ 50 := by omega
  have hM1 : 1 < M := by omega
  have HM := Lib.hid hM
  have HM2 := Lib.hid hM2
  clear hM hM2
  go_wp2_with (at_make; rw [HM2.out]; refine wpList_make_full W6 rfl _ _ 60 rfl W6.heap.size 3 i0 (.int .i64 0) 1 Tryz.underlying60 hi hz0 hz1 _ _ _ _ M rfl rfl rfl rfl (by rw [hz2]; omega) (by unfold maxLen; omega) (Nat.le_refl _) ?_; intro w7 hown hgrow; go_must (have hO : OwnI w7 W6.heap.size W6.heap.size M (List.replicate M 0) := ⟨by simp, by (have := hown; simp only [Value.cells, Nat.mul_one, toList_madeCells_one] at this; rw [List.map_replicate]; exact this)⟩; have hB7 : Below W6.heap.size W6 w7 := (Below.refl _ W6).grown hgrow (Nat.le_refl _) (fun k e => by cases e); have hcz := hO.cell (j := M - 1) (by omega); have hfz := hO.frozen (M - 1); have HO := Lib.hid hO; have HB7 := Lib.hid hB7; have m0 : (0 : Int) ≤ (M : Int) - 1 := (by omega); have m1 : (M : Int) - 1 < (M : Int) := (by omega); clear hown hgrow hO hB7))
  have hb8 : Below W6.heap.size W6 (w7.setCell ⟨W6.heap.size, M - 1, none⟩ (.int .i64 1)) := HB7.out.setCell (p := ⟨W6.heap.size, M - 1, none⟩) (Nat.le_refl _) _
  have hR8 : RI (w7.setCell ⟨W6.heap.size, M - 1, none⟩ (.int .i64 1)) (.slice (some ⟨W6.heap.size, 0, none⟩) M M) (dig (1000000 ^ (M - 1))) := by
    have h := (HO.out.stored (M - 1) 1).1.reads (by omega)
    obtain ⟨k, rfl⟩ : ∃ k, M = k + 1 := ⟨M - 1, by omega⟩
    rw [Nat.add_sub_cancel, set_last] at h
    rw [Nat.add_sub_cancel]
    exact h
  obtain ⟨W8, hW8⟩ : ∃ W, w7.setCell ⟨W6.heap.size, M - 1, none⟩ (.int .i64 1) = W := ⟨_, rfl⟩
  rw [hW8] at hb8 hR8 ⊢
  have hlx : Hid ((dig X).length ≤ 400) := Lib.hid (by have := HLEN.out; omega)
  have S8 : Hid (RootS w w5 W8 gx X (1000000 ^ (M - 1)) a L ac (.slice (some ⟨W6.heap.size, 0, none⟩) M M)) := Lib.hid {
    x0 := cell_on hb8 x0
    hx := by have := (HR5.out.below HB6.out).below hb8; rw [HL.out] at this; exact this
    hr := hR8
    le := by
      have h1 := dig_lt_pow X
      rw [HL.out] at h1
      have h2 := isq_lt_pow h1
      rw [show L / 2 + 1 = M - 1 by have := HM.out; omega] at h2
      exact Nat.le_of_lt h2
    nz := fun h0 => absurd h0 (Nat.ne_of_gt (Nat.pow_pos (by decide)))
    len := by rw [dig_pow]; simp; omega
    res := (O5.out.below HB6.out).below hb8
    bel := below_then HB6.out hb8 }
  clear hb8 hR8 hW8 hcz hfz HO HB7 m0 m1 x0 HM2
  go_loopw [5] (fun rv wr => ∃ R, Hid (RootS w w5 wr gx X R a L ac rv)) (fun rv wr => sliceVal wr rv)
  case atStart => exact ⟨_, S8⟩
  case round =>
    obtain ⟨R, HS⟩ := hrel
    have x0 := HS.out.x0
    go_wp2_with fail
    refine (divide_any _ _ X R _ HS.out.hx HS.out.hr (by have := hlx.out; omega) (by have := HS.out.len; omega) HS.out.nz).mono ?_
    rintro e w9 ⟨q, r2, rfl, hq, _, hb9⟩
    have S9 := Lib.hid (HS.out.below hb9)
    have HQ := Lib.hid hq
    clear hb9 hq x0
    go_wp2_with fail
    refine (plus_calls _ _ R (X / R) _ S9.out.hr HQ.out (by have := S9.out.len; omega) (by have := dig_len_mono (Nat.div_le_self X R); have := hlx.out; omega)).mono ?_
    rintro e w10 ⟨sv, rfl, hs, hb10⟩
    obtain ⟨N2, hN2⟩ : ∃ N, R + X / R = N := ⟨_, rfl⟩
    rw [hN2] at hs
    have HN2 := Lib.hid hN2
    have S10 := Lib.hid (S9.out.below hb10)
    have HSV := Lib.hid hs
    have hl2 : Hid ((dig N2).length ≤ 500) := Lib.hid (by
      rw [← hN2]
      exact Nat.le_trans (dig_len_add S9.out.len (Nat.le_trans (dig_len_mono (Nat.div_le_self X R)) hlx.out)) (by decide))
    clear hb10 hs hN2
    go_wp2_with fail
    have hb11 : Below w10.heap.size w10 (w10.alloc (.cells #[.int .i64 2] 3)) := (Below.refl _ _).alloc (Nat.le_refl _) _
    have h2 := RI.two (t := 3) (cell_in w10 #[.int .i64 2] 3 0 rfl)
    have S11 := Lib.hid (S10.out.below hb11)
    have HSV11 := Lib.hid (HSV.out.below hb11)
    have H2 := Lib.hid h2
    clear hb11 h2
    refine (divide_calls _ _ N2 2 _ HSV11.out H2.out hl2.out (by rw [dig_two]; decide) (by decide)).mono ?_
    rintro e w12 ⟨nx, r3, rfl, hn, _, hb12⟩
    have S12 := Lib.hid (S11.out.below hb12)
    have HNX := Lib.hid hn
    clear hn hb12
    go_wp2_with fail
    refine (compareN_calls _ _ (N2 / 2) R _ HNX.out S12.out.hr).mono ?_
    rintro e w13 ⟨rfl, hb13⟩
    have S13 := Lib.hid (S12.out.below hb13)
    have HNX13 := Lib.hid (HNX.out.below hb13)
    clear hb13
    by_cases hge : R ≤ N2 / 2
    · obtain ⟨cc, hcc, hcc0⟩ : ∃ cc : Int, cmpI ((N2 / 2 : Nat) : Int) (R : Int) = cc ∧ 0 ≤ cc := ⟨_, rfl, cmpI_ge (by omega)⟩
      rw [hcc]
      have hRX : Hid (R = isq X) := Lib.hid (by
        rw [← HN2.out] at hge
        rcases Nat.eq_zero_or_pos R with h0 | h0
        · have := S13.out.nz h0
          rw [h0, this]; rfl
        · exact newton_end h0 S13.out.le hge)
      clear hcc hge
      go_wp2_with fail
      refine (signed_calls _ R false _ S13.out.hr).mono ?_
      rintro e w14 ⟨v, rfl, hW14, hb14, b14, rfl⟩
      have HW14 : Hid (WH w14 (.agg #[_, .bool b14]) ((isq X : Nat) : Int)) := Lib.hid (by rw [← hRX.out]; exact hW14)
      have S14 := Lib.hid (S13.out.below hb14)
      have HE14 := Lib.hid (HE5.out.below S14.out.bel)
      have HNDR : Hid (nDigits ((isq X : Nat) : Int).natAbs ≤ 400) := Lib.hid (by
        have := isq_nd (x := x) (by rw [HXX.out]; exact HND.out)
        rw [HXX.out] at this
        simpa using this)
      clear hW14 hb14
      go_wp2_with fail
      refine (val_ok _ _ _ HW14.out HE14.out HNDR.out).mono ?_
      rw [HVV.out]
      rintro e w15 ⟨rfl, hb15⟩
      have OZ := Lib.hid (S14.out.res.below hb15)
      clear hb15
      have z0 := OZ.out.r.c0; have z1 := OZ.out.r.c1; have z2 := OZ.out.r.c2; have z3 := OZ.out.r.f0; have z4 := OZ.out.r.f1; have z5 := OZ.out.r.f2
      have w0 := OZ.out.e0; have w1 := OZ.out.f0
      have hl := OZ.out.lt; have hl1 := OZ.out.r.lt
      have n5 : ¬ w.heap.size + 1 = w.heap.size + 1 + 1 := by omega
      have n6 : ¬ w.heap.size + 1 + 1 = w.heap.size + 1 := by omega
      go_wp2_with fail
      exact leave_idle (resAt_root rfl rfl) (OZ.out.put k' n' 0 t').1 (OZ.out.put k' n' 0 t').2
    · have hcc : cmpI ((N2 / 2 : Nat) : Int) (R : Int) = -1 := by unfold cmpI; rw [if_pos (by omega)]
      rw [hcc]
      have SN : Hid (RootS w w5 w13 gx X (N2 / 2) a L ac nx) := Lib.hid {
        x0 := S13.out.x0
        hx := S13.out.hx
        hr := HNX13.out
        le := by rw [← HN2.out]; exact newton_ge (by omega)
        nz := fun h0 => by
          have h1 : R = 1 := by have := HN2.out; have := Nat.le_add_right R (X / R); omega
          subst h1
          have := HN2.out
          rw [Nat.div_one] at this
          omega
        len := Nat.le_trans (dig_len_mono (show N2 / 2 ≤ R by omega)) S13.out.len
        res := S13.out.res
        bel := S13.out.bel }
      have HLT := Lib.hid (show N2 / 2 < R by omega)
      clear hcc hge
      go_wp2_with fail
      refine ⟨⟨_, SN⟩, ?_⟩
      rw [sliceVal_RI SN.out.hr, sliceVal_RI HS.out.hr]
      exact HLT.out
end Go.Proofs.YthjpbbbmnmhmmaaGreatDoor
