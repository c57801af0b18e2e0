import Derived.Test.YthjpbbbmnmhmmaaGreatDoorA28
import Derived.Test.YthjpbbbmnmhmmaaGreatDoorA25
import Derived.Test.YthjpbbbmnmhmmaaGreatDoorA24
set_option linter.unusedVariables false
set_option linter.unusedSimpArgs false
namespace Go.Proofs.YthjpbbbmnmhmmaaGreatDoor
open Go.RowKit Go.Shelf Go.Lib

theorem num_nd {a : Vl} {z : Int} (ho : a.ok) (h : a.num = some z) : (dig z.natAbs).length ≤ 400 := by
  have := dig_len_nd (vl_of_num ho h).2
  omega

theorem limZ_res (z : Int) : (Out.num z).res = pr (limZ z) := by
  unfold Out.res limZ pr
  by_cases h : nDigits z.natAbs ≤ 400
  · simp only [h, if_true]; rw [vv_of]
  · simp only [h, if_false]; rfl

theorem two_any (i : Nat) (hi : i < 6) (f : Int → Int → Vl × Int) (o : Int → Int → Out) (a b : Vl) (ha : a.ok) (hb : b.ok) (w : World) (hE : Env w)
    (hf : ∀ x y, (o x y).res = pr (f x y))
    (hop : ∀ x y, (dig x.natAbs).length ≤ 400 → (dig y.natAbs).length ≤ 400 → nDigits x.natAbs ≤ 400 → nDigits y.natAbs ≤ 400 → ∀ va vb W, WH W va x → WH W vb y → Calls Tryz.prog (opF i) #[va, vb] W (OutPost (o x y) W)) :
    Ans Tryz.prog 46 #[.int .i64 i, a.val, b.val] w (pr (opR f a b)) := by
  have ho : pr (Vl.zero, 31) = .tuple #[vE 0 0 [], .int .i64 31] := rfl
  cases hx : a.num with
  | none =>
    have e : opR f a b = (Vl.zero, 31) := by unfold opR; rw [hx]
    rw [e, ho]
    exact two_none1 i ha hx w hE
  | some x =>
    cases hy : b.num with
    | none =>
      have e : opR f a b = (Vl.zero, 31) := by unfold opR; rw [hx, hy]
      rw [e, ho]
      exact two_none2 i ha hx hb hy w hE
    | some y =>
      have e : opR f a b = f x y := by unfold opR; rw [hx, hy]
      rw [e]
      exact two_some i ha hx hb hy w hE hi (o x y) (hop x y (num_nd ha hx) (num_nd hb hy) (vl_of_num ha hx).2 (vl_of_num hb hy).2) _ (hf x y)

theorem len_of_lt {z k : Nat} (h : z < 1000000 ^ k) : (dig z).length ≤ k := dig_len k z h
theorem len_pow {x k : Nat} (h : (dig x).length ≤ k) : x < 1000000 ^ k := Nat.lt_of_lt_of_le (dig_lt x) (Nat.pow_le_pow_right (by decide) h)
theorem len_le_sum {x y z k : Nat} (hx : (dig x).length ≤ k) (hy : (dig y).length ≤ k) (h : z ≤ x + y) : (dig z).length ≤ k + 1 := by
  have := len_pow hx; have := len_pow hy
  exact len_of_lt (by rw [Nat.pow_succ]; omega)
theorem len_mul {x y k : Nat} (hx : (dig x).length ≤ k) (hy : (dig y).length ≤ k) : (dig (x * y)).length ≤ k + k := by
  refine len_of_lt ?_
  rw [Nat.pow_add]
  exact Nat.mul_lt_mul'' (len_pow hx) (len_pow hy)
theorem fdiv_abs (x y : Int) : (x.fdiv y).natAbs ≤ x.natAbs + 1 := by
  by_cases hy : y = 0
  · subst hy; simp
  · have h := floor_facts x y hy
    have hd := Nat.div_le_self x.natAbs y.natAbs
    obtain ⟨q, hq⟩ : ∃ q, x.natAbs / y.natAbs = q := ⟨_, rfl⟩
    rw [hq] at h hd
    split at h
    · rw [h.1]; split <;> omega
    · rw [h.1]; omega
theorem fmod_abs (x y : Int) (hy : y ≠ 0) : (x.fmod y).natAbs ≤ y.natAbs := by
  have h := floor_facts x y hy
  have hm := Nat.mod_lt x.natAbs (show 0 < y.natAbs by omega)
  split at h
  · rw [h.2]; split <;> omega
  · rw [h.2]; split <;> omega

theorem box3_in3 (w : World) (a b c a' b' c' : Value) (t t' : TypeId) (o : Obj) : (((w.alloc (.cells #[a, b, c] t)).alloc (.cells #[a', b', c'] t')).alloc o).cell? ⟨w.heap.size, 0, none⟩ = some a ∧ (((w.alloc (.cells #[a, b, c] t)).alloc (.cells #[a', b', c'] t')).alloc o).cell? ⟨w.heap.size, 1, none⟩ = some b ∧ (((w.alloc (.cells #[a, b, c] t)).alloc (.cells #[a', b', c'] t')).alloc o).cell? ⟨w.heap.size, 2, none⟩ = some c ∧
    (((w.alloc (.cells #[a, b, c] t)).alloc (.cells #[a', b', c'] t')).alloc o).cell? ⟨w.heap.size + 1, 0, none⟩ = some a' ∧ (((w.alloc (.cells #[a, b, c] t)).alloc (.cells #[a', b', c'] t')).alloc o).cell? ⟨w.heap.size + 1, 1, none⟩ = some b' ∧ (((w.alloc (.cells #[a, b, c] t)).alloc (.cells #[a', b', c'] t')).alloc o).cell? ⟨w.heap.size + 1, 2, none⟩ = some c' := by
  obtain ⟨h0, h1, h2⟩ := box3_in w a b c t (.cells #[a', b', c'] t') o
  have hb : Below ((w.alloc (.cells #[a, b, c] t)).alloc (.cells #[a', b', c'] t')).heap.size ((w.alloc (.cells #[a, b, c] t)).alloc (.cells #[a', b', c'] t')) (((w.alloc (.cells #[a, b, c] t)).alloc (.cells #[a', b', c'] t')).alloc o) := (Below.refl _ _).alloc (Nat.le_refl _) o
  exact ⟨h0, h1, h2, cell_on hb (cell_in2 _ _ _ _ 0 rfl), cell_on hb (cell_in2 _ _ _ _ 1 rfl), cell_on hb (cell_in2 _ _ _ _ 2 rfl)⟩

theorem two_add (a b : Vl) (ha : a.ok) (hb : b.ok) (w : World) (hE : Env w) : Ans Tryz.prog 46 #[.int .i64 (0 : Nat), a.val, b.val] w (pr (addR a b)) := by
  refine two_any 0 (by decide) addF (fun x y => .num (x + y)) a b ha hb w hE (fun x y => limZ_res _) ?_
  intro x y h1 h2 n1 n2 va vb W hva hvb
  have hc := sum_calls va vb x y W hva hvb (by omega) (by omega)
  have hb : (dig ((x + y)).natAbs).length ≤ 1000 := Nat.le_trans (len_le_sum h1 h2 (by omega)) (by decide)
  exact hc.mono fun e w2 h => ⟨hb, h⟩

theorem two_sub (a b : Vl) (ha : a.ok) (hb : b.ok) (w : World) (hE : Env w) : Ans Tryz.prog 46 #[.int .i64 (1 : Nat), a.val, b.val] w (pr (subR a b)) := by
  refine two_any 1 (by decide) subF (fun x y => .num (x - y)) a b ha hb w hE (fun x y => limZ_res _) ?_
  intro x y h1 h2 n1 n2 va vb W hva hvb
  have hc := sub_calls va vb x y W hva hvb h1 h2
  have hb : (dig ((x - y)).natAbs).length ≤ 1000 := Nat.le_trans (len_le_sum h1 h2 (by omega)) (by decide)
  exact hc.mono fun e w2 h => ⟨hb, h⟩

theorem two_mul (a b : Vl) (ha : a.ok) (hb : b.ok) (w : World) (hE : Env w) : Ans Tryz.prog 46 #[.int .i64 (2 : Nat), a.val, b.val] w (pr (mulR a b)) := by
  refine two_any 2 (by decide) mulF (fun x y => .num (x * y)) a b ha hb w hE (fun x y => limZ_res _) ?_
  intro x y h1 h2 n1 n2 va vb W hva hvb
  have hc := mul_calls va vb x y W hva hvb h1 h2
  have hb : (dig ((x * y)).natAbs).length ≤ 1000 := by rw [Int.natAbs_mul]; exact Nat.le_trans (len_mul h1 h2) (by decide)
  exact hc.mono fun e w2 h => ⟨hb, h⟩

theorem two_div (a b : Vl) (ha : a.ok) (hb : b.ok) (w : World) (hE : Env w) : Ans Tryz.prog 46 #[.int .i64 (3 : Nat), a.val, b.val] w (pr (divR a b)) := by
  refine two_any 3 (by decide) divF (fun x y => if y = 0 then .err 30 else .num (x.fdiv y)) a b ha hb w hE (fun x y => ?_) ?_
  · unfold divF; split
    · rfl
    · exact limZ_res _
  intro x y h1 h2 n1 n2 va vb W hva hvb
  by_cases hy : y = 0
  · rw [if_pos hy]; subst hy
    exact (div_zero va vb x W hva hvb).mono fun e w2 h => h
  · rw [if_neg hy]
    have hb : (dig (x.fdiv y).natAbs).length ≤ 1000 := Nat.le_trans (len_le_sum h1 (k := 400) (y := 1) (by rw [dig_one]; decide) (fdiv_abs x y)) (by decide)
    exact (div_calls va vb x y W hva hvb h1 h2 hy).mono fun e w2 h => ⟨hb, h⟩

theorem two_mod (a b : Vl) (ha : a.ok) (hb : b.ok) (w : World) (hE : Env w) : Ans Tryz.prog 46 #[.int .i64 (4 : Nat), a.val, b.val] w (pr (modR a b)) := by
  refine two_any 4 (by decide) modF (fun x y => if y = 0 then .err 30 else .num (x.fmod y)) a b ha hb w hE (fun x y => ?_) ?_
  · unfold modF; split
    · rfl
    · exact limZ_res _
  intro x y h1 h2 n1 n2 va vb W hva hvb
  by_cases hy : y = 0
  · rw [if_pos hy]; subst hy
    exact (mod_zero va vb x W hva hvb).mono fun e w2 h => h
  · rw [if_neg hy]
    have hb : (dig (x.fmod y).natAbs).length ≤ 1000 := Nat.le_trans (dig_len_mono (fmod_abs x y hy)) (by omega)
    exact (mod_calls va vb x y W hva hvb h1 h2 hy).mono fun e w2 h => ⟨hb, h⟩

theorem two_gcd (a b : Vl) (ha : a.ok) (hb : b.ok) (w : World) (hE : Env w) : Ans Tryz.prog 46 #[.int .i64 (5 : Nat), a.val, b.val] w (pr (gcdR a b)) := by
  refine two_any 5 (by decide) gcdF (fun x y => .num ((Nat.gcd x.natAbs y.natAbs : Nat) : Int)) a b ha hb w hE (fun x y => limZ_res _) ?_
  intro x y h1 h2 n1 n2 va vb W hva hvb
  have hc := gcd_calls va vb x y W hva hvb h1 h2
  have hb : (dig (((Nat.gcd x.natAbs y.natAbs : Nat) : Int)).natAbs).length ≤ 1000 := by
    rw [Int.natAbs_natCast]
    by_cases hx : x.natAbs = 0
    · rw [hx, Nat.gcd_zero_left]; omega
    · exact Nat.le_trans (dig_len_mono (Nat.gcd_le_left _ (by omega))) (by omega)
  exact hc.mono fun e w2 h => ⟨hb, h⟩

set_option maxRecDepth 100000 in
set_option maxHeartbeats 1000000 in
theorem add_pub (a b : Vl) (ha : a.ok) (hb : b.ok) (w : World) (hE : Env w) : Ans Tryz.prog 27 #[a.val, b.val] w (pr (addR a b)) := by
  have hc : Hid (∀ W, Env W → Ans Tryz.prog 46 #[.int .i64 (0 : Nat), a.val, b.val] W (pr (addR a b))) := Lib.hid fun W hW => two_add a b ha hb W hW
  clear ha hb
  obtain ⟨⟨⟨rk, rn, rt⟩, re⟩, hr⟩ : ∃ r, addR a b = r := ⟨_, rfl⟩
  rw [hr] at hc ⊢
  clear hr
  obtain ⟨k, n, t⟩ := a
  obtain ⟨k', n', t'⟩ := b
  simp only [Vl.val, pr] at hc ⊢
  have HE := Lib.hid hE
  clear hE
  have hO := box3_in3 w (.int .i64 k) (.int .i64 n) (.string ⟨t.toArray⟩) (.int .i64 k') (.int .i64 n') (.string ⟨t'.toArray⟩) 23 23 (.cells #[.int .i64 0, .int .i64 0, .string ⟨#[]⟩] 23)
  have hR := resV_new ((w.alloc (.cells #[.int .i64 k, .int .i64 n, .string ⟨t.toArray⟩] 23)).alloc (.cells #[.int .i64 k', .int .i64 n', .string ⟨t'.toArray⟩] 23)) 23
  have hB : Below w.heap.size w (((w.alloc (.cells #[.int .i64 k, .int .i64 n, .string ⟨t.toArray⟩] 23)).alloc (.cells #[.int .i64 k', .int .i64 n', .string ⟨t'.toArray⟩] 23)).alloc (.cells #[.int .i64 0, .int .i64 0, .string ⟨#[]⟩] 23)) := (((Below.refl _ w).alloc (Nat.le_refl _) _).alloc (by simp) _).alloc (by simp <;> omega) _
  simp only [World.size_alloc] at hR
  obtain ⟨q0, q1, q2, q3, q4, q5⟩ := hO
  obtain ⟨W, hW⟩ : ∃ W, ((w.alloc (.cells #[.int .i64 k, .int .i64 n, .string ⟨t.toArray⟩] 23)).alloc (.cells #[.int .i64 k', .int .i64 n', .string ⟨t'.toArray⟩] 23)).alloc (.cells #[.int .i64 0, .int .i64 0, .string ⟨#[]⟩] 23) = W := ⟨_, rfl⟩
  rw [hW] at q0 q1 q2 q3 q4 q5 hR hB
  have HEW := Lib.hid (HE.out.below hB)
  have HR := Lib.hid hR
  have HB := Lib.hid hB
  clear hR hB
  go_enter Tryz.func27, Tryz.ntmps27
  go_wp2_with fail
  refine (hc.out _ HEW.out).mono ?_
  rintro e w5 ⟨rfl, hb5⟩
  have HB5 := Lib.hid (below_then HB.out hb5)
  have hr := HR.out.below hb5
  have d0 := hr.c0; have d1 := hr.c1; have d2 := hr.c2; have f0 := hr.f0; have f1 := hr.f1; have f2 := hr.f2
  have hlt := hr.lt
  clear hb5 hr q0 q1 q2 q3 q4 q5
  go_wp2_with fail
  refine bodyPost_ret (v := .tuple #[.agg #[.int .i64 rk, .int .i64 rn, .string ⟨rt.toArray⟩], .int .i64 re]) (by simp [results, Tryz.results27, go_sem, *]) rfl ?_
  exact ⟨rfl, below_put3 HB5.out (by omega) _ _ _⟩

set_option maxRecDepth 100000 in
set_option maxHeartbeats 1000000 in
theorem sub_pub (a b : Vl) (ha : a.ok) (hb : b.ok) (w : World) (hE : Env w) : Ans Tryz.prog 29 #[a.val, b.val] w (pr (subR a b)) := by
  have hc : Hid (∀ W, Env W → Ans Tryz.prog 46 #[.int .i64 (1 : Nat), a.val, b.val] W (pr (subR a b))) := Lib.hid fun W hW => two_sub a b ha hb W hW
  clear ha hb
  obtain ⟨⟨⟨rk, rn, rt⟩, re⟩, hr⟩ : ∃ r, subR a b = r := ⟨_, rfl⟩
  rw [hr] at hc ⊢
  clear hr
  obtain ⟨k, n, t⟩ := a
  obtain ⟨k', n', t'⟩ := b
  simp only [Vl.val, pr] at hc ⊢
  have HE := Lib.hid hE
  clear hE
  have hO := box3_in3 w (.int .i64 k) (.int .i64 n) (.string ⟨t.toArray⟩) (.int .i64 k') (.int .i64 n') (.string ⟨t'.toArray⟩) 23 23 (.cells #[.int .i64 0, .int .i64 0, .string ⟨#[]⟩] 23)
  have hR := resV_new ((w.alloc (.cells #[.int .i64 k, .int .i64 n, .string ⟨t.toArray⟩] 23)).alloc (.cells #[.int .i64 k', .int .i64 n', .string ⟨t'.toArray⟩] 23)) 23
  have hB : Below w.heap.size w (((w.alloc (.cells #[.int .i64 k, .int .i64 n, .string ⟨t.toArray⟩] 23)).alloc (.cells #[.int .i64 k', .int .i64 n', .string ⟨t'.toArray⟩] 23)).alloc (.cells #[.int .i64 0, .int .i64 0, .string ⟨#[]⟩] 23)) := (((Below.refl _ w).alloc (Nat.le_refl _) _).alloc (by simp) _).alloc (by simp <;> omega) _
  simp only [World.size_alloc] at hR
  obtain ⟨q0, q1, q2, q3, q4, q5⟩ := hO
  obtain ⟨W, hW⟩ : ∃ W, ((w.alloc (.cells #[.int .i64 k, .int .i64 n, .string ⟨t.toArray⟩] 23)).alloc (.cells #[.int .i64 k', .int .i64 n', .string ⟨t'.toArray⟩] 23)).alloc (.cells #[.int .i64 0, .int .i64 0, .string ⟨#[]⟩] 23) = W := ⟨_, rfl⟩
  rw [hW] at q0 q1 q2 q3 q4 q5 hR hB
  have HEW := Lib.hid (HE.out.below hB)
  have HR := Lib.hid hR
  have HB := Lib.hid hB
  clear hR hB
  go_enter Tryz.func29, Tryz.ntmps29
  go_wp2_with fail
  refine (hc.out _ HEW.out).mono ?_
  rintro e w5 ⟨rfl, hb5⟩
  have HB5 := Lib.hid (below_then HB.out hb5)
  have hr := HR.out.below hb5
  have d0 := hr.c0; have d1 := hr.c1; have d2 := hr.c2; have f0 := hr.f0; have f1 := hr.f1; have f2 := hr.f2
  have hlt := hr.lt
  clear hb5 hr q0 q1 q2 q3 q4 q5
  go_wp2_with fail
  refine bodyPost_ret (v := .tuple #[.agg #[.int .i64 rk, .int .i64 rn, .string ⟨rt.toArray⟩], .int .i64 re]) (by simp [results, Tryz.results29, go_sem, *]) rfl ?_
  exact ⟨rfl, below_put3 HB5.out (by omega) _ _ _⟩

set_option maxRecDepth 100000 in
set_option maxHeartbeats 1000000 in
theorem mul_pub (a b : Vl) (ha : a.ok) (hb : b.ok) (w : World) (hE : Env w) : Ans Tryz.prog 28 #[a.val, b.val] w (pr (mulR a b)) := by
  have hc : Hid (∀ W, Env W → Ans Tryz.prog 46 #[.int .i64 (2 : Nat), a.val, b.val] W (pr (mulR a b))) := Lib.hid fun W hW => two_mul a b ha hb W hW
  clear ha hb
  obtain ⟨⟨⟨rk, rn, rt⟩, re⟩, hr⟩ : ∃ r, mulR a b = r := ⟨_, rfl⟩
  rw [hr] at hc ⊢
  clear hr
  obtain ⟨k, n, t⟩ := a
  obtain ⟨k', n', t'⟩ := b
  simp only [Vl.val, pr] at hc ⊢
  have HE := Lib.hid hE
  clear hE
  have hO := box3_in3 w (.int .i64 k) (.int .i64 n) (.string ⟨t.toArray⟩) (.int .i64 k') (.int .i64 n') (.string ⟨t'.toArray⟩) 23 23 (.cells #[.int .i64 0, .int .i64 0, .string ⟨#[]⟩] 23)
  have hR := resV_new ((w.alloc (.cells #[.int .i64 k, .int .i64 n, .string ⟨t.toArray⟩] 23)).alloc (.cells #[.int .i64 k', .int .i64 n', .string ⟨t'.toArray⟩] 23)) 23
  have hB : Below w.heap.size w (((w.alloc (.cells #[.int .i64 k, .int .i64 n, .string ⟨t.toArray⟩] 23)).alloc (.cells #[.int .i64 k', .int .i64 n', .string ⟨t'.toArray⟩] 23)).alloc (.cells #[.int .i64 0, .int .i64 0, .string ⟨#[]⟩] 23)) := (((Below.refl _ w).alloc (Nat.le_refl _) _).alloc (by simp) _).alloc (by simp <;> omega) _
  simp only [World.size_alloc] at hR
  obtain ⟨q0, q1, q2, q3, q4, q5⟩ := hO
  obtain ⟨W, hW⟩ : ∃ W, ((w.alloc (.cells #[.int .i64 k, .int .i64 n, .string ⟨t.toArray⟩] 23)).alloc (.cells #[.int .i64 k', .int .i64 n', .string ⟨t'.toArray⟩] 23)).alloc (.cells #[.int .i64 0, .int .i64 0, .string ⟨#[]⟩] 23) = W := ⟨_, rfl⟩
  rw [hW] at q0 q1 q2 q3 q4 q5 hR hB
  have HEW := Lib.hid (HE.out.below hB)
  have HR := Lib.hid hR
  have HB := Lib.hid hB
  clear hR hB
  go_enter Tryz.func28, Tryz.ntmps28
  go_wp2_with fail
  refine (hc.out _ HEW.out).mono ?_
  rintro e w5 ⟨rfl, hb5⟩
  have HB5 := Lib.hid (below_then HB.out hb5)
  have hr := HR.out.below hb5
  have d0 := hr.c0; have d1 := hr.c1; have d2 := hr.c2; have f0 := hr.f0; have f1 := hr.f1; have f2 := hr.f2
  have hlt := hr.lt
  clear hb5 hr q0 q1 q2 q3 q4 q5
  go_wp2_with fail
  refine bodyPost_ret (v := .tuple #[.agg #[.int .i64 rk, .int .i64 rn, .string ⟨rt.toArray⟩], .int .i64 re]) (by simp [results, Tryz.results28, go_sem, *]) rfl ?_
  exact ⟨rfl, below_put3 HB5.out (by omega) _ _ _⟩

set_option maxRecDepth 100000 in
set_option maxHeartbeats 1000000 in
theorem div_pub (a b : Vl) (ha : a.ok) (hb : b.ok) (w : World) (hE : Env w) : Ans Tryz.prog 17 #[a.val, b.val] w (pr (divR a b)) := by
  have hc : Hid (∀ W, Env W → Ans Tryz.prog 46 #[.int .i64 (3 : Nat), a.val, b.val] W (pr (divR a b))) := Lib.hid fun W hW => two_div a b ha hb W hW
  clear ha hb
  obtain ⟨⟨⟨rk, rn, rt⟩, re⟩, hr⟩ : ∃ r, divR a b = r := ⟨_, rfl⟩
  rw [hr] at hc ⊢
  clear hr
  obtain ⟨k, n, t⟩ := a
  obtain ⟨k', n', t'⟩ := b
  simp only [Vl.val, pr] at hc ⊢
  have HE := Lib.hid hE
  clear hE
  have hO := box3_in3 w (.int .i64 k) (.int .i64 n) (.string ⟨t.toArray⟩) (.int .i64 k') (.int .i64 n') (.string ⟨t'.toArray⟩) 23 23 (.cells #[.int .i64 0, .int .i64 0, .string ⟨#[]⟩] 23)
  have hR := resV_new ((w.alloc (.cells #[.int .i64 k, .int .i64 n, .string ⟨t.toArray⟩] 23)).alloc (.cells #[.int .i64 k', .int .i64 n', .string ⟨t'.toArray⟩] 23)) 23
  have hB : Below w.heap.size w (((w.alloc (.cells #[.int .i64 k, .int .i64 n, .string ⟨t.toArray⟩] 23)).alloc (.cells #[.int .i64 k', .int .i64 n', .string ⟨t'.toArray⟩] 23)).alloc (.cells #[.int .i64 0, .int .i64 0, .string ⟨#[]⟩] 23)) := (((Below.refl _ w).alloc (Nat.le_refl _) _).alloc (by simp) _).alloc (by simp <;> omega) _
  simp only [World.size_alloc] at hR
  obtain ⟨q0, q1, q2, q3, q4, q5⟩ := hO
  obtain ⟨W, hW⟩ : ∃ W, ((w.alloc (.cells #[.int .i64 k, .int .i64 n, .string ⟨t.toArray⟩] 23)).alloc (.cells #[.int .i64 k', .int .i64 n', .string ⟨t'.toArray⟩] 23)).alloc (.cells #[.int .i64 0, .int .i64 0, .string ⟨#[]⟩] 23) = W := ⟨_, rfl⟩
  rw [hW] at q0 q1 q2 q3 q4 q5 hR hB
  have HEW := Lib.hid (HE.out.below hB)
  have HR := Lib.hid hR
  have HB := Lib.hid hB
  clear hR hB
  go_enter Tryz.func17, Tryz.ntmps17
  go_wp2_with fail
  refine (hc.out _ HEW.out).mono ?_
  rintro e w5 ⟨rfl, hb5⟩
  have HB5 := Lib.hid (below_then HB.out hb5)
  have hr := HR.out.below hb5
  have d0 := hr.c0; have d1 := hr.c1; have d2 := hr.c2; have f0 := hr.f0; have f1 := hr.f1; have f2 := hr.f2
  have hlt := hr.lt
  clear hb5 hr q0 q1 q2 q3 q4 q5
  go_wp2_with fail
  refine bodyPost_ret (v := .tuple #[.agg #[.int .i64 rk, .int .i64 rn, .string ⟨rt.toArray⟩], .int .i64 re]) (by simp [results, Tryz.results17, go_sem, *]) rfl ?_
  exact ⟨rfl, below_put3 HB5.out (by omega) _ _ _⟩

set_option maxRecDepth 100000 in
set_option maxHeartbeats 1000000 in
theorem mod_pub (a b : Vl) (ha : a.ok) (hb : b.ok) (w : World) (hE : Env w) : Ans Tryz.prog 19 #[a.val, b.val] w (pr (modR a b)) := by
  have hc : Hid (∀ W, Env W → Ans Tryz.prog 46 #[.int .i64 (4 : Nat), a.val, b.val] W (pr (modR a b))) := Lib.hid fun W hW => two_mod a b ha hb W hW
  clear ha hb
  obtain ⟨⟨⟨rk, rn, rt⟩, re⟩, hr⟩ : ∃ r, modR a b = r := ⟨_, rfl⟩
  rw [hr] at hc ⊢
  clear hr
  obtain ⟨k, n, t⟩ := a
  obtain ⟨k', n', t'⟩ := b
  simp only [Vl.val, pr] at hc ⊢
  have HE := Lib.hid hE
  clear hE
  have hO := box3_in3 w (.int .i64 k) (.int .i64 n) (.string ⟨t.toArray⟩) (.int .i64 k') (.int .i64 n') (.string ⟨t'.toArray⟩) 23 23 (.cells #[.int .i64 0, .int .i64 0, .string ⟨#[]⟩] 23)
  have hR := resV_new ((w.alloc (.cells #[.int .i64 k, .int .i64 n, .string ⟨t.toArray⟩] 23)).alloc (.cells #[.int .i64 k', .int .i64 n', .string ⟨t'.toArray⟩] 23)) 23
  have hB : Below w.heap.size w (((w.alloc (.cells #[.int .i64 k, .int .i64 n, .string ⟨t.toArray⟩] 23)).alloc (.cells #[.int .i64 k', .int .i64 n', .string ⟨t'.toArray⟩] 23)).alloc (.cells #[.int .i64 0, .int .i64 0, .string ⟨#[]⟩] 23)) := (((Below.refl _ w).alloc (Nat.le_refl _) _).alloc (by simp) _).alloc (by simp <;> omega) _
  simp only [World.size_alloc] at hR
  obtain ⟨q0, q1, q2, q3, q4, q5⟩ := hO
  obtain ⟨W, hW⟩ : ∃ W, ((w.alloc (.cells #[.int .i64 k, .int .i64 n, .string ⟨t.toArray⟩] 23)).alloc (.cells #[.int .i64 k', .int .i64 n', .string ⟨t'.toArray⟩] 23)).alloc (.cells #[.int .i64 0, .int .i64 0, .string ⟨#[]⟩] 23) = W := ⟨_, rfl⟩
  rw [hW] at q0 q1 q2 q3 q4 q5 hR hB
  have HEW := Lib.hid (HE.out.below hB)
  have HR := Lib.hid hR
  have HB := Lib.hid hB
  clear hR hB
  go_enter Tryz.func19, Tryz.ntmps19
  go_wp2_with fail
  refine (hc.out _ HEW.out).mono ?_
  rintro e w5 ⟨rfl, hb5⟩
  have HB5 := Lib.hid (below_then HB.out hb5)
  have hr := HR.out.below hb5
  have d0 := hr.c0; have d1 := hr.c1; have d2 := hr.c2; have f0 := hr.f0; have f1 := hr.f1; have f2 := hr.f2
  have hlt := hr.lt
  clear hb5 hr q0 q1 q2 q3 q4 q5
  go_wp2_with fail
  refine bodyPost_ret (v := .tuple #[.agg #[.int .i64 rk, .int .i64 rn, .string ⟨rt.toArray⟩], .int .i64 re]) (by simp [results, Tryz.results19, go_sem, *]) rfl ?_
  exact ⟨rfl, below_put3 HB5.out (by omega) _ _ _⟩

set_option maxRecDepth 100000 in
set_option maxHeartbeats 1000000 in
theorem gcd_pub (a b : Vl) (ha : a.ok) (hb : b.ok) (w : World) (hE : Env w) : Ans Tryz.prog 23 #[a.val, b.val] w (pr (gcdR a b)) := by
  have hc : Hid (∀ W, Env W → Ans Tryz.prog 46 #[.int .i64 (5 : Nat), a.val, b.val] W (pr (gcdR a b))) := Lib.hid fun W hW => two_gcd a b ha hb W hW
  clear ha hb
  obtain ⟨⟨⟨rk, rn, rt⟩, re⟩, hr⟩ : ∃ r, gcdR a b = r := ⟨_, rfl⟩
  rw [hr] at hc ⊢
  clear hr
  obtain ⟨k, n, t⟩ := a
  obtain ⟨k', n', t'⟩ := b
  simp only [Vl.val, pr] at hc ⊢
  have HE := Lib.hid hE
  clear hE
  have hO := box3_in3 w (.int .i64 k) (.int .i64 n) (.string ⟨t.toArray⟩) (.int .i64 k') (.int .i64 n') (.string ⟨t'.toArray⟩) 23 23 (.cells #[.int .i64 0, .int .i64 0, .string ⟨#[]⟩] 23)
  have hR := resV_new ((w.alloc (.cells #[.int .i64 k, .int .i64 n, .string ⟨t.toArray⟩] 23)).alloc (.cells #[.int .i64 k', .int .i64 n', .string ⟨t'.toArray⟩] 23)) 23
  have hB : Below w.heap.size w (((w.alloc (.cells #[.int .i64 k, .int .i64 n, .string ⟨t.toArray⟩] 23)).alloc (.cells #[.int .i64 k', .int .i64 n', .string ⟨t'.toArray⟩] 23)).alloc (.cells #[.int .i64 0, .int .i64 0, .string ⟨#[]⟩] 23)) := (((Below.refl _ w).alloc (Nat.le_refl _) _).alloc (by simp) _).alloc (by simp <;> omega) _
  simp only [World.size_alloc] at hR
  obtain ⟨q0, q1, q2, q3, q4, q5⟩ := hO
  obtain ⟨W, hW⟩ : ∃ W, ((w.alloc (.cells #[.int .i64 k, .int .i64 n, .string ⟨t.toArray⟩] 23)).alloc (.cells #[.int .i64 k', .int .i64 n', .string ⟨t'.toArray⟩] 23)).alloc (.cells #[.int .i64 0, .int .i64 0, .string ⟨#[]⟩] 23) = W := ⟨_, rfl⟩
  rw [hW] at q0 q1 q2 q3 q4 q5 hR hB
  have HEW := Lib.hid (HE.out.below hB)
  have HR := Lib.hid hR
  have HB := Lib.hid hB
  clear hR hB
  go_enter Tryz.func23, Tryz.ntmps23
  go_wp2_with fail
  refine (hc.out _ HEW.out).mono ?_
  rintro e w5 ⟨rfl, hb5⟩
  have HB5 := Lib.hid (below_then HB.out hb5)
  have hr := HR.out.below hb5
  have d0 := hr.c0; have d1 := hr.c1; have d2 := hr.c2; have f0 := hr.f0; have f1 := hr.f1; have f2 := hr.f2
  have hlt := hr.lt
  clear hb5 hr q0 q1 q2 q3 q4 q5
  go_wp2_with fail
  refine bodyPost_ret (v := .tuple #[.agg #[.int .i64 rk, .int .i64 rn, .string ⟨rt.toArray⟩], .int .i64 re]) (by simp [results, Tryz.results23, go_sem, *]) rfl ?_
  exact ⟨rfl, below_put3 HB5.out (by omega) _ _ _⟩

theorem lessV (a b : Vl) (ha : a.ok) (hb : b.ok) (w : World) (hE : Env w) : Ans Tryz.prog 37 #[a.val, b.val] w (.tuple #[.bool (lessR a b).1, .int .i64 (lessR a b).2]) := by
  refine less_pub ha hb w hE _ ?_
  unfold lessR Vl.num
  cases numZ a.k a.n a.t with
  | none => rfl
  | some x => cases numZ b.k b.n b.t <;> rfl

theorem powV (a : Vl) (n : Int) (ha : a.ok) (w : World) (hE : Env w) : Ans Tryz.prog 21 #[a.val, .int .i64 n] w (pr (powR a n)) := by
  unfold powR
  cases hx : a.num with
  | none => exact pow_none ha hx n w hE
  | some x =>
    dsimp only
    by_cases hn : n < 0 ∨ 2000 < n
    · rw [if_pos hn]; exact pow_arg ha hx n hn w hE
    · rw [if_neg hn]
      obtain ⟨N, rfl⟩ := Int.eq_ofNat_of_zero_le (show 0 ≤ n by omega)
      refine pow_loop ha hx N (by omega) w hE _ ?_
      rw [Int.toNat_natCast]
      exact (limZ_res (x ^ N)).symm

theorem rootV (a : Vl) (ha : a.ok) (w : World) (hE : Env w) : Ans Tryz.prog 25 #[a.val] w (pr (rootR a)) := by
  unfold rootR
  cases hx : a.num with
  | none => exact root_none ha hx w hE
  | some x =>
    dsimp only
    by_cases hn : x < 0
    · rw [if_pos hn]; exact root_neg ha hx hn w hE
    · rw [if_neg hn]
      have := root_some ha hx (by omega) w hE
      rw [vv_of] at this
      exact this

theorem ofV (t : List UInt8) (ht : t.length ≤ 100000) (w : World) (hE : Env w) : Ans Tryz.prog 39 #[.string ⟨t.toArray⟩] w (pr (ofR t)) := by
  have := of_pub t ht w hE
  unfold ofR
  cases hz : readZ t with
  | none => rw [hz] at this; exact this
  | some z => rw [hz] at this; dsimp only at this ⊢; rw [vv_of] at this; exact this

theorem textV (a : Vl) (ha : a.ok) (w : World) (hE : Env w) : Ans Tryz.prog 32 #[a.val] w (.tuple #[.string ⟨(textR a).1.toArray⟩, .int .i64 (textR a).2]) := by
  have := text_pub ha w hE
  unfold textR Vl.num
  cases hz : numZ a.k a.n a.t with
  | none => rw [hz] at this; exact this
  | some z => rw [hz] at this; exact this

theorem digitsV (a : Vl) (ha : a.ok) (w : World) (hE : Env w) : Ans Tryz.prog 42 #[a.val] w (.tuple #[.int .i64 (digitsR a).1, .int .i64 (digitsR a).2]) := by
  have := digits_pub ha w hE
  unfold digitsR Vl.num
  cases hz : numZ a.k a.n a.t with
  | none => rw [hz] at this; exact this
  | some z => rw [hz] at this; exact this

theorem checkV (a : Vl) (ha : a.ok) (w : World) (hE : Env w) : Ans Tryz.prog 44 #[a.val] w (.int .i64 (checkR a)) := by
  have := check_calls ha w hE
  unfold checkR Vl.num
  cases hz : numZ a.k a.n a.t with
  | none => rw [hz] at this; exact this
  | some z => rw [hz] at this; exact this
end Go.Proofs.YthjpbbbmnmhmmaaGreatDoor
