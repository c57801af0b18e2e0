import Derived.Test.YthjpbbbmnmhmmaaGreatDoorA19
set_option linter.unusedVariables false
set_option linter.unusedSimpArgs false
namespace Go.Proofs.YthjpbbbmnmhmmaaGreatDoor
open Go.RowKit Go.Shelf Go.Lib

/-- Two wholes in their boxes, and the result's variable. -/
structure Two (w W : World) (a : Option Addr) (an ac : Nat) (p : Bool) (b : Option Addr) (bn bc : Nat) (q : Bool) : Prop where
  a0 : W.cell? ⟨w.heap.size, 0, none⟩ = some (.slice a an ac)
  a1 : W.cell? ⟨w.heap.size, 1, none⟩ = some (.bool p)
  b0 : W.cell? ⟨w.heap.size + 1, 0, none⟩ = some (.slice b bn bc)
  b1 : W.cell? ⟨w.heap.size + 1, 1, none⟩ = some (.bool q)
  r : ResW W (w.heap.size + 1 + 1)
  bel : Below w.heap.size w W

theorem two_in (w : World) (a : Option Addr) (an ac : Nat) (p : Bool) (b : Option Addr) (bn bc : Nat) (q : Bool) (t t' t'' : TypeId) :
    Two w (((w.alloc (.cells #[.slice a an ac, .bool p] t)).alloc (.cells #[.slice b bn bc, .bool q] t')).alloc (.cells #[.slice none 0 0, .bool false] t'')) a an ac p b bn bc q := by
  have hb2 : ∀ W : World, Below W.heap.size W (W.alloc (.cells #[.slice none 0 0, .bool false] t'')) := fun W => (Below.refl _ _).alloc (Nat.le_refl _) _
  refine ⟨cell_on (hb2 _) (cell_on ((Below.refl _ _).alloc (Nat.le_refl _) _) (cell_in _ _ _ 0 rfl)), cell_on (hb2 _) (cell_on ((Below.refl _ _).alloc (Nat.le_refl _) _) (cell_in _ _ _ 1 rfl)), cell_on (hb2 _) (cell_in2 _ _ _ _ 0 rfl), cell_on (hb2 _) (cell_in2 _ _ _ _ 1 rfl), ?_, ((((Below.refl _ w).alloc (Nat.le_refl _) _).alloc (by simp) _).alloc (by simp <;> omega) _)⟩
  have := resW_new ((w.alloc (.cells #[.slice a an ac, .bool p] t)).alloc (.cells #[.slice b bn bc, .bool q] t')) t''
  simpa using this

theorem Two.below {w W W' : World} {a : Option Addr} {an ac : Nat} {p : Bool} {b : Option Addr} {bn bc : Nat} {q : Bool} (h : Two w W a an ac p b bn bc q) (hb : Below W.heap.size W W') : Two w W' a an ac p b bn bc q :=
  ⟨cell_on hb h.a0, cell_on hb h.a1, cell_on hb h.b0, cell_on hb h.b1, h.r.below hb, below_then h.bel hb⟩

theorem mul_signs {x y : Int} {p q : Bool} (hp : decide (x < 0) = p) (hq : decide (y < 0) = q) : (if (p != q) = true then -((x.natAbs * y.natAbs : Nat) : Int) else ((x.natAbs * y.natAbs : Nat) : Int)) = x * y := by
  have hx : x = (if p then -(x.natAbs : Int) else x.natAbs) := by subst hp; by_cases h : x < 0 <;> simp [h] <;> omega
  have hy : y = (if q then -(y.natAbs : Int) else y.natAbs) := by subst hq; by_cases h : y < 0 <;> simp [h] <;> omega
  generalize x.natAbs = m at *
  generalize y.natAbs = n at *
  subst hx hy
  clear hp hq
  cases p <;> cases q <;> simp [Int.neg_mul, Int.mul_neg]

/-- What an operation of wholes gives. -/
def OpPost (w : World) (z : Int) (e : Ending) (w' : World) : Prop := ∃ v, e = .returned v ∧ FormW v ∧ WH w' v z ∧ Below w.heap.size w w'

theorem two_ne (n : Nat) : ¬ n = n + 1 + 1 ∧ ¬ n + 1 + 1 = n ∧ ¬ n + 1 = n + 1 + 1 ∧ ¬ n + 1 + 1 = n + 1 := by omega

set_option maxRecDepth 100000 in
set_option maxHeartbeats 4000000 in
theorem sub_calls (va vb : Value) (x y : Int) (w : World) (ha : WH w va x) (hb : WH w vb y) (hla : (dig x.natAbs).length ≤ 400) (hlb : (dig y.natAbs).length ≤ 400) :
    Calls Tryz.prog 100 #[va, vb] w (OpPost w (x - y)) := by
  obtain ⟨a, an, ac, rfl, hra⟩ := ha.parts
  obtain ⟨b, bn, bc, rfl, hrb⟩ := hb.parts
  have HA := Lib.hid hra; have HB := Lib.hid hrb
  have HWA0 := Lib.hid ha; have HWB0 := Lib.hid hb
  have HLA := Lib.hid hla; have HLB := Lib.hid hlb
  clear ha hb hra hrb hla hlb
  obtain ⟨m, hm⟩ : ∃ m, x.natAbs = m := ⟨_, rfl⟩
  obtain ⟨n, hn⟩ : ∃ n, y.natAbs = n := ⟨_, rfl⟩
  obtain ⟨p, hp⟩ : ∃ p, decide (x < 0) = p := ⟨_, rfl⟩
  obtain ⟨q, hq⟩ : ∃ q, decide (y < 0) = q := ⟨_, rfl⟩
  have HM := Lib.hid hm; have HN := Lib.hid hn; have HP := Lib.hid hp; have HQ := Lib.hid hq
  rw [hm] at HA; rw [hn] at HB; rw [hp] at HWA0 ⊢; rw [hq] at HWB0 ⊢
  clear hm hn hp hq
  have htwo := two_in w a an ac p b bn bc q 62 62 62
  obtain ⟨W, hW⟩ : ∃ W, ((w.alloc (.cells #[.slice a an ac, .bool p] 62)).alloc (.cells #[.slice b bn bc, .bool q] 62)).alloc (.cells #[.slice none 0 0, .bool false] 62) = W := ⟨_, rfl⟩
  rw [hW] at htwo
  have T0 := Lib.hid htwo
  have a0 := htwo.a0; have a1 := htwo.a1; have b0 := htwo.b0; have b1 := htwo.b1
  have DR := Lib.hid ((Below.refl W.heap.size W).drew)
  have hlt := htwo.r.lt
  have hTW := Lib.hid ((Below.refl w.heap.size w).trans htwo.bel)
  obtain ⟨g1, g2, g3, g4⟩ := two_ne w.heap.size
  clear htwo
  obtain ⟨Z, hZ⟩ : ∃ Z, x - y = Z := ⟨_, rfl⟩
  have HZ := Lib.hid hZ
  rw [hZ]
  clear hZ
  go_enter Tryz.func100, Tryz.ntmps100
  go_wp2_with fail
  go_region_held3 (fun w' => w'.cell? ⟨w.heap.size, 0, none⟩ = some (.slice a an ac) ∧ w'.cell? ⟨w.heap.size, 1, none⟩ = some (.bool p) ∧ w'.cell? ⟨w.heap.size + 1, 0, none⟩ = some (.slice b bn bc) ∧ w'.cell? ⟨w.heap.size + 1, 1, none⟩ = some (.bool q))
    (first | go_keep | (go_split_ands; exact ⟨cell_on hb6 a0, cell_on hb6 a1, cell_on hb6 b0, cell_on hb6 b1⟩) | (go_split_ands; exact ⟨cell_on hb7 a0, cell_on hb7 a1, cell_on hb7 b0, cell_on hb7 b1⟩))
    (first | (go_at_call 52; refine (signed_calls _ n (!q) _ ((HB.out.below T0.out.bel).below DR.out)).mono ?_; rintro e w6 ⟨v6, rfl, hW6, hb6', b6, rfl⟩; have hb6 := below_then DR.out hb6'; have HB6 := Lib.hid hb6; have HW6 := Lib.hid hW6; clear hb6' hW6)
            | (go_at_call 99; refine (sum_calls _ _ x _ _ ((HWA0.out.below T0.out.bel).below HB6.out) HW6.out (by have := HLA.out; omega) (by have h := HLB.out; have h2 := HN.out; rw [h2] at h; split <;> simp <;> omega)).mono ?_; rintro e w7 ⟨v7, rfl, hf7, hW7, hb7'⟩; have hb7 := below_then HB6.out hb7'; have HB7 := Lib.hid hb7; have HW7 := Lib.hid hW7; obtain ⟨a7, n7, c7, b7, rfl⟩ := hf7; have y0 := (T0.out.below hb7).r.c0; have y1 := (T0.out.below hb7).r.c1; have y2 := (T0.out.below hb7).r.f0; have y3 := (T0.out.below hb7).r.f1; clear hb7' hW7))
  go_wp2_with fail
  refine bodyPost_ret (v := .agg #[.slice a7 n7 c7, .bool b7]) (by simp [results, Tryz.results100, go_sem, *]) rfl ?_
  refine ⟨_, rfl, ⟨_, _, _, _, rfl⟩, ?_, below_put (T0.out.below HB7.out).bel (by omega) _ _⟩
  refine WH.put ?_ (T0.out.below HB7.out).r.ni _ _
  have e : x + (if (!q) = true then -(n : Int) else (n : Int)) = Z := by
    rw [← HZ.out, ← HN.out]; have h2 := HQ.out
    cases q <;> simp at h2 ⊢ <;> omega
  rw [← e]; exact HW7.out

set_option maxRecDepth 100000 in
set_option maxHeartbeats 4000000 in
theorem mul_calls (va vb : Value) (x y : Int) (w : World) (ha : WH w va x) (hb : WH w vb y) (hla : (dig x.natAbs).length ≤ 400) (hlb : (dig y.natAbs).length ≤ 400) :
    Calls Tryz.prog 101 #[va, vb] w (OpPost w (x * y)) := by
  obtain ⟨a, an, ac, rfl, hra⟩ := ha.parts
  obtain ⟨b, bn, bc, rfl, hrb⟩ := hb.parts
  have HA := Lib.hid hra; have HB := Lib.hid hrb
  have HWA0 := Lib.hid ha; have HWB0 := Lib.hid hb
  have HLA := Lib.hid hla; have HLB := Lib.hid hlb
  clear ha hb hra hrb hla hlb
  obtain ⟨m, hm⟩ : ∃ m, x.natAbs = m := ⟨_, rfl⟩
  obtain ⟨n, hn⟩ : ∃ n, y.natAbs = n := ⟨_, rfl⟩
  obtain ⟨p, hp⟩ : ∃ p, decide (x < 0) = p := ⟨_, rfl⟩
  obtain ⟨q, hq⟩ : ∃ q, decide (y < 0) = q := ⟨_, rfl⟩
  have HM := Lib.hid hm; have HN := Lib.hid hn; have HP := Lib.hid hp; have HQ := Lib.hid hq
  rw [hm] at HA; rw [hn] at HB; rw [hp] at HWA0 ⊢; rw [hq] at HWB0 ⊢
  clear hm hn hp hq
  have htwo := two_in w a an ac p b bn bc q 62 62 62
  obtain ⟨W, hW⟩ : ∃ W, ((w.alloc (.cells #[.slice a an ac, .bool p] 62)).alloc (.cells #[.slice b bn bc, .bool q] 62)).alloc (.cells #[.slice none 0 0, .bool false] 62) = W := ⟨_, rfl⟩
  rw [hW] at htwo
  have T0 := Lib.hid htwo
  have a0 := htwo.a0; have a1 := htwo.a1; have b0 := htwo.b0; have b1 := htwo.b1
  have DR := Lib.hid ((Below.refl W.heap.size W).drew)
  have hlt := htwo.r.lt
  have hTW := Lib.hid ((Below.refl w.heap.size w).trans htwo.bel)
  obtain ⟨g1, g2, g3, g4⟩ := two_ne w.heap.size
  clear htwo
  obtain ⟨Z, hZ⟩ : ∃ Z, x * y = Z := ⟨_, rfl⟩
  have HZ := Lib.hid hZ
  rw [hZ]
  clear hZ
  go_enter Tryz.func101, Tryz.ntmps101
  go_wp2_with fail
  go_region_held3 (fun w' => w'.cell? ⟨w.heap.size, 0, none⟩ = some (.slice a an ac) ∧ w'.cell? ⟨w.heap.size, 1, none⟩ = some (.bool p) ∧ w'.cell? ⟨w.heap.size + 1, 0, none⟩ = some (.slice b bn bc) ∧ w'.cell? ⟨w.heap.size + 1, 1, none⟩ = some (.bool q))
    (first | go_keep | (go_split_ands; exact ⟨cell_on hb5 a0, cell_on hb5 a1, cell_on hb5 b0, cell_on hb5 b1⟩) | (go_split_ands; exact ⟨cell_on hb7 a0, cell_on hb7 a1, cell_on hb7 b0, cell_on hb7 b1⟩))
    (first | (go_at_call 53; refine (times_calls _ _ m n _ ((HA.out.below T0.out.bel).below DR.out) ((HB.out.below T0.out.bel).below DR.out) (by have h := HLA.out; have h2 := HM.out; rw [h2] at h; omega) (by have h := HLB.out; have h2 := HN.out; rw [h2] at h; omega)).mono ?_; rintro e w5 ⟨v5, rfl, hR5, hb5'⟩; have hb5 := below_then DR.out hb5'; have HB5 := Lib.hid hb5; have HR5 := Lib.hid hR5; obtain ⟨a5, c5, rfl, hq5⟩ := hR5; clear hb5' hq5)
            | (go_at_call 52; refine (signed_calls _ _ _ _ HR5.out).mono ?_; rintro e w7 ⟨v7, rfl, hW7, hb7', b7, rfl⟩; have hb7 := below_then HB5.out hb7'; have HB7 := Lib.hid hb7; have HW7 := Lib.hid hW7; have y0 := (T0.out.below hb7).r.c0; have y1 := (T0.out.below hb7).r.c1; have y2 := (T0.out.below hb7).r.f0; have y3 := (T0.out.below hb7).r.f1; clear hb7' hW7))
  go_wp2_with fail
  refine bodyPost_ret (v := .agg #[.slice a5 (dig (m * n)).length c5, .bool b7]) (by simp [results, Tryz.results101, go_sem, *]) rfl ?_
  refine ⟨_, rfl, ⟨_, _, _, _, rfl⟩, ?_, below_put (T0.out.below HB7.out).bel (by omega) _ _⟩
  refine WH.put ?_ (T0.out.below HB7.out).r.ni _ _
  have e : (if (p != q) = true then -((m * n : Nat) : Int) else ((m * n : Nat) : Int)) = Z := by
    rw [← HZ.out, ← HM.out, ← HN.out]; have h1 := HP.out; have h2 := HQ.out
    exact mul_signs h1 h2
  rw [← e]; exact HW7.out

set_option maxRecDepth 100000 in
set_option maxHeartbeats 4000000 in
theorem div_calls (va vb : Value) (x y : Int) (w : World) (ha : WH w va x) (hb : WH w vb y) (hla : (dig x.natAbs).length ≤ 400) (hlb : (dig y.natAbs).length ≤ 400) (hy : y ≠ 0) :
    Calls Tryz.prog 102 #[va, vb] w (OpPost w (x.fdiv y)) := by
  obtain ⟨a, an, ac, rfl, hra⟩ := ha.parts
  obtain ⟨b, bn, bc, rfl, hrb⟩ := hb.parts
  have HA := Lib.hid hra; have HB := Lib.hid hrb
  have HWA0 := Lib.hid ha; have HWB0 := Lib.hid hb
  have HLA := Lib.hid hla; have HLB := Lib.hid hlb
  have HY := Lib.hid hy
  clear hy
  clear ha hb hra hrb hla hlb
  obtain ⟨m, hm⟩ : ∃ m, x.natAbs = m := ⟨_, rfl⟩
  obtain ⟨n, hn⟩ : ∃ n, y.natAbs = n := ⟨_, rfl⟩
  obtain ⟨p, hp⟩ : ∃ p, decide (x < 0) = p := ⟨_, rfl⟩
  obtain ⟨q, hq⟩ : ∃ q, decide (y < 0) = q := ⟨_, rfl⟩
  have HM := Lib.hid hm; have HN := Lib.hid hn; have HP := Lib.hid hp; have HQ := Lib.hid hq
  rw [hm] at HA; rw [hn] at HB; rw [hp] at HWA0 ⊢; rw [hq] at HWB0 ⊢
  clear hm hn hp hq
  have htwo := two_in w a an ac p b bn bc q 62 62 62
  obtain ⟨W, hW⟩ : ∃ W, ((w.alloc (.cells #[.slice a an ac, .bool p] 62)).alloc (.cells #[.slice b bn bc, .bool q] 62)).alloc (.cells #[.slice none 0 0, .bool false] 62) = W := ⟨_, rfl⟩
  rw [hW] at htwo
  have T0 := Lib.hid htwo
  have a0 := htwo.a0; have a1 := htwo.a1; have b0 := htwo.b0; have b1 := htwo.b1
  have DR := Lib.hid ((Below.refl W.heap.size W).drew)
  have hlt := htwo.r.lt
  have hTW := Lib.hid ((Below.refl w.heap.size w).trans htwo.bel)
  obtain ⟨g1, g2, g3, g4⟩ := two_ne w.heap.size
  clear htwo
  obtain ⟨Z, hZ⟩ : ∃ Z, x.fdiv y = Z := ⟨_, rfl⟩
  have HZ := Lib.hid hZ
  rw [hZ]
  clear hZ
  go_enter Tryz.func102, Tryz.ntmps102
  go_wp2_with fail
  refine (floor_calls _ _ x y _ (HWA0.out.below T0.out.bel) (HWB0.out.below T0.out.bel) HLA.out HLB.out HY.out).mono ?_
  rw [HZ.out]
  rintro e w7 ⟨v5, v6, rfl, ⟨a5, n5, c5, p5, rfl⟩, ⟨a6, n6, c6, p6, rfl⟩, hW5, hW6, hb7⟩
  have HB7 := Lib.hid hb7
  have HQ5 := Lib.hid hW5; have HR5 := Lib.hid hW6
  have y0 := (T0.out.below hb7).r.c0; have y1 := (T0.out.below hb7).r.c1; have y2 := (T0.out.below hb7).r.f0; have y3 := (T0.out.below hb7).r.f1
  have hlt7 := (T0.out.below hb7).r.lt
  have hlt8 : w.heap.size + 1 < w7.heap.size := by omega
  clear hb7 hW5 hW6
  go_wp2_with fail
  refine bodyPost_ret (v := .agg #[.slice a5 n5 c5, .bool p5]) (by simp [results, Tryz.results102, go_sem, *]) rfl ?_
  have hbe := below_put (T0.out.below HB7.out).bel (g := w.heap.size + 1 + 1) (by omega)
  refine ⟨_, rfl, ⟨_, _, _, _, rfl⟩, ?_, ((hbe _ _).alloc (hbe _ _).size _).alloc (((hbe _ _).alloc (hbe _ _).size _).size) _⟩
  refine WH.below (WH.put HQ5.out (T0.out.below HB7.out).r.ni _ _) (((Below.refl _ _).alloc (Nat.le_refl _) _).alloc (by simp) _)

set_option maxRecDepth 100000 in
set_option maxHeartbeats 4000000 in
theorem mod_calls (va vb : Value) (x y : Int) (w : World) (ha : WH w va x) (hb : WH w vb y) (hla : (dig x.natAbs).length ≤ 400) (hlb : (dig y.natAbs).length ≤ 400) (hy : y ≠ 0) :
    Calls Tryz.prog 104 #[va, vb] w (OpPost w (x.fmod y)) := by
  obtain ⟨a, an, ac, rfl, hra⟩ := ha.parts
  obtain ⟨b, bn, bc, rfl, hrb⟩ := hb.parts
  have HA := Lib.hid hra; have HB := Lib.hid hrb
  have HWA0 := Lib.hid ha; have HWB0 := Lib.hid hb
  have HLA := Lib.hid hla; have HLB := Lib.hid hlb
  have HY := Lib.hid hy
  clear hy
  clear ha hb hra hrb hla hlb
  obtain ⟨m, hm⟩ : ∃ m, x.natAbs = m := ⟨_, rfl⟩
  obtain ⟨n, hn⟩ : ∃ n, y.natAbs = n := ⟨_, rfl⟩
  obtain ⟨p, hp⟩ : ∃ p, decide (x < 0) = p := ⟨_, rfl⟩
  obtain ⟨q, hq⟩ : ∃ q, decide (y < 0) = q := ⟨_, rfl⟩
  have HM := Lib.hid hm; have HN := Lib.hid hn; have HP := Lib.hid hp; have HQ := Lib.hid hq
  rw [hm] at HA; rw [hn] at HB; rw [hp] at HWA0 ⊢; rw [hq] at HWB0 ⊢
  clear hm hn hp hq
  have htwo := two_in w a an ac p b bn bc q 62 62 62
  obtain ⟨W, hW⟩ : ∃ W, ((w.alloc (.cells #[.slice a an ac, .bool p] 62)).alloc (.cells #[.slice b bn bc, .bool q] 62)).alloc (.cells #[.slice none 0 0, .bool false] 62) = W := ⟨_, rfl⟩
  rw [hW] at htwo
  have T0 := Lib.hid htwo
  have a0 := htwo.a0; have a1 := htwo.a1; have b0 := htwo.b0; have b1 := htwo.b1
  have DR := Lib.hid ((Below.refl W.heap.size W).drew)
  have hlt := htwo.r.lt
  have hTW := Lib.hid ((Below.refl w.heap.size w).trans htwo.bel)
  obtain ⟨g1, g2, g3, g4⟩ := two_ne w.heap.size
  clear htwo
  obtain ⟨Z, hZ⟩ : ∃ Z, x.fmod y = Z := ⟨_, rfl⟩
  have HZ := Lib.hid hZ
  rw [hZ]
  clear hZ
  go_enter Tryz.func104, Tryz.ntmps104
  go_wp2_with fail
  refine (floor_calls _ _ x y _ (HWA0.out.below T0.out.bel) (HWB0.out.below T0.out.bel) HLA.out HLB.out HY.out).mono ?_
  rw [HZ.out]
  rintro e w7 ⟨v5, v6, rfl, ⟨a5, n5, c5, p5, rfl⟩, ⟨a6, n6, c6, p6, rfl⟩, hW5, hW6, hb7⟩
  have HB7 := Lib.hid hb7
  have HQ5 := Lib.hid hW5; have HR5 := Lib.hid hW6
  have y0 := (T0.out.below hb7).r.c0; have y1 := (T0.out.below hb7).r.c1; have y2 := (T0.out.below hb7).r.f0; have y3 := (T0.out.below hb7).r.f1
  have hlt7 := (T0.out.below hb7).r.lt
  have hlt8 : w.heap.size + 1 < w7.heap.size := by omega
  clear hb7 hW5 hW6
  go_wp2_with fail
  refine bodyPost_ret (v := .agg #[.slice a6 n6 c6, .bool p6]) (by simp [results, Tryz.results104, go_sem, *]) rfl ?_
  have hbe := below_put (T0.out.below HB7.out).bel (g := w.heap.size + 1 + 1) (by omega)
  refine ⟨_, rfl, ⟨_, _, _, _, rfl⟩, ?_, ((hbe _ _).alloc (hbe _ _).size _).alloc (((hbe _ _).alloc (hbe _ _).size _).size) _⟩
  refine WH.below (WH.put HR5.out (T0.out.below HB7.out).r.ni _ _) (((Below.refl _ _).alloc (Nat.le_refl _) _).alloc (by simp) _)

set_option maxRecDepth 100000 in
set_option maxHeartbeats 4000000 in
theorem div_zero (va vb : Value) (x : Int) (w : World) (ha : WH w va x) (hb : WH w vb 0) :
    Calls Tryz.prog 102 #[va, vb] w fun e w' => e = .panicked (badV 30) ∧ Below w.heap.size w w' := by
  obtain ⟨a, an, ac, rfl, hra⟩ := ha.parts
  obtain ⟨b, bn, bc, rfl, hrb⟩ := hb.parts
  have HWA0 := Lib.hid ha; have HWB0 := Lib.hid hb
  clear ha hb hra hrb
  have hbb : ∀ o1 o2 o3, Below w.heap.size w (((w.alloc o1).alloc o2).alloc o3) := fun o1 o2 o3 => (((Below.refl _ w).alloc (Nat.le_refl _) o1).alloc (by simp) o2).alloc (by simp <;> omega) o3
  have HBB := Lib.hid hbb
  clear hbb
  obtain ⟨p, hp⟩ : ∃ p, decide (x < 0) = p := ⟨_, rfl⟩
  obtain ⟨q, hq⟩ : ∃ q, decide ((0 : Int) < 0) = q := ⟨_, rfl⟩
  rw [hp] at HWA0 ⊢; rw [hq] at HWB0 ⊢
  clear hp hq
  go_enter Tryz.func102, Tryz.ntmps102
  go_wp2_with fail
  refine (floor_zero _ _ x _ (HWA0.out.below (HBB.out _ _ _)) (HWB0.out.below (HBB.out _ _ _))).mono ?_
  rintro e w7 ⟨rfl, hb7⟩
  have HB7 := Lib.hid (below_then (HBB.out _ _ _) hb7)
  clear hb7
  go_wp2_with fail
  exact ⟨rfl, rfl, HB7.out⟩

set_option maxRecDepth 100000 in
set_option maxHeartbeats 4000000 in
theorem mod_zero (va vb : Value) (x : Int) (w : World) (ha : WH w va x) (hb : WH w vb 0) :
    Calls Tryz.prog 104 #[va, vb] w fun e w' => e = .panicked (badV 30) ∧ Below w.heap.size w w' := by
  obtain ⟨a, an, ac, rfl, hra⟩ := ha.parts
  obtain ⟨b, bn, bc, rfl, hrb⟩ := hb.parts
  have HWA0 := Lib.hid ha; have HWB0 := Lib.hid hb
  clear ha hb hra hrb
  have hbb : ∀ o1 o2 o3, Below w.heap.size w (((w.alloc o1).alloc o2).alloc o3) := fun o1 o2 o3 => (((Below.refl _ w).alloc (Nat.le_refl _) o1).alloc (by simp) o2).alloc (by simp <;> omega) o3
  have HBB := Lib.hid hbb
  clear hbb
  obtain ⟨p, hp⟩ : ∃ p, decide (x < 0) = p := ⟨_, rfl⟩
  obtain ⟨q, hq⟩ : ∃ q, decide ((0 : Int) < 0) = q := ⟨_, rfl⟩
  rw [hp] at HWA0 ⊢; rw [hq] at HWB0 ⊢
  clear hp hq
  go_enter Tryz.func104, Tryz.ntmps104
  go_wp2_with fail
  refine (floor_zero _ _ x _ (HWA0.out.below (HBB.out _ _ _)) (HWB0.out.below (HBB.out _ _ _))).mono ?_
  rintro e w7 ⟨rfl, hb7⟩
  have HB7 := Lib.hid (below_then (HBB.out _ _ _) hb7)
  clear hb7
  go_wp2_with fail
  exact ⟨rfl, rfl, HB7.out⟩
end Go.Proofs.YthjpbbbmnmhmmaaGreatDoor
