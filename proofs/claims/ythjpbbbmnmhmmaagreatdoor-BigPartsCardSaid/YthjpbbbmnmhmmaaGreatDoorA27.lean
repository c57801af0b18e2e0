import Derived.Test.YthjpbbbmnmhmmaaGreatDoorA26
import Derived.Test.YthjpbbbmnmhmmaaGreatDoorL0
import Derived.Test.YthjpbbbmnmhmmaaGreatDoorM7
import Derived.Deep.DeepCutAuto
set_option linter.unusedVariables false
set_option linter.unusedSimpArgs false
namespace Go.Proofs.YthjpbbbmnmhmmaaGreatDoor
open Go.RowKit Go.Shelf Go.Lib

/-- The state of Pow's loop: the number, what it has come to. -/
structure PowS (W : World) (gx go : Nat) (x : Int) (a : Option Addr) (an ac : Nat) (p : Bool) (y : Int) (b : Option Addr) (bn bc : Nat) (q : Bool) : Prop where
  x0 : W.cell? ⟨gx, 0, none⟩ = some (.slice a an ac)
  x1 : W.cell? ⟨gx, 1, none⟩ = some (.bool p)
  hx : RI W (.slice a an ac) (dig x.natAbs)
  hp : p = decide (x < 0)
  y0 : W.cell? ⟨go, 0, none⟩ = some (.slice b bn bc)
  y1 : W.cell? ⟨go, 1, none⟩ = some (.bool q)
  hy : RI W (.slice b bn bc) (dig y.natAbs)
  hq : q = decide (y < 0)
  f0 : W.frozen? ⟨go, 0, none⟩ = false
  f1 : W.frozen? ⟨go, 1, none⟩ = false
  ni : NoInt W go
  lt : go < W.heap.size
  ne : gx < go

theorem cell_putP {W : World} {g g' j : Nat} {v : Value} (h : W.cell? ⟨g, j, none⟩ = some v) (hne : ¬ g' = g) (u u' : Value) : ((W.setCell ⟨g', 0, none⟩ u).setCell ⟨g', 1, none⟩ u').cell? ⟨g, j, none⟩ = some v := by
  rw [World.cell?_setCell_other _ _ _ _ (fun e => hne (congrArg Addr.block e)), World.cell?_setCell_other _ _ _ _ (fun e => hne (congrArg Addr.block e))]
  exact h

theorem noInt_new (W : World) (a : Option Addr) (n c : Nat) (b : Bool) (t : TypeId) : NoInt (W.alloc (.cells #[.slice a n c, .bool b] t)) W.heap.size := by
  intro j z
  have hnew := World.alloc_heap_new W (.cells #[.slice a n c, .bool b] t)
  simp only [World.cell?]
  rw [hnew]
  simp only [Option.isSome_none, Bool.false_eq_true, if_false]
  match j with
  | 0 => simp
  | 1 => simp
  | j + 2 => simp

theorem PowS.below {W W' : World} {gx go : Nat} {x : Int} {a : Option Addr} {an ac : Nat} {p : Bool} {y : Int} {b : Option Addr} {bn bc : Nat} {q : Bool} (h : PowS W gx go x a an ac p y b bn bc q) (hb : Below W.heap.size W W') : PowS W' gx go x a an ac p y b bn bc q :=
  ⟨cell_on hb h.x0, cell_on hb h.x1, h.hx.below hb, h.hp, cell_on hb h.y0, cell_on hb h.y1, h.hy.below hb, h.hq, (hb.frozen (p := ⟨go, 0, none⟩) h.lt).trans h.f0, (hb.frozen (p := ⟨go, 1, none⟩) h.lt).trans h.f1, fun j z => by rw [hb.cell (p := ⟨go, j, none⟩) h.lt]; exact h.ni j z, Nat.lt_of_lt_of_le h.lt hb.size, h.ne⟩

theorem PowS.put {W : World} {gx go : Nat} {x : Int} {a : Option Addr} {an ac : Nat} {p : Bool} {y : Int} {b : Option Addr} {bn bc : Nat} {q : Bool} (h : PowS W gx go x a an ac p y b bn bc q) {z : Int} {b' : Option Addr} {n' c' : Nat} {q' : Bool} (hw : WH W (.agg #[.slice b' n' c', .bool q']) z) :
    PowS ((W.setCell ⟨go, 0, none⟩ (.slice b' n' c')).setCell ⟨go, 1, none⟩ (.bool q')) gx go x a an ac p z b' n' c' q' := by
  have hne : ¬ go = gx := by have := h.ne; omega
  have s0 : ((W.setCell ⟨go, 0, none⟩ (.slice b' n' c')).setCell ⟨go, 1, none⟩ (.bool q')).cell? ⟨go, 0, none⟩ = some (.slice b' n' c') := by
    rw [World.cell?_setCell_other _ _ _ _ (by intro e; cases e), World.cell?_setCell_same _ _ _ h.y0]
  have h1 : (W.setCell ⟨go, 0, none⟩ (.slice b' n' c')).cell? ⟨go, 1, none⟩ = some (.bool q) := by rw [World.cell?_setCell_other _ _ _ _ (by intro e; cases e)]; exact h.y1
  have s1 : ((W.setCell ⟨go, 0, none⟩ (.slice b' n' c')).setCell ⟨go, 1, none⟩ (.bool q')).cell? ⟨go, 1, none⟩ = some (.bool q') := by
    rw [World.cell?_setCell_same _ _ _ h1]
  obtain ⟨sv, e, hr⟩ := hw
  cases e
  refine ⟨cell_putP h.x0 hne _ _, cell_putP h.x1 hne _ _, h.hx.put h.ni _ _, h.hp, s0, s1, hr.put h.ni _ _, rfl, by have := h.f0; simpa using this, by have := h.f1; simpa using this, fun j v => ?_, by have := h.lt; simpa using this, h.ne⟩
  by_cases j0 : j = 0
  · subst j0; rw [s0]; simp
  · by_cases j1 : j = 1
    · subst j1; rw [s1]; simp
    · rw [World.cell?_setCell_other _ _ _ _ (by intro e; cases e; exact j1 rfl), World.cell?_setCell_other _ _ _ _ (by intro e; cases e; exact j0 rfl)]
      exact h.ni j v

theorem Res2.put2 {w W : World} {gv ge go : Nat} (h : Res2 w W gv ge) (hg : w.heap.size ≤ go ∧ ¬ go = gv ∧ ¬ go = ge) (u u' : Value) : Res2 w ((W.setCell ⟨go, 0, none⟩ u).setCell ⟨go, 1, none⟩ u') gv ge :=
  ⟨⟨cell_putP h.r.c0 hg.2.1 _ _, cell_putP h.r.c1 hg.2.1 _ _, cell_putP h.r.c2 hg.2.1 _ _, by have := h.r.f0; simpa using this, by have := h.r.f1; simpa using this, by have := h.r.f2; simpa using this, by have := h.r.lt; simpa using this⟩, cell_putP h.e0 hg.2.2 _ _, by have := h.f0; simpa using this, by have := h.lt; simpa using this, below_put h.bel hg.1 _ _, h.lo⟩

theorem pow_nd_mono {x : Int} {i N : Nat} (h : i ≤ N) (hb : nDigits (x ^ N).natAbs ≤ 400) : nDigits (x ^ i).natAbs ≤ 400 := by
  by_cases h0 : x.natAbs = 0
  · have h0' : x = 0 := by omega
    subst h0'
    cases i with
    | zero => rw [Int.pow_zero]; exact Nat.le_trans (nDigits_le (k := 0) (by decide)) (by decide)
    | succ i => rw [Int.pow_succ, Int.mul_zero]; exact Nat.le_trans (nDigits_le (k := 0) (by decide)) (by decide)
  · refine nd_mono (k := 399) ?_ hb
    rw [Int.natAbs_pow, Int.natAbs_pow]
    exact Nat.pow_le_pow_right (by omega) h

set_option maxRecDepth 100000 in
set_option maxHeartbeats 4000000 in
theorem pow_loop {k n : Int} {t : List UInt8} {x : Int} (h : VOk k n t) (hz : numZ k n t = some x) (N : Nat) (hN : N ≤ 2000) (w : World) (hE : Env w) (r : Value)
    (hr : r = if nDigits (x ^ N).natAbs ≤ 400 then .tuple #[vv (x ^ N), .int .i64 0] else .tuple #[vE 0 0 [], .int .i64 2]) :
    Ans Tryz.prog 21 #[.agg #[.int .i64 k, .int .i64 n, .string ⟨t.toArray⟩], .int .i64 N] w r := by
  have HR := Lib.hid hr
  clear hr
  have HE := Lib.hid hE
  have HV := Lib.hid h
  have HZ := Lib.hid hz
  clear hz hE h
  have hR := res2_in w (.cells #[.int .i64 k, .int .i64 n, .string ⟨t.toArray⟩] 23) 23 26
  obtain ⟨W, hW⟩ : ∃ W, ((w.alloc (.cells #[.int .i64 k, .int .i64 n, .string ⟨t.toArray⟩] 23)).alloc (.cells #[.int .i64 0, .int .i64 0, .string ⟨#[]⟩] 23)).alloc (.cells #[.int .i64 0] 26) = W := ⟨_, rfl⟩
  obtain ⟨q0, q1, q2⟩ := box3_in w (.int .i64 k) (.int .i64 n) (.string ⟨t.toArray⟩) 23 (.cells #[.int .i64 0, .int .i64 0, .string ⟨#[]⟩] 23) (.cells #[.int .i64 0] 26)
  rw [hW] at hR q0 q1 q2
  have O := Lib.hid hR
  have HEW := Lib.hid (HE.out.below hR.bel)
  clear hR
  have hN' : (N : Int) ≤ 2000 := by omega
  have hN0 : ¬ (N : Int) < 0 := by omega
  have hN1 : decide ((2000 : Int) < (N : Int)) = false := by simp; omega
  have HNN := Lib.hid hN
  clear hN
  go_enter_defers Tryz.func21, Tryz.ntmps21
  go_wp2_with fail
  refine (need_some HV.out HZ.out _ HEW.out).mono ?_
  rintro e w5 ⟨v, rfl, ⟨a, an, ac, p, rfl⟩, hW5, hb5⟩
  have HW5 := Lib.hid hW5
  have O5 := Lib.hid (O.out.below hb5)
  have HE5 := Lib.hid (HEW.out.below hb5)
  clear hb5 hW5 q0 q1 q2
  go_wp2_with fail
  have hb6 : Below w5.heap.size w5 ((w5.alloc (.cells #[.slice a an ac, .bool p] 62)).alloc (.cells #[.int .i64 1] 3)) := ((Below.refl _ _).alloc (Nat.le_refl _) _).alloc (by simp) _
  have x0 : ((w5.alloc (.cells #[.slice a an ac, .bool p] 62)).alloc (.cells #[.int .i64 1] 3)).cell? ⟨w5.heap.size, 0, none⟩ = some (.slice a an ac) := cell_on ((Below.refl _ _).alloc (Nat.le_refl _) _) (cell_in _ _ _ 0 rfl)
  have x1 : ((w5.alloc (.cells #[.slice a an ac, .bool p] 62)).alloc (.cells #[.int .i64 1] 3)).cell? ⟨w5.heap.size, 1, none⟩ = some (.bool p) := cell_on ((Below.refl _ _).alloc (Nat.le_refl _) _) (cell_in _ _ _ 1 rfl)
  have h1 := RI.one (t := 3) (cell_in2 w5 (.cells #[.slice a an ac, .bool p] 62) #[.int .i64 1] 3 0 rfl)
  have H1 := Lib.hid h1
  have HB6 := Lib.hid hb6
  have hl6 : w5.heap.size < ((w5.alloc (.cells #[.slice a an ac, .bool p] 62)).alloc (.cells #[.int .i64 1] 3)).heap.size := by simp; omega
  clear h1 hb6
  generalize (w5.alloc (.cells #[.slice a an ac, .bool p] 62)).alloc (.cells #[.int .i64 1] 3) = w6 at *
  refine (signed_calls _ 1 false _ H1.out).mono ?_
  rintro e w7 ⟨v, rfl, hW7, hb7, q, rfl⟩
  rw [show (if false = true then -((1 : Nat) : Int) else ((1 : Nat) : Int)) = 1 from rfl] at hW7
  have hbW : Below w7.heap.size w7 (w7.alloc (.cells #[.slice (some ⟨w5.heap.size + 1, 0, none⟩) 1 1, .bool q] 62)) := (Below.refl _ _).alloc (Nat.le_refl _) _
  replace x0 := cell_on hbW (cell_on hb7 x0)
  replace x1 := cell_on hbW (cell_on hb7 x1)
  have O8 := Lib.hid (((O5.out.below HB6.out).below hb7).below hbW)
  have HE8 := Lib.hid (below_then (below_then HB6.out hb7) hbW)
  have HX8 := Lib.hid (((HW5.out.below HB6.out).below hb7).below hbW)
  have HY8 := Lib.hid (hW7.below hbW)
  have y0 : (w7.alloc (.cells #[.slice (some ⟨w5.heap.size + 1, 0, none⟩) 1 1, .bool q] 62)).cell? ⟨w7.heap.size, 0, none⟩ = some (.slice (some ⟨w5.heap.size + 1, 0, none⟩) 1 1) := cell_in _ _ _ 0 rfl
  have y1 : (w7.alloc (.cells #[.slice (some ⟨w5.heap.size + 1, 0, none⟩) 1 1, .bool q] 62)).cell? ⟨w7.heap.size, 1, none⟩ = some (.bool q) := cell_in _ _ _ 1 rfl
  have S8 : Hid (PowS (w7.alloc (.cells #[.slice (some ⟨w5.heap.size + 1, 0, none⟩) 1 1, .bool q] 62)) w5.heap.size w7.heap.size x a an ac p (x ^ 0) (some ⟨w5.heap.size + 1, 0, none⟩) 1 1 q) := by
    rw [Int.pow_zero]
    obtain ⟨sv, e1, hx⟩ := HX8.out
    cases e1
    obtain ⟨sv', e2, hy⟩ := HY8.out
    cases e2
    refine Lib.hid ⟨x0, x1, hx, rfl, y0, y1, hy, rfl, frozen_in _ _ _ 0, frozen_in _ _ _ 1, ?_, by simp, Nat.lt_of_lt_of_le hl6 hb7.size⟩
    exact noInt_new _ _ _ _ _ _
  have HGO : Hid ((w.heap.size ≤ w7.heap.size ∧ ¬ w7.heap.size = w.heap.size + 1 ∧ ¬ w7.heap.size = w.heap.size + 1 + 1) ∧ w5.heap.size ≤ w7.heap.size) := Lib.hid (by have := O5.out.lt; have := hb7.size; omega)
  clear x0 x1 y0 y1 hb7 hbW hW7
  go_wp2_with fail
  go_loopw [20] (fun t20 wr => ∃ (i : Nat) (b : Option Addr) (bn bc : Nat) (q : Bool), t20 = .int .i64 (i : Int) ∧ Hid (i ≤ N) ∧ Hid (nDigits (x ^ i).natAbs ≤ 400) ∧ Hid (PowS wr w5.heap.size w7.heap.size x a an ac p (x ^ i) b bn bc q) ∧ Hid (Res2 w wr (w.heap.size + 1) (w.heap.size + 1 + 1)) ∧ Hid (Below w5.heap.size w5 wr)) (fun t20 _ => N - (RowKit.intOf t20).toNat)
  case atStart => exact ⟨0, _, _, _, _, rfl, Lib.hid (Nat.zero_le _), Lib.hid (by rw [Int.pow_zero]; exact Nat.le_trans (nDigits_le (k := 0) (by decide)) (by decide)), S8, O8, HE8⟩
  case round =>
    obtain ⟨i, b, bn, bc, q, rfl, hi, hd, HS, O9, HE9⟩ := hrel
    by_cases hin : i < N
    · have hin' : (i : Int) < (N : Int) := by omega
      have HIN := Lib.hid hin
      have x0 := HS.out.x0; have x1 := HS.out.x1; have y0 := HS.out.y0; have y1 := HS.out.y1
      have DR := Lib.hid ((Below.refl wr.heap.size wr).drew)
      have n1 : ¬ w5.heap.size = w7.heap.size := by have := HS.out.ne; omega
      have n2 : ¬ w7.heap.size = w5.heap.size := by have := HS.out.ne; omega
      have hlx : Hid ((dig x.natAbs).length ≤ 400) := Lib.hid (by have := dig_len_nd (numZ_nd HV.out.n HZ.out).1; omega)
      have hly : Hid ((dig (x ^ i).natAbs).length ≤ 400) := Lib.hid (by have := dig_len_nd hd.out; omega)
      clear hin
      go_upto_region 8 with fail
      go_cut [] from 22 to 33 (fun wx => ∃ (b : Option Addr) (bn bc : Nat) (q : Bool), Hid (PowS wx w5.heap.size w7.heap.size x a an ac p (x ^ (i + 1)) b bn bc q) ∧ Hid (Res2 w wx (w.heap.size + 1) (w.heap.size + 1 + 1)) ∧ Hid (Below w5.heap.size w5 wx))
      case first =>
        refine wp_region_noPanic ?_
        refine region_late (fun w' => w'.cell? ⟨w5.heap.size, 0, none⟩ = some (.slice a an ac) ∧ w'.cell? ⟨w5.heap.size, 1, none⟩ = some (.bool p) ∧ w'.cell? ⟨w7.heap.size, 0, none⟩ = some (.slice b bn bc) ∧ w'.cell? ⟨w7.heap.size, 1, none⟩ = some (.bool q)) (fun i => i == 11) (by kernel_rfl) ?_
        have PS := Lib.hid (HS.out.below DR.out)
        have OF := Lib.hid (O9.out.below DR.out)
        have EF := Lib.hid (below_then HE9.out DR.out)
        clear x0 x1 y0 y1
        obtain ⟨m, hm⟩ : ∃ m, (x ^ i).natAbs = m := ⟨_, rfl⟩
        obtain ⟨mx, hmx⟩ : ∃ m, x.natAbs = m := ⟨_, rfl⟩
        have HM := Lib.hid hm
        have HMX := Lib.hid hmx
        rw [hm] at hly
        rw [hmx] at hlx
        clear hm hmx
        obtain ⟨X, hX⟩ : ∃ Y, wr.drew = Y := ⟨_, rfl⟩
        rw [hX] at PS OF EF ⊢
        clear hX
        have S0 : ∀ X, Hid (PowS X w5.heap.size w7.heap.size x a an ac p (x ^ i) b bn bc q) → (fun w' => w'.cell? ⟨w5.heap.size, 0, none⟩ = some (.slice a an ac) ∧ w'.cell? ⟨w5.heap.size, 1, none⟩ = some (.bool p) ∧ w'.cell? ⟨w7.heap.size, 0, none⟩ = some (.slice b bn bc) ∧ w'.cell? ⟨w7.heap.size, 1, none⟩ = some (.bool q)) X := fun X PS => ⟨PS.out.x0, PS.out.x1, PS.out.y0, PS.out.y1⟩
        have hHeld := S0 X PS
        refine late_take (i := 0) (v := (.pointer (some ⟨w7.heap.size, 0, none⟩))) rfl rfl (by kernel_rfl) (by kernel_rfl) (by kernel_rfl) (by kernel_rfl) (fun _ _ _ h => h) (clean_one (by kernel_rfl)) (Or.inl ⟨by rfl, by intro w hSw; go_split_ands; go_simp⟩) hHeld ?_
        try simp only [Act.put, List.setIfInBounds_toArray, List.set_cons_zero, List.set_cons_succ]
        refine late_take (i := 1) (v := (.slice b bn bc)) rfl rfl (by kernel_rfl) (by kernel_rfl) (by kernel_rfl) (by kernel_rfl) (fun _ _ _ h => h) (clean_one (by kernel_rfl)) (Or.inl ⟨by rfl, by intro w hSw; go_split_ands; go_simp⟩) hHeld ?_
        try simp only [Act.put, List.setIfInBounds_toArray, List.set_cons_zero, List.set_cons_succ]
        refine late_take (i := 2) (v := (.pointer (some ⟨w5.heap.size, 0, none⟩))) rfl rfl (by kernel_rfl) (by kernel_rfl) (by kernel_rfl) (by kernel_rfl) (fun _ _ _ h => h) (clean_one (by kernel_rfl)) (Or.inl ⟨by rfl, by intro w hSw; go_split_ands; go_simp⟩) hHeld ?_
        try simp only [Act.put, List.setIfInBounds_toArray, List.set_cons_zero, List.set_cons_succ]
        refine late_take (i := 3) (v := (.slice a an ac)) rfl rfl (by kernel_rfl) (by kernel_rfl) (by kernel_rfl) (by kernel_rfl) (fun _ _ _ h => h) (clean_one (by kernel_rfl)) (Or.inl ⟨by rfl, by intro w hSw; go_split_ands; go_simp⟩) hHeld ?_
        try simp only [Act.put, List.setIfInBounds_toArray, List.set_cons_zero, List.set_cons_succ]
        refine late_take (i := 5) (v := (.pointer (some ⟨w7.heap.size, 1, none⟩))) rfl rfl (by kernel_rfl) (by kernel_rfl) (by kernel_rfl) (by kernel_rfl) (fun _ _ _ h => h) (clean_one (by kernel_rfl)) (Or.inl ⟨by rfl, by intro w hSw; go_split_ands; go_simp⟩) hHeld ?_
        try simp only [Act.put, List.setIfInBounds_toArray, List.set_cons_zero, List.set_cons_succ]
        refine late_take (i := 6) (v := (.bool q)) rfl rfl (by kernel_rfl) (by kernel_rfl) (by kernel_rfl) (by kernel_rfl) (fun _ _ _ h => h) (clean_one (by kernel_rfl)) (Or.inl ⟨by rfl, by intro w hSw; go_split_ands; go_simp⟩) hHeld ?_
        try simp only [Act.put, List.setIfInBounds_toArray, List.set_cons_zero, List.set_cons_succ]
        refine late_take (i := 7) (v := (.pointer (some ⟨w5.heap.size, 1, none⟩))) rfl rfl (by kernel_rfl) (by kernel_rfl) (by kernel_rfl) (by kernel_rfl) (fun _ _ _ h => h) (clean_one (by kernel_rfl)) (Or.inl ⟨by rfl, by intro w hSw; go_split_ands; go_simp⟩) hHeld ?_
        try simp only [Act.put, List.setIfInBounds_toArray, List.set_cons_zero, List.set_cons_succ]
        refine late_take (i := 8) (v := (.bool p)) rfl rfl (by kernel_rfl) (by kernel_rfl) (by kernel_rfl) (by kernel_rfl) (fun _ _ _ h => h) (clean_one (by kernel_rfl)) (Or.inl ⟨by rfl, by intro w hSw; go_split_ands; go_simp⟩) hHeld ?_
        try simp only [Act.put, List.setIfInBounds_toArray, List.set_cons_zero, List.set_cons_succ]
        refine late_take (i := 9) (v := (.bool (q != p))) rfl rfl (by kernel_rfl) (by kernel_rfl) (by kernel_rfl) (by kernel_rfl) (fun _ _ _ h => h) (clean_one (by kernel_rfl)) (Or.inl ⟨by rfl, by intro w hSw; go_split_ands; go_simp <;> (cases q <;> cases p <;> rfl)⟩) hHeld ?_
        try simp only [Act.put, List.setIfInBounds_toArray, List.set_cons_zero, List.set_cons_succ]
        clear hHeld
        refine late_ready (rs := [4]) (by kernel_rfl) (by simp) ?_
        refine AllLate.cons rfl (fun K hK => ?_) AllLate.nil
        go_simp
        refine (times_calls _ _ m mx _ (by have := PS.out.hy; rw [HM.out] at this; exact this) (by have := PS.out.hx; rw [HMX.out] at this; exact this) (by have := hly.out; omega) (by have := hlx.out; omega)).mono ?_
        rintro e X ⟨v8, rfl, hR8, hb⟩
        have HR8 := Lib.hid hR8
        obtain ⟨a8, c8, rfl, _⟩ := hR8
        replace PS := Lib.hid (PS.out.below hb)
        replace OF := Lib.hid (OF.out.below hb)
        replace EF := Lib.hid (below_then EF.out hb)
        have hHeld := S0 X PS
        dsimp only
        refine hK.out _ _ (fun _ => hHeld) ?_
        clear hK K
        try simp only [Act.put, List.setIfInBounds_toArray, List.set_cons_zero, List.set_cons_succ]
        clear hb hHeld
        refine late_ready (rs := [10]) (by kernel_rfl) (by simp) ?_
        refine AllLate.cons rfl (fun K hK => ?_) AllLate.nil
        go_simp
        refine (signed_calls _ _ _ _ HR8.out).mono ?_
        rintro e X ⟨v9, rfl, hW9, hb, b9, rfl⟩
        have HW9 := Lib.hid hW9
        clear hW9
        replace PS := Lib.hid (PS.out.below hb)
        replace OF := Lib.hid (OF.out.below hb)
        replace EF := Lib.hid (below_then EF.out hb)
        have hHeld := S0 X PS
        dsimp only
        refine hK.out _ _ (fun _ => hHeld) ?_
        clear hK K
        try simp only [Act.put, List.setIfInBounds_toArray, List.set_cons_zero, List.set_cons_succ]
        clear hb hHeld S0
        refine late_ready (rs := [11]) (by kernel_rfl) (by simp) ?_
        refine AllLate.cons rfl (fun K hK => ?_) AllLate.nil
        have U2 := PS.out.y0
        have U3 := PS.out.y1
        have U4 := PS.out.f0
        have U5 := PS.out.f1
        go_simp
        have SF : Hid (PowS ((X.setCell ⟨w7.heap.size, 0, none⟩ (Value.slice a8 (dig (m * mx)).length c8)).setCell ⟨w7.heap.size, 1, none⟩ (Value.bool b9)) w5.heap.size w7.heap.size x a an ac p (x ^ (i + 1)) a8 (dig (m * mx)).length c8 b9) := Lib.hid (PS.out.put (by
          have e : (if (q != p) = true then -((m * mx : Nat) : Int) else ((m * mx : Nat) : Int)) = x ^ (i + 1) := by
            rw [Int.pow_succ, ← HM.out, ← HMX.out]; exact mul_signs PS.out.hq.symm PS.out.hp.symm
          rw [← e]; exact HW9.out))
        replace OF := Lib.hid (OF.out.put2 HGO.out.1 (Value.slice a8 (dig (m * mx)).length c8) (Value.bool b9))
        replace EF := Lib.hid (below_put EF.out HGO.out.2 (Value.slice a8 (dig (m * mx)).length c8) (Value.bool b9))
        refine hK.out _ _ (not_clean 11 rfl (by kernel_rfl)) ?_
        clear hK K
        try simp only [Act.put, List.setIfInBounds_toArray, List.set_cons_zero, List.set_cons_succ]
        refine late_done (by kernel_rfl) ?_ _
        refine NoPanic.normal ?_
        go_wp2_with fail
        go_meet
        exact ⟨_, _, _, _, SF, OF, EF⟩
      case rest =>
        clear x0 x1 y0 y1 HS O9 HE9 b bn bc q
        obtain ⟨b, bn, bc, q, HS, O9, HE9⟩ := hcut
        have y0 := HS.out.y0; have y1 := HS.out.y1
        obtain ⟨nd, hnd⟩ : ∃ nd, nDigits (x ^ (i + 1)).natAbs = nd := ⟨_, rfl⟩
        have hsz : Hid (sizeD (dig (x ^ (i + 1)).natAbs) = (nd : Int)) := Lib.hid (by rw [sizeD_dig, hnd])
        have HND := Lib.hid hnd
        clear hnd
        go_wp2_with fail
        refine (size_calls _ _ _ HS.out.hy (dig_inR _)).mono ?_
        rw [hsz.out]
        rintro e wz ⟨rfl, rfl⟩
        by_cases hle : nd ≤ 400
        · have hle' : decide ((400 : Int) < (nd : Int)) = false := by simp; omega
          have HLE := Lib.hid hle
          clear hle
          go_wp2_with fail
          exact ⟨⟨i + 1, b, bn, bc, q, by go_num, Lib.hid (by have := HIN.out; omega), Lib.hid (by rw [HND.out]; exact HLE.out), HS, O9, HE9⟩, by have := HIN.out; simp [RowKit.intOf]; omega⟩
        · have hle' : decide ((400 : Int) < (nd : Int)) = true := by simp; omega
          have hbig : ¬ nDigits (x ^ N).natAbs ≤ 400 := by
            have h1 := HND.out
            exact fun hh => hle (by rw [← h1]; exact pow_nd_mono (by have := HIN.out; omega) hh)
          have hr := HR.out
          rw [if_neg hbig] at hr
          clear hle hbig HR
          subst hr
          have z0 := O9.out.r.c0; have z1 := O9.out.r.c1; have z2 := O9.out.r.c2; have z3 := O9.out.r.f0; have z4 := O9.out.r.f1; have z5 := O9.out.r.f2
          have w0 := O9.out.e0; have w1 := O9.out.f0
          have hl := O9.out.lt; have hl1 := O9.out.r.lt
          have n5 : ¬ w.heap.size + 1 = w.heap.size + 1 + 1 := by omega
          have n6 : ¬ w.heap.size + 1 + 1 = w.heap.size + 1 := by omega
          go_wp2_with fail
          first
            | exact leave_idle (resAt_pow rfl rfl) ((O9.out.put 0 0 2 []).1.below ((Below.refl _ _).alloc (Nat.le_refl _) _)) ((O9.out.put 0 0 2 []).2.alloc (O9.out.put 0 0 2 []).2.size _)
            | exact leave_idle (resAt_pow rfl rfl) (O9.out.put 0 0 2 []).1 (O9.out.put 0 0 2 []).2
            | (trace_state; fail)
    · have hge : ¬ (i : Int) < (N : Int) := by omega
      obtain rfl : i = N := by have := hi.out; omega
      have hr := HR.out
      rw [if_pos hd.out] at hr
      clear HR hin
      obtain ⟨k', n', t', hv⟩ : ∃ k' n' t', vv (x ^ i) = .agg #[.int .i64 k', .int .i64 n', .string ⟨List.toArray t'⟩] := by
        unfold vv; split
        · exact ⟨_, _, [], rfl⟩
        · exact ⟨_, _, _, rfl⟩
      rw [hv] at hr
      subst hr
      have HV2 := Lib.hid hv
      clear hv
      have y0 := HS.out.y0; have y1 := HS.out.y1
      have HWW : Hid (WH wr (.agg #[.slice b bn bc, .bool q]) (x ^ i)) := Lib.hid ⟨_, by rw [HS.out.hq], HS.out.hy⟩
      have HEW9 := Lib.hid (HE5.out.below HE9.out)
      go_wp2_with fail
      refine (val_ok _ _ _ HWW.out HEW9.out hd.out).mono ?_
      rw [HV2.out]
      rintro e wz ⟨rfl, hbz⟩
      have OZ := Lib.hid (O9.out.below hbz)
      clear hbz
      have z0 := OZ.out.r.c0; have z1 := OZ.out.r.c1; have z2 := OZ.out.r.c2; have z3 := OZ.out.r.f0; have z4 := OZ.out.r.f1; have z5 := OZ.out.r.f2
      have w0 := OZ.out.e0; have w1 := OZ.out.f0
      have hl := OZ.out.lt; have hl1 := OZ.out.r.lt
      have n5 : ¬ w.heap.size + 1 = w.heap.size + 1 + 1 := by omega
      have n6 : ¬ w.heap.size + 1 + 1 = w.heap.size + 1 := by omega
      go_wp2_with fail
      first
        | exact leave_idle (resAt_pow rfl rfl) ((OZ.out.put k' n' 0 t').1.below ((Below.refl _ _).alloc (Nat.le_refl _) _)) ((OZ.out.put k' n' 0 t').2.alloc (OZ.out.put k' n' 0 t').2.size _)
        | exact leave_idle (resAt_pow rfl rfl) (OZ.out.put k' n' 0 t').1 (OZ.out.put k' n' 0 t').2
        | (trace_state; fail)
end Go.Proofs.YthjpbbbmnmhmmaaGreatDoor
