import Derived.Test.YthjpbbbmnmhmmaaGreatDoorA23
set_option linter.unusedVariables false
set_option linter.unusedSimpArgs false
namespace Go.Proofs.YthjpbbbmnmhmmaaGreatDoor
open Go.RowKit Go.Shelf Go.Lib

/-- Two results' variables behind g: a value, an error. -/
structure Res2 (w W : World) (gv ge : Nat) : Prop where
  r : ResV W gv
  e0 : W.cell? ⟨ge, 0, none⟩ = some (.int .i64 0)
  f0 : W.frozen? ⟨ge, 0, none⟩ = false
  lt : ge < W.heap.size
  bel : Below w.heap.size w W
  lo : w.heap.size ≤ gv ∧ w.heap.size ≤ ge ∧ ¬ gv = ge

theorem Res2.below {w W W' : World} {gv ge : Nat} (h : Res2 w W gv ge) (hb : Below W.heap.size W W') : Res2 w W' gv ge :=
  ⟨h.r.below hb, cell_on hb h.e0, (hb.frozen (p := ⟨ge, 0, none⟩) h.lt).trans h.f0, Nat.lt_of_lt_of_le h.lt hb.size, below_then h.bel hb, h.lo⟩

theorem res2_in (w : World) (o : Obj) (t t' : TypeId) : Res2 w (((w.alloc o).alloc (.cells #[.int .i64 0, .int .i64 0, .string ⟨#[]⟩] t)).alloc (.cells #[.int .i64 0] t')) (w.heap.size + 1) (w.heap.size + 1 + 1) := by
  have hr := (resV_new (w.alloc o) t).below ((Below.refl _ _).alloc (Nat.le_refl _) (.cells #[.int .i64 0] t'))
  have he := cell_in ((w.alloc o).alloc (.cells #[.int .i64 0, .int .i64 0, .string ⟨#[]⟩] t)) #[.int .i64 0] t' 0 rfl
  have hf := frozen_in ((w.alloc o).alloc (.cells #[.int .i64 0, .int .i64 0, .string ⟨#[]⟩] t)) #[.int .i64 0] t' 0
  simp only [World.size_alloc] at hr he hf
  exact ⟨hr, he, hf, by simp, (((Below.refl _ w).alloc (Nat.le_refl _) _).alloc (by simp) _).alloc (by simp <;> omega) _, by omega, by omega, by omega⟩

theorem ResVE.below {W W' : World} {gv ge : Nat} {k n e : Int} {t : List UInt8} (h : ResVE W gv ge k n e t) (hb : Below W.heap.size W W') : ResVE W' gv ge k n e t :=
  ⟨cell_on hb h.v0, cell_on hb h.v1, cell_on hb h.v2, cell_on hb h.e0⟩

theorem box3_in (w : World) (a b c : Value) (t : TypeId) (o o' : Obj) : (((w.alloc (.cells #[a, b, c] t)).alloc o).alloc o').cell? ⟨w.heap.size, 0, none⟩ = some a ∧ (((w.alloc (.cells #[a, b, c] t)).alloc o).alloc o').cell? ⟨w.heap.size, 1, none⟩ = some b ∧ (((w.alloc (.cells #[a, b, c] t)).alloc o).alloc o').cell? ⟨w.heap.size, 2, none⟩ = some c := by
  have hb : Below (w.alloc (.cells #[a, b, c] t)).heap.size (w.alloc (.cells #[a, b, c] t)) (((w.alloc (.cells #[a, b, c] t)).alloc o).alloc o') := ((Below.refl _ _).alloc (Nat.le_refl _) o).alloc (by simp) o'
  exact ⟨cell_on hb (cell_in _ _ _ 0 rfl), cell_on hb (cell_in _ _ _ 1 rfl), cell_on hb (cell_in _ _ _ 2 rfl)⟩

theorem res2_put {X : World} {gv ge : Nat} (h : ResV X gv) (e0 : X.cell? ⟨ge, 0, none⟩ = some (.int .i64 0)) (hne : ¬ gv = ge) (k n e : Int) (t : List UInt8) :
    ResVE ((((X.setCell ⟨gv, 0, none⟩ (.int .i64 k)).setCell ⟨gv, 1, none⟩ (.int .i64 n)).setCell ⟨gv, 2, none⟩ (.string ⟨t.toArray⟩)).setCell ⟨ge, 0, none⟩ (.int .i64 e)) gv ge k n e t := by
  have h0 := h.c0; have h1 := h.c1; have h2 := h.c2
  have hne' : ¬ ge = gv := fun e => hne e.symm
  constructor <;> go_simp

theorem Res2.put {w X : World} {gv ge : Nat} (h : Res2 w X gv ge) (k n e : Int) (t : List UInt8) :
    ResVE ((((X.setCell ⟨gv, 0, none⟩ (.int .i64 k)).setCell ⟨gv, 1, none⟩ (.int .i64 n)).setCell ⟨gv, 2, none⟩ (.string ⟨t.toArray⟩)).setCell ⟨ge, 0, none⟩ (.int .i64 e)) gv ge k n e t ∧
    Below w.heap.size w ((((X.setCell ⟨gv, 0, none⟩ (.int .i64 k)).setCell ⟨gv, 1, none⟩ (.int .i64 n)).setCell ⟨gv, 2, none⟩ (.string ⟨t.toArray⟩)).setCell ⟨ge, 0, none⟩ (.int .i64 e)) :=
  ⟨res2_put h.r h.e0 h.lo.2.2 k n e t, (below_put3 h.bel h.lo.1 _ _ _).setCell (p := ⟨ge, 0, none⟩) h.lo.2.1 _⟩

theorem resAt_pow {T : Array Value} {gv ge : Nat} (h4 : T[4]? = some (.pointer (some ⟨gv, 0, none⟩))) (h5 : T[5]? = some (.pointer (some ⟨ge, 0, none⟩))) : ResAt Tryz.f21 T gv ge := by
  intro W k n e t h
  simp [results, Tryz.results21, go_sem, h.v0, h.v1, h.v2, h.e0, vE, h4, h5]

theorem Res2.panic {w W : World} {gv ge : Nat} (h : Res2 w W gv ge) {fn : Func} {T : Array Value} (m : Int) (hres : ResAt fn T gv ge) :
    Leaves Tryz.prog fn T (fun e w' => e = .returned (.tuple #[vE 0 0 [], .int .i64 m]) ∧ Below w.heap.size w w') [{ target := .fn (.func 50) #[], args := #[.pointer (some ⟨gv, 0, none⟩), .pointer (some ⟨ge, 0, none⟩)] }] (.panicking (badV m)) W :=
  leave_panic m hres h.r h.e0 h.f0 h.lt h.lo.2.2 h.bel ⟨h.lo.1, h.lo.2.1⟩

set_option maxRecDepth 100000 in
set_option maxHeartbeats 2000000 in
theorem pow_none {k n : Int} {t : List UInt8} (h : VOk k n t) (hz : numZ k n t = none) (m : Int) (w : World) (hE : Env w) :
    Ans Tryz.prog 21 #[.agg #[.int .i64 k, .int .i64 n, .string ⟨t.toArray⟩], .int .i64 m] w (.tuple #[vE 0 0 [], .int .i64 31]) := by
  have HE := Lib.hid hE
  have HV := Lib.hid h
  have HZ := Lib.hid hz
  clear hz hE h
  have hR := res2_in w (.cells #[.int .i64 k, .int .i64 n, .string ⟨t.toArray⟩] 23) 23 26
  obtain ⟨W, hW⟩ : ∃ W, ((w.alloc (.cells #[.int .i64 k, .int .i64 n, .string ⟨t.toArray⟩] 23)).alloc (.cells #[.int .i64 0, .int .i64 0, .string ⟨#[]⟩] 23)).alloc (.cells #[.int .i64 0] 26) = W := ⟨_, rfl⟩
  obtain ⟨q0, q1, q2⟩ := box3_in w (.int .i64 k) (.int .i64 n) (.string ⟨t.toArray⟩) 23 (.cells #[.int .i64 0, .int .i64 0, .string ⟨#[]⟩] 23) (.cells #[.int .i64 0] 26)
  rw [hW] at hR q0 q1 q2
  have O := Lib.hid hR
  have HEW := Lib.hid (HE.out.below hR.bel)
  clear hR
  go_enter_defers Tryz.func21, Tryz.ntmps21
  go_wp2_with fail
  refine (need_none HV.out HZ.out _ HEW.out).mono ?_
  rintro e w5 ⟨rfl, hb5⟩
  have O5 := Lib.hid (O.out.below hb5)
  clear hb5
  exact O5.out.panic 31 (resAt_pow rfl rfl)

set_option maxRecDepth 100000 in
set_option maxHeartbeats 2000000 in
theorem pow_arg {k n : Int} {t : List UInt8} {x : Int} (h : VOk k n t) (hz : numZ k n t = some x) (m : Int) (hm : m < 0 ∨ 2000 < m) (w : World) (hE : Env w) :
    Ans Tryz.prog 21 #[.agg #[.int .i64 k, .int .i64 n, .string ⟨t.toArray⟩], .int .i64 m] w (.tuple #[vE 0 0 [], .int .i64 1]) := by
  have hm' : (m < 0) ∨ (decide (m < 0) = false ∧ 2000 < m) := by
    by_cases e : m < 0
    · exact .inl e
    · exact .inr ⟨by simp; omega, by omega⟩
  clear hm
  have HE := Lib.hid hE
  have HV := Lib.hid h
  have HZ := Lib.hid hz
  clear hz hE h
  have hR := res2_in w (.cells #[.int .i64 k, .int .i64 n, .string ⟨t.toArray⟩] 23) 23 26
  obtain ⟨W, hW⟩ : ∃ W, ((w.alloc (.cells #[.int .i64 k, .int .i64 n, .string ⟨t.toArray⟩] 23)).alloc (.cells #[.int .i64 0, .int .i64 0, .string ⟨#[]⟩] 23)).alloc (.cells #[.int .i64 0] 26) = W := ⟨_, rfl⟩
  obtain ⟨q0, q1, q2⟩ := box3_in w (.int .i64 k) (.int .i64 n) (.string ⟨t.toArray⟩) 23 (.cells #[.int .i64 0, .int .i64 0, .string ⟨#[]⟩] 23) (.cells #[.int .i64 0] 26)
  rw [hW] at hR q0 q1 q2
  have O := Lib.hid hR
  have HEW := Lib.hid (HE.out.below hR.bel)
  clear hR
  rcases hm' with hm | ⟨hm1, hm2⟩
  all_goals
    go_enter_defers Tryz.func21, Tryz.ntmps21
    go_wp2_with fail
    refine (need_some HV.out HZ.out _ HEW.out).mono ?_
    rintro e w5 ⟨v, rfl, ⟨a, an, ac, p, rfl⟩, hW5, hb5⟩
    have O5 := Lib.hid (O.out.below hb5)
    have z0 := O5.out.r.c0; have z1 := O5.out.r.c1; have z2 := O5.out.r.c2; have z3 := O5.out.r.f0; have z4 := O5.out.r.f1; have z5 := O5.out.r.f2
    have w0 := O5.out.e0; have w1 := O5.out.f0
    have hl := O5.out.lt; have hl1 := O5.out.r.lt
    have n5 : ¬ w.heap.size + 1 = w.heap.size + 1 + 1 := by omega
    have n6 : ¬ w.heap.size + 1 + 1 = w.heap.size + 1 := by omega
    clear hb5 hW5
    go_wp2_with fail
    exact leave_idle (resAt_pow rfl rfl) ((O5.out.put 0 0 1 []).1.below ((Below.refl _ _).alloc (Nat.le_refl _) _)) ((O5.out.put 0 0 1 []).2.alloc (O5.out.put 0 0 1 []).2.size _)
end Go.Proofs.YthjpbbbmnmhmmaaGreatDoor
