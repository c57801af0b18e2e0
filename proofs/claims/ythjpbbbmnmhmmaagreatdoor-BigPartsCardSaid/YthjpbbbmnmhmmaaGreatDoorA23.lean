import Derived.Test.YthjpbbbmnmhmmaaGreatDoorA22
set_option linter.unusedVariables false
set_option linter.unusedSimpArgs false
namespace Go.Proofs.YthjpbbbmnmhmmaaGreatDoor
open Go.RowKit Go.Shelf Go.Lib

/-- The functions of the table, by their places. -/
def opF : Nat → FuncId
  | 0 => 99
  | 1 => 100
  | 2 => 101
  | 3 => 102
  | 4 => 104
  | _ => 105

/-- The frame of an operation: two values in their boxes, the results' variables. -/
structure Ops (w W : World) (k n : Int) (t : List UInt8) (k' n' : Int) (t' : List UInt8) : Prop where
  a0 : W.cell? ⟨w.heap.size, 0, none⟩ = some (.int .i64 k)
  a1 : W.cell? ⟨w.heap.size, 1, none⟩ = some (.int .i64 n)
  a2 : W.cell? ⟨w.heap.size, 2, none⟩ = some (.string ⟨t.toArray⟩)
  b0 : W.cell? ⟨w.heap.size + 1, 0, none⟩ = some (.int .i64 k')
  b1 : W.cell? ⟨w.heap.size + 1, 1, none⟩ = some (.int .i64 n')
  b2 : W.cell? ⟨w.heap.size + 1, 2, none⟩ = some (.string ⟨t'.toArray⟩)
  r : ResV W (w.heap.size + 1 + 1)
  e0 : W.cell? ⟨w.heap.size + 1 + 1 + 1, 0, none⟩ = some (.int .i64 0)
  f0 : W.frozen? ⟨w.heap.size + 1 + 1 + 1, 0, none⟩ = false
  lt : w.heap.size + 1 + 1 + 1 < W.heap.size
  bel : Below w.heap.size w W

theorem Ops.below {w W W' : World} {k n : Int} {t : List UInt8} {k' n' : Int} {t' : List UInt8} (h : Ops w W k n t k' n' t') (hb : Below W.heap.size W W') : Ops w W' k n t k' n' t' :=
  ⟨cell_on hb h.a0, cell_on hb h.a1, cell_on hb h.a2, cell_on hb h.b0, cell_on hb h.b1, cell_on hb h.b2, h.r.below hb, cell_on hb h.e0, (hb.frozen (p := ⟨w.heap.size + 1 + 1 + 1, 0, none⟩) h.lt).trans h.f0, Nat.lt_of_lt_of_le h.lt hb.size, below_then h.bel hb⟩

theorem ops_in (w : World) (k n : Int) (t : List UInt8) (k' n' : Int) (t' : List UInt8) (t1 t2 t3 t4 : TypeId) :
    Ops w ((((w.alloc (.cells #[.int .i64 k, .int .i64 n, .string ⟨t.toArray⟩] t1)).alloc (.cells #[.int .i64 k', .int .i64 n', .string ⟨t'.toArray⟩] t2)).alloc (.cells #[.int .i64 0, .int .i64 0, .string ⟨#[]⟩] t3)).alloc (.cells #[.int .i64 0] t4)) k n t k' n' t' := by
  have hb1 : ∀ (W : World) o, Below W.heap.size W (W.alloc o) := fun W o => (Below.refl _ _).alloc (Nat.le_refl _) _
  have hb2 : ∀ (W : World) o o', Below W.heap.size W ((W.alloc o).alloc o') := fun W o o' => below_then (hb1 W o) (hb1 _ o')
  have hb3 : ∀ (W : World) o o' o'', Below W.heap.size W (((W.alloc o).alloc o').alloc o'') := fun W o o' o'' => below_then (hb2 W o o') (hb1 _ o'')
  have hr := (resV_new ((w.alloc (.cells #[.int .i64 k, .int .i64 n, .string ⟨t.toArray⟩] t1)).alloc (.cells #[.int .i64 k', .int .i64 n', .string ⟨t'.toArray⟩] t2)) t3).below (hb1 _ (.cells #[.int .i64 0] t4))
  have he := cell_in (((w.alloc (.cells #[.int .i64 k, .int .i64 n, .string ⟨t.toArray⟩] t1)).alloc (.cells #[.int .i64 k', .int .i64 n', .string ⟨t'.toArray⟩] t2)).alloc (.cells #[.int .i64 0, .int .i64 0, .string ⟨#[]⟩] t3)) #[.int .i64 0] t4 0 rfl
  have hf := frozen_in (((w.alloc (.cells #[.int .i64 k, .int .i64 n, .string ⟨t.toArray⟩] t1)).alloc (.cells #[.int .i64 k', .int .i64 n', .string ⟨t'.toArray⟩] t2)).alloc (.cells #[.int .i64 0, .int .i64 0, .string ⟨#[]⟩] t3)) #[.int .i64 0] t4 0
  simp only [World.size_alloc] at hr he hf
  refine ⟨cell_on (hb3 _ _ _ _) (cell_in _ _ _ 0 rfl), cell_on (hb3 _ _ _ _) (cell_in _ _ _ 1 rfl), cell_on (hb3 _ _ _ _) (cell_in _ _ _ 2 rfl), cell_on (hb2 _ _ _) (cell_in2 _ _ _ _ 0 rfl), cell_on (hb2 _ _ _) (cell_in2 _ _ _ _ 1 rfl), cell_on (hb2 _ _ _) (cell_in2 _ _ _ _ 2 rfl), hr, he, hf, by simp, below_then (hb3 w _ _ _) (hb1 _ _)⟩

/-- How the results are read. -/
def ResAt (fn : Func) (T : Array Value) (gv ge : Nat) : Prop :=
  ∀ (W : World) (k n e : Int) (t : List UInt8), ResVE W gv ge k n e t → (results fn T).run Tryz.prog W = .ok (.tuple #[vE k n t, .int .i64 e]) W

theorem invoke_caught (gv ge : Nat) (W : World) : (invoke (.fn (.func 50) #[]) #[.pointer (some ⟨gv, 0, none⟩), .pointer (some ⟨ge, 0, none⟩)]).run Tryz.prog W = .ok (.enter 50 #[.pointer (some ⟨gv, 0, none⟩), .pointer (some ⟨ge, 0, none⟩)]) W := by
  simp [go_sem]

theorem leave_panic {fn : Func} {T : Array Value} {gv ge : Nat} (n : Int) {w W : World} (hres : ResAt fn T gv ge) (hv : ResV W gv) (c0 : W.cell? ⟨ge, 0, none⟩ = some (.int .i64 0)) (f0 : W.frozen? ⟨ge, 0, none⟩ = false) (hlt : ge < W.heap.size) (hne : ¬ gv = ge) (hB : Below w.heap.size w W) (h1 : w.heap.size ≤ gv ∧ w.heap.size ≤ ge) :
    Leaves Tryz.prog fn T (fun e w' => e = .returned (.tuple #[vE 0 0 [], .int .i64 n]) ∧ Below w.heap.size w w') [{ target := .fn (.func 50) #[], args := #[.pointer (some ⟨gv, 0, none⟩), .pointer (some ⟨ge, 0, none⟩)] }] (.panicking (badV n)) W := by
  refine leaves_cons (f := 50) (args := #[.pointer (some ⟨gv, 0, none⟩), .pointer (some ⟨ge, 0, none⟩)]) (by simp) (invoke_caught gv ge W) ?_
  refine (caught_panicking gv ge w.heap.size n W hv c0 f0 hlt hne h1).mono ?_
  rintro e u' w'' ⟨rfl, ⟨x, rfl⟩, hVE, hb⟩
  exact ⟨_, hres w'' 0 0 n [] hVE, rfl, hB.trans hb⟩

theorem leave_idle {fn : Func} {T : Array Value} {gv ge : Nat} {k n e : Int} {t : List UInt8} {w W : World} (hres : ResAt fn T gv ge) (hv : ResVE W gv ge k n e t) (hB : Below w.heap.size w W) :
    Leaves Tryz.prog fn T (fun r w' => r = .returned (.tuple #[vE k n t, .int .i64 e]) ∧ Below w.heap.size w w') [{ target := .fn (.func 50) #[], args := #[.pointer (some ⟨gv, 0, none⟩), .pointer (some ⟨ge, 0, none⟩)] }] .returning W := by
  refine leaves_cons (f := 50) (args := #[.pointer (some ⟨gv, 0, none⟩), .pointer (some ⟨ge, 0, none⟩)]) (by simp) (invoke_caught gv ge W) ?_
  refine (caught_idle ⟨gv, 0, none⟩ ⟨ge, 0, none⟩ W).mono ?_
  rintro e u' w'' ⟨rfl, rfl, rfl⟩
  exact ⟨_, hres w'' k n _ t hv, rfl, hB⟩

theorem Ops.leave {w W : World} {k n : Int} {t : List UInt8} {k' n' : Int} {t' : List UInt8} (h : Ops w W k n t k' n' t') {fn : Func} {T : Array Value} (m : Int) (hres : ResAt fn T (w.heap.size + 1 + 1) (w.heap.size + 1 + 1 + 1)) :
    Leaves Tryz.prog fn T (fun e w' => e = .returned (.tuple #[vE 0 0 [], .int .i64 m]) ∧ Below w.heap.size w w') [{ target := .fn (.func 50) #[], args := #[.pointer (some ⟨w.heap.size + 1 + 1, 0, none⟩), .pointer (some ⟨w.heap.size + 1 + 1 + 1, 0, none⟩)] }] (.panicking (badV m)) W :=
  leave_panic m hres h.r h.e0 h.f0 h.lt (by omega) h.bel (by omega)

/-- A post whose panics are told by the deferred calls, the two results' slots and the world. -/
def QP (Q : Exit → Act → World → Prop) (D : List Deferred) (p6 p7 : Value) (PP : List PanicEntry → World → Prop) : Exit → Act → World → Prop
  | .panic c, a, w => a.defers = D ∧ a.tmps[6]? = some p6 ∧ a.tmps[7]? = some p7 ∧ PP c w
  | e, a, w => Q e a w

theorem QP_put {Q : Exit → Act → World → Prop} {D : List Deferred} {p6 p7 : Value} {PP : List PanicEntry → World → Prop} (d : Tmp) (v : Value) (h6 : d ≠ 6) (h7 : d ≠ 7) (c : List PanicEntry) (a : Act) (w : World) (h : QP Q D p6 p7 PP (.panic c) (a.put (some d) v) w) : QP Q D p6 p7 PP (.panic c) a w := by
  obtain ⟨h1, h2, h3, h4⟩ := h
  refine ⟨h1, ?_, ?_, h4⟩
  · rw [← h2]; simp [Act.put, Array.getElem?_setIfInBounds_ne h6]
  · rw [← h3]; simp [Act.put, Array.getElem?_setIfInBounds_ne h7]

theorem resAt_two {T : Array Value} {gv ge : Nat} (h6 : T[6]? = some (.pointer (some ⟨gv, 0, none⟩))) (h7 : T[7]? = some (.pointer (some ⟨ge, 0, none⟩))) : ResAt Tryz.f46 T gv ge := by
  intro W k n e t h
  simp [results, Tryz.results46, go_sem, h.v0, h.v1, h.v2, h.e0, vE, h6, h7]

/-- The panics of an operation: an error of the document's, the frame's variables as they lay. -/
def OpsP (w : World) (m k n : Int) (t : List UInt8) (k' n' : Int) (t' : List UInt8) (c : List PanicEntry) (W : World) : Prop := c = badV m ∧ Ops w W k n t k' n' t'

theorem QP_two {w : World} {m k n : Int} {t : List UInt8} {k' n' : Int} {t' : List UInt8} {Q : Exit → Act → World → Prop} (hQ : ∀ c a W, bodyPostD Tryz.prog Tryz.f46 (fun e w' => e = .returned (.tuple #[vE 0 0 [], .int .i64 m]) ∧ Below w.heap.size w w') (.panic c) a W → Q (.panic c) a W) :
    ∀ e a W, QP Q [{ target := .fn (.func 50) #[], args := #[.pointer (some ⟨w.heap.size + 1 + 1, 0, none⟩), .pointer (some ⟨w.heap.size + 1 + 1 + 1, 0, none⟩)] }] (.pointer (some ⟨w.heap.size + 1 + 1, 0, none⟩)) (.pointer (some ⟨w.heap.size + 1 + 1 + 1, 0, none⟩)) (OpsP w m k n t k' n' t') e a W → Q e a W := by
  intro e a W h
  cases e with
  | panic c =>
    obtain ⟨h1, h2, h3, rfl, h5⟩ := h
    refine hQ _ _ _ ?_
    show Leaves _ _ _ _ a.defers _ _
    rw [h1]
    exact h5.leave m (resAt_two h2 h3)
  | _ => exact h

set_option maxRecDepth 100000 in
set_option maxHeartbeats 4000000 in
theorem two_none1 (i : Nat) {k n : Int} {t : List UInt8} {k' n' : Int} {t' : List UInt8} (h : VOk k n t) (hz : numZ k n t = none) (w : World) (hE : Env w) :
    Ans Tryz.prog 46 #[.int .i64 i, .agg #[.int .i64 k, .int .i64 n, .string ⟨t.toArray⟩], .agg #[.int .i64 k', .int .i64 n', .string ⟨t'.toArray⟩]] w (.tuple #[vE 0 0 [], .int .i64 31]) := by
  have HZ := Lib.hid hz
  have HE := Lib.hid hE
  have HV := Lib.hid h
  clear hz hE h
  have hO := ops_in w k n t k' n' t' 23 23 23 26
  obtain ⟨W, hW⟩ : ∃ W, (((w.alloc (.cells #[.int .i64 k, .int .i64 n, .string ⟨t.toArray⟩] 23)).alloc (.cells #[.int .i64 k', .int .i64 n', .string ⟨t'.toArray⟩] 23)).alloc (.cells #[.int .i64 0, .int .i64 0, .string ⟨#[]⟩] 23)).alloc (.cells #[.int .i64 0] 26) = W := ⟨_, rfl⟩
  rw [hW] at hO
  have O := Lib.hid hO
  have a0 := hO.a0; have a1 := hO.a1; have a2 := hO.a2; have b0 := hO.b0; have b1 := hO.b1; have b2 := hO.b2
  have hlt : w.heap.size + 1 + 1 + 1 < W.heap.size := hO.lt
  have hlt1 : w.heap.size + 1 < W.heap.size := by omega
  have hlt0 : w.heap.size < W.heap.size := by omega
  clear hO
  have HEW := Lib.hid (HE.out.below O.out.bel)
  have DR0 := Lib.hid ((Below.refl W.heap.size W).drew)
  have DR1 : Hid (∀ o, Below W.heap.size W (W.alloc o).drew) := Lib.hid fun o => ((Below.refl W.heap.size W).alloc (Nat.le_refl _) o).drew
  have DR2 : Hid (∀ o o', Below W.heap.size W ((W.alloc o).alloc o').drew) := Lib.hid fun o o' => (((Below.refl W.heap.size W).alloc (Nat.le_refl _) o).alloc (by simp) o').drew
  go_enter_defers Tryz.func46, Tryz.ntmps46
  go_wp2_with fail
  refine Code.wp_mono (QP_two (w := w) (k := k) (n := n) (t := t) (k' := k') (n' := n') (t' := t') (m := 31) (fun _ _ _ h => h)) ?_
  refine wp_region_held_drew (S := (fun w' => w'.cell? ⟨w.heap.size, 0, none⟩ = some (.int .i64 k) ∧ w'.cell? ⟨w.heap.size, 1, none⟩ = some (.int .i64 n) ∧ w'.cell? ⟨w.heap.size, 2, none⟩ = some (.string ⟨t.toArray⟩) ∧ w'.cell? ⟨w.heap.size + 1, 0, none⟩ = some (.int .i64 k') ∧ w'.cell? ⟨w.heap.size + 1, 1, none⟩ = some (.int .i64 n') ∧ w'.cell? ⟨w.heap.size + 1, 2, none⟩ = some (.string ⟨t'.toArray⟩))) (by kernel_rfl) (by go_keep) (fun hHeld => ?_)
  refine wpAnyH_take (i := 0) (v := (.agg #[.int .i64 k, .int .i64 n, .string ⟨t.toArray⟩])) rfl (by kernel_rfl) (by kernel_rfl) (by kernel_rfl) (QP_put 10 _ (by decide) (by decide)) (Or.inl ⟨by rfl, by intro w hSw; go_split_ands; go_simp⟩) (by assumption) ?_
  simp only [Act.put, List.setIfInBounds_toArray, List.set_cons_zero, List.set_cons_succ]
  refine wpAnyH_take (i := 2) (v := (.agg #[.int .i64 k', .int .i64 n', .string ⟨t'.toArray⟩])) rfl (by kernel_rfl) (by kernel_rfl) (by kernel_rfl) (QP_put 12 _ (by decide) (by decide)) (Or.inl ⟨by rfl, by intro w hSw; go_split_ands; go_simp⟩) (by assumption) ?_
  simp only [Act.put, List.setIfInBounds_toArray, List.set_cons_zero, List.set_cons_succ]
  refine wpAnyH_ready (rs := [1, 4, 5]) (by kernel_rfl) (by simp) ?_
  refine AllReadyH.cons rfl (fun K hK => ?_) ?_
  · go_simp
    refine (need_none HV.out HZ.out _ (HEW.out.below (by first | exact DR0.out | exact DR1.out _ | exact DR2.out _ _))).mono ?_
    rintro e w5 ⟨rfl, hb5'⟩
    exact ⟨rfl, rfl, rfl, rfl, O.out.below (below_then (show Below W.heap.size W _ from (by first | exact DR0.out | exact DR1.out _ | exact DR2.out _ _)) hb5')⟩
  refine AllReadyH.cons rfl (fun K hK => ?_) ?_
  · go_simp
    refine hK.out _ _ (by go_keep) (fun hHeld => ?_)
    clear hK K
    try simp only [Act.put, List.setIfInBounds_toArray, List.set_cons_zero, List.set_cons_succ]
    refine wpAnyH_ready (rs := [1, 5]) (by kernel_rfl) (by simp) ?_
    refine AllReadyH.cons rfl (fun K hK => ?_) ?_
    · go_simp
      refine (need_none HV.out HZ.out _ (HEW.out.below (by first | exact DR0.out | exact DR1.out _ | exact DR2.out _ _))).mono ?_
      rintro e w5 ⟨rfl, hb5'⟩
      exact ⟨rfl, rfl, rfl, rfl, O.out.below (below_then (show Below W.heap.size W _ from (by first | exact DR0.out | exact DR1.out _ | exact DR2.out _ _)) hb5')⟩
    refine AllReadyH.cons rfl (fun K hK => ?_) ?_
    · go_simp
      refine hK.out _ _ (by go_keep) (fun hHeld => ?_)
      clear hK K
      try simp only [Act.put, List.setIfInBounds_toArray, List.set_cons_zero, List.set_cons_succ]
      refine wpAnyH_ready (rs := [1]) (by kernel_rfl) (by simp) ?_
      refine AllReadyH.cons rfl (fun K hK => ?_) ?_
      · go_simp
        refine (need_none HV.out HZ.out _ (HEW.out.below (by first | exact DR0.out | exact DR1.out _ | exact DR2.out _ _))).mono ?_
        rintro e w5 ⟨rfl, hb5'⟩
        exact ⟨rfl, rfl, rfl, rfl, O.out.below (below_then (show Below W.heap.size W _ from (by first | exact DR0.out | exact DR1.out _ | exact DR2.out _ _)) hb5')⟩
      exact AllReadyH.nil
    exact AllReadyH.nil
  refine AllReadyH.cons rfl (fun K hK => ?_) ?_
  · go_simp
    refine hK.out _ _ (by go_keep) (fun hHeld => ?_)
    clear hK K
    try simp only [Act.put, List.setIfInBounds_toArray, List.set_cons_zero, List.set_cons_succ]
    refine wpAnyH_ready (rs := [1, 4]) (by kernel_rfl) (by simp) ?_
    refine AllReadyH.cons rfl (fun K hK => ?_) ?_
    · go_simp
      refine (need_none HV.out HZ.out _ (HEW.out.below (by first | exact DR0.out | exact DR1.out _ | exact DR2.out _ _))).mono ?_
      rintro e w5 ⟨rfl, hb5'⟩
      exact ⟨rfl, rfl, rfl, rfl, O.out.below (below_then (show Below W.heap.size W _ from (by first | exact DR0.out | exact DR1.out _ | exact DR2.out _ _)) hb5')⟩
    refine AllReadyH.cons rfl (fun K hK => ?_) ?_
    · go_simp
      refine hK.out _ _ (by go_keep) (fun hHeld => ?_)
      clear hK K
      try simp only [Act.put, List.setIfInBounds_toArray, List.set_cons_zero, List.set_cons_succ]
      refine wpAnyH_ready (rs := [1]) (by kernel_rfl) (by simp) ?_
      refine AllReadyH.cons rfl (fun K hK => ?_) ?_
      · go_simp
        refine (need_none HV.out HZ.out _ (HEW.out.below (by first | exact DR0.out | exact DR1.out _ | exact DR2.out _ _))).mono ?_
        rintro e w5 ⟨rfl, hb5'⟩
        exact ⟨rfl, rfl, rfl, rfl, O.out.below (below_then (show Below W.heap.size W _ from (by first | exact DR0.out | exact DR1.out _ | exact DR2.out _ _)) hb5')⟩
      exact AllReadyH.nil
    exact AllReadyH.nil
  exact AllReadyH.nil

set_option maxRecDepth 100000 in
set_option maxHeartbeats 4000000 in
theorem two_none2 (i : Nat) {k n : Int} {t : List UInt8} {k' n' : Int} {t' : List UInt8} {x : Int} (ha : VOk k n t) (hza : numZ k n t = some x) (h : VOk k' n' t') (hz : numZ k' n' t' = none) (w : World) (hE : Env w) :
    Ans Tryz.prog 46 #[.int .i64 i, .agg #[.int .i64 k, .int .i64 n, .string ⟨t.toArray⟩], .agg #[.int .i64 k', .int .i64 n', .string ⟨t'.toArray⟩]] w (.tuple #[vE 0 0 [], .int .i64 31]) := by
  have HZa := Lib.hid hza
  have HVa := Lib.hid ha
  have HZ := Lib.hid hz
  have HE := Lib.hid hE
  have HV := Lib.hid h
  clear hz hE h hza ha
  have hO := ops_in w k n t k' n' t' 23 23 23 26
  obtain ⟨W, hW⟩ : ∃ W, (((w.alloc (.cells #[.int .i64 k, .int .i64 n, .string ⟨t.toArray⟩] 23)).alloc (.cells #[.int .i64 k', .int .i64 n', .string ⟨t'.toArray⟩] 23)).alloc (.cells #[.int .i64 0, .int .i64 0, .string ⟨#[]⟩] 23)).alloc (.cells #[.int .i64 0] 26) = W := ⟨_, rfl⟩
  rw [hW] at hO
  have O := Lib.hid hO
  have a0 := hO.a0; have a1 := hO.a1; have a2 := hO.a2; have b0 := hO.b0; have b1 := hO.b1; have b2 := hO.b2
  have hlt : w.heap.size + 1 + 1 + 1 < W.heap.size := hO.lt
  have hlt1 : w.heap.size + 1 < W.heap.size := by omega
  have hlt0 : w.heap.size < W.heap.size := by omega
  clear hO
  have HEW := Lib.hid (HE.out.below O.out.bel)
  have DR0 := Lib.hid ((Below.refl W.heap.size W).drew)
  have DR1 : Hid (∀ o, Below W.heap.size W (W.alloc o).drew) := Lib.hid fun o => ((Below.refl W.heap.size W).alloc (Nat.le_refl _) o).drew
  have DR2 : Hid (∀ o o', Below W.heap.size W ((W.alloc o).alloc o').drew) := Lib.hid fun o o' => (((Below.refl W.heap.size W).alloc (Nat.le_refl _) o).alloc (by simp) o').drew
  go_enter_defers Tryz.func46, Tryz.ntmps46
  go_wp2_with fail
  refine Code.wp_mono (QP_two (w := w) (k := k) (n := n) (t := t) (k' := k') (n' := n') (t' := t') (m := 31) (fun _ _ _ h => h)) ?_
  refine wp_region_held_drew (S := (fun w' => w'.cell? ⟨w.heap.size, 0, none⟩ = some (.int .i64 k) ∧ w'.cell? ⟨w.heap.size, 1, none⟩ = some (.int .i64 n) ∧ w'.cell? ⟨w.heap.size, 2, none⟩ = some (.string ⟨t.toArray⟩) ∧ w'.cell? ⟨w.heap.size + 1, 0, none⟩ = some (.int .i64 k') ∧ w'.cell? ⟨w.heap.size + 1, 1, none⟩ = some (.int .i64 n') ∧ w'.cell? ⟨w.heap.size + 1, 2, none⟩ = some (.string ⟨t'.toArray⟩))) (by kernel_rfl) (by go_keep) (fun hHeld => ?_)
  refine wpAnyH_take (i := 0) (v := (.agg #[.int .i64 k, .int .i64 n, .string ⟨t.toArray⟩])) rfl (by kernel_rfl) (by kernel_rfl) (by kernel_rfl) (QP_put 10 _ (by decide) (by decide)) (Or.inl ⟨by rfl, by intro w hSw; go_split_ands; go_simp⟩) (by assumption) ?_
  simp only [Act.put, List.setIfInBounds_toArray, List.set_cons_zero, List.set_cons_succ]
  refine wpAnyH_take (i := 2) (v := (.agg #[.int .i64 k', .int .i64 n', .string ⟨t'.toArray⟩])) rfl (by kernel_rfl) (by kernel_rfl) (by kernel_rfl) (QP_put 12 _ (by decide) (by decide)) (Or.inl ⟨by rfl, by intro w hSw; go_split_ands; go_simp⟩) (by assumption) ?_
  simp only [Act.put, List.setIfInBounds_toArray, List.set_cons_zero, List.set_cons_succ]
  refine wpAnyH_ready (rs := [1, 4, 5]) (by kernel_rfl) (by simp) ?_
  refine AllReadyH.cons rfl (fun K hK => ?_) ?_
  · go_simp
    refine (need_some HVa.out HZa.out _ (HEW.out.below (by first | exact DR0.out | exact DR1.out _ | exact DR2.out _ _))).mono ?_
    rintro e w5 ⟨va, rfl, hfa, hwa, hb5'⟩
    have hb5 := below_then (show Below W.heap.size W _ from (by first | exact DR0.out | exact DR1.out _ | exact DR2.out _ _)) hb5'
    have HB5 := Lib.hid hb5
    have B51 : Hid (∀ o, Below w5.heap.size w5 (w5.alloc o)) := Lib.hid fun o => (Below.refl w5.heap.size w5).alloc (Nat.le_refl _) o
    have B52 : Hid (∀ o o', Below w5.heap.size w5 ((w5.alloc o).alloc o')) := Lib.hid fun o o' => ((Below.refl w5.heap.size w5).alloc (Nat.le_refl _) o).alloc (by simp) o'
    have HWA := Lib.hid hwa
    have HFA := Lib.hid hfa
    dsimp only
    refine hK.out _ _ (by exact ⟨cell_on hb5 a0, cell_on hb5 a1, cell_on hb5 a2, cell_on hb5 b0, cell_on hb5 b1, cell_on hb5 b2⟩) (fun hHeld => ?_)
    clear hK K
    have c0 := cell_on hb5 a0; have c1 := cell_on hb5 a1; have c2 := cell_on hb5 a2; have c3 := cell_on hb5 b0; have c4 := cell_on hb5 b1; have c5 := cell_on hb5 b2
    have hlt5 : w.heap.size + 1 + 1 + 1 < w5.heap.size := (O.out.below hb5).lt
    have hlt51 : w.heap.size + 1 < w5.heap.size := by omega
    have hlt50 : w.heap.size < w5.heap.size := by omega
    clear hb5 hb5' hwa hfa
    try simp only [Act.put, List.setIfInBounds_toArray, List.set_cons_zero, List.set_cons_succ]
    refine wpAnyH_ready (rs := [3, 4, 5]) (by kernel_rfl) (by simp) ?_
    refine AllReadyH.cons rfl (fun K hK => ?_) ?_
    · go_simp
      refine (need_none HV.out HZ.out _ ((HEW.out.below HB5.out).below (by first | exact Below.refl _ _ | exact B51.out _ | exact B52.out _ _))).mono ?_
      rintro e w6 ⟨rfl, hb6'⟩
      exact ⟨rfl, rfl, rfl, rfl, O.out.below (below_then HB5.out (below_then (show Below w5.heap.size w5 _ from (by first | exact Below.refl _ _ | exact B51.out _ | exact B52.out _ _)) hb6'))⟩
    refine AllReadyH.cons rfl (fun K hK => ?_) ?_
    · go_simp
      refine hK.out _ _ (by go_keep) (fun hHeld => ?_)
      clear hK K
      try simp only [Act.put, List.setIfInBounds_toArray, List.set_cons_zero, List.set_cons_succ]
      refine wpAnyH_ready (rs := [3, 5]) (by kernel_rfl) (by simp) ?_
      refine AllReadyH.cons rfl (fun K hK => ?_) ?_
      · go_simp
        refine (need_none HV.out HZ.out _ ((HEW.out.below HB5.out).below (by first | exact Below.refl _ _ | exact B51.out _ | exact B52.out _ _))).mono ?_
        rintro e w6 ⟨rfl, hb6'⟩
        exact ⟨rfl, rfl, rfl, rfl, O.out.below (below_then HB5.out (below_then (show Below w5.heap.size w5 _ from (by first | exact Below.refl _ _ | exact B51.out _ | exact B52.out _ _)) hb6'))⟩
      refine AllReadyH.cons rfl (fun K hK => ?_) ?_
      · go_simp
        refine hK.out _ _ (by go_keep) (fun hHeld => ?_)
        clear hK K
        try simp only [Act.put, List.setIfInBounds_toArray, List.set_cons_zero, List.set_cons_succ]
        refine wpAnyH_ready (rs := [3]) (by kernel_rfl) (by simp) ?_
        refine AllReadyH.cons rfl (fun K hK => ?_) ?_
        · go_simp
          refine (need_none HV.out HZ.out _ ((HEW.out.below HB5.out).below (by first | exact Below.refl _ _ | exact B51.out _ | exact B52.out _ _))).mono ?_
          rintro e w6 ⟨rfl, hb6'⟩
          exact ⟨rfl, rfl, rfl, rfl, O.out.below (below_then HB5.out (below_then (show Below w5.heap.size w5 _ from (by first | exact Below.refl _ _ | exact B51.out _ | exact B52.out _ _)) hb6'))⟩
        exact AllReadyH.nil
      exact AllReadyH.nil
    refine AllReadyH.cons rfl (fun K hK => ?_) ?_
    · go_simp
      refine hK.out _ _ (by go_keep) (fun hHeld => ?_)
      clear hK K
      try simp only [Act.put, List.setIfInBounds_toArray, List.set_cons_zero, List.set_cons_succ]
      refine wpAnyH_ready (rs := [3, 4]) (by kernel_rfl) (by simp) ?_
      refine AllReadyH.cons rfl (fun K hK => ?_) ?_
      · go_simp
        refine (need_none HV.out HZ.out _ ((HEW.out.below HB5.out).below (by first | exact Below.refl _ _ | exact B51.out _ | exact B52.out _ _))).mono ?_
        rintro e w6 ⟨rfl, hb6'⟩
        exact ⟨rfl, rfl, rfl, rfl, O.out.below (below_then HB5.out (below_then (show Below w5.heap.size w5 _ from (by first | exact Below.refl _ _ | exact B51.out _ | exact B52.out _ _)) hb6'))⟩
      refine AllReadyH.cons rfl (fun K hK => ?_) ?_
      · go_simp
        refine hK.out _ _ (by go_keep) (fun hHeld => ?_)
        clear hK K
        try simp only [Act.put, List.setIfInBounds_toArray, List.set_cons_zero, List.set_cons_succ]
        refine wpAnyH_ready (rs := [3]) (by kernel_rfl) (by simp) ?_
        refine AllReadyH.cons rfl (fun K hK => ?_) ?_
        · go_simp
          refine (need_none HV.out HZ.out _ ((HEW.out.below HB5.out).below (by first | exact Below.refl _ _ | exact B51.out _ | exact B52.out _ _))).mono ?_
          rintro e w6 ⟨rfl, hb6'⟩
          exact ⟨rfl, rfl, rfl, rfl, O.out.below (below_then HB5.out (below_then (show Below w5.heap.size w5 _ from (by first | exact Below.refl _ _ | exact B51.out _ | exact B52.out _ _)) hb6'))⟩
        exact AllReadyH.nil
      exact AllReadyH.nil
    exact AllReadyH.nil
  refine AllReadyH.cons rfl (fun K hK => ?_) ?_
  · go_simp
    refine hK.out _ _ (by go_keep) (fun hHeld => ?_)
    clear hK K
    try simp only [Act.put, List.setIfInBounds_toArray, List.set_cons_zero, List.set_cons_succ]
    refine wpAnyH_ready (rs := [1, 5]) (by kernel_rfl) (by simp) ?_
    refine AllReadyH.cons rfl (fun K hK => ?_) ?_
    · go_simp
      refine (need_some HVa.out HZa.out _ (HEW.out.below (by first | exact DR0.out | exact DR1.out _ | exact DR2.out _ _))).mono ?_
      rintro e w5 ⟨va, rfl, hfa, hwa, hb5'⟩
      have hb5 := below_then (show Below W.heap.size W _ from (by first | exact DR0.out | exact DR1.out _ | exact DR2.out _ _)) hb5'
      have HB5 := Lib.hid hb5
      have B51 : Hid (∀ o, Below w5.heap.size w5 (w5.alloc o)) := Lib.hid fun o => (Below.refl w5.heap.size w5).alloc (Nat.le_refl _) o
      have B52 : Hid (∀ o o', Below w5.heap.size w5 ((w5.alloc o).alloc o')) := Lib.hid fun o o' => ((Below.refl w5.heap.size w5).alloc (Nat.le_refl _) o).alloc (by simp) o'
      have HWA := Lib.hid hwa
      have HFA := Lib.hid hfa
      dsimp only
      refine hK.out _ _ (by exact ⟨cell_on hb5 a0, cell_on hb5 a1, cell_on hb5 a2, cell_on hb5 b0, cell_on hb5 b1, cell_on hb5 b2⟩) (fun hHeld => ?_)
      clear hK K
      have c0 := cell_on hb5 a0; have c1 := cell_on hb5 a1; have c2 := cell_on hb5 a2; have c3 := cell_on hb5 b0; have c4 := cell_on hb5 b1; have c5 := cell_on hb5 b2
      have hlt5 : w.heap.size + 1 + 1 + 1 < w5.heap.size := (O.out.below hb5).lt
      have hlt51 : w.heap.size + 1 < w5.heap.size := by omega
      have hlt50 : w.heap.size < w5.heap.size := by omega
      clear hb5 hb5' hwa hfa
      try simp only [Act.put, List.setIfInBounds_toArray, List.set_cons_zero, List.set_cons_succ]
      refine wpAnyH_ready (rs := [3, 5]) (by kernel_rfl) (by simp) ?_
      refine AllReadyH.cons rfl (fun K hK => ?_) ?_
      · go_simp
        refine (need_none HV.out HZ.out _ ((HEW.out.below HB5.out).below (by first | exact Below.refl _ _ | exact B51.out _ | exact B52.out _ _))).mono ?_
        rintro e w6 ⟨rfl, hb6'⟩
        exact ⟨rfl, rfl, rfl, rfl, O.out.below (below_then HB5.out (below_then (show Below w5.heap.size w5 _ from (by first | exact Below.refl _ _ | exact B51.out _ | exact B52.out _ _)) hb6'))⟩
      refine AllReadyH.cons rfl (fun K hK => ?_) ?_
      · go_simp
        refine hK.out _ _ (by go_keep) (fun hHeld => ?_)
        clear hK K
        try simp only [Act.put, List.setIfInBounds_toArray, List.set_cons_zero, List.set_cons_succ]
        refine wpAnyH_ready (rs := [3]) (by kernel_rfl) (by simp) ?_
        refine AllReadyH.cons rfl (fun K hK => ?_) ?_
        · go_simp
          refine (need_none HV.out HZ.out _ ((HEW.out.below HB5.out).below (by first | exact Below.refl _ _ | exact B51.out _ | exact B52.out _ _))).mono ?_
          rintro e w6 ⟨rfl, hb6'⟩
          exact ⟨rfl, rfl, rfl, rfl, O.out.below (below_then HB5.out (below_then (show Below w5.heap.size w5 _ from (by first | exact Below.refl _ _ | exact B51.out _ | exact B52.out _ _)) hb6'))⟩
        exact AllReadyH.nil
      exact AllReadyH.nil
    refine AllReadyH.cons rfl (fun K hK => ?_) ?_
    · go_simp
      refine hK.out _ _ (by go_keep) (fun hHeld => ?_)
      clear hK K
      try simp only [Act.put, List.setIfInBounds_toArray, List.set_cons_zero, List.set_cons_succ]
      refine wpAnyH_ready (rs := [1]) (by kernel_rfl) (by simp) ?_
      refine AllReadyH.cons rfl (fun K hK => ?_) ?_
      · go_simp
        refine (need_some HVa.out HZa.out _ (HEW.out.below (by first | exact DR0.out | exact DR1.out _ | exact DR2.out _ _))).mono ?_
        rintro e w5 ⟨va, rfl, hfa, hwa, hb5'⟩
        have hb5 := below_then (show Below W.heap.size W _ from (by first | exact DR0.out | exact DR1.out _ | exact DR2.out _ _)) hb5'
        have HB5 := Lib.hid hb5
        have B51 : Hid (∀ o, Below w5.heap.size w5 (w5.alloc o)) := Lib.hid fun o => (Below.refl w5.heap.size w5).alloc (Nat.le_refl _) o
        have B52 : Hid (∀ o o', Below w5.heap.size w5 ((w5.alloc o).alloc o')) := Lib.hid fun o o' => ((Below.refl w5.heap.size w5).alloc (Nat.le_refl _) o).alloc (by simp) o'
        have HWA := Lib.hid hwa
        have HFA := Lib.hid hfa
        dsimp only
        refine hK.out _ _ (by exact ⟨cell_on hb5 a0, cell_on hb5 a1, cell_on hb5 a2, cell_on hb5 b0, cell_on hb5 b1, cell_on hb5 b2⟩) (fun hHeld => ?_)
        clear hK K
        have c0 := cell_on hb5 a0; have c1 := cell_on hb5 a1; have c2 := cell_on hb5 a2; have c3 := cell_on hb5 b0; have c4 := cell_on hb5 b1; have c5 := cell_on hb5 b2
        have hlt5 : w.heap.size + 1 + 1 + 1 < w5.heap.size := (O.out.below hb5).lt
        have hlt51 : w.heap.size + 1 < w5.heap.size := by omega
        have hlt50 : w.heap.size < w5.heap.size := by omega
        clear hb5 hb5' hwa hfa
        try simp only [Act.put, List.setIfInBounds_toArray, List.set_cons_zero, List.set_cons_succ]
        refine wpAnyH_ready (rs := [3]) (by kernel_rfl) (by simp) ?_
        refine AllReadyH.cons rfl (fun K hK => ?_) ?_
        · go_simp
          refine (need_none HV.out HZ.out _ ((HEW.out.below HB5.out).below (by first | exact Below.refl _ _ | exact B51.out _ | exact B52.out _ _))).mono ?_
          rintro e w6 ⟨rfl, hb6'⟩
          exact ⟨rfl, rfl, rfl, rfl, O.out.below (below_then HB5.out (below_then (show Below w5.heap.size w5 _ from (by first | exact Below.refl _ _ | exact B51.out _ | exact B52.out _ _)) hb6'))⟩
        exact AllReadyH.nil
      exact AllReadyH.nil
    exact AllReadyH.nil
  refine AllReadyH.cons rfl (fun K hK => ?_) ?_
  · go_simp
    refine hK.out _ _ (by go_keep) (fun hHeld => ?_)
    clear hK K
    try simp only [Act.put, List.setIfInBounds_toArray, List.set_cons_zero, List.set_cons_succ]
    refine wpAnyH_ready (rs := [1, 4]) (by kernel_rfl) (by simp) ?_
    refine AllReadyH.cons rfl (fun K hK => ?_) ?_
    · go_simp
      refine (need_some HVa.out HZa.out _ (HEW.out.below (by first | exact DR0.out | exact DR1.out _ | exact DR2.out _ _))).mono ?_
      rintro e w5 ⟨va, rfl, hfa, hwa, hb5'⟩
      have hb5 := below_then (show Below W.heap.size W _ from (by first | exact DR0.out | exact DR1.out _ | exact DR2.out _ _)) hb5'
      have HB5 := Lib.hid hb5
      have B51 : Hid (∀ o, Below w5.heap.size w5 (w5.alloc o)) := Lib.hid fun o => (Below.refl w5.heap.size w5).alloc (Nat.le_refl _) o
      have B52 : Hid (∀ o o', Below w5.heap.size w5 ((w5.alloc o).alloc o')) := Lib.hid fun o o' => ((Below.refl w5.heap.size w5).alloc (Nat.le_refl _) o).alloc (by simp) o'
      have HWA := Lib.hid hwa
      have HFA := Lib.hid hfa
      dsimp only
      refine hK.out _ _ (by exact ⟨cell_on hb5 a0, cell_on hb5 a1, cell_on hb5 a2, cell_on hb5 b0, cell_on hb5 b1, cell_on hb5 b2⟩) (fun hHeld => ?_)
      clear hK K
      have c0 := cell_on hb5 a0; have c1 := cell_on hb5 a1; have c2 := cell_on hb5 a2; have c3 := cell_on hb5 b0; have c4 := cell_on hb5 b1; have c5 := cell_on hb5 b2
      have hlt5 : w.heap.size + 1 + 1 + 1 < w5.heap.size := (O.out.below hb5).lt
      have hlt51 : w.heap.size + 1 < w5.heap.size := by omega
      have hlt50 : w.heap.size < w5.heap.size := by omega
      clear hb5 hb5' hwa hfa
      try simp only [Act.put, List.setIfInBounds_toArray, List.set_cons_zero, List.set_cons_succ]
      refine wpAnyH_ready (rs := [3, 4]) (by kernel_rfl) (by simp) ?_
      refine AllReadyH.cons rfl (fun K hK => ?_) ?_
      · go_simp
        refine (need_none HV.out HZ.out _ ((HEW.out.below HB5.out).below (by first | exact Below.refl _ _ | exact B51.out _ | exact B52.out _ _))).mono ?_
        rintro e w6 ⟨rfl, hb6'⟩
        exact ⟨rfl, rfl, rfl, rfl, O.out.below (below_then HB5.out (below_then (show Below w5.heap.size w5 _ from (by first | exact Below.refl _ _ | exact B51.out _ | exact B52.out _ _)) hb6'))⟩
      refine AllReadyH.cons rfl (fun K hK => ?_) ?_
      · go_simp
        refine hK.out _ _ (by go_keep) (fun hHeld => ?_)
        clear hK K
        try simp only [Act.put, List.setIfInBounds_toArray, List.set_cons_zero, List.set_cons_succ]
        refine wpAnyH_ready (rs := [3]) (by kernel_rfl) (by simp) ?_
        refine AllReadyH.cons rfl (fun K hK => ?_) ?_
        · go_simp
          refine (need_none HV.out HZ.out _ ((HEW.out.below HB5.out).below (by first | exact Below.refl _ _ | exact B51.out _ | exact B52.out _ _))).mono ?_
          rintro e w6 ⟨rfl, hb6'⟩
          exact ⟨rfl, rfl, rfl, rfl, O.out.below (below_then HB5.out (below_then (show Below w5.heap.size w5 _ from (by first | exact Below.refl _ _ | exact B51.out _ | exact B52.out _ _)) hb6'))⟩
        exact AllReadyH.nil
      exact AllReadyH.nil
    refine AllReadyH.cons rfl (fun K hK => ?_) ?_
    · go_simp
      refine hK.out _ _ (by go_keep) (fun hHeld => ?_)
      clear hK K
      try simp only [Act.put, List.setIfInBounds_toArray, List.set_cons_zero, List.set_cons_succ]
      refine wpAnyH_ready (rs := [1]) (by kernel_rfl) (by simp) ?_
      refine AllReadyH.cons rfl (fun K hK => ?_) ?_
      · go_simp
        refine (need_some HVa.out HZa.out _ (HEW.out.below (by first | exact DR0.out | exact DR1.out _ | exact DR2.out _ _))).mono ?_
        rintro e w5 ⟨va, rfl, hfa, hwa, hb5'⟩
        have hb5 := below_then (show Below W.heap.size W _ from (by first | exact DR0.out | exact DR1.out _ | exact DR2.out _ _)) hb5'
        have HB5 := Lib.hid hb5
        have B51 : Hid (∀ o, Below w5.heap.size w5 (w5.alloc o)) := Lib.hid fun o => (Below.refl w5.heap.size w5).alloc (Nat.le_refl _) o
        have B52 : Hid (∀ o o', Below w5.heap.size w5 ((w5.alloc o).alloc o')) := Lib.hid fun o o' => ((Below.refl w5.heap.size w5).alloc (Nat.le_refl _) o).alloc (by simp) o'
        have HWA := Lib.hid hwa
        have HFA := Lib.hid hfa
        dsimp only
        refine hK.out _ _ (by exact ⟨cell_on hb5 a0, cell_on hb5 a1, cell_on hb5 a2, cell_on hb5 b0, cell_on hb5 b1, cell_on hb5 b2⟩) (fun hHeld => ?_)
        clear hK K
        have c0 := cell_on hb5 a0; have c1 := cell_on hb5 a1; have c2 := cell_on hb5 a2; have c3 := cell_on hb5 b0; have c4 := cell_on hb5 b1; have c5 := cell_on hb5 b2
        have hlt5 : w.heap.size + 1 + 1 + 1 < w5.heap.size := (O.out.below hb5).lt
        have hlt51 : w.heap.size + 1 < w5.heap.size := by omega
        have hlt50 : w.heap.size < w5.heap.size := by omega
        clear hb5 hb5' hwa hfa
        try simp only [Act.put, List.setIfInBounds_toArray, List.set_cons_zero, List.set_cons_succ]
        refine wpAnyH_ready (rs := [3]) (by kernel_rfl) (by simp) ?_
        refine AllReadyH.cons rfl (fun K hK => ?_) ?_
        · go_simp
          refine (need_none HV.out HZ.out _ ((HEW.out.below HB5.out).below (by first | exact Below.refl _ _ | exact B51.out _ | exact B52.out _ _))).mono ?_
          rintro e w6 ⟨rfl, hb6'⟩
          exact ⟨rfl, rfl, rfl, rfl, O.out.below (below_then HB5.out (below_then (show Below w5.heap.size w5 _ from (by first | exact Below.refl _ _ | exact B51.out _ | exact B52.out _ _)) hb6'))⟩
        exact AllReadyH.nil
      exact AllReadyH.nil
    exact AllReadyH.nil
  exact AllReadyH.nil
end Go.Proofs.YthjpbbbmnmhmmaaGreatDoor
