import Derived.Test.YthjpbbbmnmhmmaaGreatDoorA23
import Derived.Deep.DeepCutAuto
set_option linter.unusedVariables false
set_option linter.unusedSimpArgs false
namespace Go.Proofs.YthjpbbbmnmhmmaaGreatDoor
open Go.RowKit Go.Shelf Go.Lib

theorem cell_put {W : World} {g g' j : Nat} {v : Value} (h : W.cell? ⟨g, j, none⟩ = some v) (hne : ¬ g' = g) (u u' : Value) : ((W.setCell ⟨g', 0, none⟩ u).setCell ⟨g', 1, none⟩ u').cell? ⟨g, j, none⟩ = some v := by
  rw [World.cell?_setCell_other _ _ _ _ (fun e => hne (congrArg Addr.block e)), World.cell?_setCell_other _ _ _ _ (fun e => hne (congrArg Addr.block e))]
  exact h
theorem ResW.put {W : World} {g g' : Nat} (h : ResW W g) (hne : ¬ g' = g) (u u' : Value) : ResW ((W.setCell ⟨g', 0, none⟩ u).setCell ⟨g', 1, none⟩ u') g :=
  ⟨cell_put h.c0 hne u u', cell_put h.c1 hne u u', by have := h.f0; simpa using this, by have := h.f1; simpa using this, h.ni.put (fun e => hne e.symm) u u' 0 1, by have := h.lt; simpa using this⟩
theorem ResW.set0 {W : World} {g : Nat} (h : ResW W g) (u u' : Value) : ((W.setCell ⟨g, 0, none⟩ u).setCell ⟨g, 1, none⟩ u').cell? ⟨g, 0, none⟩ = some u := by
  rw [World.cell?_setCell_other _ _ _ _ (by intro e; cases e), World.cell?_setCell_same _ _ _ h.c0]
theorem ResW.set1 {W : World} {g : Nat} (h : ResW W g) (u u' : Value) : ((W.setCell ⟨g, 0, none⟩ u).setCell ⟨g, 1, none⟩ u').cell? ⟨g, 1, none⟩ = some u' := by
  have h1 : (W.setCell ⟨g, 0, none⟩ u).cell? ⟨g, 1, none⟩ = some (.bool false) := by rw [World.cell?_setCell_other _ _ _ _ (by intro e; cases e)]; exact h.c1
  rw [World.cell?_setCell_same _ _ _ h1]

theorem cell_put3 {W : World} {g g' j : Nat} {v : Value} (h : W.cell? ⟨g, j, none⟩ = some v) (hne : ¬ g' = g) (u u' u'' : Value) : (((W.setCell ⟨g', 0, none⟩ u).setCell ⟨g', 1, none⟩ u').setCell ⟨g', 2, none⟩ u'').cell? ⟨g, j, none⟩ = some v := by
  rw [World.cell?_setCell_other _ _ _ _ (fun e => hne (congrArg Addr.block e))]
  exact cell_put h hne u u'
theorem cell_put4 {W : World} {g g' g'' j : Nat} {v : Value} (h : W.cell? ⟨g, j, none⟩ = some v) (hne : ¬ g' = g) (hne' : ¬ g'' = g) (u u' u'' u3 : Value) : ((((W.setCell ⟨g', 0, none⟩ u).setCell ⟨g', 1, none⟩ u').setCell ⟨g', 2, none⟩ u'').setCell ⟨g'', 0, none⟩ u3).cell? ⟨g, j, none⟩ = some v := by
  rw [World.cell?_setCell_other _ _ _ _ (fun e => hne' (congrArg Addr.block e))]
  exact cell_put3 h hne u u' u''
theorem resVE_put {X : World} {gv ge : Nat} (h : ResV X gv) (e0 : X.cell? ⟨ge, 0, none⟩ = some (.int .i64 0)) (hne : ¬ gv = ge) (k n : Int) (t : List UInt8) :
    ResVE ((((X.setCell ⟨gv, 0, none⟩ (.int .i64 k)).setCell ⟨gv, 1, none⟩ (.int .i64 n)).setCell ⟨gv, 2, none⟩ (.string ⟨t.toArray⟩)).setCell ⟨ge, 0, none⟩ (.int .i64 0)) gv ge k n 0 t := by
  have h0 := h.c0; have h1 := h.c1; have h2 := h.c2
  have hne' : ¬ ge = gv := fun e => hne e.symm
  constructor <;> go_simp
theorem QP_normal {Q : Exit → Act → World → Prop} {D : List Deferred} {p6 p7 : Value} {PP : List PanicEntry → World → Prop} {a : Act} {w : World} (h : Q .normal a w) : QP Q D p6 p7 PP .normal a w := h

theorem QP_false {Q : Exit → Act → World → Prop} {D : List Deferred} {p6 p7 : Value} : ∀ e a w, QP Q D p6 p7 (fun _ _ => False) e a w → Q e a w := by
  intro e a w h
  cases e with
  | panic c => exact h.2.2.2.elim
  | _ => exact h

/-- Behind both looks: two wholes in variables of their own. -/
structure Both (W : World) (g8 g9 : Nat) (x y : Int) (a : Option Addr) (an ac : Nat) (p : Bool) (b : Option Addr) (bn bc : Nat) (q : Bool) : Prop where
  x0 : W.cell? ⟨g8, 0, none⟩ = some (.slice a an ac)
  x1 : W.cell? ⟨g8, 1, none⟩ = some (.bool p)
  y0 : W.cell? ⟨g9, 0, none⟩ = some (.slice b bn bc)
  y1 : W.cell? ⟨g9, 1, none⟩ = some (.bool q)
  hx : WH W (.agg #[.slice a an ac, .bool p]) x
  hy : WH W (.agg #[.slice b bn bc, .bool q]) y

theorem index_r0 (W : World) : (Instr.index 93 (.agg #[.func (.func 99) #[] #[], .func (.func 100) #[] #[], .func (.func 101) #[] #[], .func (.func 102) #[] #[], .func (.func 104) #[] #[], .func (.func 105) #[] #[]]) (.int .i64 0)).run Tryz.prog W = .ok (.agg #[.func (.func (opF 0)) #[] #[]]) W := by kernel_rfl
theorem field_r0 (W : World) : (Instr.field 92 (.agg #[.func (.func (opF 0)) #[] #[]]) 0).run Tryz.prog W = .ok (.func (.func (opF 0)) #[] #[]) W := by kernel_rfl
theorem index_r1 (W : World) : (Instr.index 93 (.agg #[.func (.func 99) #[] #[], .func (.func 100) #[] #[], .func (.func 101) #[] #[], .func (.func 102) #[] #[], .func (.func 104) #[] #[], .func (.func 105) #[] #[]]) (.int .i64 1)).run Tryz.prog W = .ok (.agg #[.func (.func (opF 1)) #[] #[]]) W := by kernel_rfl
theorem field_r1 (W : World) : (Instr.field 92 (.agg #[.func (.func (opF 1)) #[] #[]]) 0).run Tryz.prog W = .ok (.func (.func (opF 1)) #[] #[]) W := by kernel_rfl
theorem index_r2 (W : World) : (Instr.index 93 (.agg #[.func (.func 99) #[] #[], .func (.func 100) #[] #[], .func (.func 101) #[] #[], .func (.func 102) #[] #[], .func (.func 104) #[] #[], .func (.func 105) #[] #[]]) (.int .i64 2)).run Tryz.prog W = .ok (.agg #[.func (.func (opF 2)) #[] #[]]) W := by kernel_rfl
theorem field_r2 (W : World) : (Instr.field 92 (.agg #[.func (.func (opF 2)) #[] #[]]) 0).run Tryz.prog W = .ok (.func (.func (opF 2)) #[] #[]) W := by kernel_rfl
theorem index_r3 (W : World) : (Instr.index 93 (.agg #[.func (.func 99) #[] #[], .func (.func 100) #[] #[], .func (.func 101) #[] #[], .func (.func 102) #[] #[], .func (.func 104) #[] #[], .func (.func 105) #[] #[]]) (.int .i64 3)).run Tryz.prog W = .ok (.agg #[.func (.func (opF 3)) #[] #[]]) W := by kernel_rfl
theorem field_r3 (W : World) : (Instr.field 92 (.agg #[.func (.func (opF 3)) #[] #[]]) 0).run Tryz.prog W = .ok (.func (.func (opF 3)) #[] #[]) W := by kernel_rfl
theorem index_r4 (W : World) : (Instr.index 93 (.agg #[.func (.func 99) #[] #[], .func (.func 100) #[] #[], .func (.func 101) #[] #[], .func (.func 102) #[] #[], .func (.func 104) #[] #[], .func (.func 105) #[] #[]]) (.int .i64 4)).run Tryz.prog W = .ok (.agg #[.func (.func (opF 4)) #[] #[]]) W := by kernel_rfl
theorem field_r4 (W : World) : (Instr.field 92 (.agg #[.func (.func (opF 4)) #[] #[]]) 0).run Tryz.prog W = .ok (.func (.func (opF 4)) #[] #[]) W := by kernel_rfl
theorem index_r5 (W : World) : (Instr.index 93 (.agg #[.func (.func 99) #[] #[], .func (.func 100) #[] #[], .func (.func 101) #[] #[], .func (.func 102) #[] #[], .func (.func 104) #[] #[], .func (.func 105) #[] #[]]) (.int .i64 5)).run Tryz.prog W = .ok (.agg #[.func (.func (opF 5)) #[] #[]]) W := by kernel_rfl
theorem field_r5 (W : World) : (Instr.field 92 (.agg #[.func (.func (opF 5)) #[] #[]]) 0).run Tryz.prog W = .ok (.func (.func (opF 5)) #[] #[]) W := by kernel_rfl

attribute [local go_sem] index_r0 index_r1 index_r2 index_r3 index_r4 index_r5 field_r0 field_r1 field_r2 field_r3 field_r4 field_r5

/-- What an operation of wholes comes to. -/
inductive Out where
  | num (z : Int)
  | err (m : Int)

/-- What the exported function answers. -/
def Out.res : Out → Value
  | .num z => if nDigits z.natAbs ≤ 400 then .tuple #[vv z, .int .i64 0] else .tuple #[vE 0 0 [], .int .i64 2]
  | .err m => .tuple #[vE 0 0 [], .int .i64 m]

def OutPost (o : Out) (W : World) (e : Ending) (w' : World) : Prop :=
  match o with
  | .num z => (dig z.natAbs).length ≤ 1000 ∧ OpPost W z e w'
  | .err m => e = .panicked (badV m) ∧ Below W.heap.size W w'

set_option maxRecDepth 100000 in
set_option maxHeartbeats 4000000 in
theorem two_some (i : Nat) {k n : Int} {t : List UInt8} {k' n' : Int} {t' : List UInt8} {x y : Int} (ha : VOk k n t) (hza : numZ k n t = some x) (h : VOk k' n' t') (hz : numZ k' n' t' = some y) (w : World) (hE : Env w) (hi : i < 6) (out : Out) (hop : ∀ va vb W, WH W va x → WH W vb y → Calls Tryz.prog (opF i) #[va, vb] W (OutPost out W)) (r : Value) (hr : out.res = r) :
    Ans Tryz.prog 46 #[.int .i64 i, .agg #[.int .i64 k, .int .i64 n, .string ⟨t.toArray⟩], .agg #[.int .i64 k', .int .i64 n', .string ⟨t'.toArray⟩]] w r := by
  have HI := Lib.hid hi
  have HOP := Lib.hid hop
  have HRR := Lib.hid hr
  clear hi hop
  have HZa := Lib.hid hza
  have HVa := Lib.hid ha
  have HZ := Lib.hid hz
  have HE := Lib.hid hE
  have HV := Lib.hid h
  clear hz hE h hza ha
  have hO := ops_in w k n t k' n' t' 23 23 23 26
  obtain ⟨W, hW⟩ : ∃ W, (((w.alloc (.cells #[.int .i64 k, .int .i64 n, .string ⟨t.toArray⟩] 23)).alloc (.cells #[.int .i64 k', .int .i64 n', .string ⟨t'.toArray⟩] 23)).alloc (.cells #[.int .i64 0, .int .i64 0, .string ⟨#[]⟩] 23)).alloc (.cells #[.int .i64 0] 26) = W := ⟨_, rfl⟩
  rw [hW] at hO
  have O := Lib.hid hO
  have a0 := hO.a0; have a1 := hO.a1; have a2 := hO.a2; have b0 := hO.b0; have b1 := hO.b1; have b2 := hO.b2
  have hlt : w.heap.size + 1 + 1 + 1 < W.heap.size := hO.lt
  have hlt1 : w.heap.size + 1 < W.heap.size := by omega
  have hlt0 : w.heap.size < W.heap.size := by omega
  clear hO
  have HEW := Lib.hid (HE.out.below O.out.bel)
  have DR0 := Lib.hid ((Below.refl W.heap.size W).drew)
  have DR1 : Hid (∀ o, Below W.heap.size W (W.alloc o).drew) := Lib.hid fun o => ((Below.refl W.heap.size W).alloc (Nat.le_refl _) o).drew
  have DR2 : Hid (∀ o o', Below W.heap.size W ((W.alloc o).alloc o').drew) := Lib.hid fun o o' => (((Below.refl W.heap.size W).alloc (Nat.le_refl _) o).alloc (by simp) o').drew
  go_enter_defers Tryz.func46, Tryz.ntmps46
  go_upto_region 2 with fail
  go_cut [8, 9] from 10 to 14 (fun s8 s9 wx => ∃ (g8 g9 : Nat) (a : Option Addr) (an ac : Nat) (p : Bool) (b : Option Addr) (bn bc : Nat) (q : Bool), s8 = .pointer (some ⟨g8, 0, none⟩) ∧ s9 = .pointer (some ⟨g9, 0, none⟩) ∧ Hid (Both wx g8 g9 x y a an ac p b bn bc q) ∧ Hid (Ops w wx k n t k' n' t') ∧ Hid (w.heap.size + 1 + 1 + 1 < g8 ∧ w.heap.size + 1 + 1 + 1 < g9))
  case first =>
    refine wp_region_noPanic ?_
    refine wp_region_held_drew (S := (fun w' => w'.cell? ⟨w.heap.size, 0, none⟩ = some (.int .i64 k) ∧ w'.cell? ⟨w.heap.size, 1, none⟩ = some (.int .i64 n) ∧ w'.cell? ⟨w.heap.size, 2, none⟩ = some (.string ⟨t.toArray⟩) ∧ w'.cell? ⟨w.heap.size + 1, 0, none⟩ = some (.int .i64 k') ∧ w'.cell? ⟨w.heap.size + 1, 1, none⟩ = some (.int .i64 n') ∧ w'.cell? ⟨w.heap.size + 1, 2, none⟩ = some (.string ⟨t'.toArray⟩))) (by kernel_rfl) (by go_keep) (fun hHeld => ?_)
    refine wpAnyH_take (i := 0) (v := (.agg #[.int .i64 k, .int .i64 n, .string ⟨t.toArray⟩])) rfl (by kernel_rfl) (by kernel_rfl) (by kernel_rfl) (fun _ _ _ h => h) (Or.inl ⟨by rfl, by intro w hSw; go_split_ands; go_simp⟩) (by assumption) ?_
    try simp only [Act.put, List.setIfInBounds_toArray, List.set_cons_zero, List.set_cons_succ]
    refine wpAnyH_take (i := 2) (v := (.agg #[.int .i64 k', .int .i64 n', .string ⟨t'.toArray⟩])) rfl (by kernel_rfl) (by kernel_rfl) (by kernel_rfl) (fun _ _ _ h => h) (Or.inl ⟨by rfl, by intro w hSw; go_split_ands; go_simp⟩) (by assumption) ?_
    try simp only [Act.put, List.setIfInBounds_toArray, List.set_cons_zero, List.set_cons_succ]
    have BX := DR0
    have HLT := Lib.hid hlt
    clear hlt hlt1 hlt0
    obtain ⟨X, hX⟩ : ∃ Y, W.drew = Y := ⟨_, rfl⟩
    rw [hX] at hHeld BX ⊢
    clear hX
    refine wpAnyH_ready (rs := [1, 4, 5]) (by kernel_rfl) (by simp) ?_
    refine AllReadyH.cons rfl (fun K hK => ?_) ?_
    · go_simp
      refine (need_some HVa.out HZa.out _ (HEW.out.below BX.out)).mono ?_
      rintro e X ⟨va, rfl, ⟨fa, fan, fac, fap, rfl⟩, hwa, hb⟩
      replace BX := Lib.hid (below_then BX.out hb)
      have HWA := Lib.hid hwa
      dsimp only
      refine hK.out _ _ ⟨cell_on BX.out a0, cell_on BX.out a1, cell_on BX.out a2, cell_on BX.out b0, cell_on BX.out b1, cell_on BX.out b2⟩ (fun hHeld => ?_)
      clear hK K
      try simp only [Act.put, List.setIfInBounds_toArray, List.set_cons_zero, List.set_cons_succ]
      clear hb hwa
      refine wpAnyH_ready (rs := [3, 4, 5]) (by kernel_rfl) (by simp) ?_
      refine AllReadyH.cons rfl (fun K hK => ?_) ?_
      · go_simp
        refine (need_some HV.out HZ.out _ (HEW.out.below BX.out)).mono ?_
        rintro e X ⟨vb, rfl, ⟨fb, fbn, fbc, fbp, rfl⟩, hwb, hb⟩
        replace BX := Lib.hid (below_then BX.out hb)
        replace HWA := Lib.hid (HWA.out.below hb)
        have HWB := Lib.hid hwb
        dsimp only
        refine hK.out _ _ ⟨cell_on BX.out a0, cell_on BX.out a1, cell_on BX.out a2, cell_on BX.out b0, cell_on BX.out b1, cell_on BX.out b2⟩ (fun hHeld => ?_)
        clear hK K
        try simp only [Act.put, List.setIfInBounds_toArray, List.set_cons_zero, List.set_cons_succ]
        clear hb hwb
        refine wpAnyH_ready (rs := [4, 5]) (by kernel_rfl) (by simp) ?_
        refine AllReadyH.cons rfl (fun K hK => ?_) ?_
        · go_simp
          have hb := (Below.refl X.heap.size X).alloc (Nat.le_refl _) (Obj.cells #[Value.slice none 0 0, Value.bool false] 62)
          have R8 := Lib.hid (resW_new X 62)
          obtain ⟨g8, hg8⟩ : ∃ g, X.heap.size = g := ⟨_, rfl⟩
          have G8 := Lib.hid (show W.heap.size ≤ g8 by rw [← hg8]; exact BX.out.size)
          obtain ⟨X, hX'⟩ : ∃ Y, X.alloc (Obj.cells #[Value.slice none 0 0, Value.bool false] 62) = Y := ⟨_, rfl⟩
          rw [hX'] at hb R8 ⊢
          replace BX := Lib.hid (below_then BX.out hb)
          replace HWA := Lib.hid (HWA.out.below hb)
          replace HWB := Lib.hid (HWB.out.below hb)
          rw [hg8] at R8 ⊢
          clear hX' hg8
          refine hK.out _ _ ⟨cell_on BX.out a0, cell_on BX.out a1, cell_on BX.out a2, cell_on BX.out b0, cell_on BX.out b1, cell_on BX.out b2⟩ (fun hHeld => ?_)
          clear hK K
          try simp only [Act.put, List.setIfInBounds_toArray, List.set_cons_zero, List.set_cons_succ]
          clear hb
          refine wpAnyH_ready (rs := [5]) (by kernel_rfl) (by simp) ?_
          refine AllReadyH.cons rfl (fun K hK => ?_) ?_
          · go_simp
            have hb := (Below.refl X.heap.size X).alloc (Nat.le_refl _) (Obj.cells #[Value.slice none 0 0, Value.bool false] 62)
            have R9 := Lib.hid (resW_new X 62)
            obtain ⟨g9, hg9⟩ : ∃ g, X.heap.size = g := ⟨_, rfl⟩
            have G9 := Lib.hid (show W.heap.size ≤ g9 by rw [← hg9]; exact BX.out.size)
            have NE := Lib.hid (show g8 < g9 by rw [← hg9]; exact R8.out.lt)
            obtain ⟨X, hX'⟩ : ∃ Y, X.alloc (Obj.cells #[Value.slice none 0 0, Value.bool false] 62) = Y := ⟨_, rfl⟩
            rw [hX'] at hb R9 ⊢
            replace BX := Lib.hid (below_then BX.out hb)
            replace R8 := Lib.hid (R8.out.below hb)
            replace HWA := Lib.hid (HWA.out.below hb)
            replace HWB := Lib.hid (HWB.out.below hb)
            rw [hg9] at R9 ⊢
            clear hX' hg9
            refine hK.out _ _ ⟨cell_on BX.out a0, cell_on BX.out a1, cell_on BX.out a2, cell_on BX.out b0, cell_on BX.out b1, cell_on BX.out b2⟩ (fun hHeld => ?_)
            clear hK K
            try simp only [Act.put, List.setIfInBounds_toArray, List.set_cons_zero, List.set_cons_succ]
            clear hb
            refine wpAnyH_ready (rs := [6]) (by kernel_rfl) (by simp) ?_
            refine AllReadyH.cons rfl (fun K hK => ?_) ?_
            · have y0 := R8.out.c0; have y1 := R8.out.c1; have y2 := R8.out.f0; have y3 := R8.out.f1
              go_simp
              have hbp := below_put BX.out G8.out (Value.slice fa fan fac) (Value.bool fap)
              have hwa' := HWA.out.put R8.out.ni (Value.slice fa fan fac) (Value.bool fap)
              have hwb' := HWB.out.put R8.out.ni (Value.slice fa fan fac) (Value.bool fap)
              have hc0 := R8.out.set0 (Value.slice fa fan fac) (Value.bool fap)
              have hc1 := R8.out.set1 (Value.slice fa fan fac) (Value.bool fap)
              have hr9 := R9.out.put (g' := g8) (by have := NE.out; omega) (Value.slice fa fan fac) (Value.bool fap)
              obtain ⟨X, hX'⟩ : ∃ Y, (X.setCell ⟨g8, 0, none⟩ (Value.slice fa fan fac)).setCell ⟨g8, 1, none⟩ (Value.bool fap) = Y := ⟨_, rfl⟩
              rw [hX'] at hbp hwa' hwb' hc0 hc1 hr9 ⊢
              replace BX := Lib.hid hbp
              replace HWA := Lib.hid hwa'
              replace HWB := Lib.hid hwb'
              have X0 := Lib.hid hc0
              have X1 := Lib.hid hc1
              replace R9 := Lib.hid hr9
              clear hX' hbp hwa' hwb' hc0 hc1 hr9 y0 y1 y2 y3
              refine hK.out _ _ ⟨cell_on BX.out a0, cell_on BX.out a1, cell_on BX.out a2, cell_on BX.out b0, cell_on BX.out b1, cell_on BX.out b2⟩ (fun hHeld => ?_)
              clear hK K
              try simp only [Act.put, List.setIfInBounds_toArray, List.set_cons_zero, List.set_cons_succ]
              refine wpAnyH_ready (rs := [7]) (by kernel_rfl) (by simp) ?_
              refine AllReadyH.cons rfl (fun K hK => ?_) ?_
              · have y0 := R9.out.c0; have y1 := R9.out.c1; have y2 := R9.out.f0; have y3 := R9.out.f1
                go_simp
                have hbp := below_put BX.out G9.out (Value.slice fb fbn fbc) (Value.bool fbp)
                have hwa' := HWA.out.put R9.out.ni (Value.slice fb fbn fbc) (Value.bool fbp)
                have hwb' := HWB.out.put R9.out.ni (Value.slice fb fbn fbc) (Value.bool fbp)
                have hc0 := R9.out.set0 (Value.slice fb fbn fbc) (Value.bool fbp)
                have hc1 := R9.out.set1 (Value.slice fb fbn fbc) (Value.bool fbp)
                have hx0 := cell_put X0.out (g' := g9) (by have := NE.out; omega) (Value.slice fb fbn fbc) (Value.bool fbp)
                have hx1 := cell_put X1.out (g' := g9) (by have := NE.out; omega) (Value.slice fb fbn fbc) (Value.bool fbp)
                obtain ⟨X, hX'⟩ : ∃ Y, (X.setCell ⟨g9, 0, none⟩ (Value.slice fb fbn fbc)).setCell ⟨g9, 1, none⟩ (Value.bool fbp) = Y := ⟨_, rfl⟩
                rw [hX'] at hbp hwa' hwb' hc0 hc1 hx0 hx1 ⊢
                replace BX := Lib.hid hbp
                replace HWA := Lib.hid hwa'
                replace HWB := Lib.hid hwb'
                replace X0 := Lib.hid hx0
                replace X1 := Lib.hid hx1
                have Y0 := Lib.hid hc0
                have Y1 := Lib.hid hc1
                clear hX' hbp hwa' hwb' hc0 hc1 hx0 hx1 y0 y1 y2 y3
                refine hK.out _ _ ⟨cell_on BX.out a0, cell_on BX.out a1, cell_on BX.out a2, cell_on BX.out b0, cell_on BX.out b1, cell_on BX.out b2⟩ (fun hHeld => ?_)
                clear hK K
                try simp only [Act.put, List.setIfInBounds_toArray, List.set_cons_zero, List.set_cons_succ]
                refine wpAnyH_done (by kernel_rfl) ?_ _
                refine NoPanic.normal ?_
                go_wp2_with fail
                go_meet
                exact ⟨g8, g9, _, _, _, _, _, _, _, _, rfl, rfl, Lib.hid ⟨X0.out, X1.out, Y0.out, Y1.out, HWA.out, HWB.out⟩, Lib.hid (O.out.below BX.out), Lib.hid ⟨by have := HLT.out; have := G8.out; omega, by have := HLT.out; have := G9.out; omega⟩⟩
              exact AllReadyH.nil
            exact AllReadyH.nil
          exact AllReadyH.nil
        refine AllReadyH.cons rfl (fun K hK => ?_) ?_
        · go_simp
          have hb := (Below.refl X.heap.size X).alloc (Nat.le_refl _) (Obj.cells #[Value.slice none 0 0, Value.bool false] 62)
          have R9 := Lib.hid (resW_new X 62)
          obtain ⟨g9, hg9⟩ : ∃ g, X.heap.size = g := ⟨_, rfl⟩
          have G9 := Lib.hid (show W.heap.size ≤ g9 by rw [← hg9]; exact BX.out.size)
          obtain ⟨X, hX'⟩ : ∃ Y, X.alloc (Obj.cells #[Value.slice none 0 0, Value.bool false] 62) = Y := ⟨_, rfl⟩
          rw [hX'] at hb R9 ⊢
          replace BX := Lib.hid (below_then BX.out hb)
          replace HWA := Lib.hid (HWA.out.below hb)
          replace HWB := Lib.hid (HWB.out.below hb)
          rw [hg9] at R9 ⊢
          clear hX' hg9
          refine hK.out _ _ ⟨cell_on BX.out a0, cell_on BX.out a1, cell_on BX.out a2, cell_on BX.out b0, cell_on BX.out b1, cell_on BX.out b2⟩ (fun hHeld => ?_)
          clear hK K
          try simp only [Act.put, List.setIfInBounds_toArray, List.set_cons_zero, List.set_cons_succ]
          clear hb
          refine wpAnyH_ready (rs := [4]) (by kernel_rfl) (by simp) ?_
          refine AllReadyH.cons rfl (fun K hK => ?_) ?_
          · go_simp
            have hb := (Below.refl X.heap.size X).alloc (Nat.le_refl _) (Obj.cells #[Value.slice none 0 0, Value.bool false] 62)
            have R8 := Lib.hid (resW_new X 62)
            obtain ⟨g8, hg8⟩ : ∃ g, X.heap.size = g := ⟨_, rfl⟩
            have G8 := Lib.hid (show W.heap.size ≤ g8 by rw [← hg8]; exact BX.out.size)
            have NE := Lib.hid (show g9 < g8 by rw [← hg8]; exact R9.out.lt)
            obtain ⟨X, hX'⟩ : ∃ Y, X.alloc (Obj.cells #[Value.slice none 0 0, Value.bool false] 62) = Y := ⟨_, rfl⟩
            rw [hX'] at hb R8 ⊢
            replace BX := Lib.hid (below_then BX.out hb)
            replace R9 := Lib.hid (R9.out.below hb)
            replace HWA := Lib.hid (HWA.out.below hb)
            replace HWB := Lib.hid (HWB.out.below hb)
            rw [hg8] at R8 ⊢
            clear hX' hg8
            refine hK.out _ _ ⟨cell_on BX.out a0, cell_on BX.out a1, cell_on BX.out a2, cell_on BX.out b0, cell_on BX.out b1, cell_on BX.out b2⟩ (fun hHeld => ?_)
            clear hK K
            try simp only [Act.put, List.setIfInBounds_toArray, List.set_cons_zero, List.set_cons_succ]
            clear hb
            refine wpAnyH_ready (rs := [6]) (by kernel_rfl) (by simp) ?_
            refine AllReadyH.cons rfl (fun K hK => ?_) ?_
            · have y0 := R8.out.c0; have y1 := R8.out.c1; have y2 := R8.out.f0; have y3 := R8.out.f1
              go_simp
              have hbp := below_put BX.out G8.out (Value.slice fa fan fac) (Value.bool fap)
              have hwa' := HWA.out.put R8.out.ni (Value.slice fa fan fac) (Value.bool fap)
              have hwb' := HWB.out.put R8.out.ni (Value.slice fa fan fac) (Value.bool fap)
              have hc0 := R8.out.set0 (Value.slice fa fan fac) (Value.bool fap)
              have hc1 := R8.out.set1 (Value.slice fa fan fac) (Value.bool fap)
              have hr9 := R9.out.put (g' := g8) (by have := NE.out; omega) (Value.slice fa fan fac) (Value.bool fap)
              obtain ⟨X, hX'⟩ : ∃ Y, (X.setCell ⟨g8, 0, none⟩ (Value.slice fa fan fac)).setCell ⟨g8, 1, none⟩ (Value.bool fap) = Y := ⟨_, rfl⟩
              rw [hX'] at hbp hwa' hwb' hc0 hc1 hr9 ⊢
              replace BX := Lib.hid hbp
              replace HWA := Lib.hid hwa'
              replace HWB := Lib.hid hwb'
              have X0 := Lib.hid hc0
              have X1 := Lib.hid hc1
              replace R9 := Lib.hid hr9
              clear hX' hbp hwa' hwb' hc0 hc1 hr9 y0 y1 y2 y3
              refine hK.out _ _ ⟨cell_on BX.out a0, cell_on BX.out a1, cell_on BX.out a2, cell_on BX.out b0, cell_on BX.out b1, cell_on BX.out b2⟩ (fun hHeld => ?_)
              clear hK K
              try simp only [Act.put, List.setIfInBounds_toArray, List.set_cons_zero, List.set_cons_succ]
              refine wpAnyH_ready (rs := [7]) (by kernel_rfl) (by simp) ?_
              refine AllReadyH.cons rfl (fun K hK => ?_) ?_
              · have y0 := R9.out.c0; have y1 := R9.out.c1; have y2 := R9.out.f0; have y3 := R9.out.f1
                go_simp
                have hbp := below_put BX.out G9.out (Value.slice fb fbn fbc) (Value.bool fbp)
                have hwa' := HWA.out.put R9.out.ni (Value.slice fb fbn fbc) (Value.bool fbp)
                have hwb' := HWB.out.put R9.out.ni (Value.slice fb fbn fbc) (Value.bool fbp)
                have hc0 := R9.out.set0 (Value.slice fb fbn fbc) (Value.bool fbp)
                have hc1 := R9.out.set1 (Value.slice fb fbn fbc) (Value.bool fbp)
                have hx0 := cell_put X0.out (g' := g9) (by have := NE.out; omega) (Value.slice fb fbn fbc) (Value.bool fbp)
                have hx1 := cell_put X1.out (g' := g9) (by have := NE.out; omega) (Value.slice fb fbn fbc) (Value.bool fbp)
                obtain ⟨X, hX'⟩ : ∃ Y, (X.setCell ⟨g9, 0, none⟩ (Value.slice fb fbn fbc)).setCell ⟨g9, 1, none⟩ (Value.bool fbp) = Y := ⟨_, rfl⟩
                rw [hX'] at hbp hwa' hwb' hc0 hc1 hx0 hx1 ⊢
                replace BX := Lib.hid hbp
                replace HWA := Lib.hid hwa'
                replace HWB := Lib.hid hwb'
                replace X0 := Lib.hid hx0
                replace X1 := Lib.hid hx1
                have Y0 := Lib.hid hc0
                have Y1 := Lib.hid hc1
                clear hX' hbp hwa' hwb' hc0 hc1 hx0 hx1 y0 y1 y2 y3
                refine hK.out _ _ ⟨cell_on BX.out a0, cell_on BX.out a1, cell_on BX.out a2, cell_on BX.out b0, cell_on BX.out b1, cell_on BX.out b2⟩ (fun hHeld => ?_)
                clear hK K
                try simp only [Act.put, List.setIfInBounds_toArray, List.set_cons_zero, List.set_cons_succ]
                refine wpAnyH_done (by kernel_rfl) ?_ _
                refine NoPanic.normal ?_
                go_wp2_with fail
                go_meet
                exact ⟨g8, g9, _, _, _, _, _, _, _, _, rfl, rfl, Lib.hid ⟨X0.out, X1.out, Y0.out, Y1.out, HWA.out, HWB.out⟩, Lib.hid (O.out.below BX.out), Lib.hid ⟨by have := HLT.out; have := G8.out; omega, by have := HLT.out; have := G9.out; omega⟩⟩
              exact AllReadyH.nil
            exact AllReadyH.nil
          exact AllReadyH.nil
        exact AllReadyH.nil
      refine AllReadyH.cons rfl (fun K hK => ?_) ?_
      · go_simp
        have hb := (Below.refl X.heap.size X).alloc (Nat.le_refl _) (Obj.cells #[Value.slice none 0 0, Value.bool false] 62)
        have R8 := Lib.hid (resW_new X 62)
        obtain ⟨g8, hg8⟩ : ∃ g, X.heap.size = g := ⟨_, rfl⟩
        have G8 := Lib.hid (show W.heap.size ≤ g8 by rw [← hg8]; exact BX.out.size)
        obtain ⟨X, hX'⟩ : ∃ Y, X.alloc (Obj.cells #[Value.slice none 0 0, Value.bool false] 62) = Y := ⟨_, rfl⟩
        rw [hX'] at hb R8 ⊢
        replace BX := Lib.hid (below_then BX.out hb)
        replace HWA := Lib.hid (HWA.out.below hb)
        rw [hg8] at R8 ⊢
        clear hX' hg8
        refine hK.out _ _ ⟨cell_on BX.out a0, cell_on BX.out a1, cell_on BX.out a2, cell_on BX.out b0, cell_on BX.out b1, cell_on BX.out b2⟩ (fun hHeld => ?_)
        clear hK K
        try simp only [Act.put, List.setIfInBounds_toArray, List.set_cons_zero, List.set_cons_succ]
        clear hb
        refine wpAnyH_ready (rs := [3, 5]) (by kernel_rfl) (by simp) ?_
        refine AllReadyH.cons rfl (fun K hK => ?_) ?_
        · go_simp
          refine (need_some HV.out HZ.out _ (HEW.out.below BX.out)).mono ?_
          rintro e X ⟨vb, rfl, ⟨fb, fbn, fbc, fbp, rfl⟩, hwb, hb⟩
          replace BX := Lib.hid (below_then BX.out hb)
          replace R8 := Lib.hid (R8.out.below hb)
          replace HWA := Lib.hid (HWA.out.below hb)
          have HWB := Lib.hid hwb
          dsimp only
          refine hK.out _ _ ⟨cell_on BX.out a0, cell_on BX.out a1, cell_on BX.out a2, cell_on BX.out b0, cell_on BX.out b1, cell_on BX.out b2⟩ (fun hHeld => ?_)
          clear hK K
          try simp only [Act.put, List.setIfInBounds_toArray, List.set_cons_zero, List.set_cons_succ]
          clear hb hwb
          refine wpAnyH_ready (rs := [5]) (by kernel_rfl) (by simp) ?_
          refine AllReadyH.cons rfl (fun K hK => ?_) ?_
          · go_simp
            have hb := (Below.refl X.heap.size X).alloc (Nat.le_refl _) (Obj.cells #[Value.slice none 0 0, Value.bool false] 62)
            have R9 := Lib.hid (resW_new X 62)
            obtain ⟨g9, hg9⟩ : ∃ g, X.heap.size = g := ⟨_, rfl⟩
            have G9 := Lib.hid (show W.heap.size ≤ g9 by rw [← hg9]; exact BX.out.size)
            have NE := Lib.hid (show g8 < g9 by rw [← hg9]; exact R8.out.lt)
            obtain ⟨X, hX'⟩ : ∃ Y, X.alloc (Obj.cells #[Value.slice none 0 0, Value.bool false] 62) = Y := ⟨_, rfl⟩
            rw [hX'] at hb R9 ⊢
            replace BX := Lib.hid (below_then BX.out hb)
            replace R8 := Lib.hid (R8.out.below hb)
            replace HWA := Lib.hid (HWA.out.below hb)
            replace HWB := Lib.hid (HWB.out.below hb)
            rw [hg9] at R9 ⊢
            clear hX' hg9
            refine hK.out _ _ ⟨cell_on BX.out a0, cell_on BX.out a1, cell_on BX.out a2, cell_on BX.out b0, cell_on BX.out b1, cell_on BX.out b2⟩ (fun hHeld => ?_)
            clear hK K
            try simp only [Act.put, List.setIfInBounds_toArray, List.set_cons_zero, List.set_cons_succ]
            clear hb
            refine wpAnyH_ready (rs := [6]) (by kernel_rfl) (by simp) ?_
            refine AllReadyH.cons rfl (fun K hK => ?_) ?_
            · have y0 := R8.out.c0; have y1 := R8.out.c1; have y2 := R8.out.f0; have y3 := R8.out.f1
              go_simp
              have hbp := below_put BX.out G8.out (Value.slice fa fan fac) (Value.bool fap)
              have hwa' := HWA.out.put R8.out.ni (Value.slice fa fan fac) (Value.bool fap)
              have hwb' := HWB.out.put R8.out.ni (Value.slice fa fan fac) (Value.bool fap)
              have hc0 := R8.out.set0 (Value.slice fa fan fac) (Value.bool fap)
              have hc1 := R8.out.set1 (Value.slice fa fan fac) (Value.bool fap)
              have hr9 := R9.out.put (g' := g8) (by have := NE.out; omega) (Value.slice fa fan fac) (Value.bool fap)
              obtain ⟨X, hX'⟩ : ∃ Y, (X.setCell ⟨g8, 0, none⟩ (Value.slice fa fan fac)).setCell ⟨g8, 1, none⟩ (Value.bool fap) = Y := ⟨_, rfl⟩
              rw [hX'] at hbp hwa' hwb' hc0 hc1 hr9 ⊢
              replace BX := Lib.hid hbp
              replace HWA := Lib.hid hwa'
              replace HWB := Lib.hid hwb'
              have X0 := Lib.hid hc0
              have X1 := Lib.hid hc1
              replace R9 := Lib.hid hr9
              clear hX' hbp hwa' hwb' hc0 hc1 hr9 y0 y1 y2 y3
              refine hK.out _ _ ⟨cell_on BX.out a0, cell_on BX.out a1, cell_on BX.out a2, cell_on BX.out b0, cell_on BX.out b1, cell_on BX.out b2⟩ (fun hHeld => ?_)
              clear hK K
              try simp only [Act.put, List.setIfInBounds_toArray, List.set_cons_zero, List.set_cons_succ]
              refine wpAnyH_ready (rs := [7]) (by kernel_rfl) (by simp) ?_
              refine AllReadyH.cons rfl (fun K hK => ?_) ?_
              · have y0 := R9.out.c0; have y1 := R9.out.c1; have y2 := R9.out.f0; have y3 := R9.out.f1
                go_simp
                have hbp := below_put BX.out G9.out (Value.slice fb fbn fbc) (Value.bool fbp)
                have hwa' := HWA.out.put R9.out.ni (Value.slice fb fbn fbc) (Value.bool fbp)
                have hwb' := HWB.out.put R9.out.ni (Value.slice fb fbn fbc) (Value.bool fbp)
                have hc0 := R9.out.set0 (Value.slice fb fbn fbc) (Value.bool fbp)
                have hc1 := R9.out.set1 (Value.slice fb fbn fbc) (Value.bool fbp)
                have hx0 := cell_put X0.out (g' := g9) (by have := NE.out; omega) (Value.slice fb fbn fbc) (Value.bool fbp)
                have hx1 := cell_put X1.out (g' := g9) (by have := NE.out; omega) (Value.slice fb fbn fbc) (Value.bool fbp)
                obtain ⟨X, hX'⟩ : ∃ Y, (X.setCell ⟨g9, 0, none⟩ (Value.slice fb fbn fbc)).setCell ⟨g9, 1, none⟩ (Value.bool fbp) = Y := ⟨_, rfl⟩
                rw [hX'] at hbp hwa' hwb' hc0 hc1 hx0 hx1 ⊢
                replace BX := Lib.hid hbp
                replace HWA := Lib.hid hwa'
                replace HWB := Lib.hid hwb'
                replace X0 := Lib.hid hx0
                replace X1 := Lib.hid hx1
                have Y0 := Lib.hid hc0
                have Y1 := Lib.hid hc1
                clear hX' hbp hwa' hwb' hc0 hc1 hx0 hx1 y0 y1 y2 y3
                refine hK.out _ _ ⟨cell_on BX.out a0, cell_on BX.out a1, cell_on BX.out a2, cell_on BX.out b0, cell_on BX.out b1, cell_on BX.out b2⟩ (fun hHeld => ?_)
                clear hK K
                try simp only [Act.put, List.setIfInBounds_toArray, List.set_cons_zero, List.set_cons_succ]
                refine wpAnyH_done (by kernel_rfl) ?_ _
                refine NoPanic.normal ?_
                go_wp2_with fail
                go_meet
                exact ⟨g8, g9, _, _, _, _, _, _, _, _, rfl, rfl, Lib.hid ⟨X0.out, X1.out, Y0.out, Y1.out, HWA.out, HWB.out⟩, Lib.hid (O.out.below BX.out), Lib.hid ⟨by have := HLT.out; have := G8.out; omega, by have := HLT.out; have := G9.out; omega⟩⟩
              exact AllReadyH.nil
            exact AllReadyH.nil
          exact AllReadyH.nil
        refine AllReadyH.cons rfl (fun K hK => ?_) ?_
        · go_simp
          have hb := (Below.refl X.heap.size X).alloc (Nat.le_refl _) (Obj.cells #[Value.slice none 0 0, Value.bool false] 62)
          have R9 := Lib.hid (resW_new X 62)
          obtain ⟨g9, hg9⟩ : ∃ g, X.heap.size = g := ⟨_, rfl⟩
          have G9 := Lib.hid (show W.heap.size ≤ g9 by rw [← hg9]; exact BX.out.size)
          have NE := Lib.hid (show g8 < g9 by rw [← hg9]; exact R8.out.lt)
          obtain ⟨X, hX'⟩ : ∃ Y, X.alloc (Obj.cells #[Value.slice none 0 0, Value.bool false] 62) = Y := ⟨_, rfl⟩
          rw [hX'] at hb R9 ⊢
          replace BX := Lib.hid (below_then BX.out hb)
          replace R8 := Lib.hid (R8.out.below hb)
          replace HWA := Lib.hid (HWA.out.below hb)
          rw [hg9] at R9 ⊢
          clear hX' hg9
          refine hK.out _ _ ⟨cell_on BX.out a0, cell_on BX.out a1, cell_on BX.out a2, cell_on BX.out b0, cell_on BX.out b1, cell_on BX.out b2⟩ (fun hHeld => ?_)
          clear hK K
          try simp only [Act.put, List.setIfInBounds_toArray, List.set_cons_zero, List.set_cons_succ]
          clear hb
          refine wpAnyH_ready (rs := [3]) (by kernel_rfl) (by simp) ?_
          refine AllReadyH.cons rfl (fun K hK => ?_) ?_
          · go_simp
            refine (need_some HV.out HZ.out _ (HEW.out.below BX.out)).mono ?_
            rintro e X ⟨vb, rfl, ⟨fb, fbn, fbc, fbp, rfl⟩, hwb, hb⟩
            replace BX := Lib.hid (below_then BX.out hb)
            replace R8 := Lib.hid (R8.out.below hb)
            replace R9 := Lib.hid (R9.out.below hb)
            replace HWA := Lib.hid (HWA.out.below hb)
            have HWB := Lib.hid hwb
            dsimp only
            refine hK.out _ _ ⟨cell_on BX.out a0, cell_on BX.out a1, cell_on BX.out a2, cell_on BX.out b0, cell_on BX.out b1, cell_on BX.out b2⟩ (fun hHeld => ?_)
            clear hK K
            try simp only [Act.put, List.setIfInBounds_toArray, List.set_cons_zero, List.set_cons_succ]
            clear hb hwb
            refine wpAnyH_ready (rs := [6]) (by kernel_rfl) (by simp) ?_
            refine AllReadyH.cons rfl (fun K hK => ?_) ?_
            · have y0 := R8.out.c0; have y1 := R8.out.c1; have y2 := R8.out.f0; have y3 := R8.out.f1
              go_simp
              have hbp := below_put BX.out G8.out (Value.slice fa fan fac) (Value.bool fap)
              have hwa' := HWA.out.put R8.out.ni (Value.slice fa fan fac) (Value.bool fap)
              have hwb' := HWB.out.put R8.out.ni (Value.slice fa fan fac) (Value.bool fap)
              have hc0 := R8.out.set0 (Value.slice fa fan fac) (Value.bool fap)
              have hc1 := R8.out.set1 (Value.slice fa fan fac) (Value.bool fap)
              have hr9 := R9.out.put (g' := g8) (by have := NE.out; omega) (Value.slice fa fan fac) (Value.bool fap)
              obtain ⟨X, hX'⟩ : ∃ Y, (X.setCell ⟨g8, 0, none⟩ (Value.slice fa fan fac)).setCell ⟨g8, 1, none⟩ (Value.bool fap) = Y := ⟨_, rfl⟩
              rw [hX'] at hbp hwa' hwb' hc0 hc1 hr9 ⊢
              replace BX := Lib.hid hbp
              replace HWA := Lib.hid hwa'
              replace HWB := Lib.hid hwb'
              have X0 := Lib.hid hc0
              have X1 := Lib.hid hc1
              replace R9 := Lib.hid hr9
              clear hX' hbp hwa' hwb' hc0 hc1 hr9 y0 y1 y2 y3
              refine hK.out _ _ ⟨cell_on BX.out a0, cell_on BX.out a1, cell_on BX.out a2, cell_on BX.out b0, cell_on BX.out b1, cell_on BX.out b2⟩ (fun hHeld => ?_)
              clear hK K
              try simp only [Act.put, List.setIfInBounds_toArray, List.set_cons_zero, List.set_cons_succ]
              refine wpAnyH_ready (rs := [7]) (by kernel_rfl) (by simp) ?_
              refine AllReadyH.cons rfl (fun K hK => ?_) ?_
              · have y0 := R9.out.c0; have y1 := R9.out.c1; have y2 := R9.out.f0; have y3 := R9.out.f1
                go_simp
                have hbp := below_put BX.out G9.out (Value.slice fb fbn fbc) (Value.bool fbp)
                have hwa' := HWA.out.put R9.out.ni (Value.slice fb fbn fbc) (Value.bool fbp)
                have hwb' := HWB.out.put R9.out.ni (Value.slice fb fbn fbc) (Value.bool fbp)
                have hc0 := R9.out.set0 (Value.slice fb fbn fbc) (Value.bool fbp)
                have hc1 := R9.out.set1 (Value.slice fb fbn fbc) (Value.bool fbp)
                have hx0 := cell_put X0.out (g' := g9) (by have := NE.out; omega) (Value.slice fb fbn fbc) (Value.bool fbp)
                have hx1 := cell_put X1.out (g' := g9) (by have := NE.out; omega) (Value.slice fb fbn fbc) (Value.bool fbp)
                obtain ⟨X, hX'⟩ : ∃ Y, (X.setCell ⟨g9, 0, none⟩ (Value.slice fb fbn fbc)).setCell ⟨g9, 1, none⟩ (Value.bool fbp) = Y := ⟨_, rfl⟩
                rw [hX'] at hbp hwa' hwb' hc0 hc1 hx0 hx1 ⊢
                replace BX := Lib.hid hbp
                replace HWA := Lib.hid hwa'
                replace HWB := Lib.hid hwb'
                replace X0 := Lib.hid hx0
                replace X1 := Lib.hid hx1
                have Y0 := Lib.hid hc0
                have Y1 := Lib.hid hc1
                clear hX' hbp hwa' hwb' hc0 hc1 hx0 hx1 y0 y1 y2 y3
                refine hK.out _ _ ⟨cell_on BX.out a0, cell_on BX.out a1, cell_on BX.out a2, cell_on BX.out b0, cell_on BX.out b1, cell_on BX.out b2⟩ (fun hHeld => ?_)
                clear hK K
                try simp only [Act.put, List.setIfInBounds_toArray, List.set_cons_zero, List.set_cons_succ]
                refine wpAnyH_done (by kernel_rfl) ?_ _
                refine NoPanic.normal ?_
                go_wp2_with fail
                go_meet
                exact ⟨g8, g9, _, _, _, _, _, _, _, _, rfl, rfl, Lib.hid ⟨X0.out, X1.out, Y0.out, Y1.out, HWA.out, HWB.out⟩, Lib.hid (O.out.below BX.out), Lib.hid ⟨by have := HLT.out; have := G8.out; omega, by have := HLT.out; have := G9.out; omega⟩⟩
              exact AllReadyH.nil
            exact AllReadyH.nil
          exact AllReadyH.nil
        exact AllReadyH.nil
      refine AllReadyH.cons rfl (fun K hK => ?_) ?_
      · go_simp
        have hb := (Below.refl X.heap.size X).alloc (Nat.le_refl _) (Obj.cells #[Value.slice none 0 0, Value.bool false] 62)
        have R9 := Lib.hid (resW_new X 62)
        obtain ⟨g9, hg9⟩ : ∃ g, X.heap.size = g := ⟨_, rfl⟩
        have G9 := Lib.hid (show W.heap.size ≤ g9 by rw [← hg9]; exact BX.out.size)
        obtain ⟨X, hX'⟩ : ∃ Y, X.alloc (Obj.cells #[Value.slice none 0 0, Value.bool false] 62) = Y := ⟨_, rfl⟩
        rw [hX'] at hb R9 ⊢
        replace BX := Lib.hid (below_then BX.out hb)
        replace HWA := Lib.hid (HWA.out.below hb)
        rw [hg9] at R9 ⊢
        clear hX' hg9
        refine hK.out _ _ ⟨cell_on BX.out a0, cell_on BX.out a1, cell_on BX.out a2, cell_on BX.out b0, cell_on BX.out b1, cell_on BX.out b2⟩ (fun hHeld => ?_)
        clear hK K
        try simp only [Act.put, List.setIfInBounds_toArray, List.set_cons_zero, List.set_cons_succ]
        clear hb
        refine wpAnyH_ready (rs := [3, 4]) (by kernel_rfl) (by simp) ?_
        refine AllReadyH.cons rfl (fun K hK => ?_) ?_
        · go_simp
          refine (need_some HV.out HZ.out _ (HEW.out.below BX.out)).mono ?_
          rintro e X ⟨vb, rfl, ⟨fb, fbn, fbc, fbp, rfl⟩, hwb, hb⟩
          replace BX := Lib.hid (below_then BX.out hb)
          replace R9 := Lib.hid (R9.out.below hb)
          replace HWA := Lib.hid (HWA.out.below hb)
          have HWB := Lib.hid hwb
          dsimp only
          refine hK.out _ _ ⟨cell_on BX.out a0, cell_on BX.out a1, cell_on BX.out a2, cell_on BX.out b0, cell_on BX.out b1, cell_on BX.out b2⟩ (fun hHeld => ?_)
          clear hK K
          try simp only [Act.put, List.setIfInBounds_toArray, List.set_cons_zero, List.set_cons_succ]
          clear hb hwb
          refine wpAnyH_ready (rs := [4]) (by kernel_rfl) (by simp) ?_
          refine AllReadyH.cons rfl (fun K hK => ?_) ?_
          · go_simp
            have hb := (Below.refl X.heap.size X).alloc (Nat.le_refl _) (Obj.cells #[Value.slice none 0 0, Value.bool false] 62)
            have R8 := Lib.hid (resW_new X 62)
            obtain ⟨g8, hg8⟩ : ∃ g, X.heap.size = g := ⟨_, rfl⟩
            have G8 := Lib.hid (show W.heap.size ≤ g8 by rw [← hg8]; exact BX.out.size)
            have NE := Lib.hid (show g9 < g8 by rw [← hg8]; exact R9.out.lt)
            obtain ⟨X, hX'⟩ : ∃ Y, X.alloc (Obj.cells #[Value.slice none 0 0, Value.bool false] 62) = Y := ⟨_, rfl⟩
            rw [hX'] at hb R8 ⊢
            replace BX := Lib.hid (below_then BX.out hb)
            replace R9 := Lib.hid (R9.out.below hb)
            replace HWA := Lib.hid (HWA.out.below hb)
            replace HWB := Lib.hid (HWB.out.below hb)
            rw [hg8] at R8 ⊢
            clear hX' hg8
            refine hK.out _ _ ⟨cell_on BX.out a0, cell_on BX.out a1, cell_on BX.out a2, cell_on BX.out b0, cell_on BX.out b1, cell_on BX.out b2⟩ (fun hHeld => ?_)
            clear hK K
            try simp only [Act.put, List.setIfInBounds_toArray, List.set_cons_zero, List.set_cons_succ]
            clear hb
            refine wpAnyH_ready (rs := [6]) (by kernel_rfl) (by simp) ?_
            refine AllReadyH.cons rfl (fun K hK => ?_) ?_
            · have y0 := R8.out.c0; have y1 := R8.out.c1; have y2 := R8.out.f0; have y3 := R8.out.f1
              go_simp
              have hbp := below_put BX.out G8.out (Value.slice fa fan fac) (Value.bool fap)
              have hwa' := HWA.out.put R8.out.ni (Value.slice fa fan fac) (Value.bool fap)
              have hwb' := HWB.out.put R8.out.ni (Value.slice fa fan fac) (Value.bool fap)
              have hc0 := R8.out.set0 (Value.slice fa fan fac) (Value.bool fap)
              have hc1 := R8.out.set1 (Value.slice fa fan fac) (Value.bool fap)
              have hr9 := R9.out.put (g' := g8) (by have := NE.out; omega) (Value.slice fa fan fac) (Value.bool fap)
              obtain ⟨X, hX'⟩ : ∃ Y, (X.setCell ⟨g8, 0, none⟩ (Value.slice fa fan fac)).setCell ⟨g8, 1, none⟩ (Value.bool fap) = Y := ⟨_, rfl⟩
              rw [hX'] at hbp hwa' hwb' hc0 hc1 hr9 ⊢
              replace BX := Lib.hid hbp
              replace HWA := Lib.hid hwa'
              replace HWB := Lib.hid hwb'
              have X0 := Lib.hid hc0
              have X1 := Lib.hid hc1
              replace R9 := Lib.hid hr9
              clear hX' hbp hwa' hwb' hc0 hc1 hr9 y0 y1 y2 y3
              refine hK.out _ _ ⟨cell_on BX.out a0, cell_on BX.out a1, cell_on BX.out a2, cell_on BX.out b0, cell_on BX.out b1, cell_on BX.out b2⟩ (fun hHeld => ?_)
              clear hK K
              try simp only [Act.put, List.setIfInBounds_toArray, List.set_cons_zero, List.set_cons_succ]
              refine wpAnyH_ready (rs := [7]) (by kernel_rfl) (by simp) ?_
              refine AllReadyH.cons rfl (fun K hK => ?_) ?_
              · have y0 := R9.out.c0; have y1 := R9.out.c1; have y2 := R9.out.f0; have y3 := R9.out.f1
                go_simp
                have hbp := below_put BX.out G9.out (Value.slice fb fbn fbc) (Value.bool fbp)
                have hwa' := HWA.out.put R9.out.ni (Value.slice fb fbn fbc) (Value.bool fbp)
                have hwb' := HWB.out.put R9.out.ni (Value.slice fb fbn fbc) (Value.bool fbp)
                have hc0 := R9.out.set0 (Value.slice fb fbn fbc) (Value.bool fbp)
                have hc1 := R9.out.set1 (Value.slice fb fbn fbc) (Value.bool fbp)
                have hx0 := cell_put X0.out (g' := g9) (by have := NE.out; omega) (Value.slice fb fbn fbc) (Value.bool fbp)
                have hx1 := cell_put X1.out (g' := g9) (by have := NE.out; omega) (Value.slice fb fbn fbc) (Value.bool fbp)
                obtain ⟨X, hX'⟩ : ∃ Y, (X.setCell ⟨g9, 0, none⟩ (Value.slice fb fbn fbc)).setCell ⟨g9, 1, none⟩ (Value.bool fbp) = Y := ⟨_, rfl⟩
                rw [hX'] at hbp hwa' hwb' hc0 hc1 hx0 hx1 ⊢
                replace BX := Lib.hid hbp
                replace HWA := Lib.hid hwa'
                replace HWB := Lib.hid hwb'
                replace X0 := Lib.hid hx0
                replace X1 := Lib.hid hx1
                have Y0 := Lib.hid hc0
                have Y1 := Lib.hid hc1
                clear hX' hbp hwa' hwb' hc0 hc1 hx0 hx1 y0 y1 y2 y3
                refine hK.out _ _ ⟨cell_on BX.out a0, cell_on BX.out a1, cell_on BX.out a2, cell_on BX.out b0, cell_on BX.out b1, cell_on BX.out b2⟩ (fun hHeld => ?_)
                clear hK K
                try simp only [Act.put, List.setIfInBounds_toArray, List.set_cons_zero, List.set_cons_succ]
                refine wpAnyH_done (by kernel_rfl) ?_ _
                refine NoPanic.normal ?_
                go_wp2_with fail
                go_meet
                exact ⟨g8, g9, _, _, _, _, _, _, _, _, rfl, rfl, Lib.hid ⟨X0.out, X1.out, Y0.out, Y1.out, HWA.out, HWB.out⟩, Lib.hid (O.out.below BX.out), Lib.hid ⟨by have := HLT.out; have := G8.out; omega, by have := HLT.out; have := G9.out; omega⟩⟩
              exact AllReadyH.nil
            exact AllReadyH.nil
          exact AllReadyH.nil
        refine AllReadyH.cons rfl (fun K hK => ?_) ?_
        · go_simp
          have hb := (Below.refl X.heap.size X).alloc (Nat.le_refl _) (Obj.cells #[Value.slice none 0 0, Value.bool false] 62)
          have R8 := Lib.hid (resW_new X 62)
          obtain ⟨g8, hg8⟩ : ∃ g, X.heap.size = g := ⟨_, rfl⟩
          have G8 := Lib.hid (show W.heap.size ≤ g8 by rw [← hg8]; exact BX.out.size)
          have NE := Lib.hid (show g9 < g8 by rw [← hg8]; exact R9.out.lt)
          obtain ⟨X, hX'⟩ : ∃ Y, X.alloc (Obj.cells #[Value.slice none 0 0, Value.bool false] 62) = Y := ⟨_, rfl⟩
          rw [hX'] at hb R8 ⊢
          replace BX := Lib.hid (below_then BX.out hb)
          replace R9 := Lib.hid (R9.out.below hb)
          replace HWA := Lib.hid (HWA.out.below hb)
          rw [hg8] at R8 ⊢
          clear hX' hg8
          refine hK.out _ _ ⟨cell_on BX.out a0, cell_on BX.out a1, cell_on BX.out a2, cell_on BX.out b0, cell_on BX.out b1, cell_on BX.out b2⟩ (fun hHeld => ?_)
          clear hK K
          try simp only [Act.put, List.setIfInBounds_toArray, List.set_cons_zero, List.set_cons_succ]
          clear hb
          refine wpAnyH_ready (rs := [3]) (by kernel_rfl) (by simp) ?_
          refine AllReadyH.cons rfl (fun K hK => ?_) ?_
          · go_simp
            refine (need_some HV.out HZ.out _ (HEW.out.below BX.out)).mono ?_
            rintro e X ⟨vb, rfl, ⟨fb, fbn, fbc, fbp, rfl⟩, hwb, hb⟩
            replace BX := Lib.hid (below_then BX.out hb)
            replace R8 := Lib.hid (R8.out.below hb)
            replace R9 := Lib.hid (R9.out.below hb)
            replace HWA := Lib.hid (HWA.out.below hb)
            have HWB := Lib.hid hwb
            dsimp only
            refine hK.out _ _ ⟨cell_on BX.out a0, cell_on BX.out a1, cell_on BX.out a2, cell_on BX.out b0, cell_on BX.out b1, cell_on BX.out b2⟩ (fun hHeld => ?_)
            clear hK K
            try simp only [Act.put, List.setIfInBounds_toArray, List.set_cons_zero, List.set_cons_succ]
            clear hb hwb
            refine wpAnyH_ready (rs := [6]) (by kernel_rfl) (by simp) ?_
            refine AllReadyH.cons rfl (fun K hK => ?_) ?_
            · have y0 := R8.out.c0; have y1 := R8.out.c1; have y2 := R8.out.f0; have y3 := R8.out.f1
              go_simp
              have hbp := below_put BX.out G8.out (Value.slice fa fan fac) (Value.bool fap)
              have hwa' := HWA.out.put R8.out.ni (Value.slice fa fan fac) (Value.bool fap)
              have hwb' := HWB.out.put R8.out.ni (Value.slice fa fan fac) (Value.bool fap)
              have hc0 := R8.out.set0 (Value.slice fa fan fac) (Value.bool fap)
              have hc1 := R8.out.set1 (Value.slice fa fan fac) (Value.bool fap)
              have hr9 := R9.out.put (g' := g8) (by have := NE.out; omega) (Value.slice fa fan fac) (Value.bool fap)
              obtain ⟨X, hX'⟩ : ∃ Y, (X.setCell ⟨g8, 0, none⟩ (Value.slice fa fan fac)).setCell ⟨g8, 1, none⟩ (Value.bool fap) = Y := ⟨_, rfl⟩
              rw [hX'] at hbp hwa' hwb' hc0 hc1 hr9 ⊢
              replace BX := Lib.hid hbp
              replace HWA := Lib.hid hwa'
              replace HWB := Lib.hid hwb'
              have X0 := Lib.hid hc0
              have X1 := Lib.hid hc1
              replace R9 := Lib.hid hr9
              clear hX' hbp hwa' hwb' hc0 hc1 hr9 y0 y1 y2 y3
              refine hK.out _ _ ⟨cell_on BX.out a0, cell_on BX.out a1, cell_on BX.out a2, cell_on BX.out b0, cell_on BX.out b1, cell_on BX.out b2⟩ (fun hHeld => ?_)
              clear hK K
              try simp only [Act.put, List.setIfInBounds_toArray, List.set_cons_zero, List.set_cons_succ]
              refine wpAnyH_ready (rs := [7]) (by kernel_rfl) (by simp) ?_
              refine AllReadyH.cons rfl (fun K hK => ?_) ?_
              · have y0 := R9.out.c0; have y1 := R9.out.c1; have y2 := R9.out.f0; have y3 := R9.out.f1
                go_simp
                have hbp := below_put BX.out G9.out (Value.slice fb fbn fbc) (Value.bool fbp)
                have hwa' := HWA.out.put R9.out.ni (Value.slice fb fbn fbc) (Value.bool fbp)
                have hwb' := HWB.out.put R9.out.ni (Value.slice fb fbn fbc) (Value.bool fbp)
                have hc0 := R9.out.set0 (Value.slice fb fbn fbc) (Value.bool fbp)
                have hc1 := R9.out.set1 (Value.slice fb fbn fbc) (Value.bool fbp)
                have hx0 := cell_put X0.out (g' := g9) (by have := NE.out; omega) (Value.slice fb fbn fbc) (Value.bool fbp)
                have hx1 := cell_put X1.out (g' := g9) (by have := NE.out; omega) (Value.slice fb fbn fbc) (Value.bool fbp)
                obtain ⟨X, hX'⟩ : ∃ Y, (X.setCell ⟨g9, 0, none⟩ (Value.slice fb fbn fbc)).setCell ⟨g9, 1, none⟩ (Value.bool fbp) = Y := ⟨_, rfl⟩
                rw [hX'] at hbp hwa' hwb' hc0 hc1 hx0 hx1 ⊢
                replace BX := Lib.hid hbp
                replace HWA := Lib.hid hwa'
                replace HWB := Lib.hid hwb'
                replace X0 := Lib.hid hx0
                replace X1 := Lib.hid hx1
                have Y0 := Lib.hid hc0
                have Y1 := Lib.hid hc1
                clear hX' hbp hwa' hwb' hc0 hc1 hx0 hx1 y0 y1 y2 y3
                refine hK.out _ _ ⟨cell_on BX.out a0, cell_on BX.out a1, cell_on BX.out a2, cell_on BX.out b0, cell_on BX.out b1, cell_on BX.out b2⟩ (fun hHeld => ?_)
                clear hK K
                try simp only [Act.put, List.setIfInBounds_toArray, List.set_cons_zero, List.set_cons_succ]
                refine wpAnyH_done (by kernel_rfl) ?_ _
                refine NoPanic.normal ?_
                go_wp2_with fail
                go_meet
                exact ⟨g8, g9, _, _, _, _, _, _, _, _, rfl, rfl, Lib.hid ⟨X0.out, X1.out, Y0.out, Y1.out, HWA.out, HWB.out⟩, Lib.hid (O.out.below BX.out), Lib.hid ⟨by have := HLT.out; have := G8.out; omega, by have := HLT.out; have := G9.out; omega⟩⟩
              exact AllReadyH.nil
            exact AllReadyH.nil
          exact AllReadyH.nil
        exact AllReadyH.nil
      exact AllReadyH.nil
    refine AllReadyH.cons rfl (fun K hK => ?_) ?_
    · go_simp
      have hb := (Below.refl X.heap.size X).alloc (Nat.le_refl _) (Obj.cells #[Value.slice none 0 0, Value.bool false] 62)
      have R8 := Lib.hid (resW_new X 62)
      obtain ⟨g8, hg8⟩ : ∃ g, X.heap.size = g := ⟨_, rfl⟩
      have G8 := Lib.hid (show W.heap.size ≤ g8 by rw [← hg8]; exact BX.out.size)
      obtain ⟨X, hX'⟩ : ∃ Y, X.alloc (Obj.cells #[Value.slice none 0 0, Value.bool false] 62) = Y := ⟨_, rfl⟩
      rw [hX'] at hb R8 ⊢
      replace BX := Lib.hid (below_then BX.out hb)
      rw [hg8] at R8 ⊢
      clear hX' hg8
      refine hK.out _ _ ⟨cell_on BX.out a0, cell_on BX.out a1, cell_on BX.out a2, cell_on BX.out b0, cell_on BX.out b1, cell_on BX.out b2⟩ (fun hHeld => ?_)
      clear hK K
      try simp only [Act.put, List.setIfInBounds_toArray, List.set_cons_zero, List.set_cons_succ]
      clear hb
      refine wpAnyH_ready (rs := [1, 5]) (by kernel_rfl) (by simp) ?_
      refine AllReadyH.cons rfl (fun K hK => ?_) ?_
      · go_simp
        refine (need_some HVa.out HZa.out _ (HEW.out.below BX.out)).mono ?_
        rintro e X ⟨va, rfl, ⟨fa, fan, fac, fap, rfl⟩, hwa, hb⟩
        replace BX := Lib.hid (below_then BX.out hb)
        replace R8 := Lib.hid (R8.out.below hb)
        have HWA := Lib.hid hwa
        dsimp only
        refine hK.out _ _ ⟨cell_on BX.out a0, cell_on BX.out a1, cell_on BX.out a2, cell_on BX.out b0, cell_on BX.out b1, cell_on BX.out b2⟩ (fun hHeld => ?_)
        clear hK K
        try simp only [Act.put, List.setIfInBounds_toArray, List.set_cons_zero, List.set_cons_succ]
        clear hb hwa
        refine wpAnyH_ready (rs := [3, 5]) (by kernel_rfl) (by simp) ?_
        refine AllReadyH.cons rfl (fun K hK => ?_) ?_
        · go_simp
          refine (need_some HV.out HZ.out _ (HEW.out.below BX.out)).mono ?_
          rintro e X ⟨vb, rfl, ⟨fb, fbn, fbc, fbp, rfl⟩, hwb, hb⟩
          replace BX := Lib.hid (below_then BX.out hb)
          replace R8 := Lib.hid (R8.out.below hb)
          replace HWA := Lib.hid (HWA.out.below hb)
          have HWB := Lib.hid hwb
          dsimp only
          refine hK.out _ _ ⟨cell_on BX.out a0, cell_on BX.out a1, cell_on BX.out a2, cell_on BX.out b0, cell_on BX.out b1, cell_on BX.out b2⟩ (fun hHeld => ?_)
          clear hK K
          try simp only [Act.put, List.setIfInBounds_toArray, List.set_cons_zero, List.set_cons_succ]
          clear hb hwb
          refine wpAnyH_ready (rs := [5]) (by kernel_rfl) (by simp) ?_
          refine AllReadyH.cons rfl (fun K hK => ?_) ?_
          · go_simp
            have hb := (Below.refl X.heap.size X).alloc (Nat.le_refl _) (Obj.cells #[Value.slice none 0 0, Value.bool false] 62)
            have R9 := Lib.hid (resW_new X 62)
            obtain ⟨g9, hg9⟩ : ∃ g, X.heap.size = g := ⟨_, rfl⟩
            have G9 := Lib.hid (show W.heap.size ≤ g9 by rw [← hg9]; exact BX.out.size)
            have NE := Lib.hid (show g8 < g9 by rw [← hg9]; exact R8.out.lt)
            obtain ⟨X, hX'⟩ : ∃ Y, X.alloc (Obj.cells #[Value.slice none 0 0, Value.bool false] 62) = Y := ⟨_, rfl⟩
            rw [hX'] at hb R9 ⊢
            replace BX := Lib.hid (below_then BX.out hb)
            replace R8 := Lib.hid (R8.out.below hb)
            replace HWA := Lib.hid (HWA.out.below hb)
            replace HWB := Lib.hid (HWB.out.below hb)
            rw [hg9] at R9 ⊢
            clear hX' hg9
            refine hK.out _ _ ⟨cell_on BX.out a0, cell_on BX.out a1, cell_on BX.out a2, cell_on BX.out b0, cell_on BX.out b1, cell_on BX.out b2⟩ (fun hHeld => ?_)
            clear hK K
            try simp only [Act.put, List.setIfInBounds_toArray, List.set_cons_zero, List.set_cons_succ]
            clear hb
            refine wpAnyH_ready (rs := [6]) (by kernel_rfl) (by simp) ?_
            refine AllReadyH.cons rfl (fun K hK => ?_) ?_
            · have y0 := R8.out.c0; have y1 := R8.out.c1; have y2 := R8.out.f0; have y3 := R8.out.f1
              go_simp
              have hbp := below_put BX.out G8.out (Value.slice fa fan fac) (Value.bool fap)
              have hwa' := HWA.out.put R8.out.ni (Value.slice fa fan fac) (Value.bool fap)
              have hwb' := HWB.out.put R8.out.ni (Value.slice fa fan fac) (Value.bool fap)
              have hc0 := R8.out.set0 (Value.slice fa fan fac) (Value.bool fap)
              have hc1 := R8.out.set1 (Value.slice fa fan fac) (Value.bool fap)
              have hr9 := R9.out.put (g' := g8) (by have := NE.out; omega) (Value.slice fa fan fac) (Value.bool fap)
              obtain ⟨X, hX'⟩ : ∃ Y, (X.setCell ⟨g8, 0, none⟩ (Value.slice fa fan fac)).setCell ⟨g8, 1, none⟩ (Value.bool fap) = Y := ⟨_, rfl⟩
              rw [hX'] at hbp hwa' hwb' hc0 hc1 hr9 ⊢
              replace BX := Lib.hid hbp
              replace HWA := Lib.hid hwa'
              replace HWB := Lib.hid hwb'
              have X0 := Lib.hid hc0
              have X1 := Lib.hid hc1
              replace R9 := Lib.hid hr9
              clear hX' hbp hwa' hwb' hc0 hc1 hr9 y0 y1 y2 y3
              refine hK.out _ _ ⟨cell_on BX.out a0, cell_on BX.out a1, cell_on BX.out a2, cell_on BX.out b0, cell_on BX.out b1, cell_on BX.out b2⟩ (fun hHeld => ?_)
              clear hK K
              try simp only [Act.put, List.setIfInBounds_toArray, List.set_cons_zero, List.set_cons_succ]
              refine wpAnyH_ready (rs := [7]) (by kernel_rfl) (by simp) ?_
              refine AllReadyH.cons rfl (fun K hK => ?_) ?_
              · have y0 := R9.out.c0; have y1 := R9.out.c1; have y2 := R9.out.f0; have y3 := R9.out.f1
                go_simp
                have hbp := below_put BX.out G9.out (Value.slice fb fbn fbc) (Value.bool fbp)
                have hwa' := HWA.out.put R9.out.ni (Value.slice fb fbn fbc) (Value.bool fbp)
                have hwb' := HWB.out.put R9.out.ni (Value.slice fb fbn fbc) (Value.bool fbp)
                have hc0 := R9.out.set0 (Value.slice fb fbn fbc) (Value.bool fbp)
                have hc1 := R9.out.set1 (Value.slice fb fbn fbc) (Value.bool fbp)
                have hx0 := cell_put X0.out (g' := g9) (by have := NE.out; omega) (Value.slice fb fbn fbc) (Value.bool fbp)
                have hx1 := cell_put X1.out (g' := g9) (by have := NE.out; omega) (Value.slice fb fbn fbc) (Value.bool fbp)
                obtain ⟨X, hX'⟩ : ∃ Y, (X.setCell ⟨g9, 0, none⟩ (Value.slice fb fbn fbc)).setCell ⟨g9, 1, none⟩ (Value.bool fbp) = Y := ⟨_, rfl⟩
                rw [hX'] at hbp hwa' hwb' hc0 hc1 hx0 hx1 ⊢
                replace BX := Lib.hid hbp
                replace HWA := Lib.hid hwa'
                replace HWB := Lib.hid hwb'
                replace X0 := Lib.hid hx0
                replace X1 := Lib.hid hx1
                have Y0 := Lib.hid hc0
                have Y1 := Lib.hid hc1
                clear hX' hbp hwa' hwb' hc0 hc1 hx0 hx1 y0 y1 y2 y3
                refine hK.out _ _ ⟨cell_on BX.out a0, cell_on BX.out a1, cell_on BX.out a2, cell_on BX.out b0, cell_on BX.out b1, cell_on BX.out b2⟩ (fun hHeld => ?_)
                clear hK K
                try simp only [Act.put, List.setIfInBounds_toArray, List.set_cons_zero, List.set_cons_succ]
                refine wpAnyH_done (by kernel_rfl) ?_ _
                refine NoPanic.normal ?_
                go_wp2_with fail
                go_meet
                exact ⟨g8, g9, _, _, _, _, _, _, _, _, rfl, rfl, Lib.hid ⟨X0.out, X1.out, Y0.out, Y1.out, HWA.out, HWB.out⟩, Lib.hid (O.out.below BX.out), Lib.hid ⟨by have := HLT.out; have := G8.out; omega, by have := HLT.out; have := G9.out; omega⟩⟩
              exact AllReadyH.nil
            exact AllReadyH.nil
          exact AllReadyH.nil
        refine AllReadyH.cons rfl (fun K hK => ?_) ?_
        · go_simp
          have hb := (Below.refl X.heap.size X).alloc (Nat.le_refl _) (Obj.cells #[Value.slice none 0 0, Value.bool false] 62)
          have R9 := Lib.hid (resW_new X 62)
          obtain ⟨g9, hg9⟩ : ∃ g, X.heap.size = g := ⟨_, rfl⟩
          have G9 := Lib.hid (show W.heap.size ≤ g9 by rw [← hg9]; exact BX.out.size)
          have NE := Lib.hid (show g8 < g9 by rw [← hg9]; exact R8.out.lt)
          obtain ⟨X, hX'⟩ : ∃ Y, X.alloc (Obj.cells #[Value.slice none 0 0, Value.bool false] 62) = Y := ⟨_, rfl⟩
          rw [hX'] at hb R9 ⊢
          replace BX := Lib.hid (below_then BX.out hb)
          replace R8 := Lib.hid (R8.out.below hb)
          replace HWA := Lib.hid (HWA.out.below hb)
          rw [hg9] at R9 ⊢
          clear hX' hg9
          refine hK.out _ _ ⟨cell_on BX.out a0, cell_on BX.out a1, cell_on BX.out a2, cell_on BX.out b0, cell_on BX.out b1, cell_on BX.out b2⟩ (fun hHeld => ?_)
          clear hK K
          try simp only [Act.put, List.setIfInBounds_toArray, List.set_cons_zero, List.set_cons_succ]
          clear hb
          refine wpAnyH_ready (rs := [3]) (by kernel_rfl) (by simp) ?_
          refine AllReadyH.cons rfl (fun K hK => ?_) ?_
          · go_simp
            refine (need_some HV.out HZ.out _ (HEW.out.below BX.out)).mono ?_
            rintro e X ⟨vb, rfl, ⟨fb, fbn, fbc, fbp, rfl⟩, hwb, hb⟩
            replace BX := Lib.hid (below_then BX.out hb)
            replace R8 := Lib.hid (R8.out.below hb)
            replace R9 := Lib.hid (R9.out.below hb)
            replace HWA := Lib.hid (HWA.out.below hb)
            have HWB := Lib.hid hwb
            dsimp only
            refine hK.out _ _ ⟨cell_on BX.out a0, cell_on BX.out a1, cell_on BX.out a2, cell_on BX.out b0, cell_on BX.out b1, cell_on BX.out b2⟩ (fun hHeld => ?_)
            clear hK K
            try simp only [Act.put, List.setIfInBounds_toArray, List.set_cons_zero, List.set_cons_succ]
            clear hb hwb
            refine wpAnyH_ready (rs := [6]) (by kernel_rfl) (by simp) ?_
            refine AllReadyH.cons rfl (fun K hK => ?_) ?_
            · have y0 := R8.out.c0; have y1 := R8.out.c1; have y2 := R8.out.f0; have y3 := R8.out.f1
              go_simp
              have hbp := below_put BX.out G8.out (Value.slice fa fan fac) (Value.bool fap)
              have hwa' := HWA.out.put R8.out.ni (Value.slice fa fan fac) (Value.bool fap)
              have hwb' := HWB.out.put R8.out.ni (Value.slice fa fan fac) (Value.bool fap)
              have hc0 := R8.out.set0 (Value.slice fa fan fac) (Value.bool fap)
              have hc1 := R8.out.set1 (Value.slice fa fan fac) (Value.bool fap)
              have hr9 := R9.out.put (g' := g8) (by have := NE.out; omega) (Value.slice fa fan fac) (Value.bool fap)
              obtain ⟨X, hX'⟩ : ∃ Y, (X.setCell ⟨g8, 0, none⟩ (Value.slice fa fan fac)).setCell ⟨g8, 1, none⟩ (Value.bool fap) = Y := ⟨_, rfl⟩
              rw [hX'] at hbp hwa' hwb' hc0 hc1 hr9 ⊢
              replace BX := Lib.hid hbp
              replace HWA := Lib.hid hwa'
              replace HWB := Lib.hid hwb'
              have X0 := Lib.hid hc0
              have X1 := Lib.hid hc1
              replace R9 := Lib.hid hr9
              clear hX' hbp hwa' hwb' hc0 hc1 hr9 y0 y1 y2 y3
              refine hK.out _ _ ⟨cell_on BX.out a0, cell_on BX.out a1, cell_on BX.out a2, cell_on BX.out b0, cell_on BX.out b1, cell_on BX.out b2⟩ (fun hHeld => ?_)
              clear hK K
              try simp only [Act.put, List.setIfInBounds_toArray, List.set_cons_zero, List.set_cons_succ]
              refine wpAnyH_ready (rs := [7]) (by kernel_rfl) (by simp) ?_
              refine AllReadyH.cons rfl (fun K hK => ?_) ?_
              · have y0 := R9.out.c0; have y1 := R9.out.c1; have y2 := R9.out.f0; have y3 := R9.out.f1
                go_simp
                have hbp := below_put BX.out G9.out (Value.slice fb fbn fbc) (Value.bool fbp)
                have hwa' := HWA.out.put R9.out.ni (Value.slice fb fbn fbc) (Value.bool fbp)
                have hwb' := HWB.out.put R9.out.ni (Value.slice fb fbn fbc) (Value.bool fbp)
                have hc0 := R9.out.set0 (Value.slice fb fbn fbc) (Value.bool fbp)
                have hc1 := R9.out.set1 (Value.slice fb fbn fbc) (Value.bool fbp)
                have hx0 := cell_put X0.out (g' := g9) (by have := NE.out; omega) (Value.slice fb fbn fbc) (Value.bool fbp)
                have hx1 := cell_put X1.out (g' := g9) (by have := NE.out; omega) (Value.slice fb fbn fbc) (Value.bool fbp)
                obtain ⟨X, hX'⟩ : ∃ Y, (X.setCell ⟨g9, 0, none⟩ (Value.slice fb fbn fbc)).setCell ⟨g9, 1, none⟩ (Value.bool fbp) = Y := ⟨_, rfl⟩
                rw [hX'] at hbp hwa' hwb' hc0 hc1 hx0 hx1 ⊢
                replace BX := Lib.hid hbp
                replace HWA := Lib.hid hwa'
                replace HWB := Lib.hid hwb'
                replace X0 := Lib.hid hx0
                replace X1 := Lib.hid hx1
                have Y0 := Lib.hid hc0
                have Y1 := Lib.hid hc1
                clear hX' hbp hwa' hwb' hc0 hc1 hx0 hx1 y0 y1 y2 y3
                refine hK.out _ _ ⟨cell_on BX.out a0, cell_on BX.out a1, cell_on BX.out a2, cell_on BX.out b0, cell_on BX.out b1, cell_on BX.out b2⟩ (fun hHeld => ?_)
                clear hK K
                try simp only [Act.put, List.setIfInBounds_toArray, List.set_cons_zero, List.set_cons_succ]
                refine wpAnyH_done (by kernel_rfl) ?_ _
                refine NoPanic.normal ?_
                go_wp2_with fail
                go_meet
                exact ⟨g8, g9, _, _, _, _, _, _, _, _, rfl, rfl, Lib.hid ⟨X0.out, X1.out, Y0.out, Y1.out, HWA.out, HWB.out⟩, Lib.hid (O.out.below BX.out), Lib.hid ⟨by have := HLT.out; have := G8.out; omega, by have := HLT.out; have := G9.out; omega⟩⟩
              exact AllReadyH.nil
            exact AllReadyH.nil
          exact AllReadyH.nil
        exact AllReadyH.nil
      refine AllReadyH.cons rfl (fun K hK => ?_) ?_
      · go_simp
        have hb := (Below.refl X.heap.size X).alloc (Nat.le_refl _) (Obj.cells #[Value.slice none 0 0, Value.bool false] 62)
        have R9 := Lib.hid (resW_new X 62)
        obtain ⟨g9, hg9⟩ : ∃ g, X.heap.size = g := ⟨_, rfl⟩
        have G9 := Lib.hid (show W.heap.size ≤ g9 by rw [← hg9]; exact BX.out.size)
        have NE := Lib.hid (show g8 < g9 by rw [← hg9]; exact R8.out.lt)
        obtain ⟨X, hX'⟩ : ∃ Y, X.alloc (Obj.cells #[Value.slice none 0 0, Value.bool false] 62) = Y := ⟨_, rfl⟩
        rw [hX'] at hb R9 ⊢
        replace BX := Lib.hid (below_then BX.out hb)
        replace R8 := Lib.hid (R8.out.below hb)
        rw [hg9] at R9 ⊢
        clear hX' hg9
        refine hK.out _ _ ⟨cell_on BX.out a0, cell_on BX.out a1, cell_on BX.out a2, cell_on BX.out b0, cell_on BX.out b1, cell_on BX.out b2⟩ (fun hHeld => ?_)
        clear hK K
        try simp only [Act.put, List.setIfInBounds_toArray, List.set_cons_zero, List.set_cons_succ]
        clear hb
        refine wpAnyH_ready (rs := [1]) (by kernel_rfl) (by simp) ?_
        refine AllReadyH.cons rfl (fun K hK => ?_) ?_
        · go_simp
          refine (need_some HVa.out HZa.out _ (HEW.out.below BX.out)).mono ?_
          rintro e X ⟨va, rfl, ⟨fa, fan, fac, fap, rfl⟩, hwa, hb⟩
          replace BX := Lib.hid (below_then BX.out hb)
          replace R8 := Lib.hid (R8.out.below hb)
          replace R9 := Lib.hid (R9.out.below hb)
          have HWA := Lib.hid hwa
          dsimp only
          refine hK.out _ _ ⟨cell_on BX.out a0, cell_on BX.out a1, cell_on BX.out a2, cell_on BX.out b0, cell_on BX.out b1, cell_on BX.out b2⟩ (fun hHeld => ?_)
          clear hK K
          try simp only [Act.put, List.setIfInBounds_toArray, List.set_cons_zero, List.set_cons_succ]
          clear hb hwa
          refine wpAnyH_ready (rs := [3]) (by kernel_rfl) (by simp) ?_
          refine AllReadyH.cons rfl (fun K hK => ?_) ?_
          · go_simp
            refine (need_some HV.out HZ.out _ (HEW.out.below BX.out)).mono ?_
            rintro e X ⟨vb, rfl, ⟨fb, fbn, fbc, fbp, rfl⟩, hwb, hb⟩
            replace BX := Lib.hid (below_then BX.out hb)
            replace R8 := Lib.hid (R8.out.below hb)
            replace R9 := Lib.hid (R9.out.below hb)
            replace HWA := Lib.hid (HWA.out.below hb)
            have HWB := Lib.hid hwb
            dsimp only
            refine hK.out _ _ ⟨cell_on BX.out a0, cell_on BX.out a1, cell_on BX.out a2, cell_on BX.out b0, cell_on BX.out b1, cell_on BX.out b2⟩ (fun hHeld => ?_)
            clear hK K
            try simp only [Act.put, List.setIfInBounds_toArray, List.set_cons_zero, List.set_cons_succ]
            clear hb hwb
            refine wpAnyH_ready (rs := [6]) (by kernel_rfl) (by simp) ?_
            refine AllReadyH.cons rfl (fun K hK => ?_) ?_
            · have y0 := R8.out.c0; have y1 := R8.out.c1; have y2 := R8.out.f0; have y3 := R8.out.f1
              go_simp
              have hbp := below_put BX.out G8.out (Value.slice fa fan fac) (Value.bool fap)
              have hwa' := HWA.out.put R8.out.ni (Value.slice fa fan fac) (Value.bool fap)
              have hwb' := HWB.out.put R8.out.ni (Value.slice fa fan fac) (Value.bool fap)
              have hc0 := R8.out.set0 (Value.slice fa fan fac) (Value.bool fap)
              have hc1 := R8.out.set1 (Value.slice fa fan fac) (Value.bool fap)
              have hr9 := R9.out.put (g' := g8) (by have := NE.out; omega) (Value.slice fa fan fac) (Value.bool fap)
              obtain ⟨X, hX'⟩ : ∃ Y, (X.setCell ⟨g8, 0, none⟩ (Value.slice fa fan fac)).setCell ⟨g8, 1, none⟩ (Value.bool fap) = Y := ⟨_, rfl⟩
              rw [hX'] at hbp hwa' hwb' hc0 hc1 hr9 ⊢
              replace BX := Lib.hid hbp
              replace HWA := Lib.hid hwa'
              replace HWB := Lib.hid hwb'
              have X0 := Lib.hid hc0
              have X1 := Lib.hid hc1
              replace R9 := Lib.hid hr9
              clear hX' hbp hwa' hwb' hc0 hc1 hr9 y0 y1 y2 y3
              refine hK.out _ _ ⟨cell_on BX.out a0, cell_on BX.out a1, cell_on BX.out a2, cell_on BX.out b0, cell_on BX.out b1, cell_on BX.out b2⟩ (fun hHeld => ?_)
              clear hK K
              try simp only [Act.put, List.setIfInBounds_toArray, List.set_cons_zero, List.set_cons_succ]
              refine wpAnyH_ready (rs := [7]) (by kernel_rfl) (by simp) ?_
              refine AllReadyH.cons rfl (fun K hK => ?_) ?_
              · have y0 := R9.out.c0; have y1 := R9.out.c1; have y2 := R9.out.f0; have y3 := R9.out.f1
                go_simp
                have hbp := below_put BX.out G9.out (Value.slice fb fbn fbc) (Value.bool fbp)
                have hwa' := HWA.out.put R9.out.ni (Value.slice fb fbn fbc) (Value.bool fbp)
                have hwb' := HWB.out.put R9.out.ni (Value.slice fb fbn fbc) (Value.bool fbp)
                have hc0 := R9.out.set0 (Value.slice fb fbn fbc) (Value.bool fbp)
                have hc1 := R9.out.set1 (Value.slice fb fbn fbc) (Value.bool fbp)
                have hx0 := cell_put X0.out (g' := g9) (by have := NE.out; omega) (Value.slice fb fbn fbc) (Value.bool fbp)
                have hx1 := cell_put X1.out (g' := g9) (by have := NE.out; omega) (Value.slice fb fbn fbc) (Value.bool fbp)
                obtain ⟨X, hX'⟩ : ∃ Y, (X.setCell ⟨g9, 0, none⟩ (Value.slice fb fbn fbc)).setCell ⟨g9, 1, none⟩ (Value.bool fbp) = Y := ⟨_, rfl⟩
                rw [hX'] at hbp hwa' hwb' hc0 hc1 hx0 hx1 ⊢
                replace BX := Lib.hid hbp
                replace HWA := Lib.hid hwa'
                replace HWB := Lib.hid hwb'
                replace X0 := Lib.hid hx0
                replace X1 := Lib.hid hx1
                have Y0 := Lib.hid hc0
                have Y1 := Lib.hid hc1
                clear hX' hbp hwa' hwb' hc0 hc1 hx0 hx1 y0 y1 y2 y3
                refine hK.out _ _ ⟨cell_on BX.out a0, cell_on BX.out a1, cell_on BX.out a2, cell_on BX.out b0, cell_on BX.out b1, cell_on BX.out b2⟩ (fun hHeld => ?_)
                clear hK K
                try simp only [Act.put, List.setIfInBounds_toArray, List.set_cons_zero, List.set_cons_succ]
                refine wpAnyH_done (by kernel_rfl) ?_ _
                refine NoPanic.normal ?_
                go_wp2_with fail
                go_meet
                exact ⟨g8, g9, _, _, _, _, _, _, _, _, rfl, rfl, Lib.hid ⟨X0.out, X1.out, Y0.out, Y1.out, HWA.out, HWB.out⟩, Lib.hid (O.out.below BX.out), Lib.hid ⟨by have := HLT.out; have := G8.out; omega, by have := HLT.out; have := G9.out; omega⟩⟩
              exact AllReadyH.nil
            exact AllReadyH.nil
          exact AllReadyH.nil
        exact AllReadyH.nil
      exact AllReadyH.nil
    refine AllReadyH.cons rfl (fun K hK => ?_) ?_
    · go_simp
      have hb := (Below.refl X.heap.size X).alloc (Nat.le_refl _) (Obj.cells #[Value.slice none 0 0, Value.bool false] 62)
      have R9 := Lib.hid (resW_new X 62)
      obtain ⟨g9, hg9⟩ : ∃ g, X.heap.size = g := ⟨_, rfl⟩
      have G9 := Lib.hid (show W.heap.size ≤ g9 by rw [← hg9]; exact BX.out.size)
      obtain ⟨X, hX'⟩ : ∃ Y, X.alloc (Obj.cells #[Value.slice none 0 0, Value.bool false] 62) = Y := ⟨_, rfl⟩
      rw [hX'] at hb R9 ⊢
      replace BX := Lib.hid (below_then BX.out hb)
      rw [hg9] at R9 ⊢
      clear hX' hg9
      refine hK.out _ _ ⟨cell_on BX.out a0, cell_on BX.out a1, cell_on BX.out a2, cell_on BX.out b0, cell_on BX.out b1, cell_on BX.out b2⟩ (fun hHeld => ?_)
      clear hK K
      try simp only [Act.put, List.setIfInBounds_toArray, List.set_cons_zero, List.set_cons_succ]
      clear hb
      refine wpAnyH_ready (rs := [1, 4]) (by kernel_rfl) (by simp) ?_
      refine AllReadyH.cons rfl (fun K hK => ?_) ?_
      · go_simp
        refine (need_some HVa.out HZa.out _ (HEW.out.below BX.out)).mono ?_
        rintro e X ⟨va, rfl, ⟨fa, fan, fac, fap, rfl⟩, hwa, hb⟩
        replace BX := Lib.hid (below_then BX.out hb)
        replace R9 := Lib.hid (R9.out.below hb)
        have HWA := Lib.hid hwa
        dsimp only
        refine hK.out _ _ ⟨cell_on BX.out a0, cell_on BX.out a1, cell_on BX.out a2, cell_on BX.out b0, cell_on BX.out b1, cell_on BX.out b2⟩ (fun hHeld => ?_)
        clear hK K
        try simp only [Act.put, List.setIfInBounds_toArray, List.set_cons_zero, List.set_cons_succ]
        clear hb hwa
        refine wpAnyH_ready (rs := [3, 4]) (by kernel_rfl) (by simp) ?_
        refine AllReadyH.cons rfl (fun K hK => ?_) ?_
        · go_simp
          refine (need_some HV.out HZ.out _ (HEW.out.below BX.out)).mono ?_
          rintro e X ⟨vb, rfl, ⟨fb, fbn, fbc, fbp, rfl⟩, hwb, hb⟩
          replace BX := Lib.hid (below_then BX.out hb)
          replace R9 := Lib.hid (R9.out.below hb)
          replace HWA := Lib.hid (HWA.out.below hb)
          have HWB := Lib.hid hwb
          dsimp only
          refine hK.out _ _ ⟨cell_on BX.out a0, cell_on BX.out a1, cell_on BX.out a2, cell_on BX.out b0, cell_on BX.out b1, cell_on BX.out b2⟩ (fun hHeld => ?_)
          clear hK K
          try simp only [Act.put, List.setIfInBounds_toArray, List.set_cons_zero, List.set_cons_succ]
          clear hb hwb
          refine wpAnyH_ready (rs := [4]) (by kernel_rfl) (by simp) ?_
          refine AllReadyH.cons rfl (fun K hK => ?_) ?_
          · go_simp
            have hb := (Below.refl X.heap.size X).alloc (Nat.le_refl _) (Obj.cells #[Value.slice none 0 0, Value.bool false] 62)
            have R8 := Lib.hid (resW_new X 62)
            obtain ⟨g8, hg8⟩ : ∃ g, X.heap.size = g := ⟨_, rfl⟩
            have G8 := Lib.hid (show W.heap.size ≤ g8 by rw [← hg8]; exact BX.out.size)
            have NE := Lib.hid (show g9 < g8 by rw [← hg8]; exact R9.out.lt)
            obtain ⟨X, hX'⟩ : ∃ Y, X.alloc (Obj.cells #[Value.slice none 0 0, Value.bool false] 62) = Y := ⟨_, rfl⟩
            rw [hX'] at hb R8 ⊢
            replace BX := Lib.hid (below_then BX.out hb)
            replace R9 := Lib.hid (R9.out.below hb)
            replace HWA := Lib.hid (HWA.out.below hb)
            replace HWB := Lib.hid (HWB.out.below hb)
            rw [hg8] at R8 ⊢
            clear hX' hg8
            refine hK.out _ _ ⟨cell_on BX.out a0, cell_on BX.out a1, cell_on BX.out a2, cell_on BX.out b0, cell_on BX.out b1, cell_on BX.out b2⟩ (fun hHeld => ?_)
            clear hK K
            try simp only [Act.put, List.setIfInBounds_toArray, List.set_cons_zero, List.set_cons_succ]
            clear hb
            refine wpAnyH_ready (rs := [6]) (by kernel_rfl) (by simp) ?_
            refine AllReadyH.cons rfl (fun K hK => ?_) ?_
            · have y0 := R8.out.c0; have y1 := R8.out.c1; have y2 := R8.out.f0; have y3 := R8.out.f1
              go_simp
              have hbp := below_put BX.out G8.out (Value.slice fa fan fac) (Value.bool fap)
              have hwa' := HWA.out.put R8.out.ni (Value.slice fa fan fac) (Value.bool fap)
              have hwb' := HWB.out.put R8.out.ni (Value.slice fa fan fac) (Value.bool fap)
              have hc0 := R8.out.set0 (Value.slice fa fan fac) (Value.bool fap)
              have hc1 := R8.out.set1 (Value.slice fa fan fac) (Value.bool fap)
              have hr9 := R9.out.put (g' := g8) (by have := NE.out; omega) (Value.slice fa fan fac) (Value.bool fap)
              obtain ⟨X, hX'⟩ : ∃ Y, (X.setCell ⟨g8, 0, none⟩ (Value.slice fa fan fac)).setCell ⟨g8, 1, none⟩ (Value.bool fap) = Y := ⟨_, rfl⟩
              rw [hX'] at hbp hwa' hwb' hc0 hc1 hr9 ⊢
              replace BX := Lib.hid hbp
              replace HWA := Lib.hid hwa'
              replace HWB := Lib.hid hwb'
              have X0 := Lib.hid hc0
              have X1 := Lib.hid hc1
              replace R9 := Lib.hid hr9
              clear hX' hbp hwa' hwb' hc0 hc1 hr9 y0 y1 y2 y3
              refine hK.out _ _ ⟨cell_on BX.out a0, cell_on BX.out a1, cell_on BX.out a2, cell_on BX.out b0, cell_on BX.out b1, cell_on BX.out b2⟩ (fun hHeld => ?_)
              clear hK K
              try simp only [Act.put, List.setIfInBounds_toArray, List.set_cons_zero, List.set_cons_succ]
              refine wpAnyH_ready (rs := [7]) (by kernel_rfl) (by simp) ?_
              refine AllReadyH.cons rfl (fun K hK => ?_) ?_
              · have y0 := R9.out.c0; have y1 := R9.out.c1; have y2 := R9.out.f0; have y3 := R9.out.f1
                go_simp
                have hbp := below_put BX.out G9.out (Value.slice fb fbn fbc) (Value.bool fbp)
                have hwa' := HWA.out.put R9.out.ni (Value.slice fb fbn fbc) (Value.bool fbp)
                have hwb' := HWB.out.put R9.out.ni (Value.slice fb fbn fbc) (Value.bool fbp)
                have hc0 := R9.out.set0 (Value.slice fb fbn fbc) (Value.bool fbp)
                have hc1 := R9.out.set1 (Value.slice fb fbn fbc) (Value.bool fbp)
                have hx0 := cell_put X0.out (g' := g9) (by have := NE.out; omega) (Value.slice fb fbn fbc) (Value.bool fbp)
                have hx1 := cell_put X1.out (g' := g9) (by have := NE.out; omega) (Value.slice fb fbn fbc) (Value.bool fbp)
                obtain ⟨X, hX'⟩ : ∃ Y, (X.setCell ⟨g9, 0, none⟩ (Value.slice fb fbn fbc)).setCell ⟨g9, 1, none⟩ (Value.bool fbp) = Y := ⟨_, rfl⟩
                rw [hX'] at hbp hwa' hwb' hc0 hc1 hx0 hx1 ⊢
                replace BX := Lib.hid hbp
                replace HWA := Lib.hid hwa'
                replace HWB := Lib.hid hwb'
                replace X0 := Lib.hid hx0
                replace X1 := Lib.hid hx1
                have Y0 := Lib.hid hc0
                have Y1 := Lib.hid hc1
                clear hX' hbp hwa' hwb' hc0 hc1 hx0 hx1 y0 y1 y2 y3
                refine hK.out _ _ ⟨cell_on BX.out a0, cell_on BX.out a1, cell_on BX.out a2, cell_on BX.out b0, cell_on BX.out b1, cell_on BX.out b2⟩ (fun hHeld => ?_)
                clear hK K
                try simp only [Act.put, List.setIfInBounds_toArray, List.set_cons_zero, List.set_cons_succ]
                refine wpAnyH_done (by kernel_rfl) ?_ _
                refine NoPanic.normal ?_
                go_wp2_with fail
                go_meet
                exact ⟨g8, g9, _, _, _, _, _, _, _, _, rfl, rfl, Lib.hid ⟨X0.out, X1.out, Y0.out, Y1.out, HWA.out, HWB.out⟩, Lib.hid (O.out.below BX.out), Lib.hid ⟨by have := HLT.out; have := G8.out; omega, by have := HLT.out; have := G9.out; omega⟩⟩
              exact AllReadyH.nil
            exact AllReadyH.nil
          exact AllReadyH.nil
        refine AllReadyH.cons rfl (fun K hK => ?_) ?_
        · go_simp
          have hb := (Below.refl X.heap.size X).alloc (Nat.le_refl _) (Obj.cells #[Value.slice none 0 0, Value.bool false] 62)
          have R8 := Lib.hid (resW_new X 62)
          obtain ⟨g8, hg8⟩ : ∃ g, X.heap.size = g := ⟨_, rfl⟩
          have G8 := Lib.hid (show W.heap.size ≤ g8 by rw [← hg8]; exact BX.out.size)
          have NE := Lib.hid (show g9 < g8 by rw [← hg8]; exact R9.out.lt)
          obtain ⟨X, hX'⟩ : ∃ Y, X.alloc (Obj.cells #[Value.slice none 0 0, Value.bool false] 62) = Y := ⟨_, rfl⟩
          rw [hX'] at hb R8 ⊢
          replace BX := Lib.hid (below_then BX.out hb)
          replace R9 := Lib.hid (R9.out.below hb)
          replace HWA := Lib.hid (HWA.out.below hb)
          rw [hg8] at R8 ⊢
          clear hX' hg8
          refine hK.out _ _ ⟨cell_on BX.out a0, cell_on BX.out a1, cell_on BX.out a2, cell_on BX.out b0, cell_on BX.out b1, cell_on BX.out b2⟩ (fun hHeld => ?_)
          clear hK K
          try simp only [Act.put, List.setIfInBounds_toArray, List.set_cons_zero, List.set_cons_succ]
          clear hb
          refine wpAnyH_ready (rs := [3]) (by kernel_rfl) (by simp) ?_
          refine AllReadyH.cons rfl (fun K hK => ?_) ?_
          · go_simp
            refine (need_some HV.out HZ.out _ (HEW.out.below BX.out)).mono ?_
            rintro e X ⟨vb, rfl, ⟨fb, fbn, fbc, fbp, rfl⟩, hwb, hb⟩
            replace BX := Lib.hid (below_then BX.out hb)
            replace R8 := Lib.hid (R8.out.below hb)
            replace R9 := Lib.hid (R9.out.below hb)
            replace HWA := Lib.hid (HWA.out.below hb)
            have HWB := Lib.hid hwb
            dsimp only
            refine hK.out _ _ ⟨cell_on BX.out a0, cell_on BX.out a1, cell_on BX.out a2, cell_on BX.out b0, cell_on BX.out b1, cell_on BX.out b2⟩ (fun hHeld => ?_)
            clear hK K
            try simp only [Act.put, List.setIfInBounds_toArray, List.set_cons_zero, List.set_cons_succ]
            clear hb hwb
            refine wpAnyH_ready (rs := [6]) (by kernel_rfl) (by simp) ?_
            refine AllReadyH.cons rfl (fun K hK => ?_) ?_
            · have y0 := R8.out.c0; have y1 := R8.out.c1; have y2 := R8.out.f0; have y3 := R8.out.f1
              go_simp
              have hbp := below_put BX.out G8.out (Value.slice fa fan fac) (Value.bool fap)
              have hwa' := HWA.out.put R8.out.ni (Value.slice fa fan fac) (Value.bool fap)
              have hwb' := HWB.out.put R8.out.ni (Value.slice fa fan fac) (Value.bool fap)
              have hc0 := R8.out.set0 (Value.slice fa fan fac) (Value.bool fap)
              have hc1 := R8.out.set1 (Value.slice fa fan fac) (Value.bool fap)
              have hr9 := R9.out.put (g' := g8) (by have := NE.out; omega) (Value.slice fa fan fac) (Value.bool fap)
              obtain ⟨X, hX'⟩ : ∃ Y, (X.setCell ⟨g8, 0, none⟩ (Value.slice fa fan fac)).setCell ⟨g8, 1, none⟩ (Value.bool fap) = Y := ⟨_, rfl⟩
              rw [hX'] at hbp hwa' hwb' hc0 hc1 hr9 ⊢
              replace BX := Lib.hid hbp
              replace HWA := Lib.hid hwa'
              replace HWB := Lib.hid hwb'
              have X0 := Lib.hid hc0
              have X1 := Lib.hid hc1
              replace R9 := Lib.hid hr9
              clear hX' hbp hwa' hwb' hc0 hc1 hr9 y0 y1 y2 y3
              refine hK.out _ _ ⟨cell_on BX.out a0, cell_on BX.out a1, cell_on BX.out a2, cell_on BX.out b0, cell_on BX.out b1, cell_on BX.out b2⟩ (fun hHeld => ?_)
              clear hK K
              try simp only [Act.put, List.setIfInBounds_toArray, List.set_cons_zero, List.set_cons_succ]
              refine wpAnyH_ready (rs := [7]) (by kernel_rfl) (by simp) ?_
              refine AllReadyH.cons rfl (fun K hK => ?_) ?_
              · have y0 := R9.out.c0; have y1 := R9.out.c1; have y2 := R9.out.f0; have y3 := R9.out.f1
                go_simp
                have hbp := below_put BX.out G9.out (Value.slice fb fbn fbc) (Value.bool fbp)
                have hwa' := HWA.out.put R9.out.ni (Value.slice fb fbn fbc) (Value.bool fbp)
                have hwb' := HWB.out.put R9.out.ni (Value.slice fb fbn fbc) (Value.bool fbp)
                have hc0 := R9.out.set0 (Value.slice fb fbn fbc) (Value.bool fbp)
                have hc1 := R9.out.set1 (Value.slice fb fbn fbc) (Value.bool fbp)
                have hx0 := cell_put X0.out (g' := g9) (by have := NE.out; omega) (Value.slice fb fbn fbc) (Value.bool fbp)
                have hx1 := cell_put X1.out (g' := g9) (by have := NE.out; omega) (Value.slice fb fbn fbc) (Value.bool fbp)
                obtain ⟨X, hX'⟩ : ∃ Y, (X.setCell ⟨g9, 0, none⟩ (Value.slice fb fbn fbc)).setCell ⟨g9, 1, none⟩ (Value.bool fbp) = Y := ⟨_, rfl⟩
                rw [hX'] at hbp hwa' hwb' hc0 hc1 hx0 hx1 ⊢
                replace BX := Lib.hid hbp
                replace HWA := Lib.hid hwa'
                replace HWB := Lib.hid hwb'
                replace X0 := Lib.hid hx0
                replace X1 := Lib.hid hx1
                have Y0 := Lib.hid hc0
                have Y1 := Lib.hid hc1
                clear hX' hbp hwa' hwb' hc0 hc1 hx0 hx1 y0 y1 y2 y3
                refine hK.out _ _ ⟨cell_on BX.out a0, cell_on BX.out a1, cell_on BX.out a2, cell_on BX.out b0, cell_on BX.out b1, cell_on BX.out b2⟩ (fun hHeld => ?_)
                clear hK K
                try simp only [Act.put, List.setIfInBounds_toArray, List.set_cons_zero, List.set_cons_succ]
                refine wpAnyH_done (by kernel_rfl) ?_ _
                refine NoPanic.normal ?_
                go_wp2_with fail
                go_meet
                exact ⟨g8, g9, _, _, _, _, _, _, _, _, rfl, rfl, Lib.hid ⟨X0.out, X1.out, Y0.out, Y1.out, HWA.out, HWB.out⟩, Lib.hid (O.out.below BX.out), Lib.hid ⟨by have := HLT.out; have := G8.out; omega, by have := HLT.out; have := G9.out; omega⟩⟩
              exact AllReadyH.nil
            exact AllReadyH.nil
          exact AllReadyH.nil
        exact AllReadyH.nil
      refine AllReadyH.cons rfl (fun K hK => ?_) ?_
      · go_simp
        have hb := (Below.refl X.heap.size X).alloc (Nat.le_refl _) (Obj.cells #[Value.slice none 0 0, Value.bool false] 62)
        have R8 := Lib.hid (resW_new X 62)
        obtain ⟨g8, hg8⟩ : ∃ g, X.heap.size = g := ⟨_, rfl⟩
        have G8 := Lib.hid (show W.heap.size ≤ g8 by rw [← hg8]; exact BX.out.size)
        have NE := Lib.hid (show g9 < g8 by rw [← hg8]; exact R9.out.lt)
        obtain ⟨X, hX'⟩ : ∃ Y, X.alloc (Obj.cells #[Value.slice none 0 0, Value.bool false] 62) = Y := ⟨_, rfl⟩
        rw [hX'] at hb R8 ⊢
        replace BX := Lib.hid (below_then BX.out hb)
        replace R9 := Lib.hid (R9.out.below hb)
        rw [hg8] at R8 ⊢
        clear hX' hg8
        refine hK.out _ _ ⟨cell_on BX.out a0, cell_on BX.out a1, cell_on BX.out a2, cell_on BX.out b0, cell_on BX.out b1, cell_on BX.out b2⟩ (fun hHeld => ?_)
        clear hK K
        try simp only [Act.put, List.setIfInBounds_toArray, List.set_cons_zero, List.set_cons_succ]
        clear hb
        refine wpAnyH_ready (rs := [1]) (by kernel_rfl) (by simp) ?_
        refine AllReadyH.cons rfl (fun K hK => ?_) ?_
        · go_simp
          refine (need_some HVa.out HZa.out _ (HEW.out.below BX.out)).mono ?_
          rintro e X ⟨va, rfl, ⟨fa, fan, fac, fap, rfl⟩, hwa, hb⟩
          replace BX := Lib.hid (below_then BX.out hb)
          replace R8 := Lib.hid (R8.out.below hb)
          replace R9 := Lib.hid (R9.out.below hb)
          have HWA := Lib.hid hwa
          dsimp only
          refine hK.out _ _ ⟨cell_on BX.out a0, cell_on BX.out a1, cell_on BX.out a2, cell_on BX.out b0, cell_on BX.out b1, cell_on BX.out b2⟩ (fun hHeld => ?_)
          clear hK K
          try simp only [Act.put, List.setIfInBounds_toArray, List.set_cons_zero, List.set_cons_succ]
          clear hb hwa
          refine wpAnyH_ready (rs := [3]) (by kernel_rfl) (by simp) ?_
          refine AllReadyH.cons rfl (fun K hK => ?_) ?_
          · go_simp
            refine (need_some HV.out HZ.out _ (HEW.out.below BX.out)).mono ?_
            rintro e X ⟨vb, rfl, ⟨fb, fbn, fbc, fbp, rfl⟩, hwb, hb⟩
            replace BX := Lib.hid (below_then BX.out hb)
            replace R8 := Lib.hid (R8.out.below hb)
            replace R9 := Lib.hid (R9.out.below hb)
            replace HWA := Lib.hid (HWA.out.below hb)
            have HWB := Lib.hid hwb
            dsimp only
            refine hK.out _ _ ⟨cell_on BX.out a0, cell_on BX.out a1, cell_on BX.out a2, cell_on BX.out b0, cell_on BX.out b1, cell_on BX.out b2⟩ (fun hHeld => ?_)
            clear hK K
            try simp only [Act.put, List.setIfInBounds_toArray, List.set_cons_zero, List.set_cons_succ]
            clear hb hwb
            refine wpAnyH_ready (rs := [6]) (by kernel_rfl) (by simp) ?_
            refine AllReadyH.cons rfl (fun K hK => ?_) ?_
            · have y0 := R8.out.c0; have y1 := R8.out.c1; have y2 := R8.out.f0; have y3 := R8.out.f1
              go_simp
              have hbp := below_put BX.out G8.out (Value.slice fa fan fac) (Value.bool fap)
              have hwa' := HWA.out.put R8.out.ni (Value.slice fa fan fac) (Value.bool fap)
              have hwb' := HWB.out.put R8.out.ni (Value.slice fa fan fac) (Value.bool fap)
              have hc0 := R8.out.set0 (Value.slice fa fan fac) (Value.bool fap)
              have hc1 := R8.out.set1 (Value.slice fa fan fac) (Value.bool fap)
              have hr9 := R9.out.put (g' := g8) (by have := NE.out; omega) (Value.slice fa fan fac) (Value.bool fap)
              obtain ⟨X, hX'⟩ : ∃ Y, (X.setCell ⟨g8, 0, none⟩ (Value.slice fa fan fac)).setCell ⟨g8, 1, none⟩ (Value.bool fap) = Y := ⟨_, rfl⟩
              rw [hX'] at hbp hwa' hwb' hc0 hc1 hr9 ⊢
              replace BX := Lib.hid hbp
              replace HWA := Lib.hid hwa'
              replace HWB := Lib.hid hwb'
              have X0 := Lib.hid hc0
              have X1 := Lib.hid hc1
              replace R9 := Lib.hid hr9
              clear hX' hbp hwa' hwb' hc0 hc1 hr9 y0 y1 y2 y3
              refine hK.out _ _ ⟨cell_on BX.out a0, cell_on BX.out a1, cell_on BX.out a2, cell_on BX.out b0, cell_on BX.out b1, cell_on BX.out b2⟩ (fun hHeld => ?_)
              clear hK K
              try simp only [Act.put, List.setIfInBounds_toArray, List.set_cons_zero, List.set_cons_succ]
              refine wpAnyH_ready (rs := [7]) (by kernel_rfl) (by simp) ?_
              refine AllReadyH.cons rfl (fun K hK => ?_) ?_
              · have y0 := R9.out.c0; have y1 := R9.out.c1; have y2 := R9.out.f0; have y3 := R9.out.f1
                go_simp
                have hbp := below_put BX.out G9.out (Value.slice fb fbn fbc) (Value.bool fbp)
                have hwa' := HWA.out.put R9.out.ni (Value.slice fb fbn fbc) (Value.bool fbp)
                have hwb' := HWB.out.put R9.out.ni (Value.slice fb fbn fbc) (Value.bool fbp)
                have hc0 := R9.out.set0 (Value.slice fb fbn fbc) (Value.bool fbp)
                have hc1 := R9.out.set1 (Value.slice fb fbn fbc) (Value.bool fbp)
                have hx0 := cell_put X0.out (g' := g9) (by have := NE.out; omega) (Value.slice fb fbn fbc) (Value.bool fbp)
                have hx1 := cell_put X1.out (g' := g9) (by have := NE.out; omega) (Value.slice fb fbn fbc) (Value.bool fbp)
                obtain ⟨X, hX'⟩ : ∃ Y, (X.setCell ⟨g9, 0, none⟩ (Value.slice fb fbn fbc)).setCell ⟨g9, 1, none⟩ (Value.bool fbp) = Y := ⟨_, rfl⟩
                rw [hX'] at hbp hwa' hwb' hc0 hc1 hx0 hx1 ⊢
                replace BX := Lib.hid hbp
                replace HWA := Lib.hid hwa'
                replace HWB := Lib.hid hwb'
                replace X0 := Lib.hid hx0
                replace X1 := Lib.hid hx1
                have Y0 := Lib.hid hc0
                have Y1 := Lib.hid hc1
                clear hX' hbp hwa' hwb' hc0 hc1 hx0 hx1 y0 y1 y2 y3
                refine hK.out _ _ ⟨cell_on BX.out a0, cell_on BX.out a1, cell_on BX.out a2, cell_on BX.out b0, cell_on BX.out b1, cell_on BX.out b2⟩ (fun hHeld => ?_)
                clear hK K
                try simp only [Act.put, List.setIfInBounds_toArray, List.set_cons_zero, List.set_cons_succ]
                refine wpAnyH_done (by kernel_rfl) ?_ _
                refine NoPanic.normal ?_
                go_wp2_with fail
                go_meet
                exact ⟨g8, g9, _, _, _, _, _, _, _, _, rfl, rfl, Lib.hid ⟨X0.out, X1.out, Y0.out, Y1.out, HWA.out, HWB.out⟩, Lib.hid (O.out.below BX.out), Lib.hid ⟨by have := HLT.out; have := G8.out; omega, by have := HLT.out; have := G9.out; omega⟩⟩
              exact AllReadyH.nil
            exact AllReadyH.nil
          exact AllReadyH.nil
        exact AllReadyH.nil
      exact AllReadyH.nil
    exact AllReadyH.nil
  case rest =>
    obtain ⟨g8, g9, a, an, ac, p, b, bn, bc, q, rfl, rfl, HBo, HO, HLO⟩ := hcut
    clear a0 a1 a2 b0 b1 b2 hlt hlt1 hlt0 DR0 DR1 DR2 HEW O HZa HVa HZ HV
    have hiv : i = 0 ∨ i = 1 ∨ i = 2 ∨ i = 3 ∨ i = 4 ∨ i = 5 := by have := HI.out; omega
    have x0 := HBo.out.x0; have x1 := HBo.out.x1; have y0 := HBo.out.y0; have y1 := HBo.out.y1
    have HEX := Lib.hid (HE.out.below HO.out.bel)
    have DX := Lib.hid ((Below.refl wc.heap.size wc).drew)
    rcases hiv with rfl | rfl | rfl | rfl | rfl | rfl
    all_goals
      cases out with
      | err m =>
        replace hr := HRR.out
        rw [show (Out.err m).res = .tuple #[vE 0 0 [], .int .i64 m] from rfl] at hr
        clear HRR
        subst hr
        go_wp2_with fail
        refine Code.wp_mono (QP_two (w := w) (k := k) (n := n) (t := t) (k' := k') (n' := n') (t' := t') (m := m) (fun _ _ _ h => h)) ?_
        refine wp_region_held_drew (S := (fun w' => w'.cell? ⟨g8, 0, none⟩ = some (.slice a an ac) ∧ w'.cell? ⟨g8, 1, none⟩ = some (.bool p) ∧ w'.cell? ⟨g9, 0, none⟩ = some (.slice b bn bc) ∧ w'.cell? ⟨g9, 1, none⟩ = some (.bool q))) (by kernel_rfl) (by go_keep) (fun hHeld => ?_)
        refine wpAnyH_take (i := 4) (v := (.agg #[.slice a an ac, .bool p])) rfl (by kernel_rfl) (by kernel_rfl) (by kernel_rfl) (QP_put 18 _ (by decide) (by decide)) (Or.inl ⟨by rfl, by intro w hSw; go_split_ands; go_simp⟩) (by assumption) ?_
        try simp only [Act.put, List.setIfInBounds_toArray, List.set_cons_zero, List.set_cons_succ]
        refine wpAnyH_take (i := 5) (v := (.agg #[.slice b bn bc, .bool q])) rfl (by kernel_rfl) (by kernel_rfl) (by kernel_rfl) (QP_put 19 _ (by decide) (by decide)) (Or.inl ⟨by rfl, by intro w hSw; go_split_ands; go_simp⟩) (by assumption) ?_
        try simp only [Act.put, List.setIfInBounds_toArray, List.set_cons_zero, List.set_cons_succ]
        refine wpAnyH_take (i := 1) (v := ?_) rfl (by kernel_rfl) (by kernel_rfl) (by kernel_rfl) (QP_put 15 _ (by decide) (by decide)) (Or.inl ⟨by rfl, ?_⟩) (by assumption) ?_
        rotate_left
        · intro w hSw
          go_simp
          with_reducible rfl
        try simp only [Act.put, List.setIfInBounds_toArray, List.set_cons_zero, List.set_cons_succ]
        refine wpAnyH_ready (rs := [0]) (by kernel_rfl) (by simp) ?_
        refine AllReadyH.cons rfl (fun K hK => ?_) AllReadyH.nil
        go_simp
        refine (rules_calls _).mono ?_
        rintro e X ⟨rfl, hb⟩
        dsimp only
        have BX := Lib.hid (below_then DX.out hb)
        refine hK.out _ _ ⟨cell_on BX.out x0, cell_on BX.out x1, cell_on BX.out y0, cell_on BX.out y1⟩ (fun hHeld => ?_)
        clear hK K hb
        try simp only [Act.put, List.setIfInBounds_toArray, List.set_cons_zero, List.set_cons_succ]
        refine wpAnyH_take (i := 2) (v := ?_) rfl (by kernel_rfl) (by kernel_rfl) (by kernel_rfl) (QP_put 16 _ (by decide) (by decide)) (Or.inl ⟨by rfl, ?_⟩) (by assumption) ?_
        rotate_left
        · intro w hSw
          go_simp
          with_reducible rfl
        try simp only [Act.put, List.setIfInBounds_toArray, List.set_cons_zero, List.set_cons_succ]
        refine wpAnyH_take (i := 3) (v := ?_) rfl (by kernel_rfl) (by kernel_rfl) (by kernel_rfl) (QP_put 17 _ (by decide) (by decide)) (Or.inl ⟨by rfl, ?_⟩) (by assumption) ?_
        rotate_left
        · intro w hSw
          go_simp
          with_reducible rfl
        try simp only [Act.put, List.setIfInBounds_toArray, List.set_cons_zero, List.set_cons_succ]
        refine wpAnyH_ready (rs := [6]) (by kernel_rfl) (by simp) ?_
        refine AllReadyH.cons rfl (fun K hK => ?_) AllReadyH.nil
        go_simp
        refine (HOP.out _ _ _ (HBo.out.hx.below BX.out) (HBo.out.hy.below BX.out)).mono ?_
        rintro e X6 hpost
        obtain ⟨rfl, hb⟩ := hpost
        exact ⟨rfl, rfl, rfl, rfl, HO.out.below (below_then BX.out hb)⟩
      | num z =>
        by_cases hz : nDigits z.natAbs ≤ 400
        · have HZ4 := Lib.hid hz
          obtain ⟨k0, n0, T0, hv⟩ : ∃ k n t, vv z = vE k n t := by unfold vv vE; split; exact ⟨_, _, [], rfl⟩; exact ⟨_, _, _, rfl⟩
          have hres : (Out.num z).res = .tuple #[vE k0 n0 T0, .int .i64 0] := by show (if _ then _ else _) = _; rw [if_pos hz, hv]
          have HVV := Lib.hid hv
          replace hr := HRR.out
          rw [hres] at hr
          clear hz hv hres HRR
          subst hr
          go_wp2_with fail
          refine Code.wp_mono (QP_false (D := []) (p6 := undef) (p7 := undef)) ?_
          refine wp_region_held_drew (S := (fun w' => w'.cell? ⟨g8, 0, none⟩ = some (.slice a an ac) ∧ w'.cell? ⟨g8, 1, none⟩ = some (.bool p) ∧ w'.cell? ⟨g9, 0, none⟩ = some (.slice b bn bc) ∧ w'.cell? ⟨g9, 1, none⟩ = some (.bool q))) (by kernel_rfl) (by go_keep) (fun hHeld => ?_)
          refine wpAnyH_take (i := 4) (v := (.agg #[.slice a an ac, .bool p])) rfl (by kernel_rfl) (by kernel_rfl) (by kernel_rfl) (QP_put 18 _ (by decide) (by decide)) (Or.inl ⟨by rfl, by intro w hSw; go_split_ands; go_simp⟩) (by assumption) ?_
          try simp only [Act.put, List.setIfInBounds_toArray, List.set_cons_zero, List.set_cons_succ]
          refine wpAnyH_take (i := 5) (v := (.agg #[.slice b bn bc, .bool q])) rfl (by kernel_rfl) (by kernel_rfl) (by kernel_rfl) (QP_put 19 _ (by decide) (by decide)) (Or.inl ⟨by rfl, by intro w hSw; go_split_ands; go_simp⟩) (by assumption) ?_
          try simp only [Act.put, List.setIfInBounds_toArray, List.set_cons_zero, List.set_cons_succ]
          refine wpAnyH_take (i := 1) (v := ?_) rfl (by kernel_rfl) (by kernel_rfl) (by kernel_rfl) (QP_put 15 _ (by decide) (by decide)) (Or.inl ⟨by rfl, ?_⟩) (by assumption) ?_
          rotate_left
          · intro w hSw
            go_simp
            with_reducible rfl
          try simp only [Act.put, List.setIfInBounds_toArray, List.set_cons_zero, List.set_cons_succ]
          refine wpAnyH_ready (rs := [0]) (by kernel_rfl) (by simp) ?_
          refine AllReadyH.cons rfl (fun K hK => ?_) AllReadyH.nil
          go_simp
          refine (rules_calls _).mono ?_
          rintro e X ⟨rfl, hb⟩
          dsimp only
          have BX := Lib.hid (below_then DX.out hb)
          refine hK.out _ _ ⟨cell_on BX.out x0, cell_on BX.out x1, cell_on BX.out y0, cell_on BX.out y1⟩ (fun hHeld => ?_)
          clear hK K hb
          try simp only [Act.put, List.setIfInBounds_toArray, List.set_cons_zero, List.set_cons_succ]
          refine wpAnyH_take (i := 2) (v := ?_) rfl (by kernel_rfl) (by kernel_rfl) (by kernel_rfl) (QP_put 16 _ (by decide) (by decide)) (Or.inl ⟨by rfl, ?_⟩) (by assumption) ?_
          rotate_left
          · intro w hSw
            go_simp
            with_reducible rfl
          try simp only [Act.put, List.setIfInBounds_toArray, List.set_cons_zero, List.set_cons_succ]
          refine wpAnyH_take (i := 3) (v := ?_) rfl (by kernel_rfl) (by kernel_rfl) (by kernel_rfl) (QP_put 17 _ (by decide) (by decide)) (Or.inl ⟨by rfl, ?_⟩) (by assumption) ?_
          rotate_left
          · intro w hSw
            go_simp
            with_reducible rfl
          try simp only [Act.put, List.setIfInBounds_toArray, List.set_cons_zero, List.set_cons_succ]
          refine wpAnyH_ready (rs := [6]) (by kernel_rfl) (by simp) ?_
          refine AllReadyH.cons rfl (fun K hK => ?_) AllReadyH.nil
          go_simp
          refine (HOP.out _ _ _ (HBo.out.hx.below BX.out) (HBo.out.hy.below BX.out)).mono ?_
          rintro e X6 hpost
          obtain ⟨hlen, v, rfl, ⟨fa, fn, fc, fp, rfl⟩, hW, hb⟩ := hpost
          dsimp only
          have BX6 := Lib.hid (below_then BX.out hb)
          have HW6 := Lib.hid hW
          have HLEN := Lib.hid hlen
          refine hK.out _ _ ⟨cell_on BX6.out x0, cell_on BX6.out x1, cell_on BX6.out y0, cell_on BX6.out y1⟩ (fun hHeld => ?_)
          clear hK K hb hW hlen
          try simp only [Act.put, List.setIfInBounds_toArray, List.set_cons_zero, List.set_cons_succ]
          refine wpAnyH_ready (rs := [7]) (by kernel_rfl) (by simp) ?_
          refine AllReadyH.cons rfl (fun K hK => ?_) AllReadyH.nil
          go_simp
          refine (val_ok _ z _ HW6.out (HEX.out.below BX6.out) HZ4.out).mono ?_
          rw [HVV.out]
          rintro e X7 ⟨rfl, hb⟩
          dsimp only [vE]
          have BX7 := Lib.hid (below_then BX6.out hb)
          refine hK.out _ _ ⟨cell_on BX7.out x0, cell_on BX7.out x1, cell_on BX7.out y0, cell_on BX7.out y1⟩ (fun hHeld => ?_)
          clear hK K hb hHeld
          try simp only [Act.put, List.setIfInBounds_toArray, List.set_cons_zero, List.set_cons_succ]
          have O7 := Lib.hid (HO.out.below BX7.out)
          have z0 := O7.out.r.c0; have z1 := O7.out.r.c1; have z2 := O7.out.r.c2; have z3 := O7.out.r.f0; have z4 := O7.out.r.f1; have z5 := O7.out.r.f2
          have w0 := O7.out.e0; have w1 := O7.out.f0
          have n1 : ¬ w.heap.size + 1 + 1 = g8 := by have := HLO.out; omega
          have n2 : ¬ w.heap.size + 1 + 1 = g9 := by have := HLO.out; omega
          have n3 : ¬ w.heap.size + 1 + 1 + 1 = g8 := by have := HLO.out; omega
          have n4 : ¬ w.heap.size + 1 + 1 + 1 = g9 := by have := HLO.out; omega
          have n5 : ¬ w.heap.size + 1 + 1 = w.heap.size + 1 + 1 + 1 := by omega
          have n6 : ¬ w.heap.size + 1 + 1 + 1 = w.heap.size + 1 + 1 := by omega
          replace x0 := cell_on BX7.out x0
          replace x1 := cell_on BX7.out x1
          replace y0 := cell_on BX7.out y0
          replace y1 := cell_on BX7.out y1
          refine wpAnyH_ready (rs := [8]) (by kernel_rfl) (by simp) ?_
          refine AllReadyH.cons rfl (fun K hK => ?_) AllReadyH.nil
          go_simp
          refine hK.out _ _ ⟨cell_put3 x0 n1 _ _ _, cell_put3 x1 n1 _ _ _, cell_put3 y0 n2 _ _ _, cell_put3 y1 n2 _ _ _⟩ (fun hHeld => ?_)
          clear hK K hHeld
          refine wpAnyH_ready (rs := [9]) (by kernel_rfl) (by simp) ?_
          refine AllReadyH.cons rfl (fun K hK => ?_) AllReadyH.nil
          go_simp
          refine hK.out _ _ ⟨cell_put4 x0 n1 n3 _ _ _ _, cell_put4 x1 n1 n3 _ _ _ _, cell_put4 y0 n2 n4 _ _ _ _, cell_put4 y1 n2 n4 _ _ _ _⟩ (fun hHeld => ?_)
          clear hK K hHeld
          refine wpAnyH_done (by kernel_rfl) ?_ _
          refine QP_normal ?_
          go_wp2_with fail
          exact leave_idle (resAt_two rfl rfl) (resVE_put O7.out.r O7.out.e0 n5 k0 n0 T0) ((below_put3 O7.out.bel (by omega) _ _ _).setCell (p := ⟨w.heap.size + 1 + 1 + 1, 0, none⟩) (by show w.heap.size ≤ w.heap.size + 1 + 1 + 1; omega) _)
        · have hres : (Out.num z).res = .tuple #[vE 0 0 [], .int .i64 2] := by show (if _ then _ else _) = _; rw [if_neg hz]
          replace hr := HRR.out
          rw [hres] at hr
          clear hres HRR
          subst hr
          go_wp2_with fail
          refine Code.wp_mono (QP_two (w := w) (k := k) (n := n) (t := t) (k' := k') (n' := n') (t' := t') (m := 2) (fun _ _ _ h => h)) ?_
          refine wp_region_held_drew (S := (fun w' => w'.cell? ⟨g8, 0, none⟩ = some (.slice a an ac) ∧ w'.cell? ⟨g8, 1, none⟩ = some (.bool p) ∧ w'.cell? ⟨g9, 0, none⟩ = some (.slice b bn bc) ∧ w'.cell? ⟨g9, 1, none⟩ = some (.bool q))) (by kernel_rfl) (by go_keep) (fun hHeld => ?_)
          refine wpAnyH_take (i := 4) (v := (.agg #[.slice a an ac, .bool p])) rfl (by kernel_rfl) (by kernel_rfl) (by kernel_rfl) (QP_put 18 _ (by decide) (by decide)) (Or.inl ⟨by rfl, by intro w hSw; go_split_ands; go_simp⟩) (by assumption) ?_
          try simp only [Act.put, List.setIfInBounds_toArray, List.set_cons_zero, List.set_cons_succ]
          refine wpAnyH_take (i := 5) (v := (.agg #[.slice b bn bc, .bool q])) rfl (by kernel_rfl) (by kernel_rfl) (by kernel_rfl) (QP_put 19 _ (by decide) (by decide)) (Or.inl ⟨by rfl, by intro w hSw; go_split_ands; go_simp⟩) (by assumption) ?_
          try simp only [Act.put, List.setIfInBounds_toArray, List.set_cons_zero, List.set_cons_succ]
          refine wpAnyH_take (i := 1) (v := ?_) rfl (by kernel_rfl) (by kernel_rfl) (by kernel_rfl) (QP_put 15 _ (by decide) (by decide)) (Or.inl ⟨by rfl, ?_⟩) (by assumption) ?_
          rotate_left
          · intro w hSw
            go_simp
            with_reducible rfl
          try simp only [Act.put, List.setIfInBounds_toArray, List.set_cons_zero, List.set_cons_succ]
          refine wpAnyH_ready (rs := [0]) (by kernel_rfl) (by simp) ?_
          refine AllReadyH.cons rfl (fun K hK => ?_) AllReadyH.nil
          go_simp
          refine (rules_calls _).mono ?_
          rintro e X ⟨rfl, hb⟩
          dsimp only
          have BX := Lib.hid (below_then DX.out hb)
          refine hK.out _ _ ⟨cell_on BX.out x0, cell_on BX.out x1, cell_on BX.out y0, cell_on BX.out y1⟩ (fun hHeld => ?_)
          clear hK K hb
          try simp only [Act.put, List.setIfInBounds_toArray, List.set_cons_zero, List.set_cons_succ]
          refine wpAnyH_take (i := 2) (v := ?_) rfl (by kernel_rfl) (by kernel_rfl) (by kernel_rfl) (QP_put 16 _ (by decide) (by decide)) (Or.inl ⟨by rfl, ?_⟩) (by assumption) ?_
          rotate_left
          · intro w hSw
            go_simp
            with_reducible rfl
          try simp only [Act.put, List.setIfInBounds_toArray, List.set_cons_zero, List.set_cons_succ]
          refine wpAnyH_take (i := 3) (v := ?_) rfl (by kernel_rfl) (by kernel_rfl) (by kernel_rfl) (QP_put 17 _ (by decide) (by decide)) (Or.inl ⟨by rfl, ?_⟩) (by assumption) ?_
          rotate_left
          · intro w hSw
            go_simp
            with_reducible rfl
          try simp only [Act.put, List.setIfInBounds_toArray, List.set_cons_zero, List.set_cons_succ]
          refine wpAnyH_ready (rs := [6]) (by kernel_rfl) (by simp) ?_
          refine AllReadyH.cons rfl (fun K hK => ?_) AllReadyH.nil
          go_simp
          refine (HOP.out _ _ _ (HBo.out.hx.below BX.out) (HBo.out.hy.below BX.out)).mono ?_
          rintro e X6 hpost
          obtain ⟨hlen, v, rfl, ⟨fa, fn, fc, fp, rfl⟩, hW, hb⟩ := hpost
          dsimp only
          have BX6 := Lib.hid (below_then BX.out hb)
          have HW6 := Lib.hid hW
          have HLEN := Lib.hid hlen
          refine hK.out _ _ ⟨cell_on BX6.out x0, cell_on BX6.out x1, cell_on BX6.out y0, cell_on BX6.out y1⟩ (fun hHeld => ?_)
          clear hK K hb hW hlen
          try simp only [Act.put, List.setIfInBounds_toArray, List.set_cons_zero, List.set_cons_succ]
          refine wpAnyH_ready (rs := [7]) (by kernel_rfl) (by simp) ?_
          refine AllReadyH.cons rfl (fun K hK => ?_) AllReadyH.nil
          go_simp
          refine (val_limit _ z _ HW6.out (HEX.out.below BX6.out) HLEN.out (by omega)).mono ?_
          rintro e X7 ⟨rfl, hb⟩
          exact ⟨rfl, rfl, rfl, rfl, HO.out.below (below_then BX6.out hb)⟩
end Go.Proofs.YthjpbbbmnmhmmaaGreatDoor
