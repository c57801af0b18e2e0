import Derived.Test.YthjpbbbmnmhmmaaGreatDoorA21
import Derived.Defers
import Derived.Recover
import Derived.Laws.EntriesVeiled
set_option linter.unusedVariables false
set_option linter.unusedSimpArgs false
namespace Go.Proofs.YthjpbbbmnmhmmaaGreatDoor
open Go.RowKit Go.Shelf Go.Lib

set_option maxRecDepth 100000 in
set_option maxHeartbeats 4000000 in
theorem rules_calls (w : World) :
    Calls Tryz.prog 77 #[] w fun e w' => e = .returned (.agg #[.func (.func 99) #[] #[], .func (.func 100) #[] #[], .func (.func 101) #[] #[], .func (.func 102) #[] #[], .func (.func 104) #[] #[], .func (.func 105) #[] #[]]) ∧ Below w.heap.size w w' := by
  go_enter Tryz.func77, Tryz.ntmps77
  go_wp2_with fail
  refine bodyPost_ret (v := .agg #[.func (.func 99) #[] #[], .func (.func 100) #[] #[], .func (.func 101) #[] #[], .func (.func 102) #[] #[], .func (.func 104) #[] #[], .func (.func 105) #[] #[]]) (by simp [results, Tryz.results77, go_sem, *]) rfl ?_
  exact ⟨rfl, (Below.refl _ _).alloc (Nat.le_refl _) _⟩

set_option maxRecDepth 100000 in
set_option maxHeartbeats 1000000 in
/-- The deferred call of a frame that returns turns nothing. -/
theorem caught_idle (p q : Addr) (w : World) :
    CallsD Tryz.prog 50 #[.pointer (some p), .pointer (some q)] .returning w fun e u' w' => e = .returned (.tuple #[]) ∧ u' = .returning ∧ w' = w := by
  refine callsD_of_wpS Tryz.func50 rfl fun c₀ cs hu => ?_
  apply wpS_seq
  apply wpS_region
  simp [wpOpsS, go_sem, recoverD, hu, Tryz.ntmps50, Exit.thenS]
  refine wpS_of_wp ?_
  simp only [List.size_toArray, List.length_cons, List.length_nil, Nat.reduceAdd, Nat.reduceSub, Array.replicate_succ, Array.replicate_zero, List.push_toArray, List.append_toArray, List.nil_append, List.cons_append, List.setIfInBounds_toArray, List.set_cons_succ, List.set_cons_zero]
  refine Code.wp_mono (Q := fun e a' w' => e = .normal ∧ a'.defers = [] ∧ w' = w) ?_ ?_
  · rintro e a' w' ⟨rfl, h1, rfl⟩
    cases c₀
    simp_all [bodyPostS, results, Tryz.results50]
  go_wp2_with fail

theorem assert_bad (v : Value) (W : World) : (Instr.typeAssert (.iface 96 v) 20 96 true).run Tryz.prog W = .ok (.tuple #[v, .bool true]) W := by kernel_rfl

/-- What the two results' variables hold. -/
structure ResVE (W : World) (gv ge : Nat) (k n e : Int) (t : List UInt8) : Prop where
  v0 : W.cell? ⟨gv, 0, none⟩ = some (.int .i64 k)
  v1 : W.cell? ⟨gv, 1, none⟩ = some (.int .i64 n)
  v2 : W.cell? ⟨gv, 2, none⟩ = some (.string ⟨t.toArray⟩)
  e0 : W.cell? ⟨ge, 0, none⟩ = some (.int .i64 e)

set_option maxRecDepth 100000 in
set_option maxHeartbeats 1000000 in
/-- The deferred call of a frame that panics with an error of the document's: it is recovered; the results are laid. -/
theorem caught_panicking (gv ge B : Nat) (n : Int) (w : World) (hv : ResV w gv) (c0 : w.cell? ⟨ge, 0, none⟩ = some (.int .i64 0)) (f0 : w.frozen? ⟨ge, 0, none⟩ = false) (hlt : ge < w.heap.size) (hne : ¬ gv = ge) (hB : B ≤ gv ∧ B ≤ ge) :
    CallsD Tryz.prog 50 #[.pointer (some ⟨gv, 0, none⟩), .pointer (some ⟨ge, 0, none⟩)] (.panicking (badV n)) w fun e u' w' => e = .returned (.tuple #[]) ∧ (∃ x, u' = .panicking [{ v := x, recovered := true }]) ∧
      ResVE w' gv ge 0 0 n [] ∧ Below B w w' := by
  refine callsD_of_wpS Tryz.func50 rfl fun c₀ cs hu => ?_
  have d0 := hv.c0; have d1 := hv.c1; have d2 := hv.c2; have e0 := hv.f0; have e1 := hv.f1; have e2 := hv.f2; have e3 := hv.lt
  have HB := Lib.hid hB
  unfold badV at hu
  clear hv hB
  have hne' : ¬ ge = gv := fun h => hne h.symm
  apply wpS_seq
  apply wpS_region
  simp [wpOpsS, go_sem, recoverD, hu, Tryz.ntmps50, Exit.thenS]
  refine wpS_of_wp ?_
  simp only [List.size_toArray, List.length_cons, List.length_nil, Nat.reduceAdd, Nat.reduceSub, Array.replicate_succ, Array.replicate_zero, List.push_toArray, List.append_toArray, List.nil_append, List.cons_append, List.setIfInBounds_toArray, List.set_cons_succ, List.set_cons_zero]
  refine Code.wp_mono (Q := fun e a' w' => e = .normal ∧ a'.defers = [] ∧ ResVE w' gv ge 0 0 n [] ∧ Below B w w') ?_ ?_
  · rintro e a' w' ⟨rfl, h1, h2, h3⟩
    cases c₀
    simp_all [bodyPostS, results, Tryz.results50]
  have hta := assert_bad
  go_wp2_with fail
  go_region
  have hB1 := HB.out.1; have hB2 := HB.out.2
  refine ⟨rfl, rfl, ⟨?_, ?_, ?_, ?_⟩, ?_⟩
  · go_simp
  · go_simp
  · go_simp
  · go_simp
  · exact (((((Below.refl B w).setCell (p := ⟨gv, 0, none⟩) hB1 _).setCell (p := ⟨gv, 1, none⟩) hB1 _).setCell (p := ⟨gv, 2, none⟩) hB1 _).setCell (p := ⟨ge, 0, none⟩) hB2 _).alloc (by simp; omega) _ |>.drew
end Go.Proofs.YthjpbbbmnmhmmaaGreatDoor
