import Derived.Test.YthjpbbbmnmhmmaaGreatDoorA8
import Derived.Deep.Upon
set_option linter.unusedVariables false
set_option linter.unusedSimpArgs false
namespace Go.Proofs.YthjpbbbmnmhmmaaGreatDoor
open Go.RowKit Go.Shelf

/-- An append whose run is known. -/
theorem wpList_append_run {P : Program} {w : World} {ops : Array Oper} {rest : List Oper} {o : Oper} {a : Act} {Q : Exit → Act → World → Prop} (hgd : o.guard = none) (s x : Operand) (t tx : TypeId)
    (ho : o.op = .call { callee := .builtin .append, args := #[s, x], argTypes := #[t, tx] }) (v u v' : Value) (w' : World) (hs : a.eval s = v) (hx : a.eval x = u)
    (hr : (Builtin.append_ #[t, tx] o.type #[v, u]).run P w = .ok v' w') (h : wpList P ops Q rest (a.put o.dst v') w') : wpList P ops Q (o :: rest) a w :=
  wpList_plain hgd fun _ hK => by
    unfold Oper.wp execOp
    simp only [ho, resolve, invoke, builtin, Sem.run_bind, Sem.run_pure, Result.andThen_ok, List.map_toArray, List.map_cons, List.map_nil, hs, hx, hr]
    exact hK _ _ h

theorem add_off (b off j : Nat) : (⟨b, off, none⟩ : Addr).add j = ⟨b, off + j, none⟩ := by unfold Addr.add; split <;> simp_all

/-- What a slice that reads as ints gives as the second argument of an append. -/
theorem src_of_RI {w : World} {sv : Value} {zs : List Int} (h : RI w sv zs) {tx e' : TypeId} (hk : Tryz.prog.underlying tx = some (.slice e')) : Src Tryz.prog 1 tx sv zs.length (zs.map (Value.int .i64)) w := by
  obtain ⟨a, cap, rfl, hl, hc⟩ := h
  have h1 : ∀ u ∈ zs.map (Value.int .i64), u.oneCell' = true := fun u hu => by
    obtain ⟨z, _, rfl⟩ := List.mem_map.1 hu; rfl
  by_cases hz : zs = []
  · subst hz
    cases a with
    | none => exact Src.ofNil w hk cap
    | some a => exact Src.ofSlice w hk a 0 cap [] rfl (fun j u hu => by simp at hu) (fun u hu => by cases hu)
  · obtain ⟨b, off, rfl, hc'⟩ := hc hz
    refine Src.ofSlice w hk _ _ cap _ (by simp) (fun j u hu => ?_) h1
    rw [add_off]
    have hj : j < zs.length := by
      by_cases e : j < zs.length
      · exact e
      · rw [List.getElem?_eq_none (by simp; omega)] at hu; cases hu
    rw [hc' j hj]
    simp [List.getElem?_eq_getElem hj] at hu
    rw [← hu, rd_lt hj]

/-- 'append([]int{x}, r...)'. -/
theorem run_append_fresh (W : World) (g : Nat) (x : Int) (sv : Value) (zs : List Int) (hg : W.cell? ⟨g, 0, none⟩ = some (.int .i64 x)) (h : RI W sv zs) (hz : zs.length ≤ 10000) :
    ∃ v' w', (Builtin.append_ #[49, 60] 49 #[.slice (some ⟨g, 0, none⟩) 1 1, sv]).run Tryz.prog W = .ok v' w' ∧ RI w' v' (x :: zs) ∧ Below W.heap.size W w' := by
  obtain ⟨i0, hi, hz0, hz1, hz2⟩ := info_parts infoInt
  have hs := src_of_RI h Tryz.underlying60
  by_cases h0 : zs = []
  · subst h0
    refine ⟨_, _, run_append_nothing W 49 60 49 3 i0 Tryz.underlying49 hi (some ⟨g, 0, none⟩) 1 1 (Nat.le_refl _) sv (by rw [hz1]; exact hs), ⟨_, 1, rfl, by simp, fun _ => ⟨g, 0, rfl, fun j hj => ?_⟩⟩, Below.refl _ _⟩
    have : j = 0 := by simpa using hj
    subst this; simpa [rd] using hg
  · have hlp : 0 < zs.length := List.length_pos_iff.2 h0
    have hold : (Builtin.firstCells i0.size 1 (.slice (some ⟨g, 0, none⟩) 1 1)).run Tryz.prog W.drew = .ok [Value.int .i64 x].toArray W.drew := by
      rw [hz1]
      exact run_firstCells_some W.drew 1 1 ⟨g, 0, none⟩ 1 1 [.int .i64 x] rfl (fun j u hu => by
        cases j with
        | zero => simp at hu; subst hu; simpa [Addr.add] using hg
        | succ j => simp at hu)
    have hrun := run_append_grow_src (P := Tryz.prog) W 49 60 49 3 i0 (.int .i64 0) Tryz.underlying49 hi hz0 (some ⟨g, 0, none⟩) 1 1 _ hold sv zs.length (zs.map (Value.int .i64)) (by rw [hz1]; exact hs) (by omega) (by omega) (growslice_fits (by omega) (by rw [hz2]; omega))
    refine ⟨_, _, hrun, ?_, (Below.refl _ W).drew.alloc (Nat.le_refl _) _⟩
    refine ⟨_, grownCap W (1 + zs.length) 1 3, by rw [List.length_cons, Nat.add_comm], by simp; omega, fun _ => ⟨W.heap.size, 0, rfl, fun j hj => ?_⟩⟩
    have hnew := World.alloc_heap_new W.drew (.cells (([Value.int .i64 x] ++ zs.map (Value.int .i64)).toArray ++ Builtin.zeroCells (Value.int .i64 0).cells (grownCap W (1 + zs.length) 1 3 - (1 + zs.length))) 3)
    simp only [World.cell?, Nat.zero_add]
    rw [show W.heap.size = W.drew.heap.size from rfl, hnew]
    simp only [Option.isSome_none, Bool.false_eq_true, if_false]
    have hj' : j < zs.length + 1 := by simpa using hj
    rw [Array.getElem?_append_left (by simp; omega)]
    cases j with
    | zero => simp [rd]
    | succ j => simp [rd, List.getElem?_eq_getElem (show j < zs.length by omega)]
end Go.Proofs.YthjpbbbmnmhmmaaGreatDoor
