import Derived.Test.YthjpbbbmnmhmmaaGreatDoorProg
import Derived.Test.YthjpbbbmnmhmmaaGreatDoorM1
import Derived.RangeFuncBox
import Derived.RangeFuncLeaves
import Derived.RangeFuncBound
import Derived.Shelf.Abstract
import Derived.WalkKit
import Derived.OwnWalkIn
import Derived.TacticsInMore
import Derived.LoopNIn
import Derived.LoopIn
import Derived.Maps.AppendAt
import Derived.KernelRfl
import Derived.Lib.Hide
import Derived.Deep.QuietTactic
import Derived.BigQuiet
import Derived.LoopTactic
import Derived.Below
import Derived.Outline
set_option linter.unusedVariables false
set_option linter.unusedSimpArgs false
namespace Go.Proofs.YthjpbbbmnmhmmaaGreatDoor
open Go.RowKit Go.Shelf

theorem ret_int {k : IntKind} {a b : Int} (h : a = b) : Ending.returned (.int k a) = .returned (.int k b) := by rw [h]
theorem ret_bool {a b : Bool} (h : a = b) : Ending.returned (.bool a) = .returned (.bool b) := by rw [h]

theorem below_drewN' (w : World) (n : Nat) : Below w.heap.size w (w.drewN n) := by
  induction n with
  | zero => exact Below.refl _ _
  | succ n ih => rw [← World.drew_drewN]; exact ih.drew
theorem drewN_on {B : Nat} {w W : World} (h : Below B w W) (n : Nat) : Below B w (W.drewN n) := by
  induction n with
  | zero => exact h
  | succ n ih => rw [← World.drew_drewN]; exact ih.drew
theorem drew_fresh (w : World) (n : Nat) : ∃ w2, w.drewN n = w2 ∧ Below w.heap.size w w2 := ⟨_, rfl, below_drewN' w n⟩
/-- What stands in a world stands behind a 'Below'. -/
theorem cell_on {W W' : World} {a : Addr} {v : Value} (hb : Below W.heap.size W W') (h : W.cell? a = some v) : W'.cell? a = some v := (hb.cell (World.block_lt_of_cell? W a h)).trans h
theorem below_then {A B C : World} (h : Below A.heap.size A B) (k : Below B.heap.size B C) : Below A.heap.size A C := h.trans (k.mono h.size)
theorem quiet_add_left {P : Program} {f : FuncId} {args : Array Value} {w : World} {a n : Nat} {v : Value}
    (h : Calls P f args (w.drewN (a + n)) fun e w' => e = .returned v ∧ w.drewN (a + n) = w') :
    Calls P f args (w.drewN (a + n)) fun e w'' => e = .returned v ∧ ∃ m, w'' = w.drewN (a + m) :=
  h.mono fun _ _ ⟨he, hm⟩ => ⟨he, n, hm.symm⟩
theorem quiet_left {P : Program} {f : FuncId} {args : Array Value} {w : World} {n : Nat} {v : Value}
    (h : Calls P f args (w.drewN n) fun e w' => e = .returned v ∧ w.drewN n = w') : Calls P f args (w.drewN n) fun e w'' => e = .returned v ∧ ∃ m, w'' = w.drewN m :=
  h.mono fun _ _ ⟨he, hm⟩ => ⟨he, n, hm.symm⟩

/-- A slice value that reads as a list of ints. -/
def RI (W : World) (sv : Value) (zs : List Int) : Prop :=
  ∃ a cap, sv = .slice a zs.length cap ∧ zs.length ≤ 1000000 ∧ (zs ≠ [] → ∃ b off, a = some ⟨b, off, none⟩ ∧ ∀ j, j < zs.length → W.cell? ⟨b, off + j, none⟩ = some (.int .i64 (rd zs j)))

theorem RI.nil (W : World) : RI W (.slice none 0 0) [] := ⟨none, 0, rfl, by simp, fun h => absurd rfl h⟩
theorem RI.below {W W' : World} {sv : Value} {zs : List Int} (h : RI W sv zs) (hb : Below W.heap.size W W') : RI W' sv zs := by
  obtain ⟨a, cap, e, hl, hc⟩ := h
  refine ⟨a, cap, e, hl, fun hz => ?_⟩
  obtain ⟨b, off, ha, hc⟩ := hc hz
  exact ⟨b, off, ha, fun j hj => (hb.cell (p := ⟨b, off + j, none⟩) (World.block_lt_of_cell? W _ (hc j hj))).trans (hc j hj)⟩
theorem RI.len {W : World} {sv : Value} {zs : List Int} (h : RI W sv zs) : zs.length ≤ 1000000 := by obtain ⟨_, _, _, h, _⟩ := h; exact h

theorem greatest_calls (a b : Int) (w : World) : Calls Tryz.prog 88 #[.int .i64 a, .int .i64 b] w fun e w' => e = .returned (.int .i64 (if a < b then b else a)) ∧ w = w' := by
  go_enter Tryz.func88, Tryz.ntmps88
  go_wp2
  all_goals go_ret
  · exact ⟨rfl, rfl⟩
  · exact ⟨rfl, rfl⟩

def cmpI (a b : Int) : Int := if a < b then -1 else if b < a then 1 else 0

theorem compareInt_calls (a b : Int) (w : World) : Calls Tryz.prog 91 #[.int .i64 a, .int .i64 b] w fun e w' => e = .returned (.int .i64 (cmpI a b)) ∧ w = w' := by
  go_enter Tryz.func91, Tryz.ntmps91
  go_wp2
  all_goals go_ret
  · exact ⟨ret_int (by unfold cmpI; rw [if_pos (by assumption)]), rfl⟩
  · exact ⟨ret_int (by unfold cmpI; rw [if_neg (by omega), if_pos (by omega)]), rfl⟩
  · exact ⟨ret_int (by unfold cmpI; rw [if_neg (by omega), if_neg (by omega)]), rfl⟩

theorem at_calls (sv : Value) (zs : List Int) (k : Nat) (w : World) (h : RI w sv zs) : Calls Tryz.prog 90 #[sv, .int .i64 k] w fun e w' => e = .returned (.int .i64 (rd zs k)) ∧ w = w' := by
  obtain ⟨a, cap, rfl, hl, hc⟩ := h
  by_cases hk : k < zs.length
  · obtain ⟨b, off, rfl, hc'⟩ := hc (by intro e; subst e; simp at hk)
    have hck := hc' k hk
    clear hc hc'
    go_enter Tryz.func90, Tryz.ntmps90
    go_wp2
    go_ret
    exact ⟨rfl, rfl⟩
  · clear hc
    have hk' : zs.length ≤ k := by omega
    go_enter Tryz.func90, Tryz.ntmps90
    go_wp2
    go_ret
    exact ⟨ret_int (by rw [rd_ge hk']), rfl⟩

theorem none_calls (sv : Value) (zs : List Int) (w : World) (h : RI w sv zs) : Calls Tryz.prog 78 #[sv] w fun e w' => e = .returned (.bool (decide (zs = []))) ∧ w = w' := by
  obtain ⟨a, cap, rfl, hl, hc⟩ := h
  clear hc
  go_enter Tryz.func78, Tryz.ntmps78
  go_wp2
  go_ret
  exact ⟨ret_bool (by cases zs <;> simp; omega), rfl⟩
end Go.Proofs.YthjpbbbmnmhmmaaGreatDoor
