import Derived.Test.YthjpbbbmnmhmmaaGreatDoorA4
set_option linter.unusedVariables false
set_option linter.unusedSimpArgs false
namespace Go.Proofs.YthjpbbbmnmhmmaaGreatDoor
open Go.RowKit Go.Shelf
attribute [local go_sem] Oper.semAt_some

theorem take_succ_rd {xs : List Int} {k : Nat} (h : k < xs.length) : xs.take (k + 1) = xs.take k ++ [rd xs k] := by
  rw [List.take_succ_eq_append_getElem h, rd_lt h]

set_option maxRecDepth 100000 in
set_option maxHeartbeats 2000000 in
theorem values1_ints (n : Nat) (hn : 1 ≤ n) (l Bs n₀ : Nat) (sv : Value) (zs : List Int) (J Jx : List Int → World → Prop)
    (hY : ∀ pre x W, J pre W → pre.length < zs.length → YieldAt Fence.wide (n - 1) Tryz.prog l #[.int .i64 x] W fun e W' =>
      (e = .returned (.bool true) ∧ J (pre ++ [x]) W' ∧ Below n₀ W W') ∨ (e = .returned (.bool false) ∧ Jx (pre ++ [x]) W'))
    (W : World) (hBs : W.cell? ⟨Bs, 0, none⟩ = some sv) (w0 : World) (hn₀ : n₀ = w0.heap.size) (hw0 : Below n₀ w0 W) (hI : RI w0 sv zs) (h0 : J [] W) :
    CallsIn Fence.wide n Tryz.prog 110 #[.func (.yield l) #[] #[], .pointer (some ⟨Bs, 0, none⟩)] W fun e W' => (∃ v, e = .returned v) ∧
      ((∃ ys, ys = zs ∧ J ys W') ∨ (∃ pre, pre <+: zs ∧ Jx pre W')) := by
  obtain ⟨a, cap, rfl, hl, hc⟩ := hI
  have HC := Lib.hid hc
  have HN := Lib.hid hn₀
  clear hc hn₀
  refine callsIn_of_wp Tryz.func110 rfl trivial ?_ rfl
  simp only [Tryz.ntmps110, List.size_toArray, List.length_cons, List.length_nil, Nat.reduceAdd, Nat.reduceSub, Array.replicate_succ, Array.replicate_zero, List.push_toArray, List.append_toArray, List.nil_append, List.cons_append]
  gi_wp2
  gi_loopw [7] (fun i wr => ∃ k : Nat, k ≤ zs.length ∧ i = .int .i64 k ∧ J (zs.take k) wr ∧ Below n₀ W wr)
    (fun i _ => zs.length - (intOf i).toNat)
  case atStart => exact ⟨0, Nat.zero_le _, rfl, h0, Below.refl _ _⟩
  case round =>
    obtain ⟨k, hk, rfl, hJs, hnx⟩ := hrel
    by_cases hlt : k < zs.length
    · obtain ⟨b, off, rfl, hc⟩ := HC.out (by intro e; subst e; simp at hlt)
      have hck := hc k hlt
      have hcx' : wr.cell? ⟨b, off + k, none⟩ = some (.int .i64 (rd zs k)) := ((hw0.trans hnx).cell (p := ⟨b, off + k, none⟩) (by rw [HN.out]; exact World.block_lt_of_cell? w0 _ hck)).trans hck
      clear hc hck
      obtain ⟨fn, tmps, assign, body, hy, hR⟩ := hY _ (rd zs k) wr hJs (by rw [List.length_take]; omega)
      gi_wp2
      refine hR.mono ?_
      rintro e W3 (⟨rfl, hJ3, hk3⟩ | ⟨rfl, hJx3⟩)
      · gi_wp2
        go_roundw
        case rel => exact ⟨k + 1, by omega, by simp, by rw [take_succ_rd hlt]; exact hJ3, hnx.trans hk3⟩
        case measure => simp [intOf]; omega
      · gi_wp2
        refine bodyPost_ret (results_none rfl _ _ _) rfl ?_
        exact ⟨⟨_, rfl⟩, .inr ⟨_, by rw [← take_succ_rd hlt]; exact List.take_prefix _ _, hJx3⟩⟩
    · obtain rfl : k = zs.length := by omega
      gi_wp2
      go_end0
      exact ⟨⟨_, rfl⟩, .inl ⟨_, rfl, by simpa using hJs⟩⟩

theorem values_ints (sv : Value) (zs : List Int) (w : World) (h : RI w sv zs) :
    Calls Tryz.prog 84 #[sv] w fun e w' => ∃ fv, e = .returned fv ∧ IterI w.heap.size w' fv zs ∧ Below w.heap.size w w' := by
  have H := Lib.hid h
  obtain ⟨a, cap, rfl, _⟩ := h
  have fin : Hid (IterI w.heap.size (w.alloc (.cells #[.slice a zs.length cap] 49)) (.func (.func 110) #[] #[.pointer (some ⟨w.heap.size, 0, none⟩)]) zs) := by
    refine Lib.hid ⟨_, _, rfl, enters_of Tryz.func110 (by kernel_rfl) rfl, fun n hn l J Jx W hW _ _ hY h0 => ?_⟩
    have hb : Below w.heap.size w (w.alloc (.cells #[.slice a zs.length cap] 49)) := (Below.refl _ w).alloc (Nat.le_refl _) _
    have hbx := (Boxed.new w 49 (.slice a zs.length cap)).cell
    exact values1_ints n (by omega) l w.heap.size w.heap.size _ zs J Jx hY W ((hW.cell (p := ⟨w.heap.size, 0, none⟩) (by simp)).trans hbx) w rfl (hb.trans (hW.mono (by simp))) H.out h0
  go_enter Tryz.func84, Tryz.ntmps84
  go_wp2_with fail
  have hmf : ∀ (fn : Fn) (first cap : Array Value) (w : World), (Instr.makeFunc fn first cap).run Tryz.prog w = .ok (.func fn first cap) w := fun _ _ _ _ => rfl
  go_wp2_with fail
  go_ret
  exact ⟨_, rfl, fin.out, (Below.refl _ w).alloc (Nat.le_refl _) _⟩

set_option maxRecDepth 100000 in
set_option maxHeartbeats 2000000 in
theorem values1_digits (n : Nat) (hn : 1 ≤ n) (l Bs n₀ : Nat) (sv : Value) (zs : List Int) (J Jx : List Int → World → Prop)
    (hY : ∀ pre x W, J pre W → pre.length < zs.length → YieldAt Fence.wide (n - 1) Tryz.prog l #[.int .i64 x] W fun e W' =>
      (e = .returned (.bool true) ∧ J (pre ++ [x]) W' ∧ Below n₀ W W') ∨ (e = .returned (.bool false) ∧ Jx (pre ++ [x]) W'))
    (W : World) (hBs : W.cell? ⟨Bs, 0, none⟩ = some sv) (w0 : World) (hn₀ : n₀ = w0.heap.size) (hw0 : Below n₀ w0 W) (hI : RI w0 sv zs) (h0 : J [] W) :
    CallsIn Fence.wide n Tryz.prog 113 #[.func (.yield l) #[] #[], .pointer (some ⟨Bs, 0, none⟩)] W fun e W' => (∃ v, e = .returned v) ∧
      ((∃ ys, ys = zs ∧ J ys W') ∨ (∃ pre, pre <+: zs ∧ Jx pre W')) := by
  obtain ⟨a, cap, rfl, hl, hc⟩ := hI
  have HC := Lib.hid hc
  have HN := Lib.hid hn₀
  clear hc hn₀
  refine callsIn_of_wp Tryz.func113 rfl trivial ?_ rfl
  simp only [Tryz.ntmps113, List.size_toArray, List.length_cons, List.length_nil, Nat.reduceAdd, Nat.reduceSub, Array.replicate_succ, Array.replicate_zero, List.push_toArray, List.append_toArray, List.nil_append, List.cons_append]
  gi_wp2
  gi_loopw [7] (fun i wr => ∃ k : Nat, k ≤ zs.length ∧ i = .int .i64 k ∧ J (zs.take k) wr ∧ Below n₀ W wr)
    (fun i _ => zs.length - (intOf i).toNat)
  case atStart => exact ⟨0, Nat.zero_le _, rfl, h0, Below.refl _ _⟩
  case round =>
    obtain ⟨k, hk, rfl, hJs, hnx⟩ := hrel
    by_cases hlt : k < zs.length
    · obtain ⟨b, off, rfl, hc⟩ := HC.out (by intro e; subst e; simp at hlt)
      have hck := hc k hlt
      have hcx' : wr.cell? ⟨b, off + k, none⟩ = some (.int .i64 (rd zs k)) := ((hw0.trans hnx).cell (p := ⟨b, off + k, none⟩) (by rw [HN.out]; exact World.block_lt_of_cell? w0 _ hck)).trans hck
      clear hc hck
      obtain ⟨fn, tmps, assign, body, hy, hR⟩ := hY _ (rd zs k) wr hJs (by rw [List.length_take]; omega)
      gi_wp2
      refine hR.mono ?_
      rintro e W3 (⟨rfl, hJ3, hk3⟩ | ⟨rfl, hJx3⟩)
      · gi_wp2
        go_roundw
        case rel => exact ⟨k + 1, by omega, by simp, by rw [take_succ_rd hlt]; exact hJ3, hnx.trans hk3⟩
        case measure => simp [intOf]; omega
      · gi_wp2
        refine bodyPost_ret (results_none rfl _ _ _) rfl ?_
        exact ⟨⟨_, rfl⟩, .inr ⟨_, by rw [← take_succ_rd hlt]; exact List.take_prefix _ _, hJx3⟩⟩
    · obtain rfl : k = zs.length := by omega
      gi_wp2
      go_end0
      exact ⟨⟨_, rfl⟩, .inl ⟨_, rfl, by simpa using hJs⟩⟩

theorem values_digits (sv : Value) (zs : List Int) (w : World) (h : RI w sv zs) :
    Calls Tryz.prog 87 #[sv] w fun e w' => ∃ fv, e = .returned fv ∧ IterI w.heap.size w' fv zs ∧ Below w.heap.size w w' := by
  have H := Lib.hid h
  obtain ⟨a, cap, rfl, _⟩ := h
  have fin : Hid (IterI w.heap.size (w.alloc (.cells #[.slice a zs.length cap] 60)) (.func (.func 113) #[] #[.pointer (some ⟨w.heap.size, 0, none⟩)]) zs) := by
    refine Lib.hid ⟨_, _, rfl, enters_of Tryz.func113 (by kernel_rfl) rfl, fun n hn l J Jx W hW _ _ hY h0 => ?_⟩
    have hb : Below w.heap.size w (w.alloc (.cells #[.slice a zs.length cap] 60)) := (Below.refl _ w).alloc (Nat.le_refl _) _
    have hbx := (Boxed.new w 60 (.slice a zs.length cap)).cell
    exact values1_digits n (by omega) l w.heap.size w.heap.size _ zs J Jx hY W ((hW.cell (p := ⟨w.heap.size, 0, none⟩) (by simp)).trans hbx) w rfl (hb.trans (hW.mono (by simp))) H.out h0
  go_enter Tryz.func87, Tryz.ntmps87
  go_wp2_with fail
  have hmf : ∀ (fn : Fn) (first cap : Array Value) (w : World), (Instr.makeFunc fn first cap).run Tryz.prog w = .ok (.func fn first cap) w := fun _ _ _ _ => rfl
  go_wp2_with fail
  go_ret
  exact ⟨_, rfl, fin.out, (Below.refl _ w).alloc (Nat.le_refl _) _⟩
end Go.Proofs.YthjpbbbmnmhmmaaGreatDoor
