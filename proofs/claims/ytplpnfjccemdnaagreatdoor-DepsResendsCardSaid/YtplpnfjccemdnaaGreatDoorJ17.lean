import Derived.Test.YtplpnfjccemdnaaGreatDoorProg
import Derived.RangeFuncBox
import Derived.RangeFuncLeaves
import Derived.RangeFuncBound
import Derived.Shelf.Abstract
import Derived.WalkKit
import Derived.OwnWalkIn
import Derived.TacticsInMore
import Derived.LoopNIn
import Derived.LoopIn
import Derived.Maps.AppendAt
import Derived.KernelRfl
import Derived.Lib.Hide
import Derived.Deep.QuietTactic
import Derived.BigQuiet
import Derived.LoopTactic
import Derived.Below
import Derived.Outline
import Derived.Lib.ItoaNum
import Derived.Lib.SlTrimSet
import Derived.Lib.AtoiAll
import Derived.Lib.ParseIntB
import Derived.Lib.ParseIntBCases
import Derived.Lib.ParseIntBTie
import Derived.Lib.AtoiTie
import Derived.Test.YtplpnfjccemdnaaGreatDoorSh
import Derived.Lib.AppendIntMem
import Derived.WalkSmall
set_option linter.unusedVariables false
set_option linter.unusedSimpArgs false
/- The texts M1 A1 A2 M2 M3 M4 M5 Sh2 A12 of the proof, laid one behind the other. -/
namespace Go.Proofs.YtplpnfjccemdnaaGreatDoor.Bg
def rd (zs : List Int) (k : Nat) : Int := zs[k]?.getD 0
theorem rd_lt {zs : List Int} {k : Nat} (h : k < zs.length) : rd zs k = zs[k] := by simp [rd, h]
def val : List Int -> Int
 | [] => 0
 | d :: ds => d + 1000000 * val ds
def InR (xs : List Int) : Prop := ∀ x ∈ xs, 0 <= x /\ x < 1000000
def dig (n : Nat) : List Int := if h : n = 0 then [] else ((n % 1000000 : Nat) : Int) :: dig (n / 1000000)
 termination_by n
 decreasing_by omega
theorem dig_zero : dig 0 = [] := by rw [dig]; simp
theorem dig_pos {n : Nat} (h : n ≠ 0) : dig n = ((n % 1000000 : Nat) : Int) :: dig (n / 1000000) := by rw [dig]; simp [h]
theorem val_dig (n : Nat) : val (dig n) = n := by
 induction n using Nat.strongRecOn with
 | _ n ih =>
  by_cases h : n = 0
  ·subst h; rw [dig_zero]; rfl
  ·rw [dig_pos h, val, ih (n / 1000000) (by omega)]; omega
theorem InR.nil : InR [] := fun x h => by cases h
theorem InR.cons {x : Int} {xs : List Int} (h : InR (x :: xs)) : (0 <= x /\ x < 1000000) /\ InR xs := ⟨h x (by simp), fun y hy => h y (by simp [hy])⟩
theorem InR.mk {x : Int} {xs : List Int} (h : 0 <= x /\ x < 1000000) (h' : InR xs) : InR (x :: xs) := fun y hy => by
 rcases List.mem_cons.1 hy with rfl | hy
 ·exact h
 ·exact h' y hy
theorem InR.take {xs : List Int} (h : InR xs) (k : Nat) : InR (xs.take k) := fun x hx => h x (List.mem_of_mem_take hx)
theorem InR.at {xs : List Int} (h : InR xs) (k : Nat) : 0 <= rd xs k /\ rd xs k < 1000000 := by
 unfold rd
 by_cases hk : k < xs.length
 ·have := h xs[k] (List.getElem_mem hk)
  simpa [List.getElem?_eq_getElem hk] using this
 ·simp [List.getElem?_eq_none (Nat.le_of_not_lt hk)]
theorem dig_inR (n : Nat) : InR (dig n) := by
 induction n using Nat.strongRecOn with
 | _ n ih =>
  by_cases h : n = 0
  ·subst h; rw [dig_zero]; exact InR.nil
  ·rw [dig_pos h]; exact InR.mk ⟨by omega, by omega⟩ (ih _ (by omega))
theorem val_nonneg {xs : List Int} (h : InR xs) : 0 <= val xs := by
 induction xs with
 | nil => simp [val]
 | cons x xs ih => have := ih h.cons.2; have := h.cons.1; simp only [val]; omega
theorem dig_val {xs : List Int} (h : InR xs) (hl : xs = [] \/ xs.getLast? ≠ some 0) : xs = dig (val xs).toNat := by
  induction xs with
  | nil => simp [val, dig_zero]
  | cons x xs ih =>
    have hx := h.cons.1
    have h0 := val_nonneg h.cons.2
    have hr : xs = dig (val xs).toNat := by
      refine ih h.cons.2 ?_
      cases xs with
      | nil => exact .inl rfl
      | cons y ys => refine .inr ?_; rcases hl with hl | hl; · cases hl
                     simpa [List.getLast?_cons_cons] using hl
    have hn : (val (x :: xs)).toNat ≠ 0 := by
      rcases hl with hl | hl
      · cases hl
      · cases xs with
        | nil => simp at hl; simp only [val]; omega
        | cons y ys =>
          have : (val (y :: ys)).toNat ≠ 0 := by
            intro e; rw [e, dig_zero] at hr; cases hr
          simp only [val] at this h0 ⊢; omega
    rw [dig_pos hn]
    have e1 : (((val (x :: xs)).toNat % 1000000 : Nat) : Int) = x := by simp only [val]; omega
    have e2 : (val (x :: xs)).toNat / 1000000 = (val xs).toNat := by simp only [val]; omega
    rw [e1, e2, <- hr]
theorem val_append (xs ys : List Int) : val (xs ++ ys) = val xs + 1000000 ^ xs.length * val ys := by
 induction xs with
 | nil => simp [val]
 | cons x xs ih => simp only [List.cons_append, val, ih, List.length_cons, Int.pow_succ]; rw [Int.mul_add, <- Int.mul_assoc, Int.mul_comm 1000000 (1000000 ^ _)]; omega
theorem dig_lt (n : Nat) : n < 1000000 ^ (dig n).length := by
 induction n using Nat.strongRecOn with
 | _ n ih =>
  by_cases h : n = 0
  ·subst h; rw [dig_zero]; simp
  ·rw [dig_pos h, List.length_cons, Nat.pow_succ]
   have := ih (n / 1000000) (by omega)
   omega
def cnt10 (x : Nat) : Nat := if h : x = 0 then 0 else 1 + cnt10 (x / 10)
 termination_by x
 decreasing_by omega
theorem cnt10_zero : cnt10 0 = 0 := by rw [cnt10]; simp
theorem cnt10_pos {x : Nat} (h : 0 < x) : cnt10 x = 1 + cnt10 (x / 10) := by rw [cnt10]; simp [Nat.pos_iff_ne_zero.1 h]
theorem cnt10_le (k : Nat) : ∀ n, n < 10 ^ k -> cnt10 n <= k := by
  induction k with
  | zero => intro n h; have : n = 0 := by simpa using h
            subst this; simp [cnt10_zero]
  | succ k ih =>
    intro n h
    by_cases h0 : n = 0
    · subst h0; simp [cnt10_zero]
    · rw [cnt10_pos (by omega)]
      have := ih (n / 10) (by rw [Nat.pow_succ] at h; omega)
      omega
def sizeD (zs : List Int) : Int := if zs = [] then 1 else 6 * ((zs.length : Int) - 1) + cnt10 (rd zs (zs.length - 1)).toNat
end Go.Proofs.YtplpnfjccemdnaaGreatDoor.Bg
namespace Go.Proofs.YtplpnfjccemdnaaGreatDoor.Bg
open Go.RowKit Go.Shelf
theorem ret_int {k : IntKind} {a b : Int} (h : a = b) : Ending.returned (.int k a) = .returned (.int k b) := by rw [h]
theorem ret_bool {a b : Bool} (h : a = b) : Ending.returned (.bool a) = .returned (.bool b) := by rw [h]
theorem cell_on {W W' : World} {a : Addr} {v : Value} (hb : Below W.heap.size W W') (h : W.cell? a = some v) : W'.cell? a = some v := (hb.cell (World.block_lt_of_cell? W a h)).trans h
theorem below_then {A B C : World} (h : Below A.heap.size A B) (k : Below B.heap.size B C) : Below A.heap.size A C := h.trans (k.mono h.size)
def RI (W : World) (sv : Value) (zs : List Int) : Prop :=
 ∃ a cap, sv = .slice a zs.length cap /\ zs.length <= 1000000 /\ (zs ≠ [] -> ∃ b off, a = some ⟨b, off, none⟩ /\ ∀ j, j < zs.length -> W.cell? ⟨b, off + j, none⟩ = some (.int .i64 (rd zs j)))
theorem RI.nil (W : World) : RI W (.slice none 0 0) [] := ⟨none, 0, rfl, by simp, fun h => absurd rfl h⟩
theorem RI.below {W W' : World} {sv : Value} {zs : List Int} (h : RI W sv zs) (hb : Below W.heap.size W W') : RI W' sv zs := by
 obtain ⟨a, cap, e, hl, hc⟩ := h
 refine ⟨a, cap, e, hl, fun hz => ?_⟩
 obtain ⟨b, off, ha, hc⟩ := hc hz
 exact ⟨b, off, ha, fun j hj => (hb.cell (p := ⟨b, off + j, none⟩) (World.block_lt_of_cell? W _ (hc j hj))).trans (hc j hj)⟩
theorem RI.len {W : World} {sv : Value} {zs : List Int} (h : RI W sv zs) : zs.length <= 1000000 := by obtain ⟨_, _, _, h, _⟩ := h; exact h
theorem greatest_calls (a b : Int) (w : World) : Calls Tryz.prog 238 #[.int .i64 a, .int .i64 b] w fun e w' => e = .returned (.int .i64 (if a < b then b else a)) /\ w = w' := by
 go_enter Tryz.func238, Tryz.ntmps238
 go_wp2
 all_goals go_ret
 ·exact ⟨rfl, rfl⟩
 ·exact ⟨rfl, rfl⟩
theorem none_calls (sv : Value) (zs : List Int) (w : World) (h : RI w sv zs) : Calls Tryz.prog 269 #[sv] w fun e w' => e = .returned (.bool (decide (zs = []))) /\ w = w' := by
 obtain ⟨a, cap, rfl, hl, hc⟩ := h
 clear hc
 go_enter Tryz.func269, Tryz.ntmps269
 go_wp2
 go_ret
 exact ⟨ret_bool (by cases zs <;> simp; omega), rfl⟩
end Go.Proofs.YtplpnfjccemdnaaGreatDoor.Bg
namespace Go.Proofs.YtplpnfjccemdnaaGreatDoor.Bg
open Go.RowKit Go.Shelf
theorem size_calls (sv : Value) (zs : List Int) (w : World) (h : RI w sv zs) (hr : InR zs) :
  Calls Tryz.prog 241 #[sv] w fun e w' => e = .returned (.int .i64 (sizeD zs)) /\ w = w' := by
 obtain ⟨r, Hr⟩ : ∃ r, Hid (sizeD zs = r) := ⟨_, Lib.hid rfl⟩
 rw [Hr.out]
 by_cases hz : zs = []
 ·subst hz
  have hn := fun w h => none_calls sv [] w h
  have H := Lib.hid h
  clear h
  go_enter Tryz.func241, Tryz.ntmps241
  go_wp2_with (go_at_call 269; refine (none_calls _ _ _ H.out).mono ?_; rintro e w' ⟨rfl, rfl⟩)
  go_ret
  exact ⟨ret_int (by rw [<- Hr.out]; rfl), rfl⟩
 ·have H := Lib.hid h
  obtain ⟨a, cap, rfl, hl, hc⟩ := h
  obtain ⟨b, off, rfl, hc'⟩ := hc hz
  have hlen : 0 < zs.length := List.length_pos_iff.2 hz
  obtain ⟨m, hm⟩ : ∃ m, zs.length = m + 1 := ⟨zs.length - 1, by omega⟩
  have hcm := hc' m (by omega)
  have hrm := InR.at hr m
  have Hm := Lib.hid hm
  have hmm : m <= 1000000 := by omega
  rw [hm] at H ⊢
  have HZ := Lib.hid hz
  clear hc hc' hm hz hlen hl hr
  have hfin : Hid (6 * (m : Int) + cnt10 (rd zs m).toNat = r) := by
   refine Lib.hid ?_
   rw [<- Hr.out]; unfold sizeD; rw [if_neg HZ.out, Hm.out]
   rw [show m + 1 - 1 = m from rfl]; omega
  have hx : Hid (rd zs m = ((rd zs m).toNat : Int)) := Lib.hid (by omega)
  have hx6 : Hid ((rd zs m).toNat < 1000000) := Lib.hid (by omega)
  have hdz : Hid (decide (zs = []) = false) := Lib.hid (by simp [HZ.out])
  go_enter Tryz.func241, Tryz.ntmps241
  go_wp2_with (go_at_call 269; refine (none_calls _ _ _ H.out).mono ?_; rw [hdz.out]; rintro e w' ⟨rfl, rfl⟩)
  rw [hx.out]
  obtain ⟨x0, hx0⟩ : ∃ x0, (rd zs m).toNat = x0 := ⟨_, rfl⟩
  rw [hx0] at hfin hx6 ⊢
  clear hcm hrm hx hx0
  go_loop [3, 4] (fun n x => ∃ (c : Int) (y : Nat), n = .int .i64 c /\ x = .int .i64 (y : Int) /\ Hid (c + cnt10 y = r) /\ Hid (y <= x0) /\ 0 <= c /\ c <= 6000000 + 10 - cnt10 y) (fun _ x => (intOf x).toNat)
  case atStart => exact ⟨_, x0, rfl, rfl, hfin, Lib.hid (Nat.le_refl _), by omega, by have := cnt10_le 6 x0 (by have := hx6.out; omega); omega⟩
  case round =>
   obtain ⟨c, y, rfl, rfl, hc, hy, hc0, hc1⟩ := hrel
   rcases Nat.eq_zero_or_pos y with rfl | hy0
   ·go_wp2
    go_ret
    exact ⟨ret_int (by rw [<- hc.out, cnt10_zero]; simp), rfl⟩
   ·have e := Lib.hid (cnt10_pos hy0)
    have hb1 : c <= 6000009 := by have := e.out; omega
    have hyb : (y : Int) < 1000000 := by have := hx6.out; have := hy.out; omega
    go_wp2
    go_round
    case rel => exact ⟨c + 1, y / 10, rfl, by go_num, Lib.hid (by have := hc.out; have := e.out; omega), Lib.hid (by have := hy.out; omega), by omega, by have := e.out; omega⟩
    case measure => simp [intOf]; omega
end Go.Proofs.YtplpnfjccemdnaaGreatDoor.Bg
namespace Go.Proofs.YtplpnfjccemdnaaGreatDoor.Bg
theorem rd_set_eq {zs : List Int} {j : Nat} (h : j < zs.length) (v : Int) : rd (zs.set j v) j = v := by simp [rd, h]
theorem rd_set_ne {zs : List Int} {j k : Nat} (h : j ≠ k) (v : Int) : rd (zs.set j v) k = rd zs k := by simp [rd, List.getElem?_set_ne h]
theorem val_set_add : ∀ (zs : List Int) (j : Nat) (d : Int), j < zs.length -> val (zs.set j (rd zs j + d)) = val zs + d * 1000000 ^ j
 | [], j, d, h => by simp at h
 | z :: zs, 0, d, h => by simp [rd, val]; omega
 | z :: zs, j + 1, d, h => by
  have := val_set_add zs j d (by simpa using h)
  simp only [List.set_cons_succ, val]
  have e : rd (z :: zs) (j + 1) = rd zs j := by simp [rd]
  rw [e, this, Int.pow_succ, Int.mul_add, Int.mul_comm (1000000 ^ j) 1000000, <- Int.mul_assoc d, Int.mul_comm d 1000000, Int.mul_assoc 1000000 d]
  omega
theorem val_take_succ {xs : List Int} {i : Nat} (h : i < xs.length) : val (xs.take (i + 1)) = val (xs.take i) + rd xs i * 1000000 ^ i := by
 rw [List.take_succ_eq_append_getElem h, val_append, List.length_take, Nat.min_eq_left (Nat.le_of_lt h), rd_lt h]
 simp [val, Int.mul_comm]
theorem val_replicate (n : Nat) : val (List.replicate n 0) = 0 := by
 induction n with
 | zero => rfl
 | succ n ih => simp [List.replicate_succ, val, ih]
structure Prods (xs ys : List Int) (i k : Nat) (zs : List Int) : Prop where
 len : zs.length = xs.length + ys.length
 v : val zs = val (xs.take i) * val ys + rd xs i * val (ys.take k) * 1000000 ^ i
 lo : ∀ j, 0 <= rd zs j
 hi : ∀ j, j < i + k -> rd zs j <= (i + 1 : Nat) * 1000000000000
 hj : ∀ j, i + k <= j -> rd zs j <= (i : Nat) * 1000000000000
theorem Prods.start (xs ys : List Int) : Prods xs ys 0 0 (List.replicate (xs.length + ys.length) 0) := by
 refine ⟨by simp, by simp [val_replicate, val], fun j => ?_, fun j h => absurd h (by omega), fun j _ => ?_⟩ <;>
 ·have : rd (List.replicate (xs.length + ys.length) (0 : Int)) j = 0 := by
   unfold rd; rw [List.getElem?_replicate]; split <;> rfl
  rw [this]; simp
theorem Prods.step {xs ys zs : List Int} {i k : Nat} (h : Prods xs ys i k zs) (hx : InR xs) (hy : InR ys) (hi : i < xs.length) (hk : k < ys.length) :
  Prods xs ys i (k + 1) (zs.set (i + k) (rd zs (i + k) + rd xs i * rd ys k)) := by
 have hl : i + k < zs.length := by have := h.len; omega
 have b1 := InR.at hx i
 have b2 := InR.at hy k
 have p0 : 0 <= rd xs i * rd ys k := Int.mul_nonneg b1.1 b2.1
 have p1 : rd xs i * rd ys k <= 1000000 * 1000000 := Int.mul_le_mul (by omega) (by omega) b2.1 (by decide)
 refine ⟨by simpa using h.len, ?_, fun j => ?_, fun j hj => ?_, fun j hj => ?_⟩
 ·rw [val_set_add _ _ _ hl, h.v, val_take_succ hk, Int.pow_add, Int.mul_add (rd xs i), Int.add_mul (rd xs i * val (List.take k ys)), Int.add_assoc,
   Int.mul_comm ((1000000 : Int) ^ i) (1000000 ^ k), <- Int.mul_assoc (rd xs i * rd ys k), <- Int.mul_assoc (rd xs i) (rd ys k)]
 ·by_cases e : i + k = j
  ·subst e; rw [rd_set_eq hl]; have := h.lo (i + k); omega
  ·rw [rd_set_ne e]; exact h.lo j
 ·by_cases e : i + k = j
  ·subst e; rw [rd_set_eq hl]; have := h.hj (i + k) (Nat.le_refl _); omega
  ·rw [rd_set_ne e]; exact h.hi j (by omega)
 ·rw [rd_set_ne (by omega)]; exact h.hj j (by omega)
theorem Prods.next {xs ys zs : List Int} {i : Nat} (h : Prods xs ys i ys.length zs) (hi : i < xs.length) : Prods xs ys (i + 1) 0 zs := by
 refine ⟨h.len, ?_, h.lo, fun j hj => ?_, fun j hj => ?_⟩
 ·rw [h.v, val_take_succ hi]; simp only [List.take_length, List.take_zero, val]; rw [Int.add_mul, Int.mul_assoc (rd xs i), Int.mul_comm (val ys), <- Int.mul_assoc (rd xs i)]; simp
 ·by_cases e : j < i + ys.length
  ·have := h.hi j e; omega
  ·have := h.hj j (by omega); omega
 ·by_cases e : j < i + ys.length
  ·have := h.hi j e; omega
  ·have := h.hj j (by omega); omega
theorem Prods.done {xs ys zs : List Int} (h : Prods xs ys xs.length 0 zs) : val zs = val xs * val ys := by
 rw [h.v]; simp [val]
end Go.Proofs.YtplpnfjccemdnaaGreatDoor.Bg
namespace Go.Proofs.YtplpnfjccemdnaaGreatDoor.Bg
end Go.Proofs.YtplpnfjccemdnaaGreatDoor.Bg
namespace Go.Proofs.YtplpnfjccemdnaaGreatDoor.Bg
open Go.Lib
theorem dig_drop (k : Nat) : ∀ n, (dig n).drop k = dig (n / 1000000 ^ k) := by
 induction k with
 | zero => intro n; simp
 | succ k ih =>
  intro n
  by_cases h : n = 0
  ·subst h; simp [dig_zero]
  ·rw [dig_pos h, List.drop_succ_cons, ih, Nat.div_div_eq_div_mul, Nat.pow_succ, Nat.mul_comm 1000000]
theorem dig_eq_nil {n : Nat} : dig n = [] ↔ n = 0 := by
 constructor
 ·intro h; by_cases e : n = 0
  ·exact e
  ·rw [dig_pos e] at h; cases h
 ·intro h; subst h; exact dig_zero
theorem top_pos {n k : Nat} (h : k < (dig n).length) : 0 < n / 1000000 ^ k := by
 rcases Nat.eq_zero_or_pos (n / 1000000 ^ k) with e | e
 ·have := dig_drop k n
  rw [e, dig_zero] at this
  have := congrArg List.length this
  simp at this; omega
 ·exact e
theorem rd_dig {n k : Nat} (h : k < (dig n).length) : rd (dig n) k = ((n / 1000000 ^ k % 1000000 : Nat) : Int) /\ n / 1000000 ^ k = (n / 1000000 ^ (k + 1)) * 1000000 + n / 1000000 ^ k % 1000000 := by
 have h1 := ((List.drop_eq_getElem_cons h).symm.trans (dig_drop k n)).trans (dig_pos (by have := top_pos h; omega))
 refine ⟨by rw [rd_lt h]; exact (List.cons.inj h1).1, ?_⟩
 rw [Nat.pow_succ, <- Nat.div_div_eq_div_mul]; omega
def pad : Nat -> Nat -> List UInt8
 | 0, _ => []
 | k + 1, d => pad k (d / 10) ++ [UInt8.ofNat (48 + d % 10)]
theorem pad_len (k : Nat) : ∀ d, (pad k d).length = k := by
 induction k with
 | zero => intro d; rfl
 | succ k ih => intro d; simp [pad, ih]
theorem pad_zero (k : Nat) : pad k 0 = List.replicate k 48 := by
 induction k with
 | zero => rfl
 | succ k ih => simp only [pad, Nat.zero_div, ih, List.replicate_succ']; rfl
theorem decDigits_pad (k : Nat) : ∀ A d, 0 < A -> d < 10 ^ k -> decDigits (A * 10 ^ k + d) = decDigits A ++ pad k d := by
  induction k with
  | zero => intro A d hA hd; have : d = 0 := by simpa using hd
            subst this; simp [pad]
  | succ k ih =>
    intro A d hA hd
    have h10 : ¬ A * 10 ^ (k + 1) + d < 10 := by
      have : 10 ^ (k + 1) <= A * 10 ^ (k + 1) := Nat.le_mul_of_pos_left _ hA
      have h2 : 0 < 10 ^ k := Nat.pow_pos (by decide)
      rw [Nat.pow_succ] at this ⊢; omega
    rw [decDigits, dif_neg h10]
    have e1 : (A * 10 ^ (k + 1) + d) / 10 = A * 10 ^ k + d / 10 := by rw [Nat.pow_succ, <- Nat.mul_assoc]; omega
    have e2 : (A * 10 ^ (k + 1) + d) % 10 = d % 10 := by rw [Nat.pow_succ, <- Nat.mul_assoc]; omega
    rw [e1, e2, ih A (d / 10) hA (by rw [Nat.pow_succ] at hd; omega), pad, List.append_assoc]
theorem decDigits_big {d : Nat} (hd : ¬ d < 10) : decDigits d = decDigits (d / 10) ++ [UInt8.ofNat (48 + d % 10)] := by
 conv => lhs; rw [decDigits, dif_neg hd]
theorem head_app {a b : List UInt8} (h : a ≠ []) : (a ++ b).head? = a.head? := by
 cases a with
 | nil => exact absurd rfl h
 | cons x a => rfl
theorem pad_small (k : Nat) : ∀ d, nDigits d <= k -> pad k d = List.replicate (k - nDigits d) 48 ++ decDigits d := by
 induction k with
 | zero => intro d h; have := nDigits_pos d; omega
 | succ k ih =>
  intro d h
  by_cases hd : d < 10
  ·rw [pad, show d / 10 = 0 by omega, pad_zero, nDigits_small hd, decDigits, dif_pos hd, show d % 10 = d by omega]; rfl
  ·rw [nDigits_big hd] at h ⊢
   rw [pad, ih _ (by omega), decDigits_big hd, List.append_assoc, show k + 1 - (nDigits (d / 10) + 1) = k - nDigits (d / 10) by omega]
theorem nDigits_pad {k A d : Nat} (hA : 0 < A) (hd : d < 10 ^ k) : nDigits (A * 10 ^ k + d) = nDigits A + k := by
 rw [<- decDigits_length, decDigits_pad k A d hA hd, List.length_append, decDigits_length, pad_len]
theorem nDigits_le {k d : Nat} (h : d < 10 ^ (k + 1)) : nDigits d <= k + 1 := by
 induction k generalizing d with
 | zero => rw [nDigits_small (by simpa using h)]; omega
 | succ k ih =>
  by_cases h10 : d < 10
  ·rw [nDigits_small h10]; omega
  ·rw [nDigits_big h10]
   have := ih (d := d / 10) (by rw [Nat.pow_succ] at h; omega)
   omega
theorem cnt10_eq : ∀ x, 0 < x -> cnt10 x = nDigits x := by
 intro x
 induction x using Nat.strongRecOn with
 | _ x ih =>
  intro h
  rw [cnt10_pos h]
  by_cases h10 : x < 10
  ·rw [nDigits_small h10, show x / 10 = 0 by omega, cnt10_zero]
  ·rw [nDigits_big h10, ih (x / 10) (by omega) (by omega)]; omega
theorem pow_six (k : Nat) : (1000000 : Nat) ^ k = 10 ^ (6 * k) := by rw [Nat.pow_mul]
theorem sizeD_dig (n : Nat) : sizeD (dig n) = nDigits n := by
 unfold sizeD
 by_cases h : n = 0
 ·subst h; rw [dig_zero, if_pos rfl, nDigits_small (by omega)]; rfl
 ·have hne : dig n ≠ [] := fun e => h (dig_eq_nil.1 e)
  rw [if_neg hne]
  have hl : 0 < (dig n).length := List.length_pos_iff.2 hne
  obtain ⟨m, hm⟩ : ∃ m, (dig n).length = m + 1 := ⟨(dig n).length - 1, by omega⟩
  rw [hm, show m + 1 - 1 = m from rfl]
  have hr := rd_dig (n := n) (k := m) (by omega)
  have ht := top_pos (n := n) (k := m) (by omega)
  have hz : n / 1000000 ^ (m + 1) = 0 := by
   have := dig_drop (m + 1) n
   rw [List.drop_eq_nil_of_le (by omega)] at this
   exact dig_eq_nil.1 this.symm
  have hn : n = (n / 1000000 ^ m) * 10 ^ (6 * m) + n % 10 ^ (6 * m) := by rw [<- pow_six]; rw [Nat.mul_comm]; exact (Nat.div_add_mod n _).symm
  obtain ⟨hr1, hr2⟩ := hr
  rw [hz] at hr2
  obtain ⟨t, et⟩ : ∃ t, n / 1000000 ^ m = t := ⟨_, rfl⟩
  rw [et] at hr1 hr2 ht hn
  have e : t % 1000000 = t := by omega
  rw [hr1, e]
  have : nDigits n = nDigits t + 6 * m := by
   conv => lhs; rw [hn]
   exact nDigits_pad ht (Nat.mod_lt _ (Nat.pow_pos (by decide)))
  rw [this, Int.toNat_natCast, cnt10_eq _ ht]
  omega
def lim (n k : Nat) : Nat := n / 1000000 ^ k % 1000000
def upTo (n k : Nat) : Nat := n / 1000000 ^ k
theorem lim_lt (n k : Nat) : lim n k < 1000000 := Nat.mod_lt _ (by decide)
theorem upTo_succ (n k : Nat) : upTo n k = upTo n (k + 1) * 10 ^ 6 + lim n k := by
 unfold upTo lim; rw [Nat.pow_succ, <- Nat.div_div_eq_div_mul]; omega
theorem upTo_zero (n : Nat) : upTo n 0 = n := by simp [upTo]
theorem lim_top {n m : Nat} (h : (dig n).length = m + 1) : upTo n m = lim n m := by
 have hz : n / 1000000 ^ (m + 1) = 0 := by
  have := dig_drop (m + 1) n
  rw [List.drop_eq_nil_of_le (by omega)] at this
  exact dig_eq_nil.1 this.symm
 have := upTo_succ n m
 unfold upTo at this ⊢; rw [hz] at this; omega
theorem upTo_pos {n m k : Nat} (h : (dig n).length = m + 1) (hk : k <= m) : 0 < upTo n k := top_pos (by omega)
def dv (l : List UInt8) : Nat := l.foldl (fun a c => 10 * a + (c.toNat - 48)) 0
def AllD (l : List UInt8) : Prop := ∀ c ∈ l, 48 <= c.toNat /\ c.toNat <= 57
theorem foldl_dv (l : List UInt8) : ∀ a, l.foldl (fun a c => 10 * a + (c.toNat - 48)) a = a * 10 ^ l.length + dv l := by
 induction l with
 | nil => intro a; simp [dv]
 | cons c l ih =>
  intro a
  simp only [dv, List.foldl_cons, List.length_cons]
  rw [ih, ih (10 * 0 + _), Nat.pow_succ, Nat.add_mul]
  simp only [Nat.mul_zero, Nat.zero_add]
  rw [Nat.mul_comm 10 a, Nat.mul_assoc, Nat.mul_comm 10 (10 ^ l.length)]; omega
theorem dv_append (a b : List UInt8) : dv (a ++ b) = dv a * 10 ^ b.length + dv b := by
 conv => lhs; unfold dv
 rw [List.foldl_append, foldl_dv]; rfl
theorem dv_lt {l : List UInt8} (h : AllD l) : dv l < 10 ^ l.length := by
 induction l with
 | nil => simp [dv]
 | cons c l ih =>
  have h1 := h c (by simp)
  have h2 := ih (fun x hx => h x (by simp [hx]))
  have : dv (c :: l) = (c.toNat - 48) * 10 ^ l.length + dv l := by have := dv_append [c] l; simpa [dv] using this
  rw [this, List.length_cons, Nat.pow_succ]
  have h3 : (c.toNat - 48) * 10 ^ l.length <= 9 * 10 ^ l.length := Nat.mul_le_mul_right _ (by omega)
  omega
theorem dv_digits (n : Nat) : dv (decDigits n) = n := by
 induction n using Nat.strongRecOn with
 | _ n ih =>
  rw [decDigits]
  by_cases h : n < 10
  ·rw [dif_pos h]
   simp only [dv, List.foldl_cons, List.foldl_nil, UInt8.toNat_ofNat']
   omega
  ·rw [dif_neg h, dv_append, ih (n / 10) (by omega)]
   simp only [dv, List.foldl_cons, List.foldl_nil, List.length_singleton, UInt8.toNat_ofNat']
   omega
theorem allD_digits (n : Nat) : AllD (decDigits n) := by
 induction n using Nat.strongRecOn with
 | _ n ih =>
  rw [decDigits]
  by_cases h : n < 10
  ·rw [dif_pos h]; intro c hc; rw [List.mem_singleton] at hc; subst hc; rw [UInt8.toNat_ofNat']; omega
  ·rw [dif_neg h]; intro c hc
   rcases List.mem_append.1 hc with hc | hc
   ·exact ih _ (by omega) c hc
   ·rw [List.mem_singleton] at hc; subst hc; rw [UInt8.toNat_ofNat']; omega
theorem digits_ne_nil (n : Nat) : decDigits n ≠ [] := by
 intro h; have := decDigits_length n; rw [h] at this; have := nDigits_pos n; simp at *; omega
theorem digits_head {n : Nat} (h : (decDigits n).head? = some 48) : n = 0 := by
 induction n using Nat.strongRecOn with
 | _ n ih =>
  rw [decDigits] at h
  by_cases h10 : n < 10
  ·rw [dif_pos h10] at h
   simp only [List.head?_cons, Option.some.injEq] at h
   have := congrArg UInt8.toNat h
   simp only [UInt8.toNat_ofNat'] at this
   have e : (48 : UInt8).toNat = 48 := rfl
   omega
  ·rw [dif_neg h10, head_app (digits_ne_nil _)] at h
   have := ih (n / 10) (by omega) h; omega
theorem digits_dv {l : List UInt8} (h : AllD l) (hne : l ≠ []) (hz : l.head? = some 48 -> l = [48]) : decDigits (dv l) = l := by
 have key : ∀ m (l : List UInt8), l.length = m -> AllD l -> l ≠ [] -> (l.head? = some 48 -> l = [48]) -> decDigits (dv l) = l := by
  intro m
  induction m with
  | zero => intro l hl _ hne; exact absurd (List.eq_nil_of_length_eq_zero hl) hne
  | succ m ih =>
   intro l hl h hne hz
   obtain ⟨a, c, rfl⟩ : ∃ a c, l = a ++ [c] := ⟨l.dropLast, l.getLast hne, (List.dropLast_concat_getLast hne).symm⟩
   have hc := h c (by simp)
   have ha : AllD a := fun x hx => h x (by simp [hx])
   rw [dv_append]
   have e1 : dv [c] = c.toNat - 48 := by simp [dv]
   rw [e1, List.length_singleton, Nat.pow_one]
   have e2 : UInt8.ofNat (48 + (c.toNat - 48)) = c := by
    apply UInt8.toNat_inj.1; simp only [UInt8.toNat_ofNat']; omega
   by_cases ha0 : a = []
   ·subst ha0
    simp only [dv, List.foldl_nil, Nat.zero_mul, Nat.zero_add, List.nil_append]
    rw [decDigits, dif_pos (by omega), e2]
   ·have hza : a.head? = some 48 -> a = [48] := by
     intro hh
     have := hz (by rw [head_app ha0]; exact hh)
     have := congrArg List.length this
     simp at this; exact absurd this ha0
    have hpos : 0 < dv a := by
     rcases Nat.eq_zero_or_pos (dv a) with e | e
     ·have := ih a (by simpa using hl) ha ha0 hza
      rw [e, decDigits, dif_pos (by omega)] at this
      have hh : (a ++ [c]).head? = some 48 := by rw [head_app ha0, <- this]; rfl
      have := hz hh
      have := congrArg List.length this
      simp at this; exact absurd this ha0
     ·exact e
    rw [decDigits, dif_neg (by omega), show (dv a * 10 + (c.toNat - 48)) / 10 = dv a by omega, show (dv a * 10 + (c.toNat - 48)) % 10 = c.toNat - 48 by omega, ih a (by simpa using hl) ha ha0 hza, e2]
 exact key _ l rfl h hne hz
end Go.Proofs.YtplpnfjccemdnaaGreatDoor.Bg
namespace Go.Proofs.YtplpnfjccemdnaaGreatDoor.Bg
open Go.Lib
instance (l : List UInt8) : Decidable (AllD l) := inferInstanceAs (Decidable (∀ c ∈ l, _))
def unsign : List UInt8 -> List UInt8
 | 45 :: l => l
 | l => l
def readZ (s : List UInt8) : Option Int :=
 if unsign s = [] \/ 400 < (unsign s).length \/ ((unsign s).head? = some 48 /\ s ≠ [48]) \/ ¬ AllD (unsign s) then none
 else some (if (unsign s).length < s.length then -(dv (unsign s) : Int) else dv (unsign s))
theorem unsign_len (s : List UInt8) : (unsign s).length <= s.length := by
 unfold unsign; split <;> simp
theorem unsign_of_not {s : List UInt8} (h : s.head? ≠ some 45) : unsign s = s := by
 unfold unsign; split
 ·exact absurd rfl h
 ·rfl
theorem digit_not_minus (n : Nat) : (decDigits n).head? ≠ some 45 := by
 intro h
 have hne := digits_ne_nil n
 cases hd : decDigits n with
 | nil => exact hne hd
 | cons c l =>
  rw [hd] at h
  simp at h; subst h
  have := allD_digits n 45 (by rw [hd]; simp)
  exact absurd this.1 (by decide)
theorem readZ_itoa (z : Int) (h : nDigits z.natAbs <= 400) : readZ (itoa z) = some z := by
 unfold itoa
 by_cases hz : z < 0
 ·rw [if_pos hz]
  have e : unsign (45 :: decDigits z.natAbs) = decDigits z.natAbs := rfl
  unfold readZ; rw [e, if_neg, if_pos (by simp), dv_digits]
  ·congr 1; omega
  ·rintro (h1 | h1 | h1 | h1)
   ·exact digits_ne_nil _ h1
   ·rw [decDigits_length] at h1; omega
   ·have := digits_head h1.1; omega
   ·exact h1 (allD_digits _)
 ·rw [if_neg hz]
  have hn : z.toNat = z.natAbs := by omega
  have e := unsign_of_not (digit_not_minus z.toNat)
  unfold readZ; rw [e, if_neg, if_neg (by simp), dv_digits]
  ·congr 1; omega
  ·rintro (h1 | h1 | h1 | h1)
   ·exact digits_ne_nil _ h1
   ·rw [decDigits_length] at h1; rw [hn] at h1; omega
   ·have := digits_head h1.1
    apply h1.2; rw [this, decDigits_one (by omega)]; rfl
   ·exact h1 (allD_digits _)
theorem readZ_some {s : List UInt8} {z : Int} (h : readZ s = some z) : s = itoa z /\ nDigits z.natAbs <= 400 := by
 unfold readZ at h
 split at h
 ·cases h
 ·rename_i hc
  have h1 : unsign s ≠ [] := fun e => hc (.inl e)
  have h2 : (unsign s).length <= 400 := by
   rcases Nat.lt_or_ge 400 (unsign s).length with e | e
   ·exact absurd (.inr (.inl e)) hc
   ·exact e
  have h3 : (unsign s).head? = some 48 -> s = [48] := fun e => Classical.byContradiction fun e2 => hc (.inr (.inr (.inl ⟨e, e2⟩)))
  have h4 : AllD (unsign s) := Classical.byContradiction fun e => hc (.inr (.inr (.inr e)))
  have hcan : decDigits (dv (unsign s)) = unsign s := digits_dv h4 h1 (fun e => by have := h3 e; rw [this] at e ⊢; rfl)
  have hlen : nDigits (dv (unsign s)) <= 400 := by rw [<- decDigits_length, hcan]; exact h2
  by_cases hs : s.head? = some 45
  ·obtain ⟨l, rfl⟩ : ∃ l, s = 45 :: l := by
    cases s with
    | nil => cases hs
    | cons c l => simp at hs; exact ⟨l, by rw [hs]⟩
   have e : unsign (45 :: l) = l := rfl
   rw [e] at h h1 h2 h3 h4 hcan hlen
   rw [if_pos (by simp)] at h
   have hz : z = -(dv l : Int) := (Option.some.inj h).symm
   have hpos : 0 < dv l := by
    rcases Nat.eq_zero_or_pos (dv l) with e0 | e0
    ·rw [e0] at hcan
     have : l.head? = some 48 := by rw [<- hcan, decDigits_one (by omega)]; rfl
     have := h3 this; cases this
    ·exact e0
   subst hz
   refine ⟨?_, by rw [Int.natAbs_neg, Int.natAbs_natCast]; exact hlen⟩
   unfold itoa
   rw [if_pos (by omega), Int.natAbs_neg, Int.natAbs_natCast, hcan]
  ·have e := unsign_of_not hs
   rw [e] at h h1 h2 h3 h4 hcan hlen
   rw [if_neg (by simp)] at h
   have hz : z = (dv s : Int) := (Option.some.inj h).symm
   subst hz
   refine ⟨?_, by rw [Int.natAbs_natCast]; exact hlen⟩
   unfold itoa
   rw [if_neg (by omega), Int.toNat_natCast, hcan]
theorem itoa_length (z : Int) : (itoa z).length = nDigits z.natAbs + if z < 0 then 1 else 0 := by
 unfold itoa
 by_cases hz : z < 0
 ·rw [if_pos hz, if_pos hz, List.length_cons, decDigits_length]
 ·rw [if_neg hz, if_neg hz, decDigits_length, show z.toNat = z.natAbs by omega]; rfl
theorem dv_cons (c : UInt8) (l : List UInt8) : dv (c :: l) = (c.toNat - 48) * 10 ^ l.length + dv l := by
 have := dv_append [c] l; simpa [dv] using this
theorem parse_digits (l : List UInt8) : ∀ acc, AllD l -> acc < 18446744073709551616 -> parseUint10 acc l = if acc * 10 ^ l.length + dv l < 18446744073709551616 then .ok (acc * 10 ^ l.length + dv l) else .range := by
 induction l with
 | nil => intro acc _ ha; simp [parseUint10, dv, ha]
 | cons c l ih =>
  intro acc h ha
  have hc := h c (by simp)
  have hl : AllD l := fun x hx => h x (by simp [hx])
  have hp : 0 < 10 ^ l.length := Nat.pow_pos (by decide)
  have e : acc * 10 ^ (c :: l).length + dv (c :: l) = (acc * 10 + (c.toNat - 48)) * 10 ^ l.length + dv l := by
   rw [dv_cons, List.length_cons, Nat.pow_succ, Nat.add_mul, Nat.mul_assoc acc 10, Nat.mul_comm 10 (10 ^ l.length)]; omega
  rw [e, parseUint10, if_pos hc]
  have hge : acc * 10 + (c.toNat - 48) <= (acc * 10 + (c.toNat - 48)) * 10 ^ l.length := Nat.le_mul_of_pos_right _ hp
  by_cases h1 : 1844674407370955162 <= acc
  ·rw [if_pos h1, if_neg (by omega)]
  ·rw [if_neg h1]
   by_cases h2 : 18446744073709551616 <= acc * 10 + (c.toNat - 48)
   ·rw [if_pos h2, if_neg (by omega)]
   ·rw [if_neg h2]; exact ih _ hl (by omega)
theorem parseUint_dec (n : Nat) : parseUintB 64 (decDigits n) = if n < 18446744073709551616 then .ok n else .range := by
 rw [parseUintB_64]
 unfold parseMag
 rw [if_neg (digits_ne_nil n), parse_digits _ 0 (allD_digits n) (by decide), dv_digits]; simp
theorem parseInt_itoa (z : Int) : parseIntB 64 (itoa z) = if -9223372036854775808 <= z /\ z <= 9223372036854775807 then .ok z else .range := by
 unfold itoa
 by_cases hz : z < 0
 ·rw [if_pos hz, parseIntB_minus, parseUint_dec]
  by_cases h : z.natAbs < 18446744073709551616
  ·rw [if_pos h]
   show (if 2 ^ (64 - 1) < z.natAbs then NumEnd.range else NumEnd.ok (-(z.natAbs : Int))) = _
   by_cases h2 : 2 ^ (64 - 1) < z.natAbs
   ·rw [if_pos h2, if_neg (by omega)]
   ·rw [if_neg h2, if_pos (by omega)]; congr 1; omega
  ·rw [if_neg h, if_neg (by omega)]; rfl
 ·rw [if_neg hz]
  cases hd : decDigits z.toNat with
  | nil => exact absurd hd (digits_ne_nil _)
  | cons c r =>
   have hc := allD_digits z.toNat c (by rw [hd]; simp)
   rw [parseIntB_plain 64 c r (by omega) (by omega), <- hd, parseUint_dec]
   by_cases h : z.toNat < 18446744073709551616
   ·rw [if_pos h]
    show (if 2 ^ (64 - 1) <= z.toNat then NumEnd.range else NumEnd.ok (z.toNat : Int)) = _
    by_cases h2 : 2 ^ (64 - 1) <= z.toNat
    ·rw [if_pos h2, if_neg (by omega)]
    ·rw [if_neg h2, if_pos (by omega)]; congr 1; omega
   ·rw [if_neg h, if_neg (by omega)]; rfl
end Go.Proofs.YtplpnfjccemdnaaGreatDoor.Bg
namespace Go.Proofs
open Go.Shelf
def Tryz.lays167_ren : Go.Shelf.Ren := ⟨fun | 167 => 271 | 240 => 276 | 276 => 311 | n => n, fun | 0 => 0 | 4 => 4 | 5 => 5 | 9 => 9 | 20 => 20 | 37 => 192 | 70 => 319 | 72 => 321 | 75 => 314 | 80 => 312 | 164 => 380 | n => n, fun | n => n⟩
theorem Tryz.lays167 : Go.Proofs.Lays.n167 Tryz.prog Tryz.lays167_ren := {
 mixed := by kernel_rfl
 f167 := Tryz.func271.trans (congrArg some (by kernel_rfl))
 f240 := Tryz.func276.trans (congrArg some (by kernel_rfl))
 f276 := Tryz.func311.trans (congrArg some (by kernel_rfl))
 t0 := Tryz.underlying0
 a0 := Tryz.isAgg0
 z0 := Tryz.sizeOf0
 v0 := Tryz.zeroValue0
 t4 := Tryz.underlying4
 a4 := Tryz.isAgg4
 z4 := Tryz.sizeOf4
 v4 := Tryz.zeroValue4
 t5 := Tryz.underlying5
 a5 := Tryz.isAgg5
 z5 := Tryz.sizeOf5
 v5 := Tryz.zeroValue5
 t9 := Tryz.underlying9
 a9 := Tryz.isAgg9
 z9 := Tryz.sizeOf9
 v9 := Tryz.zeroValue9
 t20 := Tryz.underlying20
 a20 := Tryz.isAgg20
 z20 := Tryz.sizeOf20
 v20 := Tryz.zeroValue20
 t37 := Tryz.underlying192
 a37 := Tryz.isAgg192
 z37 := Tryz.sizeOf192
 v37 := Tryz.zeroValue192
 t70 := Tryz.underlying319
 a70 := Tryz.isAgg319
 z70 := Tryz.sizeOf319
 v70 := Tryz.zeroValue319
 t72 := Tryz.underlying321
 a72 := Tryz.isAgg321
 z72 := Tryz.sizeOf321
 v72 := Tryz.zeroValue321
 t75 := Tryz.underlying314
 a75 := Tryz.isAgg314
 z75 := Tryz.sizeOf314
 v75 := Tryz.zeroValue314
 t164 := Tryz.underlying380
 a164 := Tryz.isAgg380
 z164 := Tryz.sizeOf380
 v164 := Tryz.zeroValue380 }
theorem Tryz.Builder_Extra_167 : Builder.Extra Tryz.prog Tryz.lays167_ren := {
 sizeBuilder := by kernel_rfl
 liesBuilder := by kernel_rfl
 t5 := Tryz.underlying5
 a5 := Tryz.isAgg5
 z5 := Tryz.sizeOf5
 v5 := Tryz.zeroValue5
 infoByte := by kernel_rfl
 cellsByte := by kernel_rfl
 sizeByte := by kernel_rfl
 neB5 := by decide }
def Tryz.lays166_ren : Go.Shelf.Ren := ⟨fun | 166 => 246 | 240 => 276 | 276 => 311 | n => n, fun | 0 => 0 | 3 => 3 | 4 => 4 | 5 => 5 | 9 => 9 | 20 => 20 | 37 => 192 | 70 => 319 | 72 => 321 | 75 => 314 | 80 => 312 | 164 => 380 | n => n, fun | n => n⟩
theorem Tryz.lays166 : Go.Proofs.Lays.n166 Tryz.prog Tryz.lays166_ren := {
 mixed := by kernel_rfl
 f166 := Tryz.func246.trans (congrArg some (by kernel_rfl))
 f240 := Tryz.func276.trans (congrArg some (by kernel_rfl))
 f276 := Tryz.func311.trans (congrArg some (by kernel_rfl))
 t0 := Tryz.underlying0
 a0 := Tryz.isAgg0
 z0 := Tryz.sizeOf0
 v0 := Tryz.zeroValue0
 t3 := Tryz.underlying3
 a3 := Tryz.isAgg3
 z3 := Tryz.sizeOf3
 v3 := Tryz.zeroValue3
 t4 := Tryz.underlying4
 a4 := Tryz.isAgg4
 z4 := Tryz.sizeOf4
 v4 := Tryz.zeroValue4
 t9 := Tryz.underlying9
 a9 := Tryz.isAgg9
 z9 := Tryz.sizeOf9
 v9 := Tryz.zeroValue9
 t20 := Tryz.underlying20
 a20 := Tryz.isAgg20
 z20 := Tryz.sizeOf20
 v20 := Tryz.zeroValue20
 t37 := Tryz.underlying192
 a37 := Tryz.isAgg192
 z37 := Tryz.sizeOf192
 v37 := Tryz.zeroValue192
 t70 := Tryz.underlying319
 a70 := Tryz.isAgg319
 z70 := Tryz.sizeOf319
 v70 := Tryz.zeroValue319
 t72 := Tryz.underlying321
 a72 := Tryz.isAgg321
 z72 := Tryz.sizeOf321
 v72 := Tryz.zeroValue321
 t75 := Tryz.underlying314
 a75 := Tryz.isAgg314
 z75 := Tryz.sizeOf314
 v75 := Tryz.zeroValue314
 t164 := Tryz.underlying380
 a164 := Tryz.isAgg380
 z164 := Tryz.sizeOf380
 v164 := Tryz.zeroValue380 }
theorem Tryz.Builder_Extra_166 : Builder.Extra Tryz.prog Tryz.lays166_ren := {
 sizeBuilder := by kernel_rfl
 liesBuilder := by kernel_rfl
 t5 := Tryz.underlying5
 a5 := Tryz.isAgg5
 z5 := Tryz.sizeOf5
 v5 := Tryz.zeroValue5
 infoByte := by kernel_rfl
 cellsByte := by kernel_rfl
 sizeByte := by kernel_rfl
 neB5 := by decide }
open Go.RowKit in
theorem Tryz.Builder_WriteByte (B b : Nat) (bs : List Value) (c : Int) (w : World) (h : Lib.IsBuilder 321 5 B b bs w) (hlen : bs.length + 1 <= 140737488355328) (hBw : B <= w.heap.size) :
  Calls Tryz.prog 271 #[.pointer (some ⟨b, 0, none⟩), .int .u8 c] w fun e w' => e = .returned .nilIface /\ (Lib.BuilderAt 321 5 B b (.pointer (some ⟨b, 0, none⟩)) (bs ++ [.int .u8 c]) w' /\ Below B w w') := Any.Builder_WriteByte Tryz.lays167 Tryz.Builder_Extra_167 B b bs c w h hlen hBw
open Go.RowKit in
theorem Tryz.Builder_WriteString (B b : Nat) (bs : List Value) (s : ByteArray) (w : World) (h : Lib.IsBuilder 321 5 B b bs w) (hlen : bs.length + s.size <= 140737488355328) (hBw : B <= w.heap.size) :
  Calls Tryz.prog 246 #[.pointer (some ⟨b, 0, none⟩), .string s] w fun e w' => e = .returned (.tuple #[.int .i64 s.size, .nilIface]) /\ (Lib.BuilderAt 321 5 B b (.pointer (some ⟨b, 0, none⟩)) (bs ++ Lib.strCells s) w' /\ Below B w w') := Any.Builder_WriteString Tryz.lays166 Tryz.Builder_Extra_166 B b bs s w h hlen hBw
end Go.Proofs
namespace Go.Proofs.YtplpnfjccemdnaaGreatDoor.Bg
open Go.RowKit Go.Shelf Go.Lib
structure Env (W : World) : Prop where
 tab : Lib.TabIs Tryz.prog W "internal/strconv.uint64pow10" .u64 Lib.pow10Tab
 rng : ∃ tp p, W.var? Tryz.prog "strconv.ErrRange" = some #[.iface tp p]
theorem Env.below {W W' : World} (h : Env W) (hb : Below W.heap.size W W') : Env W' :=
 ⟨(tabBelow_of_tabIs h.tab) W' hb, by
  obtain ⟨tp, p, hv⟩ := h.rng
  refine ⟨tp, p, ?_⟩
  cases hg : Tryz.prog.globalNamed "strconv.ErrRange" with
  | none => simp only [World.var?, hg, Option.bind_none] at hv; cases hv
  | some g =>
   have hlt : g < W.heap.size := by
    simp only [World.var?, hg, Option.bind_some] at hv
    by_cases hh : g < W.heap.size
    ·exact hh
    ·rw [Array.getElem?_eq_none (by omega)] at hv; cases hv
   exact var?_below hb hg hlt hv⟩
def WH (W : World) (v : Value) (z : Int) : Prop := ∃ sv, v = .agg #[sv, .bool (decide (z < 0))] /\ RI W sv (dig z.natAbs)
theorem WH.below {W W' : World} {v : Value} {z : Int} (h : WH W v z) (hb : Below W.heap.size W W') : WH W' v z := by
 obtain ⟨sv, e, hr⟩ := h; exact ⟨sv, e, hr.below hb⟩
theorem signed_calls (sv : Value) (n : Nat) (neg : Bool) (w : World) (h : RI w sv (dig n)) :
  Calls Tryz.prog 239 #[sv, .bool neg] w fun e w' => ∃ v, e = .returned v /\ WH w' v (if neg then -(n : Int) else n) /\ Below w.heap.size w w' /\ ∃ b, v = .agg #[sv, .bool b] := by
 have H := Lib.hid h
 obtain ⟨a, ca, rfl, _⟩ := h
 have hb : ∀ o, Below w.heap.size w (w.alloc o) := fun o => (Below.refl _ w).alloc (Nat.le_refl _) o
 have HB := Lib.hid hb
 clear hb
 have hwh : ∀ (W : World) (b : Bool) (z : Int), Below w.heap.size w W -> b = decide (z < 0) -> z.natAbs = n -> WH W (.agg #[.slice a (dig n).length ca, .bool b]) z := fun W b z h1 h2 h3 => by subst h2; exact ⟨.slice a (dig n).length ca, rfl, by rw [h3]; exact H.out.below h1⟩
 have HW := Lib.hid hwh
 clear hwh
 cases neg
 ·go_enter Tryz.func239, Tryz.ntmps239
  go_wp2_with fail
  refine bodyPost_ret (v := .agg #[.slice a (dig n).length ca, .bool false]) (by simp [results, Tryz.results239, go_sem]) rfl ?_
  exact ⟨_, rfl, HW.out _ _ _ (HB.out _) (by simp) (by simp), HB.out _, by simp⟩
 ·have hd : Hid ((decide (dig n = [])) = decide (n = 0)) := Lib.hid (by rw [decide_eq_decide]; exact dig_eq_nil)
  by_cases hn : n = 0
  ·have hn' := Lib.hid hn
   clear hn
   go_enter Tryz.func239, Tryz.ntmps239
   go_wp2_with (go_at_call 269; refine (none_calls _ _ _ (H.out.below (HB.out _))).mono ?_; rw [hd.out, decide_eq_true hn'.out]; rintro e w' ⟨rfl, rfl⟩)
   refine bodyPost_ret (v := .agg #[.slice a (dig n).length ca, .bool false]) (by simp [results, Tryz.results239, go_sem]) rfl ?_
   exact ⟨_, rfl, HW.out _ _ _ (HB.out _) (by have := hn'.out; simp; omega) (by have := hn'.out; simp), HB.out _, by simp⟩
  ·have hn' := Lib.hid hn
   clear hn
   go_enter Tryz.func239, Tryz.ntmps239
   go_wp2_with (go_at_call 269; refine (none_calls _ _ _ (H.out.below (HB.out _))).mono ?_; rw [hd.out, decide_eq_false hn'.out]; rintro e w' ⟨rfl, rfl⟩)
   refine bodyPost_ret (v := .agg #[.slice a (dig n).length ca, .bool true]) (by simp [results, Tryz.results239, go_sem]) rfl ?_
   exact ⟨_, rfl, HW.out _ _ _ (HB.out _) (by have := hn'.out; simp; omega) (by simp), HB.out _, by simp⟩
theorem IsBuilder.on {T e : TypeId} {B b : Nat} {bs : List Value} {w w' : World} (h : Lib.IsBuilder T e B b bs w) (hb : Below w.heap.size w w') : Lib.IsBuilder T e B b bs w' := by
 have key : ∀ p, Lib.BuilderAt T e B b p bs w -> Lib.BuilderAt T e B b p bs w' := fun p hp => by
  obtain ⟨h1, v, h2, h3, h4⟩ := hp
  have hlt := (Array.getElem?_eq_some_iff.1 h2).1
  exact ⟨h1, v, (hb.block b hlt).trans h2, h3.kept (row := none) ⟨hb.os, hb.tape, hb.output, hb.size, fun k hk _ => hb.block k hk⟩ (by cases v.ownBlock <;> simp), h4⟩
 rcases h with h | h
 ·exact .inl (key _ h)
 ·exact .inr (key _ h)
theorem strCells_list (l : List UInt8) : Lib.strCells ⟨l.toArray⟩ = Lib.byteCells l := by simp [Lib.strCells, Lib.byteCells]
theorem byteCells_app (a b : List UInt8) : Lib.byteCells (a ++ b) = Lib.byteCells a ++ Lib.byteCells b := by simp [Lib.byteCells]
theorem itoa_calls (n : Nat) (hn : n < 1000000) (w : World) (hE : Env w) :
  Calls Tryz.prog 205 #[.int .i64 (n : Int)] w fun e w' => e = .returned (.string ⟨(decDigits n).toArray⟩) /\ Below w.heap.size w w' := by
 refine (Tryz.strconv_Itoa (n : Int) (by omega) (by omega) w hE.tab).mono ?_
 rintro e w' ⟨rfl, k, os, rfl⟩
 refine ⟨?_, below_grow _ w (Nat.le_refl _) k os⟩
 unfold itoa; rw [if_neg (by omega)]; rfl
theorem padE {x : Nat} (h : x < 1000000) : ((⟨Array.replicate (6 - (decDigits x).length) 48⟩ : ByteArray) ++ ⟨(decDigits x).toArray⟩) = ⟨(pad 6 x).toArray⟩ := by
 apply ByteArray.ext
 rw [ByteArray.data_append]
 apply Array.ext'
 have := nDigits_le (d := x) (k := 5) h
 rw [pad_small 6 x (by omega), decDigits_length]
 simp
structure TS (W0 : World) (bs : List UInt8) (W : World) : Prop where
 bld : Lib.IsBuilder 321 5 W0.heap.size W0.heap.size (Lib.byteCells bs) W
 bel : Below W0.heap.size W0 W
theorem TS.on {W0 W W' : World} {bs : List UInt8} (h : TS W0 bs W) (hb : Below W.heap.size W W') : TS W0 bs W' := ⟨IsBuilder.on h.bld hb, h.bel.trans (hb.mono h.bel.size)⟩
theorem TS.itoa {W0 W : World} {bs : List UInt8} (h : TS W0 bs W) (hE : Env W0) (n : Nat) (hn : n < 1000000) :
  Calls Tryz.prog 205 #[.int .i64 (n : Int)] W fun e w' => e = .returned (.string ⟨(decDigits n).toArray⟩) /\ TS W0 bs w' := by
 refine (itoa_calls n hn W (hE.below h.bel)).mono ?_
 rintro e w' ⟨rfl, hb⟩
 exact ⟨rfl, h.on hb⟩
theorem TS.write {W0 W : World} {bs : List UInt8} (h : TS W0 bs W) (l : List UInt8) (hlen : bs.length + l.length <= 10000000) :
  Calls Tryz.prog 246 #[.pointer (some ⟨W0.heap.size, 0, none⟩), .string ⟨l.toArray⟩] W fun e w' => (∃ k : Int, e = .returned (.tuple #[.int .i64 k, .nilIface])) /\ TS W0 (bs ++ l) w' := by
 refine (Tryz.Builder_WriteString W0.heap.size W0.heap.size _ ⟨l.toArray⟩ W h.bld (by rw [Lib.byteCells_length]; simp [ByteArray.size]; omega) h.bel.size).mono ?_
 rintro e w' ⟨rfl, hb, hl⟩
 exact ⟨⟨_, rfl⟩, .inr (by rw [byteCells_app, <- strCells_list l]; exact hb), h.bel.trans hl⟩
theorem TS.minus {W0 W : World} {bs : List UInt8} (h : TS W0 bs W) (hlen : bs.length <= 10000000) :
  Calls Tryz.prog 271 #[.pointer (some ⟨W0.heap.size, 0, none⟩), .int .u8 45] W fun e w' => e = .returned .nilIface /\ TS W0 (bs ++ [45]) w' := by
 refine (Tryz.Builder_WriteByte W0.heap.size W0.heap.size _ 45 W h.bld (by rw [Lib.byteCells_length]; omega) h.bel.size).mono ?_
 rintro e w' ⟨rfl, hb, hl⟩
 exact ⟨rfl, .inr (by rw [byteCells_app]; exact hb), h.bel.trans hl⟩
theorem repeatL_one (c : Nat) : Lib.repeatL [48] c = List.replicate c 48 := by
 induction c with
 | zero => rfl
 | succ c ih => simp [Lib.repeatL, ih, List.replicate_succ]
theorem TS.rep {W0 W : World} {bs : List UInt8} (h : TS W0 bs W) (c : Nat) (hc : c <= 1000) :
  Calls Tryz.prog 208 #[.string ⟨#[48]⟩, .int .i64 (c : Int)] W fun e w' => e = .returned (.string ⟨(List.replicate c 48).toArray⟩) /\ TS W0 bs w' := by
 refine (Tryz.strings_Repeat ⟨#[48]⟩ c W (by omega) (by simp [ByteArray.size]; omega)).mono ?_
 rintro e w' ⟨rfl, hb⟩
 exact ⟨by rw [<- repeatL_one], h.on hb⟩
theorem TS.string {W0 W : World} {bs : List UInt8} (h : TS W0 bs W) (hne : bs ≠ []) :
  Calls Tryz.prog 248 #[.pointer (some ⟨W0.heap.size, 0, none⟩)] W fun e w' => e = .returned (.string ⟨bs.toArray⟩) /\ Below W0.heap.size W0 w' := by
 refine (Tryz.Builder_String W0.heap.size W0.heap.size bs W h.bld hne).mono ?_
 rintro e w' ⟨rfl, hb⟩
 exact ⟨rfl, h.bel.trans hb⟩
set_option maxHeartbeats 4000001 in
set_option maxRecDepth 100000 in
theorem text_calls (v : Value) (z : Int) (w : World) (h : WH w v z) (hE : Env w) (hl : (dig z.natAbs).length <= 1000) :
  Calls Tryz.prog 242 #[v] w fun e w' => e = .returned (.string ⟨(itoa z).toArray⟩) /\ Below w.heap.size w w' := by
 obtain ⟨sv, rfl, hr⟩ := h
 obtain ⟨n, hn⟩ : ∃ n, z.natAbs = n := ⟨_, rfl⟩
 rw [hn] at hr hl
 have hz : Hid (z = if z < 0 then -(n : Int) else n) := Lib.hid (by split <;> omega)
 have HR := Lib.hid hr
 have HE := Lib.hid hE
 obtain ⟨R, hR⟩ : ∃ R, itoa z = R := ⟨_, rfl⟩
 rw [hR]
 obtain ⟨a, ca, rfl, _, hc⟩ := hr
 have HC := Lib.hid hc
 obtain ⟨neg, hneg⟩ : ∃ neg, decide (z < 0) = neg := ⟨_, rfl⟩
 rw [hneg]
 have hbx : Below w.heap.size w (w.alloc (.cells #[.slice a (dig n).length ca, .bool neg] 248)) := (Below.refl _ w).alloc (Nat.le_refl _) _
 have HBX := Lib.hid hbx
 have hd : Hid ((decide (dig n = [])) = decide (n = 0)) := Lib.hid (by rw [decide_eq_decide]; exact dig_eq_nil)
 have HRR := Lib.hid hR
 have HNEG := Lib.hid hneg
 have HN := Lib.hid hn
 clear hc hbx hE hR hneg hn
 by_cases h0 : n = 0
 ·have h0' := Lib.hid h0
  clear h0
  go_enter Tryz.func242, Tryz.ntmps242
  go_wp2_with (go_at_call 269; refine (none_calls _ _ _ (HR.out.below HBX.out)).mono ?_; rw [hd.out, decide_eq_true h0'.out]; rintro e w' ⟨rfl, rfl⟩)
  go_ret
  refine ⟨?_, HBX.out⟩
  have : z = 0 := by have := HN.out; have := h0'.out; omega
  rw [<- HRR.out, this, show itoa 0 = [48] by unfold itoa; rw [if_neg (by decide)]; exact decDigits_one (by decide)]; rfl
 ·have hlen : 0 < (dig n).length := List.length_pos_iff.2 (fun e => h0 (dig_eq_nil.1 e))
  obtain ⟨m, hm⟩ : ∃ m, (dig n).length = m + 1 := ⟨(dig n).length - 1, by omega⟩
  have h0' := Lib.hid h0
  have hm' := Lib.hid hm
  obtain ⟨b, off, rfl, hcs⟩ := HC.out (fun e => h0 (dig_eq_nil.1 e))
  rw [hm] at HBX hl ⊢
  have HCS := Lib.hid hcs
  clear h0 hm hcs hlen
  have hcell : ∀ W, Below w.heap.size w W -> ∀ k, k < m + 1 -> W.cell? ⟨b, off + k, none⟩ = some (.int .i64 (lim n k : Int)) := fun W hW k hk => by
   have := HCS.out k (by rw [hm'.out]; exact hk)
   rw [(rd_dig (by rw [hm'.out]; exact hk)).1] at this
   exact cell_on hW this
  have HCELL := Lib.hid hcell
  obtain ⟨W0, hW0⟩ : ∃ W0, w.alloc (.cells #[.slice (some ⟨b, off, none⟩) (m + 1) ca, .bool neg] 248) = W0 := ⟨_, rfl⟩
  have hx0 : W0.cell? ⟨w.heap.size, 0, none⟩ = some (.slice (some ⟨b, off, none⟩) (m + 1) ca) /\ W0.cell? ⟨w.heap.size, 1, none⟩ = some (.bool neg) := by
   have := World.alloc_heap_new w (.cells #[.slice (some ⟨b, off, none⟩) (m + 1) ca, .bool neg] 248)
   rw [hW0] at this
   simp [World.cell?, this]
  have hs0 : W0.heap.size = w.heap.size + 1 := by rw [<- hW0]; simp
  have HX := Lib.hid hx0
  have HS0 := Lib.hid hs0
  rw [hW0] at HBX
  have hts : TS W0 [] (W0.alloc (.cells #[.pointer none, .slice none 0 0] 321)) := ⟨Lib.fresh_isBuilder 321 5 W0, (Below.refl _ W0).alloc (Nat.le_refl _) _⟩
  have HTS := Lib.hid hts
  clear hcell hx0 hs0 hts
  have hd2 : Hid (decide (dig n = []) = false) := Lib.hid (by rw [hd.out, decide_eq_false h0'.out])
  have HRW := Lib.hid (hm'.out ▸ HR.out.below HBX.out : RI W0 (.slice (some ⟨b, off, none⟩) (m + 1) ca) (dig n))
  have hsz : Hid (w.heap.size < W0.heap.size) := Lib.hid (by rw [HS0.out]; omega)
  have hbx : ∀ W bs, TS W0 bs W -> W.cell? ⟨w.heap.size, 0, none⟩ = some (.slice (some ⟨b, off, none⟩) (m + 1) ca) /\ W.cell? ⟨w.heap.size, 1, none⟩ = some (.bool neg) := fun W bs h => ⟨(h.bel.cell (p := ⟨w.heap.size, 0, none⟩) hsz.out).trans HX.out.1, (h.bel.cell (p := ⟨w.heap.size, 1, none⟩) hsz.out).trans HX.out.2⟩
  have HBXC := Lib.hid hbx
  have hlm : ∀ W bs, TS W0 bs W -> ∀ k, k < m + 1 -> W.cell? ⟨b, off + k, none⟩ = some (.int .i64 (lim n k : Int)) := fun W bs h k hk => HCELL.out W (HBX.out.trans (h.bel.mono HBX.out.size)) k hk
  have HLM := Lib.hid hlm
  clear hbx hlm
  have HXc0 := HX.out.1
  have hmb : (m : Int) <= 1000 := by omega
  have hE0 : Hid (Env W0) := Lib.hid (HE.out.below HBX.out)
  have hln : ∀ k, (decDigits (lim n k)).length <= 6 := fun k => by rw [decDigits_length]; exact nDigits_le (k := 5) (lim_lt n k)
  have HLN := Lib.hid hln
  have hup : ∀ k, k <= m -> decDigits (upTo n k) = decDigits (upTo n k) := fun _ _ => rfl
  have hnl : Hid (∀ k, (decDigits (upTo n k)).length <= 7000) := Lib.hid fun k => by
   rw [decDigits_length]
   have h1 : upTo n k <= n := Nat.div_le_self _ _
   have h2 := dig_lt n
   rw [hm'.out, pow_six] at h2
   exact Nat.le_trans (nDigits_le (k := 6 * (m + 1) - 1) (by rw [show 6 * (m + 1) - 1 + 1 = 6 * (m + 1) by omega]; omega)) (by omega)
  clear hln hup
  cases neg
  ·as_aux_lemma =>
   have hfin : Hid (R = ([] : List UInt8) ++ decDigits n) := Lib.hid (by
    rw [<- HRR.out]; unfold itoa; have h1 := HNEG.out; have h2 := HN.out
    simp only [decide_eq_false_iff_not] at h1
    rw [if_neg h1, show z.toNat = n by omega]; rfl)
   have HXc1 := HX.out.2
   go_enter Tryz.func242, Tryz.ntmps242
   go_wp2_with fail
   clear hW0
   refine (none_calls _ _ W0 HRW.out).mono ?_
   rw [hd2.out]
   rintro e w' ⟨rfl, rfl⟩
   have hA1 := (HBXC.out _ _ HTS.out).1
   have hA2 := (HBXC.out _ _ HTS.out).2
   have hAm := HLM.out _ _ HTS.out m (by omega)
   go_wp2_with fail
   refine (HTS.out.itoa hE0.out (lim n m) (lim_lt n m)).mono ?_
   rintro e w3 ⟨rfl, h3⟩
   have H3 := Lib.hid h3
   clear h3
   go_wp2_with fail
   refine (H3.out.write _ (by have := HLN.out m; simp; omega)).mono ?_
   rintro e w4 ⟨⟨_, rfl⟩, h4⟩
   have H4 := Lib.hid h4
   clear h4
   go_wp2_with fail
   go_loopw [5] (fun t wr => ∃ k : Nat, t = .int .i64 ((k : Int) - 1) /\ k <= m /\ Hid (TS W0 (([] : List UInt8) ++ decDigits (upTo n k)) wr)) (fun t _ => (RowKit.intOf t + 1).toNat)
   case atStart => exact ⟨m, by first | rfl | simp, Nat.le_refl _, by rw [lim_top hm'.out]; simpa using H4⟩
   case round =>
    obtain ⟨k, rfl, hk, hT⟩ := hrel
    rcases Nat.eq_zero_or_pos k with rfl | hk0
    ·rw [show ((0 : Nat) : Int) - 1 = -1 from rfl]
     go_wp2_with fail
     refine (hT.out.string (by simp [digits_ne_nil])).mono ?_
     rintro e w5 ⟨rfl, hb5⟩
     have H5 := Lib.hid hb5
     clear hb5
     go_wp2_with fail
     go_ret
     exact ⟨by rw [hfin.out, upTo_zero]; rfl, HBX.out.trans (H5.out.mono HBX.out.size)⟩
    ·obtain ⟨k, rfl⟩ : ∃ j, k = j + 1 := ⟨k - 1, by omega⟩
     rw [show ((k + 1 : Nat) : Int) - 1 = (k : Int) by omega]
     have hc0 := (HBXC.out _ _ hT.out).1
     have hck := HLM.out _ _ hT.out k (by omega)
     go_wp2_with fail
     refine (hT.out.itoa hE0.out (lim n k) (lim_lt n k)).mono ?_
     rintro e w5 ⟨rfl, h5⟩
     have H5 := Lib.hid h5
     clear h5
     have hlk := HLN.out k
     go_wp2_with fail
     rw [show (6 - ((decDigits (lim n k)).length : Int)) = ((6 - (decDigits (lim n k)).length : Nat) : Int) by omega]
     refine (H5.out.rep _ (by omega)).mono ?_
     rintro e w6 ⟨rfl, h6⟩
     have H6 := Lib.hid h6
     clear h6
     go_wp2_with fail
     rw [padE (lim_lt n k)]
     refine (H6.out.write _ (by have := hnl.out (k + 1); simp [pad_len]; omega)).mono ?_
     rintro e w7 ⟨⟨_, rfl⟩, h7⟩
     have H7 := Lib.hid h7
     clear h7
     go_wp2_with fail
     exact ⟨⟨k, rfl, by omega, by rw [upTo_succ, decDigits_pad 6 _ _ (upTo_pos hm'.out (by omega)) (lim_lt n k), <- List.append_assoc]; exact H7⟩, by simp [RowKit.intOf] <;> omega⟩
  ·as_aux_lemma =>
   have hfin : Hid (R = ([45] : List UInt8) ++ decDigits n) := Lib.hid (by
    rw [<- HRR.out]; unfold itoa; have h1 := HNEG.out; have h2 := HN.out
    simp only [decide_eq_true_eq] at h1
    rw [if_pos h1, h2]; rfl)
   have HXc1 := HX.out.2
   go_enter Tryz.func242, Tryz.ntmps242
   go_wp2_with fail
   clear hW0
   refine (none_calls _ _ W0 HRW.out).mono ?_
   rw [hd2.out]
   rintro e w' ⟨rfl, rfl⟩
   have hA1 := (HBXC.out _ _ HTS.out).1
   have hA2 := (HBXC.out _ _ HTS.out).2
   have hAm := HLM.out _ _ HTS.out m (by omega)
   go_wp2_with fail
   refine (HTS.out.minus (by simp)).mono ?_
   rintro e w2 ⟨rfl, h2⟩
   have H2 := Lib.hid h2
   have hA3 := (HBXC.out _ _ h2).1
   have hAm2 := HLM.out _ _ h2 m (by omega)
   clear h2 hA1 hA2 hAm
   go_wp2_with fail
   refine (H2.out.itoa hE0.out (lim n m) (lim_lt n m)).mono ?_
   rintro e w3 ⟨rfl, h3⟩
   have H3 := Lib.hid h3
   clear h3
   go_wp2_with fail
   refine (H3.out.write _ (by have := HLN.out m; simp; omega)).mono ?_
   rintro e w4 ⟨⟨_, rfl⟩, h4⟩
   have H4 := Lib.hid h4
   clear h4
   go_wp2_with fail
   go_loopw [5] (fun t wr => ∃ k : Nat, t = .int .i64 ((k : Int) - 1) /\ k <= m /\ Hid (TS W0 (([45] : List UInt8) ++ decDigits (upTo n k)) wr)) (fun t _ => (RowKit.intOf t + 1).toNat)
   case atStart => exact ⟨m, by first | rfl | simp, Nat.le_refl _, by rw [lim_top hm'.out]; simpa using H4⟩
   case round =>
    obtain ⟨k, rfl, hk, hT⟩ := hrel
    rcases Nat.eq_zero_or_pos k with rfl | hk0
    ·rw [show ((0 : Nat) : Int) - 1 = -1 from rfl]
     go_wp2_with fail
     refine (hT.out.string (by simp [digits_ne_nil])).mono ?_
     rintro e w5 ⟨rfl, hb5⟩
     have H5 := Lib.hid hb5
     clear hb5
     go_wp2_with fail
     go_ret
     exact ⟨by rw [hfin.out, upTo_zero]; rfl, HBX.out.trans (H5.out.mono HBX.out.size)⟩
    ·obtain ⟨k, rfl⟩ : ∃ j, k = j + 1 := ⟨k - 1, by omega⟩
     rw [show ((k + 1 : Nat) : Int) - 1 = (k : Int) by omega]
     have hc0 := (HBXC.out _ _ hT.out).1
     have hck := HLM.out _ _ hT.out k (by omega)
     go_wp2_with fail
     refine (hT.out.itoa hE0.out (lim n k) (lim_lt n k)).mono ?_
     rintro e w5 ⟨rfl, h5⟩
     have H5 := Lib.hid h5
     clear h5
     have hlk := HLN.out k
     go_wp2_with fail
     rw [show (6 - ((decDigits (lim n k)).length : Int)) = ((6 - (decDigits (lim n k)).length : Nat) : Int) by omega]
     refine (H5.out.rep _ (by omega)).mono ?_
     rintro e w6 ⟨rfl, h6⟩
     have H6 := Lib.hid h6
     clear h6
     go_wp2_with fail
     rw [padE (lim_lt n k)]
     refine (H6.out.write _ (by have := hnl.out (k + 1); simp [pad_len]; omega)).mono ?_
     rintro e w7 ⟨⟨_, rfl⟩, h7⟩
     have H7 := Lib.hid h7
     clear h7
     go_wp2_with fail
     exact ⟨⟨k, rfl, by omega, by rw [upTo_succ, decDigits_pad 6 _ _ (upTo_pos hm'.out (by omega)) (lim_lt n k), <- List.append_assoc]; exact H7⟩, by simp [RowKit.intOf] <;> omega⟩
end Go.Proofs.YtplpnfjccemdnaaGreatDoor.Bg
