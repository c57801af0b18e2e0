import Derived.Test.YthjpbbbmnmhmmaaGreatDoorM4
import Derived.Test.YthjpbbbmnmhmmaaGreatDoorA30
import Derived.BigQuiet
set_option linter.unusedVariables false
set_option linter.unusedSimpArgs false
/- Numbers as digits of base 10, the least first: what M1 to M4 say of base 10^6 (by program: the base turned). -/
namespace Go.Proofs.YthjpbbbmnmhmmaaGreatDoor.Ten
open Go.Lib

def val : List Int → Int
  | [] => 0
  | d :: ds => d + 10 * val ds

def InR (xs : List Int) : Prop := ∀ x ∈ xs, 0 ≤ x ∧ x < 10

def dig (n : Nat) : List Int := if h : n = 0 then [] else ((n % 10 : Nat) : Int) :: dig (n / 10)
termination_by n
decreasing_by omega

theorem dig_zero : dig 0 = [] := by rw [dig]; simp
theorem dig_pos {n : Nat} (h : n ≠ 0) : dig n = ((n % 10 : Nat) : Int) :: dig (n / 10) := by rw [dig]; simp [h]

theorem val_dig (n : Nat) : val (dig n) = n := by
  induction n using Nat.strongRecOn with
  | _ n ih =>
    by_cases h : n = 0
    · subst h; rw [dig_zero]; rfl
    · rw [dig_pos h, val, ih (n / 10) (by omega)]; omega

theorem InR.nil : InR [] := fun x h => by cases h
theorem InR.cons {x : Int} {xs : List Int} (h : InR (x :: xs)) : (0 ≤ x ∧ x < 10) ∧ InR xs := ⟨h x (by simp), fun y hy => h y (by simp [hy])⟩
theorem InR.mk {x : Int} {xs : List Int} (h : 0 ≤ x ∧ x < 10) (h' : InR xs) : InR (x :: xs) := fun y hy => by
  rcases List.mem_cons.1 hy with rfl | hy
  · exact h
  · exact h' y hy
theorem InR.take {xs : List Int} (h : InR xs) (k : Nat) : InR (xs.take k) := fun x hx => h x (List.mem_of_mem_take hx)
theorem InR.at {xs : List Int} (h : InR xs) (k : Nat) : 0 ≤ rd xs k ∧ rd xs k < 10 := by
  unfold rd
  by_cases hk : k < xs.length
  · have := h xs[k] (List.getElem_mem hk)
    simpa [List.getElem?_eq_getElem hk] using this
  · simp [List.getElem?_eq_none (Nat.le_of_not_lt hk)]

theorem dig_inR (n : Nat) : InR (dig n) := by
  induction n using Nat.strongRecOn with
  | _ n ih =>
    by_cases h : n = 0
    · subst h; rw [dig_zero]; exact InR.nil
    · rw [dig_pos h]; exact InR.mk ⟨by omega, by omega⟩ (ih _ (by omega))

theorem val_nonneg {xs : List Int} (h : InR xs) : 0 ≤ val xs := by
  induction xs with
  | nil => simp [val]
  | cons x xs ih => have := ih h.cons.2; have := h.cons.1; simp only [val]; omega

theorem dig_val {xs : List Int} (h : InR xs) (hl : xs = [] ∨ xs.getLast? ≠ some 0) : xs = dig (val xs).toNat := by
  induction xs with
  | nil => simp [val, dig_zero]
  | cons x xs ih =>
    have hx := h.cons.1
    have h0 := val_nonneg h.cons.2
    have hr : xs = dig (val xs).toNat := by
      refine ih h.cons.2 ?_
      cases xs with
      | nil => exact .inl rfl
      | cons y ys => refine .inr ?_; rcases hl with hl | hl; · cases hl
                     simpa [List.getLast?_cons_cons] using hl
    have hn : (val (x :: xs)).toNat ≠ 0 := by
      rcases hl with hl | hl
      · cases hl
      · cases xs with
        | nil => simp at hl; simp only [val]; omega
        | cons y ys =>
          have : (val (y :: ys)).toNat ≠ 0 := by
            intro e; rw [e, dig_zero] at hr; cases hr
          simp only [val] at this h0 ⊢; omega
    rw [dig_pos hn]
    have e1 : (((val (x :: xs)).toNat % 10 : Nat) : Int) = x := by simp only [val]; omega
    have e2 : (val (x :: xs)).toNat / 10 = (val xs).toNat := by simp only [val]; omega
    rw [e1, e2, ← hr]

theorem val_append (xs ys : List Int) : val (xs ++ ys) = val xs + 10 ^ xs.length * val ys := by
  induction xs with
  | nil => simp [val]
  | cons x xs ih => simp only [List.cons_append, val, ih, List.length_cons, Int.pow_succ]; rw [Int.mul_add, ← Int.mul_assoc, Int.mul_comm 10 (10 ^ _)]; omega

theorem dig_len_mono : ∀ {m n : Nat}, n ≤ m → (dig n).length ≤ (dig m).length := by
  intro m
  induction m using Nat.strongRecOn with
  | _ m ih =>
    intro n h
    by_cases h0 : n = 0
    · subst h0; simp [dig_zero]
    · rw [dig_pos h0, dig_pos (show m ≠ 0 by omega)]
      have := ih (m / 10) (by omega) (show n / 10 ≤ m / 10 by omega)
      simp only [List.length_cons]; omega

theorem dig_lt (n : Nat) : n < 10 ^ (dig n).length := by
  induction n using Nat.strongRecOn with
  | _ n ih =>
    by_cases h : n = 0
    · subst h; rw [dig_zero]; simp
    · rw [dig_pos h, List.length_cons, Nat.pow_succ]
      have := ih (n / 10) (by omega)
      omega

theorem dig_len (k : Nat) : ∀ n, n < 10 ^ k → (dig n).length ≤ k := by
  induction k with
  | zero => intro n h; have : n = 0 := by simpa using h
            subst this; simp [dig_zero]
  | succ k ih =>
    intro n h
    by_cases h0 : n = 0
    · subst h0; simp [dig_zero]
    · rw [dig_pos h0, List.length_cons]
      have := ih (n / 10) (by rw [Nat.pow_succ] at h; omega)
      omega

theorem val_set_add : ∀ (zs : List Int) (j : Nat) (d : Int), j < zs.length → val (zs.set j (rd zs j + d)) = val zs + d * 10 ^ j
  | [], j, d, h => by simp at h
  | z :: zs, 0, d, h => by simp [rd, val]; omega
  | z :: zs, j + 1, d, h => by
    have := val_set_add zs j d (by simpa using h)
    simp only [List.set_cons_succ, val]
    have e : rd (z :: zs) (j + 1) = rd zs j := by simp [rd]
    rw [e, this, Int.pow_succ, Int.mul_add, Int.mul_comm (10 ^ j) 10, ← Int.mul_assoc d, Int.mul_comm d 10, Int.mul_assoc 10 d]
    omega

theorem val_take_succ {xs : List Int} {i : Nat} (h : i < xs.length) : val (xs.take (i + 1)) = val (xs.take i) + rd xs i * 10 ^ i := by
  rw [List.take_succ_eq_append_getElem h, val_append, List.length_take, Nat.min_eq_left (Nat.le_of_lt h), rd_lt h]
  simp [val, Int.mul_comm]

theorem val_replicate (n : Nat) : val (List.replicate n 0) = 0 := by
  induction n with
  | zero => rfl
  | succ n ih => simp [List.replicate_succ, val, ih]

theorem cmpDown_dig : ∀ (a b : Nat), (dig a).length = (dig b).length → cmpDown (dig a) (dig b) (dig a).length = cmpI a b := by
  intro a
  induction a using Nat.strongRecOn with
  | _ a ih =>
    intro b h
    by_cases ha : a = 0
    · subst ha
      have hb : b = 0 := by
        rw [dig_zero] at h
        by_cases hb : b = 0
        · exact hb
        · rw [dig_pos hb] at h; simp at h
      subst hb; rw [dig_zero]; simp only [List.length_nil, cmpDown]; rw [cmpI_self]
    · have hb : b ≠ 0 := by intro e; subst e; rw [dig_zero, dig_pos ha] at h; simp at h
      rw [dig_pos ha, dig_pos hb] at h ⊢
      simp only [List.length_cons] at h ⊢
      rw [cmpDown_cons, ih (a / 10) (by omega) (b / 10) (by omega)]
      unfold cmpI
      repeat' split
      all_goals omega

theorem cmp_dig (a b : Nat) : (if (dig a).length = (dig b).length then cmpDown (dig a) (dig b) (dig a).length else cmpI ((dig a).length : Int) ((dig b).length : Int)) = cmpI a b := by
  by_cases h : (dig a).length = (dig b).length
  · rw [if_pos h, cmpDown_dig a b h]
  · rw [if_neg h]
    rcases Nat.lt_or_ge a b with hab | hab
    · have := dig_len_mono (Nat.le_of_lt hab)
      unfold cmpI; rw [if_pos (by omega), if_pos (by omega)]
    · have := dig_len_mono hab
      have hne : a ≠ b := by intro e; subst e; exact h rfl
      unfold cmpI; rw [if_neg (by omega), if_pos (by omega), if_neg (by omega), if_pos (by omega)]
theorem dig_drop (k : Nat) : ∀ n, (dig n).drop k = dig (n / 10 ^ k) := by
  induction k with
  | zero => intro n; simp
  | succ k ih =>
    intro n
    by_cases h : n = 0
    · subst h; simp [dig_zero]
    · rw [dig_pos h, List.drop_succ_cons, ih, Nat.div_div_eq_div_mul, Nat.pow_succ, Nat.mul_comm 10]

theorem dig_eq_nil {n : Nat} : dig n = [] ↔ n = 0 := by
  constructor
  · intro h; by_cases e : n = 0
    · exact e
    · rw [dig_pos e] at h; cases h
  · intro h; subst h; exact dig_zero

theorem top_pos {n k : Nat} (h : k < (dig n).length) : 0 < n / 10 ^ k := by
  rcases Nat.eq_zero_or_pos (n / 10 ^ k) with e | e
  · have := dig_drop k n
    rw [e, dig_zero] at this
    have := congrArg List.length this
    simp at this; omega
  · exact e

theorem rd_dig {n k : Nat} (h : k < (dig n).length) : rd (dig n) k = ((n / 10 ^ k % 10 : Nat) : Int) ∧ n / 10 ^ k = (n / 10 ^ (k + 1)) * 10 + n / 10 ^ k % 10 := by
  have h1 := ((List.drop_eq_getElem_cons h).symm.trans (dig_drop k n)).trans (dig_pos (by have := top_pos h; omega))
  refine ⟨by rw [rd_lt h]; exact (List.cons.inj h1).1, ?_⟩
  rw [Nat.pow_succ, ← Nat.div_div_eq_div_mul]; omega


theorem dig_len_nd (n : Nat) : (dig n).length = if n = 0 then 0 else nDigits n := by
  induction n using Nat.strongRecOn with
  | _ n ih =>
    by_cases h : n = 0
    · subst h; rw [dig_zero]; rfl
    · rw [if_neg h, dig_pos h, List.length_cons, ih _ (by omega)]
      by_cases h10 : n < 10
      · rw [nDigits_small h10, if_pos (by omega)]
      · rw [nDigits_big h10, if_neg (by omega)]
theorem len_le {n : Nat} (h : nDigits n ≤ 400) : (dig n).length ≤ 400 := by rw [dig_len_nd]; split <;> omega
theorem len_le_iff {n : Nat} : (dig n).length ≤ 400 ↔ nDigits n ≤ 400 := by
  rw [dig_len_nd]
  by_cases h : n = 0
  · subst h; rw [if_pos rfl, nDigits_small (by omega)]; omega
  · rw [if_neg h]
theorem dig_ge {n : Nat} (h : n ≠ 0) : 10 ^ ((dig n).length - 1) ≤ n := by
  have hl : 0 < (dig n).length := List.length_pos_iff.2 (fun e => h (dig_eq_nil.1 e))
  have h1 := top_pos (n := n) (k := (dig n).length - 1) (by omega)
  have h2 := Nat.div_mul_le_self n (10 ^ ((dig n).length - 1))
  have h3 := Nat.mul_le_mul_right (10 ^ ((dig n).length - 1)) h1
  omega
theorem val_bound {xs : List Int} (h : InR xs) : val xs < 10 ^ xs.length := by
  induction xs with
  | nil => simp [val]
  | cons x xs ih =>
    have h1 := ih h.cons.2
    have h2 := h.cons.1
    simp only [val, List.length_cons, Int.pow_succ]; omega
/-- Digits in range, as many as the number has, are its digits. -/
theorem dig_of {xs : List Int} (h : InR xs) (hl : xs = [] ∨ 10 ^ (xs.length - 1) ≤ val xs) : xs = dig (val xs).toNat := by
  refine dig_val h ?_
  rcases hl with hl | hl
  · exact .inl hl
  · by_cases e : xs = []
    · exact .inl e
    · right
      intro hz
      obtain ⟨ys, rfl⟩ : ∃ ys, xs = ys ++ [0] := by
        refine ⟨xs.dropLast, ?_⟩
        have h1 := List.dropLast_concat_getLast e
        rw [List.getLast?_eq_some_getLast e] at hz
        rw [Option.some.inj hz] at h1
        exact h1.symm
      have h2 : InR ys := fun x hx => h x (by simp [hx])
      have h3 := val_bound h2
      rw [val_append] at hl
      simp [val] at hl
      omega
theorem strip_dig {xs : List Int} (hx : InR xs) {k : Nat} (hk : k ≤ xs.length) (hv : val (xs.take k) = val xs) (hz : k = 0 ∨ rd xs (k - 1) ≠ 0) : xs.take k = dig (val xs).toNat := by
  rw [← hv]
  refine dig_val (InR.take hx k) ?_
  rcases hz with rfl | hz
  · left; simp
  · right
    rcases Nat.eq_zero_or_pos k with rfl | h0
    · simp
    · have : (xs.take k).getLast? = some (rd xs (k - 1)) := by
        rw [List.getLast?_eq_getElem?]
        simp [rd, List.length_take, Nat.min_eq_left hk, List.getElem?_take, show k - 1 < k by omega, List.getElem?_eq_getElem (show k - 1 < xs.length by omega)]
      rw [this]; simpa using hz
theorem InR.snoc {xs : List Int} {x : Int} (h : InR xs) (hx : 0 ≤ x ∧ x < 10) : InR (xs ++ [x]) := fun y hy => by
  rcases List.mem_append.1 hy with hy | hy
  · exact h y hy
  · rw [List.mem_singleton.1 hy]; exact hx
theorem val_snoc (xs : List Int) (x : Int) : val (xs ++ [x]) = val xs + x * 10 ^ xs.length := by
  rw [val_append]; simp [val, Int.mul_comm]
/-- The value of the first k digits. -/
theorem val_take_dig (n k : Nat) : val ((dig n).take k) = ((n % 10 ^ k : Nat) : Int) := by
  have h1 : (dig n).take k ++ (dig n).drop k = dig n := List.take_append_drop k (dig n)
  have h2 := congrArg val h1
  rw [val_append, val_dig, dig_drop, val_dig] at h2
  by_cases hk : k ≤ (dig n).length
  · rw [List.length_take, Nat.min_eq_left hk] at h2
    have h3 := Nat.div_add_mod n (10 ^ k)
    have e : ((10 ^ k * (n / 10 ^ k) : Nat) : Int) = (10 : Int) ^ k * ((n / 10 ^ k : Nat) : Int) := by simp
    omega
  · have h3 := dig_lt n
    have h4 : 10 ^ (dig n).length ≤ 10 ^ k := Nat.pow_le_pow_right (by decide) (by omega)
    rw [List.take_of_length_le (by omega), val_dig, Nat.mod_eq_of_lt (by omega)]
theorem take_mod_succ (n k : Nat) : ((n % 10 ^ (k + 1) : Nat) : Int) = ((n % 10 ^ k : Nat) : Int) + rd (dig n) k * 10 ^ k := by
  rw [← val_take_dig, ← val_take_dig]
  by_cases h : k < (dig n).length
  · exact val_take_succ h
  · rw [List.take_of_length_le (by omega), List.take_of_length_le (by omega), rd_ge (by omega)]; simp
end Go.Proofs.YthjpbbbmnmhmmaaGreatDoor.Ten

namespace Go.Proofs.YthjpbbbmnmhmmaaGreatDoor
open Go.RowKit Go.Shelf Go.Lib

/-! ### The reference: digits of base 10 -/
theorem ri_parts {W : World} {v : Value} {zs : List Int} (h : RI W v zs) : ∃ a cap, v = .slice a zs.length cap ∧ zs.length ≤ 1000000 ∧ (zs ≠ [] → ∃ b off, a = some ⟨b, off, none⟩ ∧ ∀ j, j < zs.length → W.cell? ⟨b, off + j, none⟩ = some (.int .i64 (rd zs j))) := h

theorem strip_ten {W : World} {a : Option Addr} {cap : Nat} {xs : List Int} (h : RI W (.slice a xs.length cap) xs) (hx : Ten.InR xs) {k : Nat} (hk : k ≤ xs.length) (hv : Ten.val (xs.take k) = Ten.val xs) (hz : k = 0 ∨ rd xs (k - 1) ≠ 0) :
    RI W (.slice a k cap) (Ten.dig (Ten.val xs).toNat) := by
  rw [← Ten.strip_dig hx hk hv hz]
  obtain ⟨a', cap', e, hl, hc⟩ := h
  cases e
  refine ⟨a, cap, by simp [Nat.min_eq_left hk], by simp; omega, fun hz => ?_⟩
  obtain ⟨b, off, rfl, hcc⟩ := hc (by intro e; subst e; simp at hz)
  refine ⟨b, off, rfl, fun j hj => ?_⟩
  have hj' : j < k := by simp at hj; omega
  rw [hcc j (by omega)]
  simp [rd, List.getElem?_take, hj']

/-- A slice's length and capacity are those of a slice. -/
def Wide (v : Value) : Prop := ∀ a n c, v = .slice a n c → n ≤ c ∧ c ≤ 9223372036854775807

set_option maxRecDepth 100000 in
set_option maxHeartbeats 1000000 in
theorem r_trimmed_fr (sv : Value) (xs : List Int) (w : World) (h : RI w sv xs) (hx : Ten.InR xs) (hw : Wide sv) :
    Calls Tryz.prog 83 #[sv] w fun e w' => ∃ v, e = .returned v ∧ RI w v (Ten.dig (Ten.val xs).toNat) ∧ Wide v ∧ (∀ B, Fr B sv → Fr B v) ∧ w = w' := by
  obtain ⟨a, cap, rfl, hl, hc⟩ := h
  obtain ⟨hcap, hmax⟩ := hw _ _ _ rfl
  have H : Hid (RI w (.slice a xs.length cap) xs) := Lib.hid ⟨a, cap, rfl, hl, hc⟩
  have HX := Lib.hid hx
  have HC := Lib.hid hc
  clear hx hc hw
  go_enter Tryz.func83, Tryz.ntmps83
  go_wp2
  go_loop [3] (fun n => ∃ k : Nat, k ≤ xs.length ∧ n = .int .i64 k ∧ Hid (Ten.val (xs.take k) = Ten.val xs)) (fun n => (RowKit.intOf n).toNat)
  case atStart => exact ⟨xs.length, Nat.le_refl _, rfl, Lib.hid (by simp)⟩
  case round =>
    obtain ⟨k, hk, rfl, hv⟩ := hrel
    have fin : Hid ((k = 0 ∨ rd xs (k - 1) ≠ 0) → RI w (.slice a k cap) (Ten.dig (Ten.val xs).toNat)) := Lib.hid fun hz => strip_ten H.out HX.out hk hv.out hz
    rcases Nat.eq_zero_or_pos k with rfl | hk0
    · have hF := Lib.hid (fin.out (.inl rfl))
      clear fin
      go_wp2
      go_ret
      exact ⟨_, rfl, hF.out, by intro a' n c e; cases e; omega, fun B hB a' n c e => by cases e; exact hB _ _ _ rfl, rfl⟩
    · obtain ⟨m, rfl⟩ : ∃ m, k = m + 1 := ⟨k - 1, by omega⟩
      obtain ⟨b, off, rfl, hc⟩ := HC.out (by intro e; subst e; simp at hk)
      have hcm := hc m (by omega)
      have hlt : (m : Int) < (xs.length : Int) := by omega
      have h0 : (0 : Int) ≤ (m : Int) := by omega
      have hpos : (0 : Int) < (m : Int) + 1 := by omega
      clear hc
      rw [show ((m + 1 : Nat) : Int) = (m : Int) + 1 from rfl]
      by_cases hz : rd xs m = 0
      · have hb : (rd xs m == 0) = true := by simp [hz]
        have hv' : Hid (Ten.val (xs.take m) = Ten.val xs) := Lib.hid (by
          rw [← hv.out, Ten.val_take_succ (by omega), hz]; simp)
        clear hz
        go_wp2
        go_round
        case rel => exact ⟨m, by omega, by go_num, hv'⟩
        case measure => simp [RowKit.intOf] <;> omega
      · have hb : (rd xs m == 0) = false := by simp [hz]
        have hF := Lib.hid (fin.out (.inr hz))
        clear fin hz
        go_wp2
        go_ret
        exact ⟨_, rfl, hF.out, by intro a' n c e; cases e; omega, fun B hB a' n c e => by cases e; exact hB _ _ _ rfl, rfl⟩

theorem r_trimmed (sv : Value) (xs : List Int) (w : World) (h : RI w sv xs) (hx : Ten.InR xs) (hw : Wide sv) :
    Calls Tryz.prog 83 #[sv] w fun e w' => ∃ v, e = .returned v ∧ RI w v (Ten.dig (Ten.val xs).toNat) ∧ Wide v ∧ w = w' :=
  (r_trimmed_fr sv xs w h hx hw).mono fun e w' ⟨v, h1, h2, h3, _, h4⟩ => ⟨v, h1, h2, h3, h4⟩
end Go.Proofs.YthjpbbbmnmhmmaaGreatDoor

namespace Go.Proofs.YthjpbbbmnmhmmaaGreatDoor
open Go.RowKit Go.Shelf Go.Lib

/-- A slice value that reads as the decimal digits of a number. -/
structure RT (W : World) (v : Value) (n : Nat) : Prop where
  ri : RI W v (Ten.dig n)
  wide : Wide v
theorem RT.below {W W' : World} {v : Value} {n : Nat} (h : RT W v n) (hb : Below W.heap.size W W') : RT W' v n := ⟨h.ri.below hb, h.wide⟩
theorem RT.zero (W : World) : RT W (.slice none 0 0) 0 := ⟨by rw [Ten.dig_zero]; exact RI.nil _, fun a n c h => by cases h; omega⟩
theorem RT.form {W : World} {v : Value} {n : Nat} (h : RT W v n) : ∃ a c, v = .slice a (Ten.dig n).length c ∧ (Ten.dig n).length ≤ c ∧ c ≤ 9223372036854775807 ∧ (Ten.dig n).length ≤ 1000000 ∧ (Ten.dig n ≠ [] → ∃ b off, a = some ⟨b, off, none⟩ ∧ ∀ j, j < (Ten.dig n).length → W.cell? ⟨b, off + j, none⟩ = some (.int .i64 (rd (Ten.dig n) j))) := by
  obtain ⟨a, c, rfl, hl, hc⟩ := h.ri
  obtain ⟨h1, h2⟩ := h.wide _ _ _ rfl
  exact ⟨a, c, rfl, h1, h2, hl, hc⟩

set_option maxRecDepth 100000 in
set_option maxHeartbeats 1000000 in
theorem r_order (va vb : Value) (m n : Nat) (w : World) (ha : RT w va m) (hb : RT w vb n) :
    Calls Tryz.prog 66 #[va, vb] w fun e w' => e = .returned (.int .i64 (cmpI m n)) ∧ Below w.heap.size w w' := by
  obtain ⟨r, Hr⟩ : ∃ r, Hid ((if (Ten.dig m).length = (Ten.dig n).length then cmpDown (Ten.dig m) (Ten.dig n) (Ten.dig m).length else cmpI (Ten.dig m).length (Ten.dig n).length) = r) := ⟨_, Lib.hid rfl⟩
  rw [show cmpI (m : Int) (n : Int) = r by rw [← Hr.out, Ten.cmp_dig]]
  obtain ⟨a, ca, rfl, _, _, hla, hca⟩ := ha.form
  obtain ⟨b, cb, rfl, _, _, hlb, hcb⟩ := hb.form
  obtain ⟨xs, hxs⟩ : ∃ xs, Ten.dig m = xs := ⟨_, rfl⟩
  obtain ⟨ys, hys⟩ : ∃ ys, Ten.dig n = ys := ⟨_, rfl⟩
  rw [hxs] at hla hca Hr ⊢
  rw [hys] at hlb hcb Hr ⊢
  clear ha hb hxs hys
  by_cases hl : xs.length = ys.length
  · have H := Lib.hid hl
    clear hl
    have hbb : ((xs.length : Int) != (ys.length : Int)) = false := by have := H.out; simp [this]
    have HP := Lib.hid hca; have HQ := Lib.hid hcb
    clear hca hcb
    go_enter Tryz.func66, Tryz.ntmps66
    go_wp2_with fail
    go_loopw [5] (fun i wr => ∃ k : Nat, k ≤ xs.length ∧ i = .int .i64 ((k : Int) - 1) ∧ Hid (cmpDown xs ys k = cmpDown xs ys xs.length) ∧ Below w.heap.size w wr) (fun i _ => (RowKit.intOf i + 1).toNat)
    case atStart => exact ⟨xs.length, Nat.le_refl _, rfl, Lib.hid rfl, Below.refl _ _⟩
    case round =>
      obtain ⟨k, hk, rfl, hck, hbl⟩ := hrel
      rcases Nat.eq_zero_or_pos k with rfl | hk0
      · rw [show ((0 : Nat) : Int) - 1 = -1 from rfl]
        go_wp2_with fail
        go_ret
        exact ⟨ret_int (by rw [← Hr.out, if_pos H.out, ← hck.out]; rfl), hbl⟩
      · obtain ⟨m, rfl⟩ : ∃ m, k = m + 1 := ⟨k - 1, by omega⟩
        rw [show ((m + 1 : Nat) : Int) - 1 = (m : Int) by omega]
        have hm : m < xs.length := by omega
        have hm' : m < ys.length := by have := H.out; omega
        obtain ⟨b1, o1, rfl, hc1⟩ := HP.out (by intro e; subst e; simp at hm)
        obtain ⟨b2, o2, rfl, hc2⟩ := HQ.out (by intro e; subst e; simp at hm')
        have h1 : wr.cell? ⟨b1, o1 + m, none⟩ = some (.int .i64 (rd xs m)) := cell_on hbl (hc1 m hm)
        have h2 : wr.cell? ⟨b2, o2 + m, none⟩ = some (.int .i64 (rd ys m)) := cell_on hbl (hc2 m hm')
        have hi1 : (m : Int) < (xs.length : Int) := by omega
        have hi2 : (m : Int) < (ys.length : Int) := by omega
        clear hc1 hc2 HP HQ
        by_cases hlt : rd xs m < rd ys m
        · have hd : decide (rd xs m < rd ys m) = true := by simpa using hlt
          have HLT := Lib.hid hlt
          clear hlt
          go_wp2_with fail
          go_quiet (fail)
          go_wp2_with fail
          go_ret
          exact ⟨ret_int (by rw [← Hr.out, if_pos H.out, ← hck.out]; simp only [cmpDown]; rw [if_neg (by have := HLT.out; omega)]; unfold cmpI; rw [if_pos HLT.out]), drewN_on hbl _⟩
        · have hd : decide (rd xs m < rd ys m) = false := by simpa using hlt
          by_cases hgt : rd ys m < rd xs m
          · have hd2 : decide (rd ys m < rd xs m) = true := by simpa using hgt
            have HLT := Lib.hid hlt; have HGT := Lib.hid hgt
            clear hlt hgt
            go_wp2_with fail
            go_quiet (fail)
            go_wp2_with fail
            go_quiet (fail)
            go_wp2_with fail
            go_ret
            exact ⟨ret_int (by rw [← Hr.out, if_pos H.out, ← hck.out]; simp only [cmpDown]; rw [if_neg (by have := HGT.out; omega)]; unfold cmpI; rw [if_neg (by have := HGT.out; omega), if_pos HGT.out]), drewN_on (drewN_on hbl _) _⟩
          · have hd2 : decide (rd ys m < rd xs m) = false := by simpa using hgt
            have HE := Lib.hid (show rd xs m = rd ys m by omega)
            clear hlt hgt
            go_wp2_with fail
            go_quiet (fail)
            go_wp2_with fail
            go_quiet (fail)
            go_wp2_with fail
            go_roundw
            case rel => exact ⟨m, by omega, rfl, Lib.hid (by rw [← hck.out]; simp only [cmpDown]; rw [if_pos HE.out]), drewN_on hbl _⟩
            case measure => simp [RowKit.intOf] <;> omega
  · have hbb : ((xs.length : Int) != (ys.length : Int)) = true := by simp; omega
    by_cases hlt : xs.length < ys.length
    · have hd : decide ((xs.length : Nat) < ys.length) = true := by simpa using hlt
      have hd' : decide ((xs.length : Int) < (ys.length : Int)) = true := by simp; omega
      have H := Lib.hid hl; have HLT := Lib.hid hlt
      clear hl hca hcb hlt
      go_enter Tryz.func66, Tryz.ntmps66
      go_wp2_with fail
      go_ret
      exact ⟨ret_int (by rw [← Hr.out, if_neg H.out]; unfold cmpI; rw [if_pos (by have := HLT.out; omega)]), Below.refl _ _⟩
    · have hd : decide ((xs.length : Nat) < ys.length) = false := by simpa using hlt
      have hd' : decide ((xs.length : Int) < (ys.length : Int)) = false := by simp; omega
      have H := Lib.hid hl; have HLT := Lib.hid hlt
      clear hl hca hcb hlt
      go_enter Tryz.func66, Tryz.ntmps66
      go_wp2_with fail
      go_ret
      exact ⟨ret_int (by rw [← Hr.out, if_neg H.out]; unfold cmpI; have := H.out; have := HLT.out; rw [if_neg (by omega), if_pos (by omega)]), Below.refl _ _⟩

/-- A number of the reference: its sign, its digits. -/
def NH (W : World) (v : Value) (z : Int) : Prop := ∃ sv, v = .agg #[.bool (decide (z < 0)), sv] ∧ RT W sv z.natAbs
theorem NH.below {W W' : World} {v : Value} {z : Int} (h : NH W v z) (hb : Below W.heap.size W W') : NH W' v z := by
  obtain ⟨sv, e, hr⟩ := h; exact ⟨sv, e, hr.below hb⟩
theorem NH.parts {W : World} {v : Value} {z : Int} (h : NH W v z) : ∃ a n c, v = .agg #[.bool (decide (z < 0)), .slice a n c] ∧ RT W (.slice a n c) z.natAbs := by
  obtain ⟨sv, rfl, hr⟩ := h
  obtain ⟨a, c, rfl, _⟩ := hr.form
  exact ⟨a, _, c, rfl, hr⟩

theorem noInt_num (W : World) (b : Bool) (a : Option Addr) (n c : Nat) (t : TypeId) : NoInt (W.alloc (.cells #[.bool b, .slice a n c] t)) W.heap.size := by
  intro j z
  have hnew := World.alloc_heap_new W (.cells #[.bool b, .slice a n c] t)
  simp only [World.cell?]
  rw [hnew]
  simp only [Option.isSome_none, Bool.false_eq_true, if_false]
  match j with
  | 0 => simp
  | 1 => simp
  | j + 2 => simp

theorem trim_dig (n : Nat) : Ten.dig (Ten.val (Ten.dig n)).toNat = Ten.dig n := by rw [Ten.val_dig]; rfl

set_option maxRecDepth 100000 in
set_option maxHeartbeats 1000000 in
theorem r_signed_xs (neg : Bool) (sv : Value) (xs : List Int) (n : Nat) (w : World) (h : RI w sv xs) (hx : Ten.InR xs) (hwd : Wide sv) (hnv : (Ten.val xs).toNat = n) :
    Calls Tryz.prog 58 #[.bool neg, sv] w fun e w' => ∃ v, e = .returned v ∧ NH w' v (if neg then -(n : Int) else n) ∧ Below w.heap.size w w' := by
  have hb : Below w.heap.size w (w.alloc (.cells #[.bool false, .slice none 0 0] 51)) := (Below.refl _ w).alloc (Nat.le_refl _) _
  have k0 := cell_in w #[.bool false, .slice none 0 0] 51 0 rfl
  have k1 := cell_in w #[.bool false, .slice none 0 0] 51 1 rfl
  have f0 := frozen_in w #[.bool false, .slice none 0 0] 51 0
  have f1 := frozen_in w #[.bool false, .slice none 0 0] 51 1
  have hlt : w.heap.size < (w.alloc (.cells #[.bool false, .slice none 0 0] 51)).heap.size := by simp
  have h' := h.below hb
  have hni := noInt_num w false none 0 0 51
  have HXI := Lib.hid hx; have HWD := Lib.hid hwd; have HNV := Lib.hid hnv
  obtain ⟨a, ca, rfl, _⟩ := id h
  clear h hx hwd hnv
  go_enter Tryz.func58, Tryz.ntmps58
  go_upto_region 1 with fail
  obtain ⟨W, hW⟩ : ∃ W, w.alloc (.cells #[.bool false, .slice none 0 0] 51) = W := ⟨_, rfl⟩
  rw [hW] at hb k0 k1 f0 f1 hlt h' hni ⊢
  have k0 : W.cell? ⟨w.heap.size, 0, none⟩ = some (.bool false) := k0
  have k1 : W.cell? ⟨w.heap.size, 1, none⟩ = some (.slice none 0 0) := k1
  have H := Lib.hid h'
  have HB := Lib.hid hb
  have NI := Lib.hid hni
  clear hb h' hni hW
  go_wp2_with fail
  refine (r_trimmed _ xs _ H.out HXI.out HWD.out).mono ?_
  rw [HNV.out]
  rintro e w2 ⟨v, rfl, hv, hw, rfl⟩
  obtain ⟨a2, c2, rfl, h1, h2, h3, h4⟩ := (RT.mk hv hw).form
  have HR := Lib.hid (RT.mk hv hw)
  clear hv hw h4
  obtain ⟨L, hL⟩ : ∃ L, (Ten.dig n).length = L := ⟨_, rfl⟩
  have HL := Lib.hid hL
  rw [hL] at h1 h3 ⊢
  obtain ⟨b, hbE⟩ : ∃ b : Bool, (neg && decide (0 < L)) = b := ⟨_, rfl⟩
  have HBE := Lib.hid hbE
  have hn : Hid ((if neg then -(n : Int) else (n : Int)).natAbs = n ∧ decide ((if neg then -(n : Int) else (n : Int)) < 0) = b) := Lib.hid (by
    have e : 0 < L ↔ n ≠ 0 := by
      rw [← hL]
      constructor
      · intro h e; subst e; rw [Ten.dig_zero] at h; simp at h
      · intro h; exact List.length_pos_iff.2 (fun e => h (Ten.dig_eq_nil.1 e))
    rw [← hbE]
    cases neg
    · simp
    · simp only [if_true, Bool.true_and]
      exact ⟨by omega, by rw [Bool.eq_iff_iff]; simp; omega⟩)
  clear hL hbE
  have fin : Hid (NH ((W.setCell ⟨w.heap.size, 0, none⟩ (.bool b)).setCell ⟨w.heap.size, 1, none⟩ (.slice a2 L c2)) (.agg #[.bool b, .slice a2 L c2]) (if neg then -(n : Int) else n) ∧ Below w.heap.size w ((W.setCell ⟨w.heap.size, 0, none⟩ (.bool b)).setCell ⟨w.heap.size, 1, none⟩ (.slice a2 L c2))) := Lib.hid (by
    refine ⟨⟨_, by rw [hn.out.2], ?_⟩, below_put HB.out (Nat.le_refl _) _ _⟩
    rw [hn.out.1]
    have h := HR.out
    rw [HL.out] at h
    exact ⟨h.ri.put NI.out _ _, h.wide⟩)
  cases neg with
  | false =>
    obtain rfl : b = false := by rw [← HBE.out]; rfl
    go_wp2_with fail
    refine bodyPost_ret (v := .agg #[.bool false, .slice a2 L c2]) (by simp [results, Tryz.results58, go_sem, *]) rfl ?_
    exact ⟨_, rfl, by have h := fin.out.1; simpa using h, fin.out.2⟩
  | true =>
    by_cases h0 : 0 < L
    · obtain rfl : b = true := by rw [← HBE.out]; simpa using h0
      have hd : decide (0 < L) = true := by simpa using h0
      clear h0
      go_wp2_with fail
      refine bodyPost_ret (v := .agg #[.bool true, .slice a2 L c2]) (by simp [results, Tryz.results58, go_sem, *]) rfl ?_
      exact ⟨_, rfl, by have h := fin.out.1; simpa using h, fin.out.2⟩
    · obtain rfl : b = false := by rw [← HBE.out]; simpa using h0
      have hd : decide (0 < L) = false := by simpa using h0
      clear h0
      go_wp2_with fail
      refine bodyPost_ret (v := .agg #[.bool false, .slice a2 L c2]) (by simp [results, Tryz.results58, go_sem, *]) rfl ?_
      exact ⟨_, rfl, by have h := fin.out.1; simpa using h, fin.out.2⟩

theorem r_signed (neg : Bool) (sv : Value) (n : Nat) (w : World) (h : RT w sv n) :
    Calls Tryz.prog 58 #[.bool neg, sv] w fun e w' => ∃ v, e = .returned v ∧ NH w' v (if neg then -(n : Int) else n) ∧ Below w.heap.size w w' :=
  r_signed_xs neg sv (Ten.dig n) n w h.ri (Ten.dig_inR n) h.wide (by rw [Ten.val_dig]; rfl)
end Go.Proofs.YthjpbbbmnmhmmaaGreatDoor

namespace Go.Proofs.YthjpbbbmnmhmmaaGreatDoor
open Go.RowKit Go.Shelf Go.Lib

/-! ### Appends of one digit -/
/-- The digits that a call has written so far. -/
def Own (W : World) (base : Nat) (v : Value) (xs : List Int) : Prop := W.ownsRow base 3 1 v xs.length (xs.map (Value.int .i64))
theorem Own.nil (W : World) (base : Nat) : Own W base (.slice none 0 0) [] := World.ownsRow_nil _ _ _ _
theorem Own.ri {W : World} {base : Nat} {v : Value} {xs : List Int} (h : Own W base v xs) (hl : xs.length ≤ 1000000) : RI W v xs ∧ Wide v := by
  obtain ⟨_, hf⟩ := own_forms h
  rcases hf with ⟨rfl, rfl⟩ | ⟨g, cap, rfl, _, h1, h2, hc⟩
  · exact ⟨RI.nil _, fun a n c e => by cases e; omega⟩
  · exact ⟨⟨_, cap, rfl, hl, fun _ => ⟨g, 0, rfl, fun j hj => by simpa using hc j hj⟩⟩, fun a n c e => by cases e; unfold maxLen at h2; omega⟩

theorem stop_at {p : Prop} (h : Hid p) : p := h

theorem wpList_app1 {ops : Array Oper} {rest : List Oper} {o : Oper} {a : Act} {Q : Exit → Act → World → Prop} (hgd : o.guard = none) (s x : Operand)
    (ho : o.op = .call { callee := .builtin .append, args := #[s, x], argTypes := #[49, 49] })
    (w0 W : World) (base : Nat) (v : Value) (xs : List Int) (y : Int) (hs : a.eval s = v) (hx : a.eval x = .slice (some ⟨W.heap.size, 0, none⟩) 1 1)
    (hown : Own W base v xs) (hl : xs.length ≤ 100000) (hbase : base ≤ W.heap.size) (hb : Below base w0 W)
    (h : ∀ v' w', Own w' base v' (xs ++ [y]) → Below base w0 w' → base ≤ w'.heap.size → wpList Tryz.prog ops Q rest (a.put o.dst v') w') :
    wpList Tryz.prog ops Q (o :: rest) a (W.alloc (.cells #[.int .i64 y] 3)) := by
  obtain ⟨i0, hi, hz0, hz1, hz2⟩ := info_parts infoInt
  have hs1 : (W.alloc (.cells #[.int .i64 y] 3)).heap.size = W.heap.size + 1 := by simp
  refine wpList_append_own _ hgd s x 49 ho base 3 i0 (.int .i64 0) 1 8 Tryz.underlying49 hi hz0 hz1 hz2 rfl (by decide) v xs.length _ hs (World.ownsRow.alloc hown _) ⟨W.heap.size, 0, none⟩ 1 1 [.int .i64 y] hx rfl (cell_one_new _ _ _) (by simp [Value.oneCell']) (by unfold maxLen; omega) (by omega) (by omega) ?_
  intro v' w5 hown5 hgrow5 _
  refine h v' w5 (by unfold Own; simpa using hown5) ?_ (by have := hgrow5.size; omega)
  refine (hb.alloc hbase _).grown hgrow5 (by omega) fun j ej => ?_
  rcases hown.2 with ⟨rfl, _⟩ | ⟨g, cap, cur, rfl, hgb, _, _⟩
  · cases (show (none : Option Nat) = some j from ej)
  · obtain rfl : g = j := Option.some.inj (show some g = some j from ej)
    exact hgb

/-! ### Sums -/
theorem plus_step (m n k : Nat) (xs : List Int) (c : Int) (hl : xs.length = k) (hv : Ten.val xs + c * 10 ^ k = ((m % 10 ^ k : Nat) : Int) + ((n % 10 ^ k : Nat) : Int)) (x : Int) (hx : x = c + rd (Ten.dig m) k + rd (Ten.dig n) k) :
    Ten.val (xs ++ [x % 10]) + (x / 10) * 10 ^ (k + 1) = ((m % 10 ^ (k + 1) : Nat) : Int) + ((n % 10 ^ (k + 1) : Nat) : Int) := by
  rw [Ten.val_snoc, hl, Ten.take_mod_succ, Ten.take_mod_succ, Int.pow_succ]
  obtain ⟨P, hP⟩ : ∃ P : Int, 10 ^ k = P := ⟨_, rfl⟩
  rw [hP] at hv ⊢
  have e : x = x % 10 + 10 * (x / 10) := by omega
  have e2 : x * P = x % 10 * P + x / 10 * (P * 10) := by
    rw [Int.mul_comm P 10, ← Int.mul_assoc, Int.mul_comm (x / 10) 10, ← Int.add_mul, ← e]
  have e3 : x * P = c * P + rd (Ten.dig m) k * P + rd (Ten.dig n) k * P := by rw [hx, Int.add_mul, Int.add_mul]
  omega

theorem pow_cast (k : Nat) : ((10 ^ k : Nat) : Int) = (10 : Int) ^ k := by simp

/-- Some digit is left, or a carry: the sum has one more digit. -/
theorem plus_more (m n k : Nat) (xs : List Int) (c : Int) (h0 : 0 ≤ Ten.val xs) (hv : Ten.val xs + c * 10 ^ k = ((m % 10 ^ k : Nat) : Int) + ((n % 10 ^ k : Nat) : Int)) (h : k < (Ten.dig m).length ∨ k < (Ten.dig n).length ∨ 0 < c) :
    k < (Ten.dig (m + n)).length := by
  rcases h with h | h | h
  · have := Ten.dig_len_mono (show m ≤ m + n by omega); omega
  · have := Ten.dig_len_mono (show n ≤ m + n by omega); omega
  · refine Nat.lt_of_not_le fun hk => ?_
    have h1 := Ten.dig_lt (m + n)
    have h2 : 10 ^ (Ten.dig (m + n)).length ≤ 10 ^ k := Nat.pow_le_pow_right (by decide) hk
    have h3 := Nat.mod_le m (10 ^ k)
    have h4 := Nat.mod_le n (10 ^ k)
    have h5 : (10 : Int) ^ k ≤ c * 10 ^ k := by
      have : 0 < (10 : Int) ^ k := Int.pow_pos (by decide)
      calc (10 : Int) ^ k = 1 * 10 ^ k := by omega
        _ ≤ c * 10 ^ k := Int.mul_le_mul_of_nonneg_right (by omega) (by omega)
    have h6 := pow_cast k
    omega

theorem plus_done (m n k : Nat) (xs : List Int) (c : Int) (hl : xs.length = k) (hr : Ten.InR xs) (hc : c = 0) (hv : Ten.val xs + c * 10 ^ k = ((m % 10 ^ k : Nat) : Int) + ((n % 10 ^ k : Nat) : Int)) (hm : (Ten.dig m).length ≤ k) (hn : (Ten.dig n).length ≤ k) (hk : k ≤ (Ten.dig (m + n)).length) :
    xs = Ten.dig (m + n) := by
  have h1 := Ten.dig_lt m
  have h2 : 10 ^ (Ten.dig m).length ≤ 10 ^ k := Nat.pow_le_pow_right (by decide) hm
  have h3 := Ten.dig_lt n
  have h4 : 10 ^ (Ten.dig n).length ≤ 10 ^ k := Nat.pow_le_pow_right (by decide) hn
  rw [Nat.mod_eq_of_lt (by omega), Nat.mod_eq_of_lt (by omega), hc] at hv
  have h5 : Ten.val xs = ((m + n : Nat) : Int) := by simp at hv ⊢; omega
  have h6 := Ten.dig_of hr (by
    by_cases e : xs = []
    · exact .inl e
    · right
      have hp : 0 < xs.length := List.length_pos_iff.2 e
      have hne : m + n ≠ 0 := by intro e0; rw [e0, Ten.dig_zero] at hk; simp at hk; omega
      have h7 := Ten.dig_ge hne
      have h8 : 10 ^ (xs.length - 1) ≤ 10 ^ ((Ten.dig (m + n)).length - 1) := Nat.pow_le_pow_right (by decide) (by omega)
      have h9 := pow_cast (xs.length - 1)
      omega)
  rw [h6, h5, Int.toNat_natCast]

theorem plus_len {m n N : Nat} (hm : (Ten.dig m).length ≤ N) (hn : (Ten.dig n).length ≤ N) : (Ten.dig (m + n)).length ≤ N + 1 := by
  have h1 := Ten.dig_lt m
  have h3 := Ten.dig_lt n
  have h2 : 10 ^ (Ten.dig m).length ≤ 10 ^ N := Nat.pow_le_pow_right (by decide) hm
  have h4 : 10 ^ (Ten.dig n).length ≤ 10 ^ N := Nat.pow_le_pow_right (by decide) hn
  exact Ten.dig_len (N + 1) (m + n) (by rw [Nat.pow_succ]; omega)

set_option maxRecDepth 100000 in
set_option maxHeartbeats 2000000 in
theorem r_plus (va vb : Value) (m n : Nat) (w : World) (ha : RT w va m) (hb : RT w vb n) (hm : (Ten.dig m).length ≤ 2000) (hn : (Ten.dig n).length ≤ 2000) :
    Calls Tryz.prog 65 #[va, vb] w fun e w' => ∃ v, e = .returned v ∧ RT w' v (m + n) ∧ Below w.heap.size w w' := by
  have hml2 : (Ten.dig (m + n)).length ≤ 2001 := plus_len hm hn
  have HML2 := Lib.hid hml2
  obtain ⟨a, ca, rfl, _, _, hla, hca⟩ := ha.form
  obtain ⟨b, cb, rfl, _, _, hlb, hcb⟩ := hb.form
  have Hfin : Hid (∀ (k : Nat) (xs : List Int) (c : Int), xs.length = k → Ten.InR xs → c = 0 → Ten.val xs + c * 10 ^ k = ((m % 10 ^ k : Nat) : Int) + ((n % 10 ^ k : Nat) : Int) → (Ten.dig m).length ≤ k → (Ten.dig n).length ≤ k → k ≤ (Ten.dig (m + n)).length → xs = Ten.dig (m + n)) := Lib.hid (plus_done m n)
  have Hmore : Hid (∀ (k : Nat) (xs : List Int) (c : Int), 0 ≤ Ten.val xs → Ten.val xs + c * 10 ^ k = ((m % 10 ^ k : Nat) : Int) + ((n % 10 ^ k : Nat) : Int) → (k < (Ten.dig m).length ∨ k < (Ten.dig n).length ∨ 0 < c) → k < (Ten.dig (m + n)).length) := Lib.hid (plus_more m n)
  have Hstep : Hid (∀ (k : Nat) (xs : List Int) (c : Int), xs.length = k → Ten.val xs + c * 10 ^ k = ((m % 10 ^ k : Nat) : Int) + ((n % 10 ^ k : Nat) : Int) → ∀ x, x = c + rd (Ten.dig m) k + rd (Ten.dig n) k → Ten.val (xs ++ [x % 10]) + (x / 10) * 10 ^ (k + 1) = ((m % 10 ^ (k + 1) : Nat) : Int) + ((n % 10 ^ (k + 1) : Nat) : Int)) := Lib.hid (plus_step m n)
  have hxr := Ten.dig_inR m
  have hyr := Ten.dig_inR n
  obtain ⟨X, hX⟩ : ∃ X, Ten.dig m = X := ⟨_, rfl⟩
  obtain ⟨Y, hY⟩ : ∃ Y, Ten.dig n = Y := ⟨_, rfl⟩
  rw [hX] at hla hca Hfin Hmore Hstep hxr hm ⊢
  rw [hY] at hlb hcb Hfin Hmore Hstep hyr hn ⊢
  have HP := Lib.hid hca; have HQ := Lib.hid hcb
  have HXR := Lib.hid hxr; have HYR := Lib.hid hyr
  clear ha hb hX hY hca hcb hxr hyr hml2
  go_enter Tryz.func65, Tryz.ntmps65
  go_wp2_with fail
  go_loopw [5, 6, 7] (fun out c i wr => ∃ (k : Nat) (cc : Int) (xs : List Int), i = .int .i64 k ∧ c = .int .i64 cc ∧ xs.length = k ∧ 0 ≤ cc ∧ cc ≤ 1 ∧ k ≤ 3000 ∧ Hid (Own wr w.heap.size out xs) ∧ Hid (Ten.InR xs) ∧ Hid (Ten.val xs + cc * 10 ^ k = ((m % 10 ^ k : Nat) : Int) + ((n % 10 ^ k : Nat) : Int)) ∧ Hid (k ≤ (Ten.dig (m + n)).length) ∧ Hid (Below w.heap.size w wr) ∧ Hid (w.heap.size ≤ wr.heap.size)) (fun _ _ i _ => (5000 - RowKit.intOf i).toNat)
  case atStart => exact ⟨0, 0, [], rfl, rfl, rfl, by omega, by omega, by omega, Lib.hid (Own.nil _ _), Lib.hid Ten.InR.nil, Lib.hid (by simp [Ten.val, Nat.mod_one]), Lib.hid (by omega), Lib.hid (Below.refl _ _), Lib.hid (Nat.le_refl _)⟩
  case round =>
    obtain ⟨k, cc, xs, rfl, rfl, hlen, hc0, hc1, hk3, HO, HR, HV, HK, HB, HS⟩ := hrel
    have HL := Lib.hid hlen
    clear hlen
    have d0 : (0 : Int) ≤ rd X k ∧ rd X k < 10 := HXR.out.at k
    have d1 : (0 : Int) ≤ rd Y k ∧ rd Y k < 10 := HYR.out.at k
    obtain ⟨d0, d0'⟩ := d0
    obtain ⟨d1, d1'⟩ := d1
    have HXk : Hid (k < X.length ∨ rd X k = 0) := Lib.hid (by by_cases h : k < X.length; exact .inl h; exact .inr (rd_ge (by omega)))
    have HYk : Hid (k < Y.length ∨ rd Y k = 0) := Lib.hid (by by_cases h : k < Y.length; exact .inl h; exact .inr (rd_ge (by omega)))
    by_cases hka : k < X.length
    · obtain ⟨b1, o1, rfl, hc1⟩ := HP.out (by intro e; subst e; simp at hka)
      have g1 : wr.cell? ⟨b1, o1 + k, none⟩ = some (.int .i64 (rd X k)) := cell_on HB.out (hc1 k hka)
      have i1 : (k : Int) < (X.length : Int) := by omega
      have t1 : decide (k < X.length) = true := by simp; omega
      have KA := Lib.hid hka
      clear hc1 hka
      by_cases hkb : k < Y.length
      · obtain ⟨b2, o2, rfl, hc2⟩ := HQ.out (by intro e; subst e; simp at hkb)
        have g2 : wr.cell? ⟨b2, o2 + k, none⟩ = some (.int .i64 (rd Y k)) := cell_on HB.out (hc2 k hkb)
        have i2 : (k : Int) < (Y.length : Int) := by omega
        have t2 : decide (k < Y.length) = true := by simp; omega
        clear hc2 hkb HP HQ
        have HM := Lib.hid (Hmore.out k xs cc (Ten.val_nonneg HR.out) HV.out (.inl KA.out))
        have hk4 : k < 3000 := by have := HM.out; have := HML2.out; omega
        go_wp2_with (at_builtin; refine stop_at ?_)
        refine wpList_app1 rfl (.tmp 46) (.tmp 49) rfl w wr w.heap.size u5 xs _ rfl rfl HO.out (by have := HL.out; omega) HS.out HB.out ?_
        intro v' w5 ho5 hb5 hs5; have HO5 := Lib.hid ho5; have HB5 := Lib.hid hb5; have HS5 := Lib.hid hs5; clear ho5 hb5 hs5
        go_wp2_with fail
        go_roundw
        case rel =>
          refine ⟨k + 1, _, _, by go_num, rfl, by simp [HL.out], ?_, ?_, by omega, HO5, Lib.hid (HR.out.snoc ?_), Lib.hid ?_, Lib.hid HM.out, HB5, HS5⟩
          · omega
          · omega
          · omega
          · exact Hstep.out k xs cc HL.out HV.out _ (by rfl)
        case measure => simp [RowKit.intOf] <;> omega
      · have t2 : decide (k < Y.length) = false := by simp; omega
        have HZ := Lib.hid (HYk.out.resolve_left hkb)
        clear hkb
        have HM := Lib.hid (Hmore.out k xs cc (Ten.val_nonneg HR.out) HV.out (.inl KA.out))
        have hk4 : k < 3000 := by have := HM.out; have := HML2.out; omega
        go_wp2_with (at_builtin; refine stop_at ?_)
        refine wpList_app1 rfl (.tmp 46) (.tmp 49) rfl w wr w.heap.size u5 xs _ rfl rfl HO.out (by have := HL.out; omega) HS.out HB.out ?_
        intro v' w5 ho5 hb5 hs5; have HO5 := Lib.hid ho5; have HB5 := Lib.hid hb5; have HS5 := Lib.hid hs5; clear ho5 hb5 hs5
        go_wp2_with fail
        go_roundw
        case rel =>
          refine ⟨k + 1, _, _, by go_num, rfl, by simp [HL.out], ?_, ?_, by omega, HO5, Lib.hid (HR.out.snoc ?_), Lib.hid ?_, Lib.hid HM.out, HB5, HS5⟩
          · omega
          · omega
          · omega
          · exact Hstep.out k xs cc HL.out HV.out _ (by have := HZ.out; omega)
        case measure => simp [RowKit.intOf] <;> omega
    · have t1 : decide (k < X.length) = false := by simp; omega
      have HZ1 := Lib.hid (HXk.out.resolve_left hka)
      have KA := Lib.hid hka
      clear hka
      by_cases hkb : k < Y.length
      · obtain ⟨b2, o2, rfl, hc2⟩ := HQ.out (by intro e; subst e; simp at hkb)
        have g2 : wr.cell? ⟨b2, o2 + k, none⟩ = some (.int .i64 (rd Y k)) := cell_on HB.out (hc2 k hkb)
        have i2 : (k : Int) < (Y.length : Int) := by omega
        have t2 : decide (k < Y.length) = true := by simp; omega
        have KB := Lib.hid hkb
        clear hc2 hkb HP HQ
        have HM := Lib.hid (Hmore.out k xs cc (Ten.val_nonneg HR.out) HV.out (.inr (.inl KB.out)))
        have hk4 : k < 3000 := by have := HM.out; have := HML2.out; omega
        go_wp2_with (at_builtin; refine stop_at ?_)
        refine wpList_app1 rfl (.tmp 46) (.tmp 49) rfl w wr w.heap.size u5 xs _ rfl rfl HO.out (by have := HL.out; omega) HS.out HB.out ?_
        intro v' w5 ho5 hb5 hs5; have HO5 := Lib.hid ho5; have HB5 := Lib.hid hb5; have HS5 := Lib.hid hs5; clear ho5 hb5 hs5
        go_wp2_with fail
        go_roundw
        case rel =>
          refine ⟨k + 1, _, _, by go_num, rfl, by simp [HL.out], ?_, ?_, by omega, HO5, Lib.hid (HR.out.snoc ?_), Lib.hid ?_, Lib.hid HM.out, HB5, HS5⟩
          · omega
          · omega
          · omega
          · exact Hstep.out k xs cc HL.out HV.out _ (by have := HZ1.out; omega)
        case measure => simp [RowKit.intOf] <;> omega
      · have t2 : decide (k < Y.length) = false := by simp; omega
        have HZ := Lib.hid (HYk.out.resolve_left hkb)
        have KB := Lib.hid hkb
        clear hkb
        by_cases hcc : 0 < cc
        · have t3 : decide (0 < cc) = true := by simpa using hcc
          have HM := Lib.hid (Hmore.out k xs cc (Ten.val_nonneg HR.out) HV.out (.inr (.inr hcc)))
          have hk4 : k < 3000 := by have := HM.out; have := HML2.out; omega
          go_wp2_with (at_builtin; refine stop_at ?_)
          refine wpList_app1 rfl (.tmp 46) (.tmp 49) rfl w wr w.heap.size u5 xs _ rfl rfl HO.out (by have := HL.out; omega) HS.out HB.out ?_
          intro v' w5 ho5 hb5 hs5; have HO5 := Lib.hid ho5; have HB5 := Lib.hid hb5; have HS5 := Lib.hid hs5; clear ho5 hb5 hs5
          go_wp2_with fail
          go_roundw
          case rel =>
            refine ⟨k + 1, _, _, by go_num, rfl, by simp [HL.out], ?_, ?_, by omega, HO5, Lib.hid (HR.out.snoc ?_), Lib.hid ?_, Lib.hid HM.out, HB5, HS5⟩
            · omega
            · omega
            · omega
            · exact Hstep.out k xs cc HL.out HV.out _ (by have := HZ1.out; have := HZ.out; omega)
          case measure => simp [RowKit.intOf] <;> omega
        · have t3 : decide (0 < cc) = false := by simpa using hcc
          have HE := Lib.hid (Hfin.out k xs cc HL.out HR.out (by omega) HV.out (by have := KA.out; omega) (by have := KB.out; omega) HK.out)
          clear hcc
          go_wp2_with fail
          go_ret
          obtain ⟨h1, h2⟩ := HO.out.ri (by have := HL.out; omega)
          rw [HE.out] at h1
          exact ⟨_, rfl, ⟨h1, h2⟩, HB.out⟩

end Go.Proofs.YthjpbbbmnmhmmaaGreatDoor

namespace Go.Proofs.YthjpbbbmnmhmmaaGreatDoor
open Go.RowKit Go.Shelf Go.Lib

/-! ### Differences, digits in front -/
theorem minus_step (m n k : Nat) (xs : List Int) (c : Int) (hl : xs.length = k) (hv : Ten.val xs - c * 10 ^ k = ((m % 10 ^ k : Nat) : Int) - ((n % 10 ^ k : Nat) : Int)) (x c' : Int) (hx : x - 10 * c' = rd (Ten.dig m) k - c - rd (Ten.dig n) k) :
    Ten.val (xs ++ [x]) - c' * 10 ^ (k + 1) = ((m % 10 ^ (k + 1) : Nat) : Int) - ((n % 10 ^ (k + 1) : Nat) : Int) := by
  rw [Ten.val_snoc, hl, Ten.take_mod_succ, Ten.take_mod_succ, Int.pow_succ]
  obtain ⟨P, hP⟩ : ∃ P : Int, 10 ^ k = P := ⟨_, rfl⟩
  rw [hP] at hv ⊢
  have e2 : (x - 10 * c') * P = x * P - c' * (P * 10) := by
    rw [Int.sub_mul, Int.mul_comm P 10, ← Int.mul_assoc, Int.mul_comm c' 10]
  have e3 : (rd (Ten.dig m) k - c - rd (Ten.dig n) k) * P = rd (Ten.dig m) k * P - c * P - rd (Ten.dig n) k * P := by rw [Int.sub_mul, Int.sub_mul]
  rw [hx] at e2
  omega

theorem minus_done (m n : Nat) (hmn : n ≤ m) (xs : List Int) (c : Int) (hl : xs.length = (Ten.dig m).length) (hr : Ten.InR xs) (hc : 0 ≤ c ∧ c ≤ 1) (hv : Ten.val xs - c * 10 ^ (Ten.dig m).length = ((m % 10 ^ (Ten.dig m).length : Nat) : Int) - ((n % 10 ^ (Ten.dig m).length : Nat) : Int)) :
    (Ten.val xs).toNat = m - n := by
  have h1 := Ten.dig_lt m
  rw [Nat.mod_eq_of_lt h1, Nat.mod_eq_of_lt (by omega)] at hv
  have h2 := Ten.val_bound hr
  rw [hl] at h2
  have h3 : c = 0 ∨ c = 1 := by omega
  rcases h3 with rfl | rfl
  · rw [Int.zero_mul] at hv; omega
  · rw [Int.one_mul] at hv; omega

theorem Own.fr {W : World} {base : Nat} {v : Value} {xs : List Int} (h : Own W base v xs) : Fr base v := by
  obtain ⟨_, hf⟩ := own_forms h
  rcases hf with ⟨rfl, rfl⟩ | ⟨g, cap, rfl, hb, _⟩
  · intro a n c e; cases e
  · intro a n c e; cases e; exact hb

set_option maxRecDepth 100000 in
set_option maxHeartbeats 2000000 in
theorem r_minus_fr (va vb : Value) (m n : Nat) (w : World) (ha : RT w va m) (hb : RT w vb n) (hm : (Ten.dig m).length ≤ 3000) (hmn : n ≤ m) :
    Calls Tryz.prog 67 #[va, vb] w fun e w' => ∃ v, e = .returned v ∧ RT w' v (m - n) ∧ Fr w.heap.size v ∧ Below w.heap.size w w' := by
  obtain ⟨a, ca, rfl, _, _, hla, hca⟩ := ha.form
  obtain ⟨b, cb, rfl, _, _, hlb, hcb⟩ := hb.form
  have Hfin : Hid (∀ (xs : List Int) (c : Int), xs.length = (Ten.dig m).length → Ten.InR xs → (0 ≤ c ∧ c ≤ 1) → Ten.val xs - c * 10 ^ (Ten.dig m).length = ((m % 10 ^ (Ten.dig m).length : Nat) : Int) - ((n % 10 ^ (Ten.dig m).length : Nat) : Int) → (Ten.val xs).toNat = m - n) := Lib.hid (minus_done m n hmn)
  have Hstep : Hid (∀ (k : Nat) (xs : List Int) (c : Int), xs.length = k → Ten.val xs - c * 10 ^ k = ((m % 10 ^ k : Nat) : Int) - ((n % 10 ^ k : Nat) : Int) → ∀ x c' : Int, x - 10 * c' = rd (Ten.dig m) k - c - rd (Ten.dig n) k → Ten.val (xs ++ [x]) - c' * 10 ^ (k + 1) = ((m % 10 ^ (k + 1) : Nat) : Int) - ((n % 10 ^ (k + 1) : Nat) : Int)) := Lib.hid (minus_step m n)
  have hxr := Ten.dig_inR m
  have hyr := Ten.dig_inR n
  obtain ⟨X, hX⟩ : ∃ X, Ten.dig m = X := ⟨_, rfl⟩
  obtain ⟨Y, hY⟩ : ∃ Y, Ten.dig n = Y := ⟨_, rfl⟩
  rw [hX] at hla hca Hfin Hstep hxr hm ⊢
  rw [hY] at hlb hcb Hstep hyr ⊢
  have HP := Lib.hid hca; have HQ := Lib.hid hcb
  have HXR := Lib.hid hxr; have HYR := Lib.hid hyr
  clear ha hb hX hY hca hcb hxr hyr hmn
  go_enter Tryz.func67, Tryz.ntmps67
  go_wp2_with fail
  go_loopw [5, 6, 7] (fun out c i wr => ∃ (k : Nat) (cc : Int) (xs : List Int), i = .int .i64 k ∧ c = .int .i64 cc ∧ xs.length = k ∧ 0 ≤ cc ∧ cc ≤ 1 ∧ k ≤ X.length ∧ Hid (Own wr w.heap.size out xs) ∧ Hid (Ten.InR xs) ∧ Hid (Ten.val xs - cc * 10 ^ k = ((m % 10 ^ k : Nat) : Int) - ((n % 10 ^ k : Nat) : Int)) ∧ Hid (Below w.heap.size w wr) ∧ Hid (w.heap.size ≤ wr.heap.size)) (fun _ _ i _ => (5000 - RowKit.intOf i).toNat)
  case atStart => exact ⟨0, 0, [], rfl, rfl, rfl, by omega, by omega, by omega, Lib.hid (Own.nil _ _), Lib.hid Ten.InR.nil, Lib.hid (by simp [Ten.val, Nat.mod_one]), Lib.hid (Below.refl _ _), Lib.hid (Nat.le_refl _)⟩
  case round =>
    obtain ⟨k, cc, xs, rfl, rfl, hlen, hc0, hc1, hkX, HO, HR, HV, HB, HS⟩ := hrel
    have HL := Lib.hid hlen
    clear hlen
    have d0 : (0 : Int) ≤ rd X k ∧ rd X k < 10 := HXR.out.at k
    have d1 : (0 : Int) ≤ rd Y k ∧ rd Y k < 10 := HYR.out.at k
    obtain ⟨d0, d0'⟩ := d0
    obtain ⟨d1, d1'⟩ := d1
    have HYk : Hid (k < Y.length ∨ rd Y k = 0) := Lib.hid (by by_cases h : k < Y.length; exact .inl h; exact .inr (rd_ge (by omega)))
    by_cases hka : k < X.length
    · obtain ⟨b1, o1, rfl, hc1'⟩ := HP.out (by intro e; subst e; simp at hka)
      have g1 : wr.cell? ⟨b1, o1 + k, none⟩ = some (.int .i64 (rd X k)) := cell_on HB.out (hc1' k hka)
      have i1 : (k : Int) < (X.length : Int) := by omega
      have t1 : decide (k < X.length) = true := by simp; omega
      have KA := Lib.hid hka
      clear hc1' hka
      by_cases hkb : k < Y.length
      · obtain ⟨b2, o2, rfl, hc2⟩ := HQ.out (by intro e; subst e; simp at hkb)
        have g2 : wr.cell? ⟨b2, o2 + k, none⟩ = some (.int .i64 (rd Y k)) := cell_on HB.out (hc2 k hkb)
        have i2 : (k : Int) < (Y.length : Int) := by omega
        have t2 : decide (k < Y.length) = true := by simp; omega
        clear hc2 hkb HP HQ
        by_cases hn : rd X k - cc - rd Y k < 0
        · have t3 : decide (rd X k - cc - rd Y k < 0) = true := by simpa using hn
          have hk4 : k < 3000 := by omega
          go_wp2_with (at_builtin; refine stop_at ?_)
          refine wpList_app1 rfl (.tmp 35) (.tmp 37) rfl w wr w.heap.size u5 xs _ rfl rfl HO.out (by have := HL.out; omega) HS.out HB.out ?_
          intro v' w5 ho5 hb5 hs5; have HO5 := Lib.hid ho5; have HB5 := Lib.hid hb5; have HS5 := Lib.hid hs5; clear ho5 hb5 hs5
          go_wp2_with fail
          go_roundw
          case rel =>
            refine ⟨k + 1, _, _, by go_num, rfl, by simp [HL.out], by omega, by omega, by omega, HO5, Lib.hid (HR.out.snoc ?_), Lib.hid ?_, HB5, HS5⟩
            · omega
            · exact Hstep.out k xs cc HL.out HV.out _ _ (by omega)
          case measure => simp [RowKit.intOf] <;> omega
        · have t3 : decide (rd X k - cc - rd Y k < 0) = false := by simp; omega
          have hk4 : k < 3000 := by omega
          go_wp2_with (at_builtin; refine stop_at ?_)
          refine wpList_app1 rfl (.tmp 35) (.tmp 37) rfl w wr w.heap.size u5 xs _ rfl rfl HO.out (by have := HL.out; omega) HS.out HB.out ?_
          intro v' w5 ho5 hb5 hs5; have HO5 := Lib.hid ho5; have HB5 := Lib.hid hb5; have HS5 := Lib.hid hs5; clear ho5 hb5 hs5
          go_wp2_with fail
          go_roundw
          case rel =>
            refine ⟨k + 1, _, _, by go_num, rfl, by simp [HL.out], by omega, by omega, by omega, HO5, Lib.hid (HR.out.snoc ?_), Lib.hid ?_, HB5, HS5⟩
            · omega
            · exact Hstep.out k xs cc HL.out HV.out _ _ (by omega)
          case measure => simp [RowKit.intOf] <;> omega
      · have t2 : decide (k < Y.length) = false := by simp; omega
        have HZ := Lib.hid (HYk.out.resolve_left hkb)
        clear hkb
        by_cases hn : rd X k - cc < 0
        · have t3 : decide (rd X k - cc < 0) = true := by simpa using hn
          have hk4 : k < 3000 := by omega
          go_wp2_with (at_builtin; refine stop_at ?_)
          refine wpList_app1 rfl (.tmp 35) (.tmp 37) rfl w wr w.heap.size u5 xs _ rfl rfl HO.out (by have := HL.out; omega) HS.out HB.out ?_
          intro v' w5 ho5 hb5 hs5; have HO5 := Lib.hid ho5; have HB5 := Lib.hid hb5; have HS5 := Lib.hid hs5; clear ho5 hb5 hs5
          go_wp2_with fail
          go_roundw
          case rel =>
            refine ⟨k + 1, _, _, by go_num, rfl, by simp [HL.out], by omega, by omega, by omega, HO5, Lib.hid (HR.out.snoc ?_), Lib.hid ?_, HB5, HS5⟩
            · omega
            · exact Hstep.out k xs cc HL.out HV.out _ _ (by have := HZ.out; omega)
          case measure => simp [RowKit.intOf] <;> omega
        · have t3 : decide (rd X k - cc < 0) = false := by simp; omega
          have hk4 : k < 3000 := by omega
          go_wp2_with (at_builtin; refine stop_at ?_)
          refine wpList_app1 rfl (.tmp 35) (.tmp 37) rfl w wr w.heap.size u5 xs _ rfl rfl HO.out (by have := HL.out; omega) HS.out HB.out ?_
          intro v' w5 ho5 hb5 hs5; have HO5 := Lib.hid ho5; have HB5 := Lib.hid hb5; have HS5 := Lib.hid hs5; clear ho5 hb5 hs5
          go_wp2_with fail
          go_roundw
          case rel =>
            refine ⟨k + 1, _, _, by go_num, rfl, by simp [HL.out], by omega, by omega, by omega, HO5, Lib.hid (HR.out.snoc ?_), Lib.hid ?_, HB5, HS5⟩
            · omega
            · exact Hstep.out k xs cc HL.out HV.out _ _ (by have := HZ.out; omega)
          case measure => simp [RowKit.intOf] <;> omega
    · have t1 : decide (k < X.length) = false := by simp; omega
      obtain rfl : k = X.length := by omega
      have HE := Lib.hid (Hfin.out xs cc HL.out HR.out ⟨hc0, hc1⟩ HV.out)
      clear hka
      obtain ⟨h1, h2⟩ := HO.out.ri (by have := HL.out; omega)
      have H1 := Lib.hid h1; have H2 := Lib.hid h2
      have HF := Lib.hid HO.out.fr
      clear h1 h2
      go_wp2_with fail
      refine (r_trimmed_fr _ xs _ H1.out HR.out H2.out).mono ?_
      rintro e w2 ⟨v, rfl, hv, hw, hfr, rfl⟩
      rw [HE.out] at hv
      have HR2 := Lib.hid (RT.mk hv hw)
      have HF2 := Lib.hid (hfr _ HF.out)
      clear hv hw hfr
      go_wp2_with fail
      go_ret
      exact ⟨_, rfl, HR2.out, HF2.out, HB.out⟩

theorem r_minus (va vb : Value) (m n : Nat) (w : World) (ha : RT w va m) (hb : RT w vb n) (hm : (Ten.dig m).length ≤ 3000) (hmn : n ≤ m) :
    Calls Tryz.prog 67 #[va, vb] w fun e w' => ∃ v, e = .returned v ∧ RT w' v (m - n) ∧ Below w.heap.size w w' :=
  (r_minus_fr va vb m n w ha hb hm hmn).mono fun e w' ⟨v, h1, h2, _, h3⟩ => ⟨v, h1, h2, h3⟩

theorem run_append_front (W : World) (g : Nat) (x : Int) (sv : Value) (zs : List Int) (hg : W.cell? ⟨g, 0, none⟩ = some (.int .i64 x)) (h : RI W sv zs) (hz : zs.length ≤ 10000) :
    ∃ v' w', (Builtin.append_ #[49, 49] 49 #[.slice (some ⟨g, 0, none⟩) 1 1, sv]).run Tryz.prog W = .ok v' w' ∧ RI w' v' (x :: zs) ∧ Wide v' ∧ Below W.heap.size W w' := by
  obtain ⟨i0, hi, hz0, hz1, hz2⟩ := info_parts infoInt
  have hs := src_of_RI h Tryz.underlying49
  by_cases h0 : zs = []
  · subst h0
    refine ⟨_, _, run_append_nothing W 49 49 49 3 i0 Tryz.underlying49 hi (some ⟨g, 0, none⟩) 1 1 (Nat.le_refl _) sv (by rw [hz1]; exact hs), ⟨_, 1, rfl, by simp, fun _ => ⟨g, 0, rfl, fun j hj => ?_⟩⟩, fun a n c e => by cases e; omega, Below.refl _ _⟩
    have : j = 0 := by simpa using hj
    subst this; simpa [rd] using hg
  · have hlp : 0 < zs.length := List.length_pos_iff.2 h0
    have hold : (Builtin.firstCells i0.size 1 (.slice (some ⟨g, 0, none⟩) 1 1)).run Tryz.prog W.drew = .ok [Value.int .i64 x].toArray W.drew := by
      rw [hz1]
      exact run_firstCells_some W.drew 1 1 ⟨g, 0, none⟩ 1 1 [.int .i64 x] rfl (fun j u hu => by
        cases j with
        | zero => simp at hu; subst hu; simpa [Addr.add] using hg
        | succ j => simp at hu)
    have hrun := run_append_grow_src (P := Tryz.prog) W 49 49 49 3 i0 (.int .i64 0) Tryz.underlying49 hi hz0 (some ⟨g, 0, none⟩) 1 1 _ hold sv zs.length (zs.map (Value.int .i64)) (by rw [hz1]; exact hs) (by omega) (by omega) (growslice_fits (by omega) (by rw [hz2]; omega))
    refine ⟨_, _, hrun, ?_, ?_, (Below.refl _ W).drew.alloc (Nat.le_refl _) _⟩
    · refine ⟨_, grownCap W (1 + zs.length) 1 3, by rw [List.length_cons, Nat.add_comm], by simp; omega, fun _ => ⟨W.heap.size, 0, rfl, fun j hj => ?_⟩⟩
      have hnew := World.alloc_heap_new W.drew (.cells (([Value.int .i64 x] ++ zs.map (Value.int .i64)).toArray ++ Builtin.zeroCells (Value.int .i64 0).cells (grownCap W (1 + zs.length) 1 3 - (1 + zs.length))) 3)
      simp only [World.cell?, Nat.zero_add]
      rw [show W.heap.size = W.drew.heap.size from rfl, hnew]
      simp only [Option.isSome_none, Bool.false_eq_true, if_false]
      have hj' : j < zs.length + 1 := by simpa using hj
      rw [Array.getElem?_append_left (by simp; omega)]
      cases j with
      | zero => simp [rd]
      | succ j => simp [rd, List.getElem?_eq_getElem (show j < zs.length by omega)]
    · intro a n c e
      cases e
      exact ⟨grownCap_ge W _ _ _, by have := grownCap_le_maxLen W (1 + zs.length) 1 3 (by unfold maxLen; omega); unfold maxLen at this; omega⟩

set_option maxRecDepth 100000 in
set_option maxHeartbeats 2000000 in
theorem r_shifted (va : Value) (n : Nat) (x : Int) (w : World) (ha : RT w va n) (hn : (Ten.dig n).length ≤ 3000) (h0 : 0 ≤ x) (h1 : x < 10) :
    Calls Tryz.prog 64 #[va, .int .i64 x] w fun e w' => ∃ v, e = .returned v ∧ RT w' v (10 * n + x.toNat) ∧ Below w.heap.size w w' := by
  have hx : Hid (Ten.InR (x :: Ten.dig n) ∧ (Ten.val (x :: Ten.dig n)).toNat = 10 * n + x.toNat) := Lib.hid ⟨Ten.InR.mk ⟨h0, h1⟩ (Ten.dig_inR n), by simp only [Ten.val, Ten.val_dig]; omega⟩
  have hb : Below w.heap.size w (w.alloc (.cells #[.int .i64 x] 3)) := (Below.refl _ w).alloc (Nat.le_refl _) _
  have hg := cell_in w #[.int .i64 x] 3 0 rfl
  have hz1 : (w.alloc (.cells #[.int .i64 x] 3)).heap.size = w.heap.size + 1 := by simp
  obtain ⟨v', w', hrun, hRI, hW, hB⟩ := run_append_front (w.alloc (.cells #[.int .i64 x] 3)) w.heap.size x va (Ten.dig n) hg (ha.below hb).ri (by omega)
  have HR := Lib.hid hrun; have HI := Lib.hid hRI; have HW := Lib.hid hW
  have HB := Lib.hid (hb.trans (hB.mono (by omega)))
  clear hrun hRI hW hB hb hg hz1 ha hn h0 h1
  go_enter Tryz.func64, Tryz.ntmps64
  go_wp2_with (at_builtin; refine wpList_append_run rfl (.tmp 6) (.tmp 7) 49 49 rfl _ _ v' w' rfl rfl HR.out ?_)
  refine (r_trimmed _ _ _ HI.out hx.out.1 HW.out).mono ?_
  rintro e w2 ⟨v, rfl, hv, hw, rfl⟩
  rw [hx.out.2] at hv
  have HR2 := Lib.hid (RT.mk hv hw)
  clear hv hw
  go_wp2_with fail
  go_ret
  exact ⟨_, rfl, HR2.out, HB.out⟩
end Go.Proofs.YthjpbbbmnmhmmaaGreatDoor

namespace Go.Proofs.YthjpbbbmnmhmmaaGreatDoor
open Go.RowKit Go.Shelf Go.Lib

/-! ### Products -/
theorem ten_take_succ (Y : List Int) (k : Nat) : Ten.val (Y.take (k + 1)) = Ten.val (Y.take k) + rd Y k * 10 ^ k := by
  by_cases h : k < Y.length
  · exact Ten.val_take_succ h
  · rw [List.take_of_length_le (by omega), List.take_of_length_le (by omega), rd_ge (by omega)]; simp

theorem times_step (X Y zs : List Int) (i k : Nat) (c : Int) (hz : i + k < zs.length) (hv : Ten.val zs + c * 10 ^ (i + k) = Ten.val (X.take i) * Ten.val Y + rd X i * Ten.val (Y.take k) * 10 ^ i) (x : Int) (hx : x = rd zs (i + k) + c + rd X i * rd Y k) :
    Ten.val (zs.set (i + k) (x % 10)) + (x / 10) * 10 ^ (i + (k + 1)) = Ten.val (X.take i) * Ten.val Y + rd X i * Ten.val (Y.take (k + 1)) * 10 ^ i := by
  have h1 := Ten.val_set_add zs (i + k) (x % 10 - rd zs (i + k)) hz
  rw [show rd zs (i + k) + (x % 10 - rd zs (i + k)) = x % 10 by omega] at h1
  rw [h1, ten_take_succ, show i + (k + 1) = (i + k) + 1 by omega, Int.pow_succ]
  have e2 : x * 10 ^ (i + k) = x % 10 * 10 ^ (i + k) + x / 10 * (10 ^ (i + k) * 10) := by
    rw [Int.mul_comm (10 ^ (i + k)) 10, ← Int.mul_assoc, Int.mul_comm (x / 10) 10, ← Int.add_mul]
    congr 1; omega
  have e3 : x * 10 ^ (i + k) = rd zs (i + k) * 10 ^ (i + k) + c * 10 ^ (i + k) + rd X i * rd Y k * 10 ^ (i + k) := by rw [hx, Int.add_mul, Int.add_mul]
  have e4 : (x % 10 - rd zs (i + k)) * 10 ^ (i + k) = x % 10 * 10 ^ (i + k) - rd zs (i + k) * 10 ^ (i + k) := Int.sub_mul _ _ _
  have e5 : rd X i * (Ten.val (Y.take k) + rd Y k * 10 ^ k) * 10 ^ i = rd X i * Ten.val (Y.take k) * 10 ^ i + rd X i * rd Y k * 10 ^ (i + k) := by
    rw [Int.mul_add, Int.add_mul, Int.pow_add]
    congr 1
    rw [Int.mul_comm (10 ^ i) (10 ^ k)]
    simp only [Int.mul_assoc]
  rw [e5]
  omega

theorem times_end (X Y zs : List Int) (i k : Nat) (hk : Y.length ≤ k) (hv : Ten.val zs + 0 * 10 ^ (i + k) = Ten.val (X.take i) * Ten.val Y + rd X i * Ten.val (Y.take k) * 10 ^ i) :
    Ten.val zs = Ten.val (X.take (i + 1)) * Ten.val Y := by
  rw [List.take_of_length_le hk] at hv
  rw [ten_take_succ, Int.add_mul]
  have : rd X i * Ten.val Y * 10 ^ i = rd X i * 10 ^ i * Ten.val Y := by rw [Int.mul_assoc, Int.mul_comm (Ten.val Y), Int.mul_assoc]
  omega

theorem times_room (X Y zs : List Int) (hX : Ten.InR X) (hY : Ten.InR Y) (hzs : Ten.InR zs) (i k : Nat) (c : Int) (hc : 0 < c) (hi : i < X.length) (hv : Ten.val zs + c * 10 ^ (i + k) = Ten.val (X.take i) * Ten.val Y + rd X i * Ten.val (Y.take k) * 10 ^ i) :
    k < Y.length + 1 := by
  refine Nat.lt_of_not_le fun hk => ?_
  rw [List.take_of_length_le (show Y.length ≤ k by omega)] at hv
  have h1 : Ten.val (X.take i) * Ten.val Y + rd X i * Ten.val Y * 10 ^ i = Ten.val (X.take (i + 1)) * Ten.val Y := by
    rw [ten_take_succ, Int.add_mul]
    congr 1
    rw [Int.mul_assoc, Int.mul_comm (Ten.val Y), Int.mul_assoc]
  rw [h1] at hv
  have b1 := Ten.val_bound (hX.take (i + 1))
  have b2 := Ten.val_bound hY
  have n1 := Ten.val_nonneg (hX.take (i + 1))
  have n2 := Ten.val_nonneg hY
  have n3 := Ten.val_nonneg hzs
  rw [List.length_take, Nat.min_eq_left (by omega)] at b1
  have p1 : 0 < (10 : Int) ^ (i + k) := Int.pow_pos (by decide)
  have h3 : (10 : Int) ^ (i + k) ≤ c * 10 ^ (i + k) := by
    calc (10 : Int) ^ (i + k) = 1 * 10 ^ (i + k) := by omega
      _ ≤ c * 10 ^ (i + k) := Int.mul_le_mul_of_nonneg_right (by omega) (by omega)
  have h4 : Ten.val (X.take (i + 1)) * Ten.val Y ≤ 10 ^ (i + 1) * Ten.val Y := Int.mul_le_mul_of_nonneg_right (by omega) n2
  have p2 : 0 < (10 : Int) ^ (i + 1) := Int.pow_pos (by decide)
  have h5 : (10 : Int) ^ (i + 1) * Ten.val Y < 10 ^ (i + 1) * 10 ^ Y.length := Int.mul_lt_mul_of_pos_left b2 p2
  have h6 : (10 : Int) ^ (i + 1) * 10 ^ Y.length ≤ 10 ^ (i + k) := by
    rw [← Int.pow_add, ← pow_cast, ← pow_cast]
    have := Nat.pow_le_pow_right (show 0 < 10 by decide) (show i + 1 + Y.length ≤ i + k by omega)
    omega
  omega

theorem inR_set {zs : List Int} (h : Ten.InR zs) (j : Nat) {x : Int} (h0 : 0 ≤ x) (h1 : x < 10) : Ten.InR (zs.set j x) := fun y hy => by
  rcases List.mem_or_eq_of_mem_set hy with hy | rfl
  · exact h y hy
  · exact ⟨h0, h1⟩

set_option maxRecDepth 100000 in
set_option maxHeartbeats 4000000 in
theorem r_times (va vb : Value) (m n : Nat) (w : World) (ha : RT w va m) (hb : RT w vb n) (hm : (Ten.dig m).length ≤ 3000) (hn : (Ten.dig n).length ≤ 3000) :
    Calls Tryz.prog 59 #[va, vb] w fun e w' => ∃ v, e = .returned v ∧ RT w' v (m * n) ∧ Below w.heap.size w w' := by
  have vX := Ten.val_dig m
  have vY := Ten.val_dig n
  have hxr := Ten.dig_inR m
  have hyr := Ten.dig_inR n
  have hz1 := Ten.dig_eq_nil (n := m)
  have hz2 := Ten.dig_eq_nil (n := n)
  obtain ⟨a, ca, rfl, _, _, hla, hca⟩ := ha.form
  obtain ⟨b, cb, rfl, _, _, hlb, hcb⟩ := hb.form
  obtain ⟨X, hX⟩ : ∃ X, Ten.dig m = X := ⟨_, rfl⟩
  obtain ⟨Y, hY⟩ : ∃ Y, Ten.dig n = Y := ⟨_, rfl⟩
  rw [hX] at hla hca hxr hm vX hz1 ⊢
  rw [hY] at hlb hcb hyr hn vY hz2 ⊢
  have HP := Lib.hid hca; have HQ := Lib.hid hcb
  have HXR := Lib.hid hxr; have HYR := Lib.hid hyr
  have VX := Lib.hid vX; have VY := Lib.hid vY
  have HZ1 := Lib.hid hz1; have HZ2 := Lib.hid hz2
  clear ha hb hX hY hca hcb hxr hyr vX vY hz1 hz2
  obtain ⟨i0, hi, hz0, hz1, hz2⟩ := info_parts infoInt
  by_cases hX0 : X.length = 0
  · have t1 : (X.length == 0) = true := by simp [hX0]
    have t1' : ((X.length : Int) == 0) = true := by simp [hX0]
    have HE : Hid (m * n = 0) := Lib.hid (by rw [HZ1.out.1 (List.eq_nil_of_length_eq_zero hX0), Nat.zero_mul])
    clear hX0
    go_enter Tryz.func59, Tryz.ntmps59
    go_wp2_with fail
    go_ret
    exact ⟨_, rfl, by rw [HE.out]; exact RT.zero _, Below.refl _ _⟩
  have t1 : (X.length == 0) = false := by simp [hX0]
  have t1' : ((X.length : Int) == 0) = false := by simp [hX0]
  by_cases hY0 : Y.length = 0
  · have t2 : (Y.length == 0) = true := by simp [hY0]
    have t2' : ((Y.length : Int) == 0) = true := by simp [hY0]
    have HE : Hid (m * n = 0) := Lib.hid (by rw [HZ2.out.1 (List.eq_nil_of_length_eq_zero hY0), Nat.mul_zero])
    clear hY0 hX0
    go_enter Tryz.func59, Tryz.ntmps59
    go_wp2_with fail
    go_ret
    exact ⟨_, rfl, by rw [HE.out]; exact RT.zero _, Below.refl _ _⟩
  have t2 : (Y.length == 0) = false := by simp [hY0]
  have t2' : ((Y.length : Int) == 0) = false := by simp [hY0]
  clear hX0 hY0
  go_enter Tryz.func59, Tryz.ntmps59
  go_wp2_with (at_make; refine stop_at ?_)
  refine wpList_make_full w rfl _ _ 49 rfl w.heap.size 3 i0 (.int .i64 0) 1 Tryz.underlying49 hi hz0 hz1 _ _ _ _ (X.length + Y.length) rfl rfl rfl rfl (by rw [hz2]; omega) (by unfold maxLen; omega) (Nat.le_refl _) ?_
  intro w1 hown hgrow
  have hO : Hid (OwnI w1 w.heap.size w.heap.size (X.length + Y.length) (List.replicate (X.length + Y.length) 0)) := Lib.hid ⟨by simp, by
    have := hown; simp only [Value.cells, Nat.mul_one, toList_madeCells_one] at this; rw [List.map_replicate]; exact this⟩
  have hB0 : Hid (Below w.heap.size w w1) := Lib.hid ((Below.refl _ w).grown hgrow (Nat.le_refl _) (fun k e => by cases e))
  clear hown hgrow
  go_wp2_with fail
  obtain ⟨N, hN⟩ : ∃ N, X.length + Y.length = N := ⟨_, rfl⟩
  rw [hN] at hO ⊢
  have HN := Lib.hid hN
  go_loopw [6] (fun i wr => ∃ (k : Nat) (zs : List Int), i = .int .i64 k ∧ k ≤ X.length ∧ Hid (OwnI wr w.heap.size w.heap.size N zs) ∧ Hid (Ten.InR zs) ∧ Hid (Ten.val zs = Ten.val (X.take k) * Ten.val Y) ∧ Hid (Below w.heap.size w wr)) (fun i _ => X.length - (RowKit.intOf i).toNat)
  case atStart => exact ⟨0, _, rfl, by omega, hO, Lib.hid (fun x hx => by rw [List.eq_of_mem_replicate hx]; omega), Lib.hid (by simp [Ten.val_replicate, Ten.val]), hB0⟩
  case round =>
    clear hO hB0
    obtain ⟨i, zs, rfl, hi1, HO, HR, HV, HB⟩ := hrel
    by_cases hka : i < X.length
    · have t1 : decide (i < X.length) = true := by simp; omega
      obtain ⟨b1, o1, rfl, hc1'⟩ := HP.out (by intro e; subst e; simp at hka)
      have G1 := Lib.hid (hc1' i hka)
      have i1 : (i : Int) < (X.length : Int) := by omega
      clear hc1'
      go_wp2_with fail
      go_loopw [7, 8] (fun c k wq => ∃ (kk : Nat) (cc : Int) (zs : List Int), k = .int .i64 kk ∧ c = .int .i64 cc ∧ 0 ≤ cc ∧ cc ≤ 9 ∧ kk ≤ Y.length + 1 ∧ Hid (OwnI wq w.heap.size w.heap.size N zs) ∧ Hid (Ten.InR zs) ∧ Hid (Ten.val zs + cc * 10 ^ (i + kk) = Ten.val (X.take i) * Ten.val Y + rd X i * Ten.val (Y.take kk) * 10 ^ i) ∧ Hid (Below w.heap.size w wq)) (fun _ k _ => (5000 - RowKit.intOf k).toNat)
      case atStart => exact ⟨0, 0, zs, rfl, rfl, by omega, by omega, by omega, HO, HR, Lib.hid (by rw [HV.out]; simp [Ten.val]), HB⟩
      case round =>
        clear HO HR HV HB
        obtain ⟨k, cc, zs, rfl, rfl, hc0, hc9, hkY, HO, HR, HV, HB⟩ := hrel
        have d0 : (0 : Int) ≤ rd X i ∧ rd X i < 10 := HXR.out.at i
        have d1 : (0 : Int) ≤ rd Y k ∧ rd Y k < 10 := HYR.out.at k
        have d2 : (0 : Int) ≤ rd zs (i + k) ∧ rd zs (i + k) < 10 := HR.out.at (i + k)
        obtain ⟨d0, d0'⟩ := d0
        obtain ⟨d1, d1'⟩ := d1
        obtain ⟨d2, d2'⟩ := d2
        by_cases hkb : k < Y.length
        · have hin : i + k < N := by have := HN.out; omega
          have hin' : (i : Int) + (k : Int) < (N : Int) := by omega
          have hpos : (0 : Int) ≤ (i : Int) + (k : Int) := by omega
          obtain ⟨b2, o2, rfl, hc2⟩ := HQ.out (by intro e; subst e; simp at hkb)
          have g2 := cell_on HB.out (hc2 k hkb)
          have g1 := cell_on HB.out G1.out
          have g0 := HO.out.cell hin
          have i2 : (k : Int) < (Y.length : Int) := by omega
          have t2 : decide (k < Y.length) = true := by simp; omega
          have p0 : 0 ≤ rd X i * rd Y k := Int.mul_nonneg d0 d1
          have p1 : rd X i * rd Y k ≤ 9 * 9 := Int.mul_le_mul (by omega) (by omega) d1 (by decide)
          have HK := Lib.hid hkb
          clear hc2 hkb HP HQ
          go_wp2_with fail
          go_quiet (fail)
          obtain ⟨W2, hW2⟩ : ∃ W2, wr.drewN nq = W2 := ⟨_, rfl⟩
          have HO2 : Hid (OwnI W2 w.heap.size w.heap.size N zs) := Lib.hid (hW2 ▸ HO.out.below (drewN_on (Below.refl _ _) nq))
          have HB2 : Hid (Below w.heap.size w W2) := Lib.hid (hW2 ▸ drewN_on HB.out nq)
          rw [hW2]
          clear hW2 g0 g1 g2
          obtain ⟨x, hx⟩ : ∃ x, rd zs (i + k) + cc + rd X i * rd Y k = x := ⟨_, rfl⟩
          have hx0 : 0 ≤ x := by omega
          have hx1 : x ≤ 99 := by omega
          have HX := Lib.hid hx
          have hst := Lib.hid (HO2.out.stored (i + k) (x % 10))
          have hfz := HO2.out.frozen (i + k)
          have g0 := HO2.out.cell hin
          have Hnx := Lib.hid (times_step X Y zs i k cc (by have := HO.out.1; omega) HV.out x (by rw [← HX.out]))
          have hkY2 : k + 1 ≤ Y.length + 1 := by have := HK.out; omega
          go_wp2_with fail
          go_roundw
          case rel =>
            refine ⟨k + 1, _, _, by go_num, rfl, by omega, by omega, hkY2, Lib.hid hst.out.1, Lib.hid (inR_set HR.out _ (by omega) (by omega)), Hnx, Lib.hid (HB2.out.setCell (p := ⟨w.heap.size, i + k, none⟩) (Nat.le_refl _) _)⟩
          case measure => simp [RowKit.intOf] <;> omega
        · have t2 : decide (k < Y.length) = false := by simp; omega
          by_cases hcc : 0 < cc
          · have t3 : decide (0 < cc) = true := by simpa using hcc
            have hk1 : k < Y.length + 1 := times_room X Y zs HXR.out HYR.out HR.out i k cc hcc hka HV.out
            have hin : i + k < N := by have := HN.out; omega
            have hin' : (i : Int) + (k : Int) < (N : Int) := by omega
            have hpos : (0 : Int) ≤ (i : Int) + (k : Int) := by omega
            have g0 := HO.out.cell hin
            have hy0 : Hid (rd Y k = 0) := Lib.hid (rd_ge (by omega))
            have HO2 := HO; have HB2 := HB
            clear hkb
            obtain ⟨x, hx⟩ : ∃ x, rd zs (i + k) + cc = x := ⟨_, rfl⟩
            have hx0 : 0 ≤ x := by omega
            have hx1 : x ≤ 99 := by omega
            have HX := Lib.hid hx
            have hst := Lib.hid (HO2.out.stored (i + k) (x % 10))
            have hfz := HO2.out.frozen (i + k)
            have g0 := HO2.out.cell hin
            have Hnx := Lib.hid (times_step X Y zs i k cc (by have := HO.out.1; omega) HV.out x (by rw [← HX.out]; rw [hy0.out, Int.mul_zero, Int.add_zero]))
            have hkY2 : k + 1 ≤ Y.length + 1 := by omega
            go_wp2_with fail
            go_roundw
            case rel =>
              refine ⟨k + 1, _, _, by go_num, rfl, by omega, by omega, hkY2, Lib.hid hst.out.1, Lib.hid (inR_set HR.out _ (by omega) (by omega)), Hnx, Lib.hid (HB2.out.setCell (p := ⟨w.heap.size, i + k, none⟩) (Nat.le_refl _) _)⟩
            case measure => simp [RowKit.intOf] <;> omega
          · obtain rfl : cc = 0 := by omega
            have hE := Lib.hid (times_end X Y zs i k (by omega) HV.out)
            clear hcc hkb
            go_wp2_with fail
            exact ⟨⟨i + 1, zs, by go_num, by omega, HO, HR, hE, HB⟩, by simp [RowKit.intOf] <;> omega⟩
    · have t1 : decide (i < X.length) = false := by simp; omega
      obtain rfl : i = X.length := by omega
      have HE : Hid ((Ten.val zs).toNat = m * n) := Lib.hid (by
        rw [HV.out, List.take_of_length_le (Nat.le_refl _), VX.out, VY.out, ← Int.natCast_mul, Int.toNat_natCast])
      clear hka
      have H1 := Lib.hid (HO.out.reads (by omega))
      go_wp2_with fail
      refine (r_trimmed _ zs _ H1.out HR.out (by intro a n c e; cases e; omega)).mono ?_
      rintro e w2 ⟨v, rfl, hv, hw, rfl⟩
      rw [HE.out] at hv
      have HR2 := Lib.hid (RT.mk hv hw)
      clear hv hw
      go_wp2_with fail
      go_ret
      exact ⟨_, rfl, HR2.out, HB.out⟩
end Go.Proofs.YthjpbbbmnmhmmaaGreatDoor

namespace Go.Proofs.YthjpbbbmnmhmmaaGreatDoor
open Go.RowKit Go.Shelf Go.Lib

/-! ### Quotients -/
/-- Ahead of digit k: R is what is left of the digits from k on, zs the quotient so far. -/
structure Do (m n k R : Nat) (zs : List Int) : Prop where
  len : zs.length = (Ten.dig m).length
  rng : Ten.InR zs
  zero : ∀ j, j < k → rd zs j = 0
  q : ∃ P : Nat, m / 10 ^ k = P * n + R ∧ Ten.val zs = (P : Int) * 10 ^ k
  r : R < n
/-- In the middle of digit k: d times taken away. -/
structure Dm (m n k d R : Nat) (zs : List Int) : Prop where
  len : zs.length = (Ten.dig m).length
  rng : Ten.InR zs
  zero : ∀ j, j < k → rd zs j = 0
  at_k : rd zs k = d
  q : ∃ P : Nat, m / 10 ^ k = P * n + R ∧ Ten.val zs = (P : Int) * 10 ^ k
  r : R + d * n < 10 * n

theorem Do.start (m n : Nat) (hn : n ≠ 0) : Do m n (Ten.dig m).length 0 (List.replicate (Ten.dig m).length 0) := by
  refine ⟨by simp, fun x hx => by rw [List.eq_of_mem_replicate hx]; omega, fun j hj => by rw [rd_lt (by simpa using hj)]; simp, ⟨0, ?_, by rw [Ten.val_replicate]; simp⟩, by omega⟩
  rw [Nat.div_eq_of_lt (Ten.dig_lt m)]; simp

theorem Do.next {m n k R : Nat} {zs : List Int} (h : Do m n (k + 1) R zs) (hk : k < (Ten.dig m).length) : Dm m n k 0 (10 * R + (rd (Ten.dig m) k).toNat) zs := by
  obtain ⟨h1, h2⟩ := Ten.rd_dig hk
  obtain ⟨P, hP, hV⟩ := h.q
  refine ⟨h.len, h.rng, fun j hj => h.zero j (by omega), h.zero k (by omega), ⟨10 * P, ?_, ?_⟩, ?_⟩
  · rw [h2, hP, h1, Int.toNat_natCast, Nat.add_mul, Nat.mul_comm (P * n) 10, ← Nat.mul_assoc]; omega
  · rw [hV, Int.pow_succ, Int.natCast_mul, Int.mul_comm ((10 : Nat) : Int) (P : Int), Int.mul_assoc, Int.mul_comm (10 ^ k) 10]; rfl
  · have := h.r
    rw [h1, Int.toNat_natCast]
    have : m / 10 ^ k % 10 < 10 := Nat.mod_lt _ (by decide)
    omega

theorem Dm.more {m n k d R : Nat} {zs : List Int} (h : Dm m n k d R zs) (hk : k < (Ten.dig m).length) (hR : n ≤ R) : d + 1 ≤ 9 ∧ Dm m n k (d + 1) (R - n) (zs.set k ((d : Int) + 1)) := by
  obtain ⟨P, hP, hV⟩ := h.q
  have hd : d + 1 ≤ 9 := by
    refine Nat.le_of_not_lt fun hd => ?_
    have h1 : 9 * n ≤ d * n := Nat.mul_le_mul_right n (by omega)
    have := h.r; omega
  have hlen := h.len
  refine ⟨hd, ⟨by simpa using h.len, inR_set h.rng k (by omega) (by omega), fun j hj => ?_, ?_, ⟨P + 1, ?_, ?_⟩, ?_⟩⟩
  · have := h.zero j hj
    unfold rd at this ⊢
    rw [List.getElem?_set_ne (by omega)]; exact this
  · unfold rd
    rw [List.getElem?_set_self (by omega)]; simp
  · rw [hP, Nat.add_mul]; omega
  · have := Ten.val_set_add zs k 1 (by omega)
    rw [h.at_k] at this
    rw [this, hV, show ((P + 1 : Nat) : Int) = (P : Int) + 1 from rfl, Int.add_mul]
  · have := h.r
    rw [Nat.add_mul]; omega

theorem Dm.out {m n k d R : Nat} {zs : List Int} (h : Dm m n k d R zs) (hR : R < n) : Do m n k R zs := ⟨h.len, h.rng, h.zero, h.q, hR⟩

theorem Do.done {m n R : Nat} {zs : List Int} (h : Do m n 0 R zs) : (Ten.val zs).toNat = m / n ∧ R = m % n := by
  obtain ⟨P, hP, hV⟩ := h.q
  simp at hP hV
  have h1 : m / n = P := by
    rw [hP, Nat.mul_comm, Nat.mul_add_div (by have := h.r; omega), Nat.div_eq_of_lt h.r]; rfl
  have h2 : m % n = R := by
    rw [hP, Nat.mul_comm, Nat.mul_add_mod, Nat.mod_eq_of_lt h.r]
  rw [hV, h1, h2]; exact ⟨Int.toNat_natCast P, rfl⟩

theorem dig_lt_len {R n : Nat} {N : Nat} (h : R < 10 * n) (hn : (Ten.dig n).length ≤ N) : (Ten.dig R).length ≤ N + 1 := by
  have h1 := Ten.dig_lt n
  have h2 : 10 ^ (Ten.dig n).length ≤ 10 ^ N := Nat.pow_le_pow_right (by decide) hn
  exact Ten.dig_len (N + 1) R (by rw [Nat.pow_succ]; omega)

set_option maxRecDepth 100000 in
set_option maxHeartbeats 4000000 in
theorem r_divide (va vb : Value) (m n : Nat) (w : World) (ha : RT w va m) (hb : RT w vb n) (hm : (Ten.dig m).length ≤ 2000) (hn : (Ten.dig n).length ≤ 2000) (hnz : n ≠ 0) :
    Calls Tryz.prog 60 #[va, vb] w fun e w' => ∃ q r, e = .returned (.tuple #[q, r]) ∧ RT w' q (m / n) ∧ RT w' r (m % n) ∧ Below w.heap.size w w' := by
  have HB := Lib.hid hb
  obtain ⟨a, ca, rfl, _, _, hla, hca⟩ := ha.form
  obtain ⟨b, cb, rfl, _, _, hlb, hcb⟩ := hb.form
  have hst := Do.start m n hnz
  have Hnx : Hid (∀ k R zs, Do m n (k + 1) R zs → k < (Ten.dig m).length → Dm m n k 0 (10 * R + (rd (Ten.dig m) k).toNat) zs) := Lib.hid (fun k R zs h hk => h.next hk)
  have Hmore : Hid (∀ k d R zs, Dm m n k d R zs → k < (Ten.dig m).length → n ≤ R → d + 1 ≤ 9 ∧ Dm m n k (d + 1) (R - n) (zs.set k ((d : Int) + 1))) := Lib.hid (fun k d R zs h hk hR => h.more hk hR)
  have HXR := Lib.hid (Ten.dig_inR m)
  obtain ⟨X, hX⟩ : ∃ X, Ten.dig m = X := ⟨_, rfl⟩
  rw [hX] at hla hca hm hst Hnx Hmore HXR ⊢
  have HC := Lib.hid hca
  have HLn := Lib.hid hn
  have HX := Lib.hid hX
  have HD0 := Lib.hid hst
  clear ha hb hX hca hcb hst hn hnz hlb
  obtain ⟨i0, hi, hz0, hz1, hz2⟩ := info_parts infoInt
  go_enter Tryz.func60, Tryz.ntmps60
  go_wp2_with (at_make; refine stop_at ?_)
  refine wpList_make_full w rfl _ _ 49 rfl w.heap.size 3 i0 (.int .i64 0) 1 Tryz.underlying49 hi hz0 hz1 _ _ _ _ X.length rfl rfl rfl rfl (by rw [hz2]; omega) (by unfold maxLen; omega) (Nat.le_refl _) ?_
  intro w1 hown hgrow
  have hO : Hid (OwnI w1 w.heap.size w.heap.size X.length (List.replicate X.length 0)) := Lib.hid ⟨by simp, by
    have := hown; simp only [Value.cells, Nat.mul_one, toList_madeCells_one] at this; rw [List.map_replicate]; exact this⟩
  have hB0 : Hid (Below w.heap.size w w1) := Lib.hid ((Below.refl _ w).grown hgrow (Nat.le_refl _) (fun k e => by cases e))
  clear hown hgrow
  go_wp2_with fail
  obtain ⟨L, hL⟩ : ∃ L, X.length = L := ⟨_, rfl⟩
  have HL := Lib.hid hL
  rw [hL] at hO hm hla Hnx Hmore ⊢
  have HD0' : Hid (Do m n L 0 (List.replicate L 0)) := Lib.hid (by have := HD0.out; rw [hL] at this; exact this)
  clear HD0 hL
  go_loopw [7, 8] (fun r t wr => ∃ (k R : Nat) (zs : List Int), t = .int .i64 ((k : Int) - 1) ∧ k ≤ L ∧ Hid (OwnI wr w.heap.size w.heap.size L zs) ∧ Hid (Do m n k R zs) ∧ Hid (RT wr r R) ∧ Hid (Below w.heap.size w wr)) (fun _ t _ => (RowKit.intOf t + 1).toNat)
  case atStart => exact ⟨L, 0, _, rfl, Nat.le_refl _, hO, HD0', Lib.hid (RT.zero _), hB0⟩
  case round =>
    clear hO hB0 HD0'
    obtain ⟨k, R, zs, rfl, hk, HO, HD, HR, HBW⟩ := hrel
    rcases Nat.eq_zero_or_pos k with rfl | hk0
    · rw [show ((0 : Nat) : Int) - 1 = -1 from rfl]
      have H1 := Lib.hid (HO.out.reads (by omega))
      have HE := Lib.hid HD.out.done
      go_wp2_with fail
      refine (r_trimmed _ zs _ H1.out HD.out.rng (by intro a n c e; cases e; omega)).mono ?_
      rintro e w2 ⟨v, rfl, hv, hw, rfl⟩
      rw [HE.out.1] at hv
      have HR2 := Lib.hid (RT.mk hv hw)
      clear hv hw
      go_wp2_with fail
      go_ret2
      exact ⟨_, _, rfl, HR2.out, by rw [← HE.out.2]; exact HR.out, HBW.out⟩
    · obtain ⟨k, rfl⟩ : ∃ m, k = m + 1 := ⟨k - 1, by omega⟩
      rw [show ((k + 1 : Nat) : Int) - 1 = (k : Int) by omega]
      obtain ⟨ba, oa, rfl, hca⟩ := HC.out (by intro e; have := HL.out; rw [e] at this; simp at this; omega)
      have g1 := cell_on HBW.out (hca k (by rw [HL.out]; omega))
      have i1 : (k : Int) < (L : Int) := by omega
      have d0 : (0 : Int) ≤ rd X k ∧ rd X k < 10 := HXR.out.at k
      have HD1 := Lib.hid (Hnx.out k R zs HD.out (by omega))
      have hRl : Hid ((Ten.dig R).length ≤ 3000) := Lib.hid (Nat.le_trans (Ten.dig_len_mono (Nat.le_of_lt HD.out.r)) (by have := HLn.out; omega))
      clear hca
      have hklt : k < L := by omega
      go_wp2_with fail
      refine (r_shifted _ R _ _ HR.out hRl.out d0.1 d0.2).mono ?_
      rintro e w2 ⟨rv, rfl, hr2, hb2⟩
      have HR2 := Lib.hid hr2
      have HO2 := Lib.hid (HO.out.below hb2)
      have HB2 := Lib.hid (HBW.out.trans (hb2.mono HBW.out.size))
      clear hr2 hb2 g1 HR HO HBW hRl HD
      go_wp2_with fail
      obtain ⟨R0, hR0⟩ : ∃ R0, 10 * R + (rd X k).toNat = R0 := ⟨_, rfl⟩
      rw [hR0] at HD1 HR2
      clear hR0
      go_loopw [7] (fun r wq => ∃ (d R : Nat) (zs : List Int), d ≤ 9 ∧ Hid (OwnI wq w.heap.size w.heap.size L zs) ∧ Hid (Dm m n k d R zs) ∧ Hid (RT wq r R) ∧ Hid (Below w.heap.size w wq)) (fun _ wq => 9 - (RowKit.intOf ((wq.cell? ⟨w.heap.size, k, none⟩).getD (.int .i64 0))).toNat)
      case atStart => exact ⟨0, R0, zs, by omega, HO2, HD1, HR2, HB2⟩
      case round =>
        clear HO2 HD1 HR2 HB2 R zs
        obtain ⟨d, R, zs, hd9, HO, HD, HR, HBW⟩ := hrel
        go_wp2_with fail
        refine (r_order _ _ R n _ HR.out (HB.out.below HBW.out)).mono ?_
        rintro e w3 ⟨rfl, hb3⟩
        have HO3 := Lib.hid (HO.out.below hb3)
        have HR3 := Lib.hid (HR.out.below hb3)
        have HB3 := Lib.hid (HBW.out.trans (hb3.mono HBW.out.size))
        have hcw := (HO.out.cell hklt)
        rw [HD.out.at_k] at hcw
        clear HO HR HBW hb3
        by_cases hlt : R < n
        · obtain ⟨c, hc, hc0⟩ : ∃ c : Int, cmpI (R : Int) (n : Int) = c ∧ c < 0 := ⟨_, rfl, by unfold cmpI; rw [if_pos (by omega)]; omega⟩
          rw [hc]
          have hcd : decide (c ≥ 0) = false := by simp; omega
          have hcd' : decide (0 ≤ c) = false := by simp; omega
          have HE := Lib.hid (HD.out.out hlt)
          clear hc hlt hcw
          go_wp2_with fail
          exact ⟨⟨k, R, zs, rfl, by omega, HO3, HE, HR3, HB3⟩, by simp [RowKit.intOf] <;> omega⟩
        · obtain ⟨c, hc, hc0⟩ : ∃ c : Int, cmpI (R : Int) (n : Int) = c ∧ 0 ≤ c := ⟨_, rfl, cmpI_ge (by omega)⟩
          rw [hc]
          have hcd : decide (c ≥ 0) = true := by simp; omega
          have hcd' : decide (0 ≤ c) = true := by simp; omega
          have hge := Lib.hid (show n ≤ R by omega)
          have HM := Lib.hid (Hmore.out k d R zs HD.out hklt hge.out)
          have hRl : Hid ((Ten.dig R).length ≤ 3000) := Lib.hid (Nat.le_trans (dig_lt_len (by have := HD.out.r; omega) HLn.out) (by omega))
          clear hc hlt
          go_wp2_with fail
          refine (r_minus_fr _ _ R n w3 HR3.out (HB.out.below HB3.out) hRl.out hge.out).mono ?_
          rintro e w4 ⟨rv2, rfl, hr4, hf4, hb4⟩
          have HO4 := Lib.hid (HO3.out.below hb4)
          have HF4 := Lib.hid hf4
          have HR4 := Lib.hid hr4
          have HB4 := Lib.hid (HB3.out.trans (hb4.mono HB3.out.size))
          have g4 := HO4.out.cell hklt
          rw [HD.out.at_k] at g4
          have hfz := HO4.out.frozen k
          have hst := Lib.hid (HO4.out.stored k ((d : Int) + 1))
          have hlt3 := Lib.hid HO3.out.lt
          clear hr4 hf4 hb4
          have hd8 : d + 1 ≤ 9 := HM.out.1
          have i1' : (k : Int) < (L : Int) := i1
          go_wp2_with fail
          go_roundw
          case rel => exact ⟨d + 1, R - n, _, hd8, Lib.hid hst.out.1, Lib.hid HM.out.2, Lib.hid ⟨HR4.out.ri.store _ HF4.out hlt3.out, HR4.out.wide⟩, Lib.hid (HB4.out.setCell (p := ⟨w.heap.size, k, none⟩) (Nat.le_refl _) _)⟩
          case measure =>
            have e1 := hst.out.1.cell hklt
            rw [HM.out.2.at_k] at e1
            rw [e1, hcw]
            simp [RowKit.intOf] <;> omega
end Go.Proofs.YthjpbbbmnmhmmaaGreatDoor

namespace Go.Proofs.YthjpbbbmnmhmmaaGreatDoor
open Go.RowKit Go.Shelf Go.Lib

/-! ### A number of 64 bits -/
theorem Own.form {W : World} {base : Nat} {v : Value} {xs : List Int} (h : Own W base v xs) : ∃ a c, v = .slice a xs.length c := by
  obtain ⟨_, hf⟩ := own_forms h
  rcases hf with ⟨rfl, rfl⟩ | ⟨g, cap, rfl, _⟩
  · exact ⟨_, _, rfl⟩
  · exact ⟨_, _, rfl⟩

theorem small_step {z n : Int} {xs : List Int} (h : xs ++ Ten.dig n.natAbs = Ten.dig z.natAbs) (hn : n ≠ 0) {x : Int} (hx : x = ((n.natAbs % 10 : Nat) : Int)) {n' : Int} (hn' : n'.natAbs = n.natAbs / 10) :
    (xs ++ [x]) ++ Ten.dig n'.natAbs = Ten.dig z.natAbs := by
  rw [← h, Ten.dig_pos (show n.natAbs ≠ 0 by omega), hx, hn']; simp

set_option maxRecDepth 100000 in
set_option maxHeartbeats 2000000 in
theorem r_small (z : Int) (w : World) (h1 : -9223372036854775808 ≤ z) (h2 : z ≤ 9223372036854775807) :
    Calls Tryz.prog 57 #[.int .i64 z] w fun e w' => ∃ v, e = .returned v ∧ NH w' v z ∧ Below w.heap.size w w' := by
  have hb : Below w.heap.size w (w.alloc (.cells #[.bool false, .slice none 0 0] 51)) := (Below.refl _ w).alloc (Nat.le_refl _) _
  have k0 := cell_in w #[.bool false, .slice none 0 0] 51 0 rfl
  have k1 := cell_in w #[.bool false, .slice none 0 0] 51 1 rfl
  have f0 := frozen_in w #[.bool false, .slice none 0 0] 51 0
  have f1 := frozen_in w #[.bool false, .slice none 0 0] 51 1
  have hlt : w.heap.size < (w.alloc (.cells #[.bool false, .slice none 0 0] 51)).heap.size := by simp
  have hzl : Hid ((Ten.dig z.natAbs).length ≤ 19) := Lib.hid (Ten.dig_len 19 _ (by omega))
  go_enter Tryz.func57, Tryz.ntmps57
  go_upto_region 1 with fail
  obtain ⟨W, hW⟩ : ∃ W, w.alloc (.cells #[.bool false, .slice none 0 0] 51) = W := ⟨_, rfl⟩
  rw [hW] at hb k0 k1 f0 f1 hlt ⊢
  have k0 : W.cell? ⟨w.heap.size, 0, none⟩ = some (.bool false) := k0
  have k1 : W.cell? ⟨w.heap.size, 1, none⟩ = some (.slice none 0 0) := k1
  have K0 := Lib.hid k0; have K1 := Lib.hid k1; have F0 := Lib.hid f0; have F1 := Lib.hid f1
  have HB0 := Lib.hid hb; have HLT := Lib.hid hlt
  clear k0 k1 f0 f1 hb hlt hW
  go_wp2_with fail
  go_loopw [0, 4] (fun nv d wr => ∃ (n : Int) (xs : List Int), nv = .int .i64 n ∧ -9223372036854775808 ≤ n ∧ n ≤ 9223372036854775807 ∧ Hid (xs ++ Ten.dig n.natAbs = Ten.dig z.natAbs) ∧ Hid (Own wr W.heap.size d xs) ∧ Hid (Below W.heap.size W wr) ∧ Hid (W.heap.size ≤ wr.heap.size)) (fun nv _ _ => (RowKit.intOf nv).natAbs)
  case atStart => exact ⟨z, [], rfl, h1, h2, Lib.hid rfl, Lib.hid (Own.nil _ _), Lib.hid (Below.refl _ _), Lib.hid (Nat.le_refl _)⟩
  case round =>
    clear h1 h2
    obtain ⟨n, xs, rfl, h1, h2, HX, HO, HB, HS⟩ := hrel
    have hxl : Hid (xs.length ≤ 19) := Lib.hid (by have := congrArg List.length HX.out; rw [List.length_append] at this; have := hzl.out; omega)
    by_cases hn : n = 0
    · subst hn
      obtain ⟨a, c, rfl⟩ := HO.out.form
      have HR := Lib.hid (HO.out.ri (by have := hxl.out; omega))
      have HF := Lib.hid HO.out.fr
      have k0 := cell_on HB.out K0.out
      have k1 := cell_on HB.out K1.out
      have f0 := (HB.out.frozen (p := ⟨w.heap.size, 0, none⟩) HLT.out).trans F0.out
      have f1 := (HB.out.frozen (p := ⟨w.heap.size, 1, none⟩) HLT.out).trans F1.out
      clear h1 h2
      go_wp2_with fail
      refine bodyPost_ret (v := .agg #[.bool (decide (z < 0)), .slice a xs.length c]) (by simp [results, Tryz.results57, go_sem, *]) rfl ?_
      have e : xs = Ten.dig z.natAbs := by rw [← HX.out]; simp [Ten.dig_zero]
      refine ⟨_, rfl, ⟨_, rfl, ?_, HR.out.2⟩, ((HB0.out.trans (HB.out.mono (Nat.le_of_lt HLT.out))).setCell (p := ⟨w.heap.size, 0, none⟩) (Nat.le_refl _) _).setCell (p := ⟨w.heap.size, 1, none⟩) (Nat.le_refl _) _⟩
      rw [← e]
      exact (HR.out.1.store _ HF.out HLT.out).store _ HF.out HLT.out
    · have t1 : (n != 0) = true := by simpa using hn
      by_cases hneg : n < 0
      · have t2 : decide (n < 0) = true := by simpa using hneg
        obtain ⟨p, rfl⟩ : ∃ p : Nat, n = -(p : Int) := ⟨n.natAbs, by omega⟩
        by_cases h10 : (p : Int) % 10 = 0
        · have t3 : decide (0 < (p : Int) % 10) = false := by simp; omega
          have t4 : decide (-((p : Int) % 10) < 0) = false := by simp; omega
          go_wp2_with (at_builtin; refine stop_at ?_)
          refine wpList_app1 rfl (.tmp 16) (.tmp 18) rfl W wr W.heap.size u4 xs _ rfl rfl HO.out (by have := hxl.out; omega) HS.out HB.out ?_
          intro v' w5 ho5 hb5 hs5; have HO5 := Lib.hid ho5; have HB5 := Lib.hid hb5; have HS5 := Lib.hid hs5; clear ho5 hb5 hs5
          go_wp2_with fail
          go_roundw
          case rel =>
            exact ⟨_, _, rfl, by omega, by omega, Lib.hid (small_step HX.out hn (by omega) (by omega)), HO5, HB5, HS5⟩
          case measure => simp [RowKit.intOf] <;> omega
        · have t3 : decide (0 < (p : Int) % 10) = true := by simp; omega
          have t4 : decide (-((p : Int) % 10) < 0) = true := by simp; omega
          have t5 : 0 < (p : Int) % 10 := by omega
          go_wp2_with (at_builtin; refine stop_at ?_)
          refine wpList_app1 rfl (.tmp 16) (.tmp 18) rfl W wr W.heap.size u4 xs _ rfl rfl HO.out (by have := hxl.out; omega) HS.out HB.out ?_
          intro v' w5 ho5 hb5 hs5; have HO5 := Lib.hid ho5; have HB5 := Lib.hid hb5; have HS5 := Lib.hid hs5; clear ho5 hb5 hs5
          go_wp2_with fail
          go_roundw
          case rel =>
            exact ⟨_, _, rfl, by omega, by omega, Lib.hid (small_step HX.out hn (by omega) (by omega)), HO5, HB5, HS5⟩
          case measure => simp [RowKit.intOf] <;> omega
      · have t2 : decide (n < 0) = false := by simp; omega
        obtain ⟨p, rfl⟩ : ∃ p : Nat, n = (p : Int) := ⟨n.natAbs, by omega⟩
        go_wp2_with (at_builtin; refine stop_at ?_)
        refine wpList_app1 rfl (.tmp 16) (.tmp 18) rfl W wr W.heap.size u4 xs _ rfl rfl HO.out (by have := hxl.out; omega) HS.out HB.out ?_
        intro v' w5 ho5 hb5 hs5; have HO5 := Lib.hid ho5; have HB5 := Lib.hid hb5; have HS5 := Lib.hid hs5; clear ho5 hb5 hs5
        go_wp2_with fail
        go_roundw
        case rel =>
          exact ⟨_, _, rfl, by omega, by omega, Lib.hid (small_step HX.out hn (by omega) (by omega)), HO5, HB5, HS5⟩
        case measure => simp [RowKit.intOf] <;> omega
end Go.Proofs.YthjpbbbmnmhmmaaGreatDoor

namespace Go.Proofs.YthjpbbbmnmhmmaaGreatDoor
open Go.RowKit Go.Shelf Go.Lib

/-! ### Numbers of the reference: sums, order -/
/-- A result's cell, as it was made. -/
structure ResN (W : World) (g : Nat) : Prop where
  c0 : W.cell? ⟨g, 0, none⟩ = some (.bool false)
  c1 : W.cell? ⟨g, 1, none⟩ = some (.slice none 0 0)
  f0 : W.frozen? ⟨g, 0, none⟩ = false
  f1 : W.frozen? ⟨g, 1, none⟩ = false
  ni : NoInt W g
  lt : g < W.heap.size
theorem ResN.below {W W' : World} {g : Nat} (h : ResN W g) (hb : Below W.heap.size W W') : ResN W' g :=
  ⟨cell_on hb h.c0, cell_on hb h.c1, (hb.frozen (p := ⟨g, 0, none⟩) h.lt).trans h.f0, (hb.frozen (p := ⟨g, 1, none⟩) h.lt).trans h.f1, fun j x => by rw [hb.cell (p := ⟨g, j, none⟩) h.lt]; exact h.ni j x, Nat.lt_of_lt_of_le h.lt hb.size⟩
theorem resN_new (W : World) (t : TypeId) : ResN (W.alloc (.cells #[.bool false, .slice none 0 0] t)) W.heap.size :=
  ⟨cell_in _ _ _ 0 rfl, cell_in _ _ _ 1 rfl, frozen_in _ _ _ 0, frozen_in _ _ _ 1, noInt_num W false none 0 0 t, by simp⟩
theorem NH.put {W : World} {v : Value} {z : Int} (h : NH W v z) {g : Nat} (hg : NoInt W g) (u u' : Value) : NH ((W.setCell ⟨g, 0, none⟩ u).setCell ⟨g, 1, none⟩ u') v z := by
  obtain ⟨sv, e, hr⟩ := h; exact ⟨sv, e, hr.ri.put hg u u', hr.wide⟩

set_option maxRecDepth 100000 in
set_option maxHeartbeats 2000000 in
theorem r_negated (va : Value) (x : Int) (w : World) (ha : NH w va x) :
    Calls Tryz.prog 71 #[va] w fun e w' => ∃ v, e = .returned v ∧ NH w' v (-x) ∧ Below w.heap.size w w' := by
  obtain ⟨a, an, ac, rfl, hra⟩ := ha.parts
  have HA := Lib.hid hra
  clear ha hra
  obtain ⟨W0, hW0⟩ : ∃ W0, w.alloc (.cells #[.bool (decide (x < 0)), .slice a an ac] 51) = W0 := ⟨_, rfl⟩
  have hs0 : W0.heap.size = w.heap.size + 1 := by rw [← hW0]; simp
  have hbw0 : Below w.heap.size w W0 := by rw [← hW0]; exact (Below.refl _ w).alloc (Nat.le_refl _) _
  have a0 : W0.cell? ⟨w.heap.size, 0, none⟩ = some (.bool (decide (x < 0))) := by rw [← hW0]; exact cell_in _ _ _ 0 rfl
  have a1 : W0.cell? ⟨w.heap.size, 1, none⟩ = some (.slice a an ac) := by rw [← hW0]; exact cell_in _ _ _ 1 rfl
  obtain ⟨W, hW⟩ : ∃ W, W0.alloc (.cells #[.bool false, .slice none 0 0] 51) = W := ⟨_, rfl⟩
  have hbW : Below W0.heap.size W0 W := by rw [← hW]; exact (Below.refl _ _).alloc (Nat.le_refl _) _
  have HR := resN_new W0 51
  rw [hW] at HR
  replace a0 := cell_on hbW a0; replace a1 := cell_on hbW a1
  have HBW := Lib.hid (below_then hbw0 hbW)
  have HRR := Lib.hid HR
  have HWA := Lib.hid (HA.out.below HBW.out)
  have G5 := Lib.hid (show w.heap.size ≤ W0.heap.size by omega)
  have g1 : ¬ w.heap.size = W0.heap.size := by omega
  have g2 : ¬ W0.heap.size = w.heap.size := by omega
  clear hbw0 hbW HR hs0
  go_enter Tryz.func71, Tryz.ntmps71
  go_wp2_with fail
  refine (r_signed _ _ _ _ HWA.out).mono ?_
  rintro e w6 ⟨v6, rfl, hW6, hb6⟩
  have HB6 := Lib.hid hb6
  have HW6 := Lib.hid hW6
  obtain ⟨a6, n6, c6, rfl, _⟩ := hW6.parts
  have y0 := (HRR.out.below hb6).c0; have y1 := (HRR.out.below hb6).c1; have y2 := (HRR.out.below hb6).f0; have y3 := (HRR.out.below hb6).f1
  obtain ⟨b6, hb6e⟩ : ∃ b6, decide ((if (!decide (x < 0)) = true then -((x.natAbs : Nat) : Int) else ((x.natAbs : Nat) : Int)) < 0) = b6 := ⟨_, rfl⟩
  rw [hb6e] at HW6 ⊢
  have HE6 := Lib.hid hb6e
  clear hW6 hb6 hb6e
  go_wp2_with fail
  refine bodyPost_ret (v := .agg #[.bool b6, .slice a6 n6 c6]) (by simp [results, Tryz.results71, go_sem, *]) rfl ?_
  refine ⟨_, rfl, ?_, below_put (below_then HBW.out HB6.out) G5.out _ _⟩
  refine NH.put ?_ (HRR.out.below HB6.out).ni _ _
  have e : (if (!decide (x < 0)) = true then -((x.natAbs : Nat) : Int) else ((x.natAbs : Nat) : Int)) = -x := by
    by_cases h : x < 0 <;> simp [h] <;> omega
  rw [← e]; exact HW6.out

set_option maxRecDepth 100000 in
set_option maxHeartbeats 4000000 in
theorem r_below (va vb : Value) (x y : Int) (w : World) (ha : NH w va x) (hb : NH w vb y) :
    Calls Tryz.prog 73 #[va, vb] w fun e w' => e = .returned (.bool (decide (x < y))) ∧ Below w.heap.size w w' := by
  obtain ⟨a, an, ac, rfl, hra⟩ := ha.parts
  obtain ⟨b, bn, bc, rfl, hrb⟩ := hb.parts
  have HA := Lib.hid hra; have HB := Lib.hid hrb
  clear ha hb hra hrb
  obtain ⟨m, hm⟩ : ∃ m, x.natAbs = m := ⟨_, rfl⟩
  obtain ⟨n, hn⟩ : ∃ n, y.natAbs = n := ⟨_, rfl⟩
  obtain ⟨p, hp⟩ : ∃ p, decide (x < 0) = p := ⟨_, rfl⟩
  obtain ⟨q, hq⟩ : ∃ q, decide (y < 0) = q := ⟨_, rfl⟩
  have HM := Lib.hid hm; have HN := Lib.hid hn; have HP := Lib.hid hp; have HQ := Lib.hid hq
  obtain ⟨R, hR⟩ : ∃ R, decide (x < y) = R := ⟨_, rfl⟩
  have HRes := Lib.hid hR
  rw [hm] at HA; rw [hn] at HB; rw [hp, hq, hR]
  clear hm hn hp hq hR
  have hb : ∀ o o', Below w.heap.size w ((w.alloc o).alloc o') := fun o o' => ((Below.refl _ w).alloc (Nat.le_refl _) o).alloc (by simp) o'
  have HBB := Lib.hid hb
  clear hb
  have hc : Hid (cmpI (m : Int) (n : Int) = if m < n then -1 else if n < m then 1 else 0) := Lib.hid (by unfold cmpI; simp)
  by_cases hpq : p = q
  · subst hpq
    rcases Nat.lt_trichotomy m n with h | h | h
    all_goals
      have HMN := Lib.hid h
      obtain ⟨c, hcc⟩ : ∃ c, cmpI (m : Int) (n : Int) = c := ⟨_, rfl⟩
      have HC := Lib.hid hcc
      have hres : R = ((decide (c < 0) && !p) || (decide (0 < c) && p)) := by
        rw [← hcc, hc.out, ← HRes.out]
        have h1 := HP.out; have h2 := HQ.out; have h3 := HMN.out; have h4 := HM.out; have h5 := HN.out
        rw [← h4, ← h5] at h3 ⊢
        first | rw [if_pos h3] | (rw [if_neg (by omega), if_neg (by omega)]) | (rw [if_neg (by omega), if_pos h3])
        cases p <;> simp at h1 h2 ⊢ <;> omega
      have hcv : c = -1 ∨ c = 0 ∨ c = 1 := by rw [← hcc, hc.out]; split <;> (try split) <;> simp
      have HRR := Lib.hid hres
      clear hres h hcc
      rcases hcv with rfl | rfl | rfl <;> cases p
    all_goals
      go_enter Tryz.func73, Tryz.ntmps73
      go_wp2_with fail
      refine (r_order _ _ m n _ (HA.out.below (HBB.out _ _)) (HB.out.below (HBB.out _ _))).mono ?_
      rw [HC.out]
      rintro e w4 ⟨rfl, hb4⟩
      have HB4 := Lib.hid (below_then (HBB.out _ _) hb4)
      clear hb4
      go_wp2_with fail
      go_ret
      exact ⟨ret_bool (by rw [HRR.out]; rfl), HB4.out⟩
  · have HPQ := Lib.hid hpq
    have hpq1 : (p == q) = false := by simp [hpq]
    have hpq2 : (p != q) = true := by simp [hpq]
    clear hpq
    go_enter Tryz.func73, Tryz.ntmps73
    go_wp2_with fail
    go_ret
    refine ⟨ret_bool ?_, HBB.out _ _⟩
    rw [← HRes.out]
    have h1 := HP.out; have h2 := HQ.out; have h4 := HPQ.out
    cases p <;> cases q <;> simp at h1 h2 h4 ⊢ <;> omega
end Go.Proofs.YthjpbbbmnmhmmaaGreatDoor

namespace Go.Proofs.YthjpbbbmnmhmmaaGreatDoor
open Go.RowKit Go.Shelf Go.Lib

theorem NH.form {W : World} {v : Value} {z : Int} (h : NH W v z) : ∃ b a n c, v = .agg #[.bool b, .slice a n c] := by
  obtain ⟨a, n, c, rfl, _⟩ := h.parts
  exact ⟨_, _, _, _, rfl⟩

set_option maxRecDepth 100000 in
set_option maxHeartbeats 4000000 in
theorem r_add (va vb : Value) (x y : Int) (w : World) (ha : NH w va x) (hb : NH w vb y) (hla : (Ten.dig x.natAbs).length ≤ 1000) (hlb : (Ten.dig y.natAbs).length ≤ 1000) :
    Calls Tryz.prog 70 #[va, vb] w fun e w' => ∃ v, e = .returned v ∧ NH w' v (x + y) ∧ Below w.heap.size w w' := by
  obtain ⟨a, an, ac, rfl, hra⟩ := ha.parts
  obtain ⟨b, bn, bc, rfl, hrb⟩ := hb.parts
  have HA := Lib.hid hra; have HB := Lib.hid hrb
  have HLA := Lib.hid hla; have HLB := Lib.hid hlb
  clear ha hb hra hrb hla hlb
  obtain ⟨m, hm⟩ : ∃ m, x.natAbs = m := ⟨_, rfl⟩
  obtain ⟨n, hn⟩ : ∃ n, y.natAbs = n := ⟨_, rfl⟩
  obtain ⟨p, hp⟩ : ∃ p, decide (x < 0) = p := ⟨_, rfl⟩
  obtain ⟨q, hq⟩ : ∃ q, decide (y < 0) = q := ⟨_, rfl⟩
  have HM := Lib.hid hm; have HN := Lib.hid hn; have HP := Lib.hid hp; have HQ := Lib.hid hq
  rw [hm] at HA HLA; rw [hn] at HB HLB; rw [hp, hq]
  clear hm hn hp hq
  obtain ⟨W0, hW0⟩ : ∃ W0, (w.alloc (.cells #[.bool p, .slice a an ac] 51)).alloc (.cells #[.bool q, .slice b bn bc] 51) = W0 := ⟨_, rfl⟩
  have hs0 : W0.heap.size = w.heap.size + 1 + 1 := by rw [← hW0]; simp
  have hbw0 : Below w.heap.size w W0 := by rw [← hW0]; exact ((Below.refl _ w).alloc (Nat.le_refl _) _).alloc (by simp) _
  have a0 : W0.cell? ⟨w.heap.size, 1, none⟩ = some (.slice a an ac) := by rw [← hW0]; exact cell_on ((Below.refl _ _).alloc (Nat.le_refl _) _) (cell_in _ _ _ 1 rfl)
  have a1 : W0.cell? ⟨w.heap.size, 0, none⟩ = some (.bool p) := by rw [← hW0]; exact cell_on ((Below.refl _ _).alloc (Nat.le_refl _) _) (cell_in _ _ _ 0 rfl)
  have b0 : W0.cell? ⟨w.heap.size + 1, 1, none⟩ = some (.slice b bn bc) := by rw [← hW0]; exact cell_in2 _ _ _ _ 1 rfl
  have b1 : W0.cell? ⟨w.heap.size + 1, 0, none⟩ = some (.bool q) := by rw [← hW0]; exact cell_in2 _ _ _ _ 0 rfl
  obtain ⟨W, hW⟩ : ∃ W, W0.alloc (.cells #[.bool false, .slice none 0 0] 51) = W := ⟨_, rfl⟩
  have hbW : Below W0.heap.size W0 W := by rw [← hW]; exact (Below.refl _ _).alloc (Nat.le_refl _) _
  have HR := resN_new W0 51
  rw [hW] at HR
  replace a0 := cell_on hbW a0; replace a1 := cell_on hbW a1; replace b0 := cell_on hbW b0; replace b1 := cell_on hbW b1
  have HBW := Lib.hid (below_then hbw0 hbW)
  have DR := Lib.hid ((Below.refl W.heap.size W).drew)
  have HRR := Lib.hid HR
  have HWA := Lib.hid (HA.out.below HBW.out); have HWB := Lib.hid (HB.out.below HBW.out)
  have g1 : ¬ w.heap.size = W0.heap.size := by omega
  have g2 : ¬ W0.heap.size = w.heap.size := by omega
  have g3 : ¬ w.heap.size + 1 = W0.heap.size := by omega
  have g4 : ¬ W0.heap.size = w.heap.size + 1 := by omega
  have G5 := Lib.hid (show w.heap.size ≤ W0.heap.size by omega)
  clear hbw0 hbW HR hs0
  by_cases hpq : p = q
  · subst hpq
    go_enter Tryz.func70, Tryz.ntmps70
    go_wp2_with fail
    go_region_held3 (fun w' => w'.cell? ⟨w.heap.size, 1, none⟩ = some (.slice a an ac) ∧ w'.cell? ⟨w.heap.size, 0, none⟩ = some (.bool p) ∧ w'.cell? ⟨w.heap.size + 1, 1, none⟩ = some (.slice b bn bc) ∧ w'.cell? ⟨w.heap.size + 1, 0, none⟩ = some (.bool p))
      (first | go_keep | (go_split_ands; exact ⟨cell_on hb5 a0, cell_on hb5 a1, cell_on hb5 b0, cell_on hb5 b1⟩) | (go_split_ands; exact ⟨cell_on hb6 a0, cell_on hb6 a1, cell_on hb6 b0, cell_on hb6 b1⟩))
      (first | (go_at_call 65; refine (r_plus _ _ m n _ (HWA.out.below DR.out) (HWB.out.below DR.out) (by have := HLA.out; omega) (by have := HLB.out; omega)).mono ?_; rintro e w5 ⟨v5, rfl, hR5, hb5'⟩; have hb5 := below_then DR.out hb5'; have HB5 := Lib.hid hb5; have HR5 := Lib.hid hR5; obtain ⟨a5, c5, rfl, hq5⟩ := hR5.form; clear hb5' hq5)
             | (go_at_call 58; refine (r_signed _ _ _ _ HR5.out).mono ?_; rintro e w6 ⟨v6, rfl, hW6, hb6'⟩; obtain ⟨b6, a6, n6, c6, rfl⟩ := hW6.form; have hb6 := below_then HB5.out hb6'; have HB6 := Lib.hid hb6; have HW6 := Lib.hid hW6; have y0 := (HRR.out.below hb6).c0; have y1 := (HRR.out.below hb6).c1; have y2 := (HRR.out.below hb6).f0; have y3 := (HRR.out.below hb6).f1; clear hb6' hW6))
    go_wp2_with fail
    refine bodyPost_ret (v := .agg #[.bool b6, .slice a6 n6 c6]) (by simp [results, Tryz.results70, go_sem, *]) rfl ?_
    refine ⟨_, rfl, ?_, below_put (below_then HBW.out HB6.out) G5.out _ _⟩
    refine NH.put ?_ (HRR.out.below HB6.out).ni _ _
    have e : (if p then -((m + n : Nat) : Int) else ((m + n : Nat) : Int)) = x + y := by
      rw [← HM.out, ← HN.out]; have h1 := HP.out; have h2 := HQ.out
      cases p <;> simp at h1 h2 ⊢ <;> omega
    rw [← e]; exact HW6.out
  · have HPQ := Lib.hid hpq
    have hpq' : (p == q) = false := by simp [hpq]
    clear hpq
    by_cases hmn : m < n
    · have hc : cmpI (m : Int) (n : Int) = -1 := by unfold cmpI; rw [if_pos (by omega)]
      have HC := Lib.hid hc
      have HMN := Lib.hid hmn
      clear hc hmn
      go_enter Tryz.func70, Tryz.ntmps70
      go_wp2_with fail
      refine (r_order _ _ m n _ HWA.out HWB.out).mono ?_
      rw [HC.out]
      rintro e w4 ⟨rfl, hb4⟩
      replace a0 := cell_on hb4 a0
      replace a1 := cell_on hb4 a1
      replace b0 := cell_on hb4 b0
      replace b1 := cell_on hb4 b1
      have HBW4 := Lib.hid (below_then HBW.out hb4)
      have DR4 := Lib.hid ((Below.refl w4.heap.size w4).drew)
      have HRR4 := Lib.hid (HRR.out.below hb4)
      have HWA4 := Lib.hid (HWA.out.below hb4)
      have HWB4 := Lib.hid (HWB.out.below hb4)
      clear hb4
      go_wp2_with fail
      go_region_held3 (fun w' => w'.cell? ⟨w.heap.size, 1, none⟩ = some (.slice a an ac) ∧ w'.cell? ⟨w.heap.size, 0, none⟩ = some (.bool p) ∧ w'.cell? ⟨w.heap.size + 1, 1, none⟩ = some (.slice b bn bc) ∧ w'.cell? ⟨w.heap.size + 1, 0, none⟩ = some (.bool q))
        (first | go_keep | (go_split_ands; exact ⟨cell_on hb5 a0, cell_on hb5 a1, cell_on hb5 b0, cell_on hb5 b1⟩) | (go_split_ands; exact ⟨cell_on hb6 a0, cell_on hb6 a1, cell_on hb6 b0, cell_on hb6 b1⟩))
        (first | (go_at_call 67; refine (r_minus _ _ n m _ (HWB4.out.below DR4.out) (HWA4.out.below DR4.out) (by have := HLB.out; omega) (Nat.le_of_lt HMN.out)).mono ?_; rintro e w5 ⟨v5, rfl, hR5, hb5'⟩; have hb5 := below_then DR4.out hb5'; have HB5 := Lib.hid hb5; have HR5 := Lib.hid hR5; obtain ⟨a5, c5, rfl, hq5⟩ := hR5.form; clear hb5' hq5)
               | (go_at_call 58; refine (r_signed _ _ _ _ HR5.out).mono ?_; rintro e w6 ⟨v6, rfl, hW6, hb6'⟩; obtain ⟨b6, a6, n6, c6, rfl⟩ := hW6.form; have hb6 := below_then HB5.out hb6'; have HB6 := Lib.hid hb6; have HW6 := Lib.hid hW6; have y0 := (HRR4.out.below hb6).c0; have y1 := (HRR4.out.below hb6).c1; have y2 := (HRR4.out.below hb6).f0; have y3 := (HRR4.out.below hb6).f1; clear hb6' hW6))
      go_wp2_with fail
      refine bodyPost_ret (v := .agg #[.bool b6, .slice a6 n6 c6]) (by simp [results, Tryz.results70, go_sem, *]) rfl ?_
      refine ⟨_, rfl, ?_, below_put (below_then HBW4.out HB6.out) G5.out _ _⟩
      refine NH.put ?_ (HRR4.out.below HB6.out).ni _ _
      have e : (if q then -((n - m : Nat) : Int) else ((n - m : Nat) : Int)) = x + y := by
        rw [← HM.out, ← HN.out]; have h1 := HP.out; have h2 := HQ.out; have h3 := HMN.out; rw [← HM.out, ← HN.out] at h3; have h4 := HPQ.out
        cases p <;> cases q <;> simp at h1 h2 h4 ⊢ <;> omega
      rw [← e]; exact HW6.out
    · have hc : ¬ cmpI (m : Int) (n : Int) < 0 := by have := cmpI_ge (x := (m : Int)) (y := (n : Int)) (by omega); omega
      obtain ⟨r, hr⟩ : ∃ r, cmpI (m : Int) (n : Int) = r := ⟨_, rfl⟩
      have HC := Lib.hid hr
      rw [hr] at hc
      have hc' : 0 ≤ r := by omega
      have HMN := Lib.hid (Nat.le_of_not_lt hmn)
      clear hmn hr
      go_enter Tryz.func70, Tryz.ntmps70
      go_wp2_with fail
      refine (r_order _ _ m n _ HWA.out HWB.out).mono ?_
      rw [HC.out]
      rintro e w4 ⟨rfl, hb4⟩
      replace a0 := cell_on hb4 a0
      replace a1 := cell_on hb4 a1
      replace b0 := cell_on hb4 b0
      replace b1 := cell_on hb4 b1
      have HBW4 := Lib.hid (below_then HBW.out hb4)
      have DR4 := Lib.hid ((Below.refl w4.heap.size w4).drew)
      have HRR4 := Lib.hid (HRR.out.below hb4)
      have HWA4 := Lib.hid (HWA.out.below hb4)
      have HWB4 := Lib.hid (HWB.out.below hb4)
      clear hb4
      go_wp2_with fail
      go_region_held3 (fun w' => w'.cell? ⟨w.heap.size, 1, none⟩ = some (.slice a an ac) ∧ w'.cell? ⟨w.heap.size, 0, none⟩ = some (.bool p) ∧ w'.cell? ⟨w.heap.size + 1, 1, none⟩ = some (.slice b bn bc) ∧ w'.cell? ⟨w.heap.size + 1, 0, none⟩ = some (.bool q))
        (first | go_keep | (go_split_ands; exact ⟨cell_on hb5 a0, cell_on hb5 a1, cell_on hb5 b0, cell_on hb5 b1⟩) | (go_split_ands; exact ⟨cell_on hb6 a0, cell_on hb6 a1, cell_on hb6 b0, cell_on hb6 b1⟩))
        (first | (go_at_call 67; refine (r_minus _ _ m n _ (HWA4.out.below DR4.out) (HWB4.out.below DR4.out) (by have := HLA.out; omega) HMN.out).mono ?_; rintro e w5 ⟨v5, rfl, hR5, hb5'⟩; have hb5 := below_then DR4.out hb5'; have HB5 := Lib.hid hb5; have HR5 := Lib.hid hR5; obtain ⟨a5, c5, rfl, hq5⟩ := hR5.form; clear hb5' hq5)
               | (go_at_call 58; refine (r_signed _ _ _ _ HR5.out).mono ?_; rintro e w6 ⟨v6, rfl, hW6, hb6'⟩; obtain ⟨b6, a6, n6, c6, rfl⟩ := hW6.form; have hb6 := below_then HB5.out hb6'; have HB6 := Lib.hid hb6; have HW6 := Lib.hid hW6; have y0 := (HRR4.out.below hb6).c0; have y1 := (HRR4.out.below hb6).c1; have y2 := (HRR4.out.below hb6).f0; have y3 := (HRR4.out.below hb6).f1; clear hb6' hW6))
      go_wp2_with fail
      refine bodyPost_ret (v := .agg #[.bool b6, .slice a6 n6 c6]) (by simp [results, Tryz.results70, go_sem, *]) rfl ?_
      refine ⟨_, rfl, ?_, below_put (below_then HBW4.out HB6.out) G5.out _ _⟩
      refine NH.put ?_ (HRR4.out.below HB6.out).ni _ _
      have e : (if p then -((m - n : Nat) : Int) else ((m - n : Nat) : Int)) = x + y := by
        rw [← HM.out, ← HN.out]; have h1 := HP.out; have h2 := HQ.out; have h3 := HMN.out; rw [← HM.out, ← HN.out] at h3; have h4 := HPQ.out
        cases p <;> cases q <;> simp at h1 h2 h4 ⊢ <;> omega
      rw [← e]; exact HW6.out
end Go.Proofs.YthjpbbbmnmhmmaaGreatDoor

namespace Go.Proofs.YthjpbbbmnmhmmaaGreatDoor
open Go.RowKit Go.Shelf Go.Lib

theorem ten_one : Ten.dig 1 = [1] := by decide +kernel
theorem RT.one {W : World} {g : Nat} {t : TypeId} (h : W.cell? ⟨g, 0, none⟩ = some (.int .i64 1)) : RT W (.slice (some ⟨g, 0, none⟩) 1 1) 1 := by
  refine ⟨?_, fun a n c e => by cases e; omega⟩
  rw [ten_one]
  refine ⟨_, 1, rfl, by simp, fun _ => ⟨g, 0, rfl, fun j hj => ?_⟩⟩
  have : j = 0 := by simpa using hj
  subst this; simpa [rd] using h

set_option maxRecDepth 100000 in
set_option maxHeartbeats 4000000 in
theorem r_floor (va vb : Value) (x y : Int) (w : World) (ha : NH w va x) (hb : NH w vb y) (hla : (Ten.dig x.natAbs).length ≤ 400) (hlb : (Ten.dig y.natAbs).length ≤ 400) (hy : y ≠ 0) :
    Calls Tryz.prog 48 #[va, vb] w fun e w' => ∃ v v', e = .returned (.tuple #[v, v']) ∧ NH w' v (x.fdiv y) ∧ NH w' v' (x.fmod y) ∧ Below w.heap.size w w' := by
  have hff := floor_facts x y hy
  obtain ⟨a, an, ac, rfl, hra⟩ := ha.parts
  obtain ⟨b, bn, bc, rfl, hrb⟩ := hb.parts
  have HA := Lib.hid hra; have HB := Lib.hid hrb
  have HLA := Lib.hid hla; have HLB := Lib.hid hlb
  clear ha hb hra hrb hla hlb
  obtain ⟨Q, hQ⟩ : ∃ Q, x.fdiv y = Q := ⟨_, rfl⟩
  obtain ⟨R, hR⟩ : ∃ R, x.fmod y = R := ⟨_, rfl⟩
  obtain ⟨m, hm⟩ : ∃ m, x.natAbs = m := ⟨_, rfl⟩
  obtain ⟨n, hn⟩ : ∃ n, y.natAbs = n := ⟨_, rfl⟩
  obtain ⟨p, hp⟩ : ∃ p, decide (x < 0) = p := ⟨_, rfl⟩
  obtain ⟨q, hq⟩ : ∃ q, decide (y < 0) = q := ⟨_, rfl⟩
  have hn0 : n ≠ 0 := by omega
  rw [hQ, hR, hm, hn, hp, hq] at hff
  rw [hm] at HA HLA; rw [hn] at HB HLB; rw [hp, hq, hQ, hR]
  clear hm hn hp hq hy hQ hR
  have HN0 := Lib.hid hn0
  clear hn0
  obtain ⟨W0, hW0⟩ : ∃ W0, (w.alloc (.cells #[.bool p, .slice a an ac] 51)).alloc (.cells #[.bool q, .slice b bn bc] 51) = W0 := ⟨_, rfl⟩
  have hs0 : W0.heap.size = w.heap.size + 1 + 1 := by rw [← hW0]; simp
  have hbw0 : Below w.heap.size w W0 := by rw [← hW0]; exact ((Below.refl _ w).alloc (Nat.le_refl _) _).alloc (by simp) _
  have a0 : W0.cell? ⟨w.heap.size, 1, none⟩ = some (.slice a an ac) := by rw [← hW0]; exact cell_on ((Below.refl _ _).alloc (Nat.le_refl _) _) (cell_in _ _ _ 1 rfl)
  have a1 : W0.cell? ⟨w.heap.size, 0, none⟩ = some (.bool p) := by rw [← hW0]; exact cell_on ((Below.refl _ _).alloc (Nat.le_refl _) _) (cell_in _ _ _ 0 rfl)
  have b0 : W0.cell? ⟨w.heap.size + 1, 1, none⟩ = some (.slice b bn bc) := by rw [← hW0]; exact cell_in2 _ _ _ _ 1 rfl
  have b1 : W0.cell? ⟨w.heap.size + 1, 0, none⟩ = some (.bool q) := by rw [← hW0]; exact cell_in2 _ _ _ _ 0 rfl
  obtain ⟨W1, hW1⟩ : ∃ W1, W0.alloc (.cells #[.bool false, .slice none 0 0] 51) = W1 := ⟨_, rfl⟩
  have hs1 : W1.heap.size = W0.heap.size + 1 := by rw [← hW1]; simp
  obtain ⟨W, hW⟩ : ∃ W, W1.alloc (.cells #[.bool false, .slice none 0 0] 51) = W := ⟨_, rfl⟩
  have hbW1 : Below W1.heap.size W1 W := by rw [← hW]; exact (Below.refl _ _).alloc (Nat.le_refl _) _
  have hbW0 : Below W0.heap.size W0 W1 := by rw [← hW1]; exact (Below.refl _ _).alloc (Nat.le_refl _) _
  have HR1 := resN_new W0 51
  rw [hW1] at HR1
  replace HR1 := HR1.below hbW1
  have HR2 := resN_new W1 51
  rw [hW] at HR2
  have hbW := below_then hbW0 hbW1
  replace a0 := cell_on hbW a0; replace a1 := cell_on hbW a1; replace b0 := cell_on hbW b0; replace b1 := cell_on hbW b1
  have HBW := Lib.hid (below_then hbw0 hbW)
  have HRa := Lib.hid HR1
  have HRb := Lib.hid HR2
  have HWA := Lib.hid (HA.out.below HBW.out); have HWB := Lib.hid (HB.out.below HBW.out)
  have g1 : ¬ w.heap.size = W0.heap.size := by omega
  have g2 : ¬ W0.heap.size = w.heap.size := by omega
  have g3 : ¬ w.heap.size + 1 = W0.heap.size := by omega
  have g4 : ¬ W0.heap.size = w.heap.size + 1 := by omega
  have g5 : ¬ w.heap.size = W1.heap.size := by omega
  have g6 : ¬ W1.heap.size = w.heap.size := by omega
  have g7 : ¬ w.heap.size + 1 = W1.heap.size := by omega
  have g8 : ¬ W1.heap.size = w.heap.size + 1 := by omega
  have g9 : ¬ W1.heap.size = W0.heap.size := by omega
  have g10 : ¬ W0.heap.size = W1.heap.size := by omega
  have G5 := Lib.hid (show w.heap.size ≤ W0.heap.size ∧ w.heap.size ≤ W1.heap.size by omega)
  clear hbw0 hbW hbW0 hbW1 HR1 HR2 hs0 hs1
  have hcase : (p = q ∨ m % n = 0 ∧ p ≠ q) ∨ (p ≠ q ∧ m % n ≠ 0) := by
    by_cases h1 : p = q
    · exact .inl (.inl h1)
    · by_cases h2 : m % n = 0
      · exact .inl (.inr ⟨h2, h1⟩)
      · exact .inr ⟨h1, h2⟩
  rcases hcase with (rfl | ⟨h0, hpq⟩) | ⟨hpq, h0⟩
  · rw [if_pos (Or.inl rfl), bne_self_eq_false] at hff
    have HFF := Lib.hid hff
    clear hff
    go_enter Tryz.func48, Tryz.ntmps48
    go_wp2_with fail
    refine (r_divide _ _ m n _ HWA.out HWB.out (by have := HLA.out; omega) (by have := HLB.out; omega) HN0.out).mono ?_
    rintro e w4 ⟨qv, rv, rfl, hq4, hr4, hb4⟩
    have HQ4 := Lib.hid hq4; have HR4 := Lib.hid hr4
    obtain ⟨qa, qc, rfl, _⟩ := hq4.form
    obtain ⟨ra, rc, rfl, _⟩ := hr4.form
    replace a0 := cell_on hb4 a0
    replace a1 := cell_on hb4 a1
    replace b0 := cell_on hb4 b0
    replace b1 := cell_on hb4 b1
    have HBW4 := Lib.hid (below_then HBW.out hb4)
    have DR4 := Lib.hid ((Below.refl w4.heap.size w4).drew)
    have HRa4 := Lib.hid (HRa.out.below hb4)
    have HRb4 := Lib.hid (HRb.out.below hb4)
    have HWB4 := Lib.hid (HWB.out.below hb4)
    clear hb4
    obtain ⟨L, hL⟩ : ∃ L, (Ten.dig (m % n)).length = L := ⟨_, rfl⟩
    have HL := Lib.hid hL
    rw [hL]
    rw [hL] at HR4
    go_wp2_with fail
    go_region_held3 (fun w' => w'.cell? ⟨w.heap.size, 1, none⟩ = some (.slice a an ac) ∧ w'.cell? ⟨w.heap.size, 0, none⟩ = some (.bool p) ∧ w'.cell? ⟨w.heap.size + 1, 1, none⟩ = some (.slice b bn bc) ∧ w'.cell? ⟨w.heap.size + 1, 0, none⟩ = some (.bool p))
      (first | go_keep | (go_split_ands; exact ⟨cell_on hb6 a0, cell_on hb6 a1, cell_on hb6 b0, cell_on hb6 b1⟩) | (go_split_ands; exact ⟨cell_on hb7 a0, cell_on hb7 a1, cell_on hb7 b0, cell_on hb7 b1⟩))
      (first | (go_at_call 58; refine (r_signed _ _ _ _ (HR4.out.below HB6.out)).mono ?_; rintro e w7 ⟨v7, rfl, hW7, hb7'⟩; obtain ⟨b7, a7, n7, c7, rfl⟩ := hW7.form; have hb7 := below_then HB6.out hb7'; have HB7 := Lib.hid hb7; have HW7 := Lib.hid hW7; have HW6' := Lib.hid (HW6.out.below hb7'); have y0 := (HRa4.out.below hb7).c0; have y1 := (HRa4.out.below hb7).c1; have y2 := (HRa4.out.below hb7).f0; have y3 := (HRa4.out.below hb7).f1; have z0 := (HRb4.out.below hb7).c0; have z1 := (HRb4.out.below hb7).c1; have z2 := (HRb4.out.below hb7).f0; have z3 := (HRb4.out.below hb7).f1; clear hb7' hW7)
             | (go_at_call 58; refine (r_signed _ _ _ _ (HQ4.out.below DR4.out)).mono ?_; rintro e w6 ⟨v6, rfl, hW6, hb6'⟩; obtain ⟨b6, a6, n6, c6, rfl⟩ := hW6.form; have hb6 := below_then DR4.out hb6'; have HB6 := Lib.hid hb6; have HW6 := Lib.hid hW6; clear hb6' hW6))
    go_wp2_with fail
    refine bodyPost_ret (v := .tuple #[.agg #[.bool b6, .slice a6 n6 c6], .agg #[.bool b7, .slice a7 n7 c7]]) (by simp [results, Tryz.results48, go_sem, *]) rfl ?_
    have hni := (HRa4.out.below HB7.out).ni
    have hni2 := (HRb4.out.below HB7.out).ni
    refine ⟨_, _, rfl, ?_, ?_, below_put (below_put (below_then HBW4.out HB7.out) G5.out.1 _ _) G5.out.2 _ _⟩
    · refine NH.put (NH.put ?_ hni _ _) (hni2.put g9 _ _ _ _) _ _
      rw [HFF.out.1]
      exact HW6'.out
    · refine NH.put (NH.put ?_ hni _ _) (hni2.put g9 _ _ _ _) _ _
      rw [HFF.out.2]
      exact HW7.out
  · rw [if_pos (Or.inr h0), show (p != q) = true by simp [hpq]] at hff
    have HFF := Lib.hid hff
    have hpq1 : (p == q) = false := by simp [hpq]
    have hpq2 : (p != q) = true := by simp [hpq]
    have H0 := Lib.hid h0
    clear hff hpq h0
    go_enter Tryz.func48, Tryz.ntmps48
    go_wp2_with fail
    refine (r_divide _ _ m n _ HWA.out HWB.out (by have := HLA.out; omega) (by have := HLB.out; omega) HN0.out).mono ?_
    rintro e w4 ⟨qv, rv, rfl, hq4, hr4, hb4⟩
    have HQ4 := Lib.hid hq4; have HR4 := Lib.hid hr4
    obtain ⟨qa, qc, rfl, _⟩ := hq4.form
    obtain ⟨ra, rc, rfl, _⟩ := hr4.form
    replace a0 := cell_on hb4 a0
    replace a1 := cell_on hb4 a1
    replace b0 := cell_on hb4 b0
    replace b1 := cell_on hb4 b1
    have HBW4 := Lib.hid (below_then HBW.out hb4)
    have DR4 := Lib.hid ((Below.refl w4.heap.size w4).drew)
    have HRa4 := Lib.hid (HRa.out.below hb4)
    have HRb4 := Lib.hid (HRb.out.below hb4)
    have HWB4 := Lib.hid (HWB.out.below hb4)
    clear hb4
    obtain ⟨L, hL⟩ : ∃ L, (Ten.dig (m % n)).length = L := ⟨_, rfl⟩
    have HL := Lib.hid hL
    rw [hL]
    rw [hL] at HR4
    obtain rfl : L = 0 := by rw [← HL.out, H0.out, Ten.dig_zero]; rfl
    go_wp2_with fail
    go_region_held3 (fun w' => w'.cell? ⟨w.heap.size, 1, none⟩ = some (.slice a an ac) ∧ w'.cell? ⟨w.heap.size, 0, none⟩ = some (.bool p) ∧ w'.cell? ⟨w.heap.size + 1, 1, none⟩ = some (.slice b bn bc) ∧ w'.cell? ⟨w.heap.size + 1, 0, none⟩ = some (.bool q))
      (first | go_keep | (go_split_ands; exact ⟨cell_on hb6 a0, cell_on hb6 a1, cell_on hb6 b0, cell_on hb6 b1⟩) | (go_split_ands; exact ⟨cell_on hb7 a0, cell_on hb7 a1, cell_on hb7 b0, cell_on hb7 b1⟩))
      (first | (go_at_call 58; refine (r_signed _ _ _ _ (HR4.out.below HB6.out)).mono ?_; rintro e w7 ⟨v7, rfl, hW7, hb7'⟩; obtain ⟨b7, a7, n7, c7, rfl⟩ := hW7.form; have hb7 := below_then HB6.out hb7'; have HB7 := Lib.hid hb7; have HW7 := Lib.hid hW7; have HW6' := Lib.hid (HW6.out.below hb7'); have y0 := (HRa4.out.below hb7).c0; have y1 := (HRa4.out.below hb7).c1; have y2 := (HRa4.out.below hb7).f0; have y3 := (HRa4.out.below hb7).f1; have z0 := (HRb4.out.below hb7).c0; have z1 := (HRb4.out.below hb7).c1; have z2 := (HRb4.out.below hb7).f0; have z3 := (HRb4.out.below hb7).f1; clear hb7' hW7)
             | (go_at_call 58; refine (r_signed _ _ _ _ (HQ4.out.below DR4.out)).mono ?_; rintro e w6 ⟨v6, rfl, hW6, hb6'⟩; obtain ⟨b6, a6, n6, c6, rfl⟩ := hW6.form; have hb6 := below_then DR4.out hb6'; have HB6 := Lib.hid hb6; have HW6 := Lib.hid hW6; clear hb6' hW6))
    go_wp2_with fail
    refine bodyPost_ret (v := .tuple #[.agg #[.bool b6, .slice a6 n6 c6], .agg #[.bool b7, .slice a7 n7 c7]]) (by simp [results, Tryz.results48, go_sem, *]) rfl ?_
    have hni := (HRa4.out.below HB7.out).ni
    have hni2 := (HRb4.out.below HB7.out).ni
    refine ⟨_, _, rfl, ?_, ?_, below_put (below_put (below_then HBW4.out HB7.out) G5.out.1 _ _) G5.out.2 _ _⟩
    · refine NH.put (NH.put ?_ hni _ _) (hni2.put g9 _ _ _ _) _ _
      rw [HFF.out.1]
      exact HW6'.out
    · refine NH.put (NH.put ?_ hni _ _) (hni2.put g9 _ _ _ _) _ _
      rw [HFF.out.2]
      exact HW7.out
  · rw [if_neg (by rintro (h | h); exact hpq h; exact h0 h)] at hff
    have HFF := Lib.hid hff
    have hpq1 : (p == q) = false := by simp [hpq]
    have hpq2 : (p != q) = true := by simp [hpq]
    have H0 := Lib.hid h0
    clear hff hpq h0
    go_enter Tryz.func48, Tryz.ntmps48
    go_wp2_with fail
    refine (r_divide _ _ m n _ HWA.out HWB.out (by have := HLA.out; omega) (by have := HLB.out; omega) HN0.out).mono ?_
    rintro e w4 ⟨qv, rv, rfl, hq4, hr4, hb4⟩
    have HQ4 := Lib.hid hq4; have HR4 := Lib.hid hr4
    obtain ⟨qa, qc, rfl, _⟩ := hq4.form
    obtain ⟨ra, rc, rfl, _⟩ := hr4.form
    replace a0 := cell_on hb4 a0
    replace a1 := cell_on hb4 a1
    replace b0 := cell_on hb4 b0
    replace b1 := cell_on hb4 b1
    have HBW4 := Lib.hid (below_then HBW.out hb4)
    have DR4 := Lib.hid ((Below.refl w4.heap.size w4).drew)
    have HRa4 := Lib.hid (HRa.out.below hb4)
    have HRb4 := Lib.hid (HRb.out.below hb4)
    have HWB4 := Lib.hid (HWB.out.below hb4)
    clear hb4
    obtain ⟨L, hL⟩ : ∃ L, (Ten.dig (m % n)).length = L := ⟨_, rfl⟩
    have HL := Lib.hid hL
    rw [hL]
    rw [hL] at HR4
    have hL0 : 0 < L := by
      have : L ≠ 0 := fun h => H0.out (by have := HL.out; rw [h] at this; exact Ten.dig_eq_nil.1 (List.eq_nil_of_length_eq_zero this))
      omega
    have hL1 : decide (0 < L) = true := by simpa using hL0
    have hMN : m % n ≤ n := Nat.le_of_lt (Nat.mod_lt _ (Nat.pos_of_ne_zero HN0.out))
    have HMN := Lib.hid hMN
    have HLQ : Hid ((Ten.dig (m / n)).length ≤ 2000) := Lib.hid (Nat.le_trans (Ten.dig_len_mono (Nat.div_le_self m n)) (by have := HLA.out; omega))
    have DRA4 : Hid (Below w4.heap.size w4 (w4.alloc (.cells #[.int .i64 1] 3))) := Lib.hid ((Below.refl w4.heap.size w4).alloc (Nat.le_refl _) _)
    have H1 := Lib.hid (RT.one (t := 3) (cell_in w4 #[.int .i64 1] 3 0 rfl))
    clear hMN hL0
    go_wp2_with fail
    refine (r_plus _ _ (m / n) 1 _ (HQ4.out.below DRA4.out) H1.out HLQ.out (by decide +kernel)).mono ?_
    rintro e w5 ⟨v5, rfl, hR5, hb5'⟩
    have hb5 := below_then DRA4.out hb5'
    have HQ5 := Lib.hid hR5
    obtain ⟨qa5, qc5, rfl, hq5⟩ := hR5.form
    replace a0 := cell_on hb5 a0
    replace a1 := cell_on hb5 a1
    replace b0 := cell_on hb5 b0
    replace b1 := cell_on hb5 b1
    have HBW5 := Lib.hid (below_then HBW4.out hb5)
    have HRa5 := Lib.hid (HRa4.out.below hb5)
    have HRb5 := Lib.hid (HRb4.out.below hb5)
    have HWB5 := Lib.hid (HWB4.out.below hb5)
    have HR5 := Lib.hid (HR4.out.below hb5)
    clear hb5 hb5' hq5 hR5 HRa4 HRb4 HWB4 HQ4 HR4 HBW4
    go_wp2_with fail
    refine (r_minus _ _ n (m % n) _ HWB5.out HR5.out (by have := HLB.out; omega) HMN.out).mono ?_
    rintro e w8 ⟨v8, rfl, hR8, hb8⟩
    have HR4 := Lib.hid hR8
    have HQ4 := Lib.hid (HQ5.out.below hb8)
    obtain ⟨ra8, rc8, rfl, hq8⟩ := hR8.form
    replace a0 := cell_on hb8 a0
    replace a1 := cell_on hb8 a1
    replace b0 := cell_on hb8 b0
    replace b1 := cell_on hb8 b1
    have HBW4 := Lib.hid (below_then HBW5.out hb8)
    have HRa4 := Lib.hid (HRa5.out.below hb8)
    have HRb4 := Lib.hid (HRb5.out.below hb8)
    have DR8 := Lib.hid ((Below.refl w8.heap.size w8).drew)
    clear hb8 hq8 hR8
    go_wp2_with fail
    go_region_held3 (fun w' => w'.cell? ⟨w.heap.size, 1, none⟩ = some (.slice a an ac) ∧ w'.cell? ⟨w.heap.size, 0, none⟩ = some (.bool p) ∧ w'.cell? ⟨w.heap.size + 1, 1, none⟩ = some (.slice b bn bc) ∧ w'.cell? ⟨w.heap.size + 1, 0, none⟩ = some (.bool q))
      (first | go_keep | (go_split_ands; exact ⟨cell_on hb6 a0, cell_on hb6 a1, cell_on hb6 b0, cell_on hb6 b1⟩) | (go_split_ands; exact ⟨cell_on hb7 a0, cell_on hb7 a1, cell_on hb7 b0, cell_on hb7 b1⟩))
      (first | (go_at_call 58; refine (r_signed _ _ _ _ (HR4.out.below HB6.out)).mono ?_; rintro e w7 ⟨v7, rfl, hW7, hb7'⟩; obtain ⟨b7, a7, n7, c7, rfl⟩ := hW7.form; have hb7 := below_then HB6.out hb7'; have HB7 := Lib.hid hb7; have HW7 := Lib.hid hW7; have HW6' := Lib.hid (HW6.out.below hb7'); have y0 := (HRa4.out.below hb7).c0; have y1 := (HRa4.out.below hb7).c1; have y2 := (HRa4.out.below hb7).f0; have y3 := (HRa4.out.below hb7).f1; have z0 := (HRb4.out.below hb7).c0; have z1 := (HRb4.out.below hb7).c1; have z2 := (HRb4.out.below hb7).f0; have z3 := (HRb4.out.below hb7).f1; clear hb7' hW7)
             | (go_at_call 58; refine (r_signed _ _ _ _ (HQ4.out.below DR8.out)).mono ?_; rintro e w6 ⟨v6, rfl, hW6, hb6'⟩; obtain ⟨b6, a6, n6, c6, rfl⟩ := hW6.form; have hb6 := below_then DR8.out hb6'; have HB6 := Lib.hid hb6; have HW6 := Lib.hid hW6; clear hb6' hW6))
    go_wp2_with fail
    refine bodyPost_ret (v := .tuple #[.agg #[.bool b6, .slice a6 n6 c6], .agg #[.bool b7, .slice a7 n7 c7]]) (by simp [results, Tryz.results48, go_sem, *]) rfl ?_
    have hni := (HRa4.out.below HB7.out).ni
    have hni2 := (HRb4.out.below HB7.out).ni
    refine ⟨_, _, rfl, ?_, ?_, below_put (below_put (below_then HBW4.out HB7.out) G5.out.1 _ _) G5.out.2 _ _⟩
    · refine NH.put (NH.put ?_ hni _ _) (hni2.put g9 _ _ _ _) _ _
      rw [HFF.out.1]
      exact HW6'.out
    · refine NH.put (NH.put ?_ hni _ _) (hni2.put g9 _ _ _ _) _ _
      rw [HFF.out.2]
      exact HW7.out
end Go.Proofs.YthjpbbbmnmhmmaaGreatDoor
