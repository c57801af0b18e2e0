set_option linter.unusedVariables false
set_option linter.unusedSimpArgs false
namespace Go.Proofs.YthjpbbbmnmhmmaaGreatDoor

/-- The element at a place; 0 beyond. (A plain def: the walk doesn't look into it.) -/
def rd (zs : List Int) (k : Nat) : Int := zs[k]?.getD 0
theorem rd_lt {zs : List Int} {k : Nat} (h : k < zs.length) : rd zs k = zs[k] := by simp [rd, h]
theorem rd_ge {zs : List Int} {k : Nat} (h : zs.length ≤ k) : rd zs k = 0 := by simp [rd, h]

/-! Numbers as digits of base 10^6, the least first. -/
def val : List Int → Int
  | [] => 0
  | d :: ds => d + 1000000 * val ds

def InR (xs : List Int) : Prop := ∀ x ∈ xs, 0 ≤ x ∧ x < 1000000

def dig (n : Nat) : List Int := if h : n = 0 then [] else ((n % 1000000 : Nat) : Int) :: dig (n / 1000000)
termination_by n
decreasing_by omega

theorem dig_zero : dig 0 = [] := by rw [dig]; simp
theorem dig_pos {n : Nat} (h : n ≠ 0) : dig n = ((n % 1000000 : Nat) : Int) :: dig (n / 1000000) := by rw [dig]; simp [h]

theorem val_dig (n : Nat) : val (dig n) = n := by
  induction n using Nat.strongRecOn with
  | _ n ih =>
    by_cases h : n = 0
    · subst h; rw [dig_zero]; rfl
    · rw [dig_pos h, val, ih (n / 1000000) (by omega)]; omega

theorem InR.nil : InR [] := fun x h => by cases h
theorem InR.cons {x : Int} {xs : List Int} (h : InR (x :: xs)) : (0 ≤ x ∧ x < 1000000) ∧ InR xs := ⟨h x (by simp), fun y hy => h y (by simp [hy])⟩
theorem InR.mk {x : Int} {xs : List Int} (h : 0 ≤ x ∧ x < 1000000) (h' : InR xs) : InR (x :: xs) := fun y hy => by
  rcases List.mem_cons.1 hy with rfl | hy
  · exact h
  · exact h' y hy
theorem InR.take {xs : List Int} (h : InR xs) (k : Nat) : InR (xs.take k) := fun x hx => h x (List.mem_of_mem_take hx)
theorem InR.at {xs : List Int} (h : InR xs) (k : Nat) : 0 ≤ rd xs k ∧ rd xs k < 1000000 := by
  unfold rd
  by_cases hk : k < xs.length
  · have := h xs[k] (List.getElem_mem hk)
    simpa [List.getElem?_eq_getElem hk] using this
  · simp [List.getElem?_eq_none (Nat.le_of_not_lt hk)]

theorem dig_inR (n : Nat) : InR (dig n) := by
  induction n using Nat.strongRecOn with
  | _ n ih =>
    by_cases h : n = 0
    · subst h; rw [dig_zero]; exact InR.nil
    · rw [dig_pos h]; exact InR.mk ⟨by omega, by omega⟩ (ih _ (by omega))

theorem val_nonneg {xs : List Int} (h : InR xs) : 0 ≤ val xs := by
  induction xs with
  | nil => simp [val]
  | cons x xs ih => have := ih h.cons.2; have := h.cons.1; simp only [val]; omega

theorem dig_val {xs : List Int} (h : InR xs) (hl : xs = [] ∨ xs.getLast? ≠ some 0) : xs = dig (val xs).toNat := by
  induction xs with
  | nil => simp [val, dig_zero]
  | cons x xs ih =>
    have hx := h.cons.1
    have h0 := val_nonneg h.cons.2
    have hr : xs = dig (val xs).toNat := by
      refine ih h.cons.2 ?_
      cases xs with
      | nil => exact .inl rfl
      | cons y ys => refine .inr ?_; rcases hl with hl | hl; · cases hl
                     simpa [List.getLast?_cons_cons] using hl
    have hn : (val (x :: xs)).toNat ≠ 0 := by
      rcases hl with hl | hl
      · cases hl
      · cases xs with
        | nil => simp at hl; simp only [val]; omega
        | cons y ys =>
          have : (val (y :: ys)).toNat ≠ 0 := by
            intro e; rw [e, dig_zero] at hr; cases hr
          simp only [val] at this h0 ⊢; omega
    rw [dig_pos hn]
    have e1 : (((val (x :: xs)).toNat % 1000000 : Nat) : Int) = x := by simp only [val]; omega
    have e2 : (val (x :: xs)).toNat / 1000000 = (val xs).toNat := by simp only [val]; omega
    rw [e1, e2, ← hr]

theorem val_append (xs ys : List Int) : val (xs ++ ys) = val xs + 1000000 ^ xs.length * val ys := by
  induction xs with
  | nil => simp [val]
  | cons x xs ih => simp only [List.cons_append, val, ih, List.length_cons, Int.pow_succ]; rw [Int.mul_add, ← Int.mul_assoc, Int.mul_comm 1000000 (1000000 ^ _)]; omega

theorem dig_len_mono : ∀ {m n : Nat}, n ≤ m → (dig n).length ≤ (dig m).length := by
  intro m
  induction m using Nat.strongRecOn with
  | _ m ih =>
    intro n h
    by_cases h0 : n = 0
    · subst h0; simp [dig_zero]
    · rw [dig_pos h0, dig_pos (show m ≠ 0 by omega)]
      have := ih (m / 1000000) (by omega) (show n / 1000000 ≤ m / 1000000 by omega)
      simp only [List.length_cons]; omega

theorem dig_lt (n : Nat) : n < 1000000 ^ (dig n).length := by
  induction n using Nat.strongRecOn with
  | _ n ih =>
    by_cases h : n = 0
    · subst h; rw [dig_zero]; simp
    · rw [dig_pos h, List.length_cons, Nat.pow_succ]
      have := ih (n / 1000000) (by omega)
      omega

/-- What carried yields. -/
def outC : Int → List Int → List Int
  | c, [] => dig c.toNat
  | c, s :: ss => (c + s) % 1000000 :: outC ((c + s) / 1000000) ss

theorem outC_inR (c : Int) (ss : List Int) : InR (outC c ss) := by
  induction ss generalizing c with
  | nil => exact dig_inR _
  | cons s ss ih => exact InR.mk ⟨by omega, by omega⟩ (ih _)

theorem outC_val (c : Int) (ss : List Int) (h : 0 ≤ c + val ss) : val (outC c ss) = c + val ss := by
  induction ss generalizing c with
  | nil => simp only [outC, val, val_dig] at *; omega
  | cons s ss ih =>
    simp only [outC, val] at *
    rw [ih ((c + s) / 1000000) (by omega)]
    omega

theorem dig_len (k : Nat) : ∀ n, n < 1000000 ^ k → (dig n).length ≤ k := by
  induction k with
  | zero => intro n h; have : n = 0 := by simpa using h
            subst this; simp [dig_zero]
  | succ k ih =>
    intro n h
    by_cases h0 : n = 0
    · subst h0; simp [dig_zero]
    · rw [dig_pos h0, List.length_cons]
      have := ih (n / 1000000) (by rw [Nat.pow_succ] at h; omega)
      omega

theorem outC_len (c : Int) (ss : List Int) (hc : -1000000000000000 ≤ c ∧ c ≤ 1000000000000000) (hs : ∀ s ∈ ss, -1000000000000000 ≤ s ∧ s ≤ 1000000000000000) : (outC c ss).length ≤ ss.length + 3 := by
  induction ss generalizing c with
  | nil => simp only [outC, List.length_nil]; have := dig_len 3 c.toNat (by omega); omega
  | cons s ss ih =>
    have h1 := hs s (by simp)
    simp only [outC, List.length_cons]
    have := ih ((c + s) / 1000000) (by omega) (fun x hx => hs x (by simp [hx]))
    omega

/-- One round of carried, in Go's own division. -/
theorem go_floor (t : Int) : (if t.tmod 1000000 < 0 then t.tmod 1000000 + 1000000 else t.tmod 1000000) = t % 1000000 ∧ (if t.tmod 1000000 < 0 then t.tdiv 1000000 - 1 else t.tdiv 1000000) = t / 1000000 := by
  rcases Int.lt_or_le t 0 with h | h
  · have h1 : t.tmod 1000000 = -((-t) % 1000000) := by
      have := Int.neg_tmod (-t) 1000000; rw [Int.neg_neg] at this; rw [this, Int.tmod_eq_emod_of_nonneg (by omega)]
    have h2 : t.tdiv 1000000 = -((-t) / 1000000) := by
      have := Int.neg_tdiv (-t) 1000000; rw [Int.neg_neg] at this; rw [this, Int.tdiv_eq_ediv_of_nonneg (by omega)]
    rw [h1, h2]
    split <;> omega
  · rw [Int.tmod_eq_emod_of_nonneg h, Int.tdiv_eq_ediv_of_nonneg h]
    rw [if_neg (by omega), if_neg (by omega)]; exact ⟨rfl, rfl⟩

/-- How many decimal digits a digit of base 10^6 has (as the loop counts them). -/
def cnt10 (x : Nat) : Nat := if h : x = 0 then 0 else 1 + cnt10 (x / 10)
termination_by x
decreasing_by omega
theorem cnt10_zero : cnt10 0 = 0 := by rw [cnt10]; simp
theorem cnt10_pos {x : Nat} (h : 0 < x) : cnt10 x = 1 + cnt10 (x / 10) := by rw [cnt10]; simp [Nat.pos_iff_ne_zero.1 h]
theorem cnt10_le (k : Nat) : ∀ n, n < 10 ^ k → cnt10 n ≤ k := by
  induction k with
  | zero => intro n h; have : n = 0 := by simpa using h
            subst this; simp [cnt10_zero]
  | succ k ih =>
    intro n h
    by_cases h0 : n = 0
    · subst h0; simp [cnt10_zero]
    · rw [cnt10_pos (by omega)]
      have := ih (n / 10) (by rw [Nat.pow_succ] at h; omega)
      omega
def sizeD (zs : List Int) : Int := if zs = [] then 1 else 6 * ((zs.length : Int) - 1) + cnt10 (rd zs (zs.length - 1)).toNat
end Go.Proofs.YthjpbbbmnmhmmaaGreatDoor
