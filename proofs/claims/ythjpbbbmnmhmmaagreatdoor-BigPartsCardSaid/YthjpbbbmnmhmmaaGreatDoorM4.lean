import Derived.Test.YthjpbbbmnmhmmaaGreatDoorM3
import Derived.Lib.ItoaNum
import Derived.Lib.SlTrimSet
set_option linter.unusedVariables false
set_option linter.unusedSimpArgs false
namespace Go.Proofs.YthjpbbbmnmhmmaaGreatDoor
open Go.Lib

/-! ### digits of base 10^6 against decimal ones -/
theorem dig_drop (k : Nat) : ∀ n, (dig n).drop k = dig (n / 1000000 ^ k) := by
  induction k with
  | zero => intro n; simp
  | succ k ih =>
    intro n
    by_cases h : n = 0
    · subst h; simp [dig_zero]
    · rw [dig_pos h, List.drop_succ_cons, ih, Nat.div_div_eq_div_mul, Nat.pow_succ, Nat.mul_comm 1000000]

theorem dig_eq_nil {n : Nat} : dig n = [] ↔ n = 0 := by
  constructor
  · intro h; by_cases e : n = 0
    · exact e
    · rw [dig_pos e] at h; cases h
  · intro h; subst h; exact dig_zero

theorem top_pos {n k : Nat} (h : k < (dig n).length) : 0 < n / 1000000 ^ k := by
  rcases Nat.eq_zero_or_pos (n / 1000000 ^ k) with e | e
  · have := dig_drop k n
    rw [e, dig_zero] at this
    have := congrArg List.length this
    simp at this; omega
  · exact e

theorem rd_dig {n k : Nat} (h : k < (dig n).length) : rd (dig n) k = ((n / 1000000 ^ k % 1000000 : Nat) : Int) ∧ n / 1000000 ^ k = (n / 1000000 ^ (k + 1)) * 1000000 + n / 1000000 ^ k % 1000000 := by
  have h1 := ((List.drop_eq_getElem_cons h).symm.trans (dig_drop k n)).trans (dig_pos (by have := top_pos h; omega))
  refine ⟨by rw [rd_lt h]; exact (List.cons.inj h1).1, ?_⟩
  rw [Nat.pow_succ, ← Nat.div_div_eq_div_mul]; omega

def pad : Nat → Nat → List UInt8
  | 0, _ => []
  | k + 1, d => pad k (d / 10) ++ [UInt8.ofNat (48 + d % 10)]

theorem pad_len (k : Nat) : ∀ d, (pad k d).length = k := by
  induction k with
  | zero => intro d; rfl
  | succ k ih => intro d; simp [pad, ih]

theorem pad_zero (k : Nat) : pad k 0 = List.replicate k 48 := by
  induction k with
  | zero => rfl
  | succ k ih => simp only [pad, Nat.zero_div, ih, List.replicate_succ']; rfl

theorem decDigits_pad (k : Nat) : ∀ A d, 0 < A → d < 10 ^ k → decDigits (A * 10 ^ k + d) = decDigits A ++ pad k d := by
  induction k with
  | zero => intro A d hA hd; have : d = 0 := by simpa using hd
            subst this; simp [pad]
  | succ k ih =>
    intro A d hA hd
    have h10 : ¬ A * 10 ^ (k + 1) + d < 10 := by
      have : 10 ^ (k + 1) ≤ A * 10 ^ (k + 1) := Nat.le_mul_of_pos_left _ hA
      have h2 : 0 < 10 ^ k := Nat.pow_pos (by decide)
      rw [Nat.pow_succ] at this ⊢; omega
    rw [decDigits, dif_neg h10]
    have e1 : (A * 10 ^ (k + 1) + d) / 10 = A * 10 ^ k + d / 10 := by rw [Nat.pow_succ, ← Nat.mul_assoc]; omega
    have e2 : (A * 10 ^ (k + 1) + d) % 10 = d % 10 := by rw [Nat.pow_succ, ← Nat.mul_assoc]; omega
    rw [e1, e2, ih A (d / 10) hA (by rw [Nat.pow_succ] at hd; omega), pad, List.append_assoc]

theorem decDigits_big {d : Nat} (hd : ¬ d < 10) : decDigits d = decDigits (d / 10) ++ [UInt8.ofNat (48 + d % 10)] := by
  conv => lhs; rw [decDigits, dif_neg hd]

theorem head_app {a b : List UInt8} (h : a ≠ []) : (a ++ b).head? = a.head? := by
  cases a with
  | nil => exact absurd rfl h
  | cons x a => rfl

theorem pad_small (k : Nat) : ∀ d, nDigits d ≤ k → pad k d = List.replicate (k - nDigits d) 48 ++ decDigits d := by
  induction k with
  | zero => intro d h; have := nDigits_pos d; omega
  | succ k ih =>
    intro d h
    by_cases hd : d < 10
    · rw [pad, show d / 10 = 0 by omega, pad_zero, nDigits_small hd, decDigits, dif_pos hd, show d % 10 = d by omega]; rfl
    · rw [nDigits_big hd] at h ⊢
      rw [pad, ih _ (by omega), decDigits_big hd, List.append_assoc, show k + 1 - (nDigits (d / 10) + 1) = k - nDigits (d / 10) by omega]

theorem nDigits_pad {k A d : Nat} (hA : 0 < A) (hd : d < 10 ^ k) : nDigits (A * 10 ^ k + d) = nDigits A + k := by
  rw [← decDigits_length, decDigits_pad k A d hA hd, List.length_append, decDigits_length, pad_len]

theorem nDigits_le {k d : Nat} (h : d < 10 ^ (k + 1)) : nDigits d ≤ k + 1 := by
  induction k generalizing d with
  | zero => rw [nDigits_small (by simpa using h)]; omega
  | succ k ih =>
    by_cases h10 : d < 10
    · rw [nDigits_small h10]; omega
    · rw [nDigits_big h10]
      have := ih (d := d / 10) (by rw [Nat.pow_succ] at h; omega)
      omega

theorem cnt10_eq : ∀ x, 0 < x → cnt10 x = nDigits x := by
  intro x
  induction x using Nat.strongRecOn with
  | _ x ih =>
    intro h
    rw [cnt10_pos h]
    by_cases h10 : x < 10
    · rw [nDigits_small h10, show x / 10 = 0 by omega, cnt10_zero]
    · rw [nDigits_big h10, ih (x / 10) (by omega) (by omega)]; omega

theorem pow_six (k : Nat) : (1000000 : Nat) ^ k = 10 ^ (6 * k) := by rw [Nat.pow_mul]

theorem sizeD_dig (n : Nat) : sizeD (dig n) = nDigits n := by
  unfold sizeD
  by_cases h : n = 0
  · subst h; rw [dig_zero, if_pos rfl, nDigits_small (by omega)]; rfl
  · have hne : dig n ≠ [] := fun e => h (dig_eq_nil.1 e)
    rw [if_neg hne]
    have hl : 0 < (dig n).length := List.length_pos_iff.2 hne
    obtain ⟨m, hm⟩ : ∃ m, (dig n).length = m + 1 := ⟨(dig n).length - 1, by omega⟩
    rw [hm, show m + 1 - 1 = m from rfl]
    have hr := rd_dig (n := n) (k := m) (by omega)
    have ht := top_pos (n := n) (k := m) (by omega)
    have hz : n / 1000000 ^ (m + 1) = 0 := by
      have := dig_drop (m + 1) n
      rw [List.drop_eq_nil_of_le (by omega)] at this
      exact dig_eq_nil.1 this.symm
    have hn : n = (n / 1000000 ^ m) * 10 ^ (6 * m) + n % 10 ^ (6 * m) := by rw [← pow_six]; rw [Nat.mul_comm]; exact (Nat.div_add_mod n _).symm
    obtain ⟨hr1, hr2⟩ := hr
    rw [hz] at hr2
    obtain ⟨t, et⟩ : ∃ t, n / 1000000 ^ m = t := ⟨_, rfl⟩
    rw [et] at hr1 hr2 ht hn
    have e : t % 1000000 = t := by omega
    rw [hr1, e]
    have : nDigits n = nDigits t + 6 * m := by
      conv => lhs; rw [hn]
      exact nDigits_pad ht (Nat.mod_lt _ (Nat.pow_pos (by decide)))
    rw [this, Int.toNat_natCast, cnt10_eq _ ht]
    omega

/-- The limb at a place, and what stands from it on. -/
def lim (n k : Nat) : Nat := n / 1000000 ^ k % 1000000
def upTo (n k : Nat) : Nat := n / 1000000 ^ k
theorem lim_lt (n k : Nat) : lim n k < 1000000 := Nat.mod_lt _ (by decide)
theorem upTo_succ (n k : Nat) : upTo n k = upTo n (k + 1) * 10 ^ 6 + lim n k := by
  unfold upTo lim; rw [Nat.pow_succ, ← Nat.div_div_eq_div_mul]; omega
theorem upTo_zero (n : Nat) : upTo n 0 = n := by simp [upTo]
theorem lim_top {n m : Nat} (h : (dig n).length = m + 1) : upTo n m = lim n m := by
  have hz : n / 1000000 ^ (m + 1) = 0 := by
    have := dig_drop (m + 1) n
    rw [List.drop_eq_nil_of_le (by omega)] at this
    exact dig_eq_nil.1 this.symm
  have := upTo_succ n m
  unfold upTo at this ⊢; rw [hz] at this; omega
theorem upTo_pos {n m k : Nat} (h : (dig n).length = m + 1) (hk : k ≤ m) : 0 < upTo n k := top_pos (by omega)

/-! ### texts of digits -/
def dv (l : List UInt8) : Nat := l.foldl (fun a c => 10 * a + (c.toNat - 48)) 0
def AllD (l : List UInt8) : Prop := ∀ c ∈ l, 48 ≤ c.toNat ∧ c.toNat ≤ 57

theorem foldl_dv (l : List UInt8) : ∀ a, l.foldl (fun a c => 10 * a + (c.toNat - 48)) a = a * 10 ^ l.length + dv l := by
  induction l with
  | nil => intro a; simp [dv]
  | cons c l ih =>
    intro a
    simp only [dv, List.foldl_cons, List.length_cons]
    rw [ih, ih (10 * 0 + _), Nat.pow_succ, Nat.add_mul]
    simp only [Nat.mul_zero, Nat.zero_add]
    rw [Nat.mul_comm 10 a, Nat.mul_assoc, Nat.mul_comm 10 (10 ^ l.length)]; omega

theorem dv_append (a b : List UInt8) : dv (a ++ b) = dv a * 10 ^ b.length + dv b := by
  conv => lhs; unfold dv
  rw [List.foldl_append, foldl_dv]; rfl

theorem dv_lt {l : List UInt8} (h : AllD l) : dv l < 10 ^ l.length := by
  induction l with
  | nil => simp [dv]
  | cons c l ih =>
    have h1 := h c (by simp)
    have h2 := ih (fun x hx => h x (by simp [hx]))
    have : dv (c :: l) = (c.toNat - 48) * 10 ^ l.length + dv l := by have := dv_append [c] l; simpa [dv] using this
    rw [this, List.length_cons, Nat.pow_succ]
    have h3 : (c.toNat - 48) * 10 ^ l.length ≤ 9 * 10 ^ l.length := Nat.mul_le_mul_right _ (by omega)
    omega

theorem dv_digits (n : Nat) : dv (decDigits n) = n := by
  induction n using Nat.strongRecOn with
  | _ n ih =>
    rw [decDigits]
    by_cases h : n < 10
    · rw [dif_pos h]
      simp only [dv, List.foldl_cons, List.foldl_nil, UInt8.toNat_ofNat']
      omega
    · rw [dif_neg h, dv_append, ih (n / 10) (by omega)]
      simp only [dv, List.foldl_cons, List.foldl_nil, List.length_singleton, UInt8.toNat_ofNat']
      omega

theorem allD_digits (n : Nat) : AllD (decDigits n) := by
  induction n using Nat.strongRecOn with
  | _ n ih =>
    rw [decDigits]
    by_cases h : n < 10
    · rw [dif_pos h]; intro c hc; rw [List.mem_singleton] at hc; subst hc; rw [UInt8.toNat_ofNat']; omega
    · rw [dif_neg h]; intro c hc
      rcases List.mem_append.1 hc with hc | hc
      · exact ih _ (by omega) c hc
      · rw [List.mem_singleton] at hc; subst hc; rw [UInt8.toNat_ofNat']; omega

theorem digits_ne_nil (n : Nat) : decDigits n ≠ [] := by
  intro h; have := decDigits_length n; rw [h] at this; have := nDigits_pos n; simp at *; omega

theorem digits_head {n : Nat} (h : (decDigits n).head? = some 48) : n = 0 := by
  induction n using Nat.strongRecOn with
  | _ n ih =>
    rw [decDigits] at h
    by_cases h10 : n < 10
    · rw [dif_pos h10] at h
      simp only [List.head?_cons, Option.some.injEq] at h
      have := congrArg UInt8.toNat h
      simp only [UInt8.toNat_ofNat'] at this
      have e : (48 : UInt8).toNat = 48 := rfl
      omega
    · rw [dif_neg h10, head_app (digits_ne_nil _)] at h
      have := ih (n / 10) (by omega) h; omega

/-- A text of digits without superfluous zeros is that of its number. -/
theorem digits_dv {l : List UInt8} (h : AllD l) (hne : l ≠ []) (hz : l.head? = some 48 → l = [48]) : decDigits (dv l) = l := by
  have key : ∀ m (l : List UInt8), l.length = m → AllD l → l ≠ [] → (l.head? = some 48 → l = [48]) → decDigits (dv l) = l := by
    intro m
    induction m with
    | zero => intro l hl _ hne; exact absurd (List.eq_nil_of_length_eq_zero hl) hne
    | succ m ih =>
      intro l hl h hne hz
      obtain ⟨a, c, rfl⟩ : ∃ a c, l = a ++ [c] := ⟨l.dropLast, l.getLast hne, (List.dropLast_concat_getLast hne).symm⟩
      have hc := h c (by simp)
      have ha : AllD a := fun x hx => h x (by simp [hx])
      rw [dv_append]
      have e1 : dv [c] = c.toNat - 48 := by simp [dv]
      rw [e1, List.length_singleton, Nat.pow_one]
      have e2 : UInt8.ofNat (48 + (c.toNat - 48)) = c := by
        apply UInt8.toNat_inj.1; simp only [UInt8.toNat_ofNat']; omega
      by_cases ha0 : a = []
      · subst ha0
        simp only [dv, List.foldl_nil, Nat.zero_mul, Nat.zero_add, List.nil_append]
        rw [decDigits, dif_pos (by omega), e2]
      · have hza : a.head? = some 48 → a = [48] := by
          intro hh
          have := hz (by rw [head_app ha0]; exact hh)
          have := congrArg List.length this
          simp at this; exact absurd this ha0
        have hpos : 0 < dv a := by
          rcases Nat.eq_zero_or_pos (dv a) with e | e
          · have := ih a (by simpa using hl) ha ha0 hza
            rw [e, decDigits, dif_pos (by omega)] at this
            have hh : (a ++ [c]).head? = some 48 := by rw [head_app ha0, ← this]; rfl
            have := hz hh
            have := congrArg List.length this
            simp at this; exact absurd this ha0
          · exact e
        rw [decDigits, dif_neg (by omega), show (dv a * 10 + (c.toNat - 48)) / 10 = dv a by omega, show (dv a * 10 + (c.toNat - 48)) % 10 = c.toNat - 48 by omega, ih a (by simpa using hl) ha ha0 hza, e2]
  exact key _ l rfl h hne hz
end Go.Proofs.YthjpbbbmnmhmmaaGreatDoor
