import Derived.Test.YthjpbbbmnmhmmaaGreatDoorM4
import Derived.Lib.AtoiAll
import Derived.Lib.ParseIntB
import Derived.Lib.ParseIntBCases
import Derived.Lib.ParseIntBTie
import Derived.Lib.AtoiTie
set_option linter.unusedVariables false
set_option linter.unusedSimpArgs false
namespace Go.Proofs.YthjpbbbmnmhmmaaGreatDoor
open Go.Lib

instance (l : List UInt8) : Decidable (AllD l) := inferInstanceAs (Decidable (∀ c ∈ l, _))

/-- What is behind a minus. -/
def unsign : List UInt8 → List UInt8
  | 45 :: l => l
  | l => l

/-- The number of a text; none: it is the text of none (or of one with more than 400 digits). -/
def readZ (s : List UInt8) : Option Int :=
  if unsign s = [] ∨ 400 < (unsign s).length ∨ ((unsign s).head? = some 48 ∧ s ≠ [48]) ∨ ¬ AllD (unsign s) then none
  else some (if (unsign s).length < s.length then -(dv (unsign s) : Int) else dv (unsign s))

theorem unsign_len (s : List UInt8) : (unsign s).length ≤ s.length := by
  unfold unsign; split <;> simp

theorem unsign_of_not {s : List UInt8} (h : s.head? ≠ some 45) : unsign s = s := by
  unfold unsign; split
  · exact absurd rfl h
  · rfl

theorem digit_not_minus (n : Nat) : (decDigits n).head? ≠ some 45 := by
  intro h
  have hne := digits_ne_nil n
  cases hd : decDigits n with
  | nil => exact hne hd
  | cons c l =>
    rw [hd] at h
    simp at h; subst h
    have := allD_digits n 45 (by rw [hd]; simp)
    exact absurd this.1 (by decide)

theorem readZ_itoa (z : Int) (h : nDigits z.natAbs ≤ 400) : readZ (itoa z) = some z := by
  unfold itoa
  by_cases hz : z < 0
  · rw [if_pos hz]
    have e : unsign (45 :: decDigits z.natAbs) = decDigits z.natAbs := rfl
    unfold readZ; rw [e, if_neg, if_pos (by simp), dv_digits]
    · congr 1; omega
    · rintro (h1 | h1 | h1 | h1)
      · exact digits_ne_nil _ h1
      · rw [decDigits_length] at h1; omega
      · have := digits_head h1.1; omega
      · exact h1 (allD_digits _)
  · rw [if_neg hz]
    have hn : z.toNat = z.natAbs := by omega
    have e := unsign_of_not (digit_not_minus z.toNat)
    unfold readZ; rw [e, if_neg, if_neg (by simp), dv_digits]
    · congr 1; omega
    · rintro (h1 | h1 | h1 | h1)
      · exact digits_ne_nil _ h1
      · rw [decDigits_length] at h1; rw [hn] at h1; omega
      · have := digits_head h1.1
        apply h1.2; rw [this, decDigits_one (by omega)]; rfl
      · exact h1 (allD_digits _)

theorem readZ_some {s : List UInt8} {z : Int} (h : readZ s = some z) : s = itoa z ∧ nDigits z.natAbs ≤ 400 := by
  unfold readZ at h
  split at h
  · cases h
  · rename_i hc
    have h1 : unsign s ≠ [] := fun e => hc (.inl e)
    have h2 : (unsign s).length ≤ 400 := by
      rcases Nat.lt_or_ge 400 (unsign s).length with e | e
      · exact absurd (.inr (.inl e)) hc
      · exact e
    have h3 : (unsign s).head? = some 48 → s = [48] := fun e => Classical.byContradiction fun e2 => hc (.inr (.inr (.inl ⟨e, e2⟩)))
    have h4 : AllD (unsign s) := Classical.byContradiction fun e => hc (.inr (.inr (.inr e)))
    have hcan : decDigits (dv (unsign s)) = unsign s := digits_dv h4 h1 (fun e => by have := h3 e; rw [this] at e ⊢; rfl)
    have hlen : nDigits (dv (unsign s)) ≤ 400 := by rw [← decDigits_length, hcan]; exact h2
    by_cases hs : s.head? = some 45
    · obtain ⟨l, rfl⟩ : ∃ l, s = 45 :: l := by
        cases s with
        | nil => cases hs
        | cons c l => simp at hs; exact ⟨l, by rw [hs]⟩
      have e : unsign (45 :: l) = l := rfl
      rw [e] at h h1 h2 h3 h4 hcan hlen
      rw [if_pos (by simp)] at h
      have hz : z = -(dv l : Int) := (Option.some.inj h).symm
      have hpos : 0 < dv l := by
        rcases Nat.eq_zero_or_pos (dv l) with e0 | e0
        · rw [e0] at hcan
          have : l.head? = some 48 := by rw [← hcan, decDigits_one (by omega)]; rfl
          have := h3 this; cases this
        · exact e0
      subst hz
      refine ⟨?_, by rw [Int.natAbs_neg, Int.natAbs_natCast]; exact hlen⟩
      unfold itoa
      rw [if_pos (by omega), Int.natAbs_neg, Int.natAbs_natCast, hcan]
    · have e := unsign_of_not hs
      rw [e] at h h1 h2 h3 h4 hcan hlen
      rw [if_neg (by simp)] at h
      have hz : z = (dv s : Int) := (Option.some.inj h).symm
      subst hz
      refine ⟨?_, by rw [Int.natAbs_natCast]; exact hlen⟩
      unfold itoa
      rw [if_neg (by omega), Int.toNat_natCast, hcan]

theorem itoa_inj {a b : Int} (ha : nDigits a.natAbs ≤ 400) (hb : nDigits b.natAbs ≤ 400) (h : itoa a = itoa b) : a = b := by
  have h1 := readZ_itoa a ha; rw [h, readZ_itoa b hb] at h1; exact (Option.some.inj h1).symm

theorem itoa_length (z : Int) : (itoa z).length = nDigits z.natAbs + if z < 0 then 1 else 0 := by
  unfold itoa
  by_cases hz : z < 0
  · rw [if_pos hz, if_pos hz, List.length_cons, decDigits_length]
  · rw [if_neg hz, if_neg hz, decDigits_length, show z.toNat = z.natAbs by omega]; rfl


theorem dv_cons (c : UInt8) (l : List UInt8) : dv (c :: l) = (c.toNat - 48) * 10 ^ l.length + dv l := by
  have := dv_append [c] l; simpa [dv] using this

theorem parse_digits (l : List UInt8) : ∀ acc, AllD l → acc < 18446744073709551616 → parseUint10 acc l = if acc * 10 ^ l.length + dv l < 18446744073709551616 then .ok (acc * 10 ^ l.length + dv l) else .range := by
  induction l with
  | nil => intro acc _ ha; simp [parseUint10, dv, ha]
  | cons c l ih =>
    intro acc h ha
    have hc := h c (by simp)
    have hl : AllD l := fun x hx => h x (by simp [hx])
    have hp : 0 < 10 ^ l.length := Nat.pow_pos (by decide)
    have e : acc * 10 ^ (c :: l).length + dv (c :: l) = (acc * 10 + (c.toNat - 48)) * 10 ^ l.length + dv l := by
      rw [dv_cons, List.length_cons, Nat.pow_succ, Nat.add_mul, Nat.mul_assoc acc 10, Nat.mul_comm 10 (10 ^ l.length)]; omega
    rw [e, parseUint10, if_pos hc]
    have hge : acc * 10 + (c.toNat - 48) ≤ (acc * 10 + (c.toNat - 48)) * 10 ^ l.length := Nat.le_mul_of_pos_right _ hp
    by_cases h1 : 1844674407370955162 ≤ acc
    · rw [if_pos h1, if_neg (by omega)]
    · rw [if_neg h1]
      by_cases h2 : 18446744073709551616 ≤ acc * 10 + (c.toNat - 48)
      · rw [if_pos h2, if_neg (by omega)]
      · rw [if_neg h2]; exact ih _ hl (by omega)

theorem parseUint_dec (n : Nat) : parseUintB 64 (decDigits n) = if n < 18446744073709551616 then .ok n else .range := by
  rw [parseUintB_64]
  unfold parseMag
  rw [if_neg (digits_ne_nil n), parse_digits _ 0 (allD_digits n) (by decide), dv_digits]; simp

/-- Of a number's text strconv.ParseInt reads the number, or says that it is out of range. -/
theorem parseInt_itoa (z : Int) : parseIntB 64 (itoa z) = if -9223372036854775808 ≤ z ∧ z ≤ 9223372036854775807 then .ok z else .range := by
  unfold itoa
  by_cases hz : z < 0
  · rw [if_pos hz, parseIntB_minus, parseUint_dec]
    by_cases h : z.natAbs < 18446744073709551616
    · rw [if_pos h]
      show (if 2 ^ (64 - 1) < z.natAbs then NumEnd.range else NumEnd.ok (-(z.natAbs : Int))) = _
      by_cases h2 : 2 ^ (64 - 1) < z.natAbs
      · rw [if_pos h2, if_neg (by omega)]
      · rw [if_neg h2, if_pos (by omega)]; congr 1; omega
    · rw [if_neg h, if_neg (by omega)]; rfl
  · rw [if_neg hz]
    cases hd : decDigits z.toNat with
    | nil => exact absurd hd (digits_ne_nil _)
    | cons c r =>
      have hc := allD_digits z.toNat c (by rw [hd]; simp)
      rw [parseIntB_plain 64 c r (by omega) (by omega), ← hd, parseUint_dec]
      by_cases h : z.toNat < 18446744073709551616
      · rw [if_pos h]
        show (if 2 ^ (64 - 1) ≤ z.toNat then NumEnd.range else NumEnd.ok (z.toNat : Int)) = _
        by_cases h2 : 2 ^ (64 - 1) ≤ z.toNat
        · rw [if_pos h2, if_neg (by omega)]
        · rw [if_neg h2, if_pos (by omega)]; congr 1; omega
      · rw [if_neg h, if_neg (by omega)]; rfl
end Go.Proofs.YthjpbbbmnmhmmaaGreatDoor
