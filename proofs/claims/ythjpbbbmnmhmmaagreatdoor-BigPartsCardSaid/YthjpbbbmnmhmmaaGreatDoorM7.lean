import Derived.Test.YthjpbbbmnmhmmaaGreatDoorA16
set_option linter.unusedVariables false
set_option linter.unusedSimpArgs false
namespace Go.Proofs.YthjpbbbmnmhmmaaGreatDoor
open Go.RowKit Go.Shelf Go.Lib

theorem nd_lt {d k : Nat} (h : nDigits d ≤ k) : d < 10 ^ k := by
  have h1 := dv_lt (allD_digits d)
  rw [dv_digits, decDigits_length] at h1
  exact Nat.lt_of_lt_of_le h1 (Nat.pow_le_pow_right (by decide) h)
theorem nd_mono {a b k : Nat} (h : a ≤ b) (hb : nDigits b ≤ k + 1) : nDigits a ≤ k + 1 := nDigits_le (Nat.lt_of_le_of_lt h (nd_lt hb))

/-- A value of the document's, by its three parts. -/
structure Vl where
  k : Int
  n : Int
  t : List UInt8

def Vl.ok (a : Vl) : Prop := VOk a.k a.n a.t
def Vl.num (a : Vl) : Option Int := numZ a.k a.n a.t
def Vl.zero : Vl := ⟨0, 0, []⟩
def Vl.of (z : Int) : Vl := if -9223372036854775808 ≤ z ∧ z ≤ 9223372036854775807 then ⟨1, z, []⟩ else ⟨2, 0, itoa z⟩
def Vl.val (a : Vl) : Value := .agg #[.int .i64 a.k, .int .i64 a.n, .string ⟨a.t.toArray⟩]

theorem vv_of (z : Int) : vv z = (Vl.of z).val := by unfold vv Vl.of Vl.val; split <;> rfl
theorem vl_ext {a b : Vl} (h : a.val = b.val) : a = b := by
  obtain ⟨k, n, t⟩ := a
  obtain ⟨k', n', t'⟩ := b
  simp [Vl.val] at h
  obtain ⟨rfl, rfl, h⟩ := h
  have : t = t' := by simpa using h
  rw [this]

theorem vl_num_of {z : Int} (h : nDigits z.natAbs ≤ 400) : (Vl.of z).num = some z := by
  unfold Vl.of Vl.num numZ
  by_cases hs : -9223372036854775808 ≤ z ∧ z ≤ 9223372036854775807
  · rw [if_pos hs]; simp
  · rw [if_neg hs]
    simp only [show ¬ ((2 : Int) = 1 ∧ itoa z = []) from fun h => by omega, if_false, and_self, if_true]
    rw [readZ_itoa z h]
    exact if_neg (show ¬ Small64 z from hs)

theorem vl_of_num {a : Vl} {z : Int} (ho : a.ok) (h : a.num = some z) : a = Vl.of z ∧ nDigits z.natAbs ≤ 400 := by
  obtain ⟨h1, h2⟩ := numZ_nd ho.n h
  exact ⟨vl_ext (by rw [← vv_of]; exact h2), h1⟩

theorem vl_of_ok {z : Int} (h : nDigits z.natAbs ≤ 400) : (Vl.of z).ok := by
  unfold Vl.of Vl.ok
  split
  · rename_i hs; exact ⟨hs, by simp⟩
  · exact ⟨by show Small64 0; unfold Small64; omega, by show (itoa z).length ≤ 100000; rw [itoa_length]; split <;> omega⟩
theorem vl_zero_ok : Vl.zero.ok := ⟨by show Small64 0; unfold Small64; omega, by simp [Vl.zero]⟩

theorem vl_of_inj {a b : Int} (ha : nDigits a.natAbs ≤ 400) (hb : nDigits b.natAbs ≤ 400) (h : Vl.of a = Vl.of b) : a = b := by
  have h1 := vl_num_of ha
  rw [h, vl_num_of hb] at h1
  exact (Option.some.inj h1).symm

/-- A number, if it is short enough; else the limit's error. -/
def limZ (z : Int) : Vl × Int := if nDigits z.natAbs ≤ 400 then (Vl.of z, 0) else (Vl.zero, 2)

theorem limZ_ok (z : Int) : (limZ z).1.ok := by unfold limZ; split <;> first | (rename_i h; exact vl_of_ok h) | exact vl_zero_ok
end Go.Proofs.YthjpbbbmnmhmmaaGreatDoor
