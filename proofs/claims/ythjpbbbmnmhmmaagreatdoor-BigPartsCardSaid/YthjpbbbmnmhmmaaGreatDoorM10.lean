import Derived.Test.YthjpbbbmnmhmmaaGreatDoorA30
set_option linter.unusedVariables false
set_option linter.unusedSimpArgs false
namespace Go.Proofs.YthjpbbbmnmhmmaaGreatDoor
open Go.RowKit Go.Shelf Go.Lib

/-! ### Plain facts on the operations' answers -/
def Nd (z : Int) : Prop := nDigits z.natAbs ≤ 400
instance (z : Int) : Decidable (Nd z) := inferInstanceAs (Decidable (_ ≤ _))

theorem num_one (n : Int) : (⟨1, n, []⟩ : Vl).num = some n := by simp [Vl.num, numZ]
theorem num_zero : Vl.zero.num = none := by simp [Vl.zero, Vl.num, numZ]
theorem num_of {z : Int} (h : Nd z) : (Vl.of z).num = some z := vl_num_of h
theorem of_num {a : Vl} {z : Int} (ho : a.ok) (h : a.num = some z) : a = Vl.of z := (vl_of_num ho h).1
theorem nd_num {a : Vl} {z : Int} (ho : a.ok) (h : a.num = some z) : Nd z := (vl_of_num ho h).2
theorem nd20 {z : Int} (h : z.natAbs < 10 ^ 20) : Nd z := Nat.le_trans (nDigits_le (k := 19) h) (by decide)
theorem nd_le {a b : Int} (h : a.natAbs ≤ b.natAbs) (hb : Nd b) : Nd a := nd_mono (k := 399) h hb
theorem limZ_ok' {z : Int} (h : Nd z) : limZ z = (Vl.of z, 0) := if_pos h
theorem limZ_not {z : Int} (h : ¬ Nd z) : limZ z = (Vl.zero, 2) := if_neg h
theorem limZ_zero {z : Int} (h : (limZ z).2 = 0) : Nd z ∧ limZ z = (Vl.of z, 0) := by
  by_cases hn : Nd z
  · exact ⟨hn, limZ_ok' hn⟩
  · rw [limZ_not hn] at h; simp at h
theorem limZ_err (z : Int) : (limZ z).2 = 0 ∨ limZ z = (Vl.zero, 2) := by
  by_cases hn : Nd z
  · exact .inl (by rw [limZ_ok' hn])
  · exact .inr (limZ_not hn)
theorem opR_some {f : Int → Int → Vl × Int} {a b : Vl} {x y : Int} (ha : a.num = some x) (hb : b.num = some y) : opR f a b = f x y := by unfold opR; rw [ha, hb]
theorem opR_none1 {f : Int → Int → Vl × Int} {a b : Vl} (ha : a.num = none) : opR f a b = (Vl.zero, 31) := by unfold opR; rw [ha]
theorem opR_none2 {f : Int → Int → Vl × Int} {a b : Vl} (hb : b.num = none) : opR f a b = (Vl.zero, 31) := by
  unfold opR; cases a.num with
  | none => rfl
  | some x => rw [hb]
theorem opR_zero {f : Int → Int → Vl × Int} {a b : Vl} (h : (opR f a b).2 = 0) : ∃ x y, a.num = some x ∧ b.num = some y ∧ (f x y).2 = 0 ∧ opR f a b = f x y := by
  cases ha : a.num with
  | none => rw [opR_none1 ha] at h; simp at h
  | some x =>
    cases hb : b.num with
    | none => rw [opR_none2 hb] at h; simp at h
    | some y => rw [opR_some ha hb] at h ⊢; exact ⟨x, y, rfl, rfl, h, rfl⟩
theorem opR_comm {f : Int → Int → Vl × Int} (hf : ∀ x y, f x y = f y x) (a b : Vl) : opR f a b = opR f b a := by
  unfold opR
  cases a.num with
  | none => cases b.num <;> rfl
  | some x =>
    cases b.num with
    | none => rfl
    | some y => exact hf x y
theorem addR_comm (a b : Vl) : addR a b = addR b a := opR_comm (fun x y => by unfold addF; rw [Int.add_comm]) a b
theorem mulR_comm (a b : Vl) : mulR a b = mulR b a := opR_comm (fun x y => by unfold mulF; rw [Int.mul_comm]) a b

theorem addR_some {a b : Vl} {x y : Int} (ha : a.num = some x) (hb : b.num = some y) : addR a b = limZ (x + y) := opR_some ha hb
theorem subR_some {a b : Vl} {x y : Int} (ha : a.num = some x) (hb : b.num = some y) : subR a b = limZ (x - y) := opR_some ha hb
theorem mulR_some {a b : Vl} {x y : Int} (ha : a.num = some x) (hb : b.num = some y) : mulR a b = limZ (x * y) := opR_some ha hb
theorem addR_zero {a b : Vl} (h : (addR a b).2 = 0) : ∃ x y, a.num = some x ∧ b.num = some y ∧ Nd (x + y) ∧ addR a b = (Vl.of (x + y), 0) := by
  obtain ⟨x, y, h1, h2, h3, h4⟩ := opR_zero h
  obtain ⟨h5, h6⟩ := limZ_zero h3
  exact ⟨x, y, h1, h2, h5, h4.trans h6⟩
theorem subR_zero {a b : Vl} (h : (subR a b).2 = 0) : ∃ x y, a.num = some x ∧ b.num = some y ∧ Nd (x - y) ∧ subR a b = (Vl.of (x - y), 0) := by
  obtain ⟨x, y, h1, h2, h3, h4⟩ := opR_zero h
  obtain ⟨h5, h6⟩ := limZ_zero h3
  exact ⟨x, y, h1, h2, h5, h4.trans h6⟩
theorem mulR_zero {a b : Vl} (h : (mulR a b).2 = 0) : ∃ x y, a.num = some x ∧ b.num = some y ∧ Nd (x * y) ∧ mulR a b = (Vl.of (x * y), 0) := by
  obtain ⟨x, y, h1, h2, h3, h4⟩ := opR_zero h
  obtain ⟨h5, h6⟩ := limZ_zero h3
  exact ⟨x, y, h1, h2, h5, h4.trans h6⟩
theorem veq_false {a b : Vl} : veq a b = false ↔ a ≠ b := by
  constructor
  · intro h e; rw [veq_iff.2 e] at h; cases h
  · exact veq_ne

theorem short_ok {a : Vl} (hi : a.inp) (hs : shortB a = true) : a.ok := ⟨hi.1, by simp [shortB] at hs; show a.t.length ≤ 100000; omega⟩

/-- Less. -/
theorem lessR_some {a b : Vl} {x y : Int} (ha : a.num = some x) (hb : b.num = some y) : lessR a b = (decide (x < y), 0) := by unfold lessR; rw [ha, hb]
theorem lessR_zero {a b : Vl} (h : (lessR a b).2 = 0) : ∃ x y, a.num = some x ∧ b.num = some y ∧ lessR a b = (decide (x < y), 0) := by
  unfold lessR at h ⊢
  cases ha : a.num with
  | none => rw [ha] at h; simp at h
  | some x =>
    cases hb : b.num with
    | none => rw [ha, hb] at h; simp at h
    | some y => exact ⟨x, y, rfl, rfl, rfl⟩

/-- The sign of a number's value. -/
theorem itoa_neg {z : Int} : ((itoa z).head? == some 45) = decide (z < 0) := by
  unfold itoa
  by_cases h : z < 0
  · simp [h]
  · rw [if_neg h]
    have := digit_not_minus z.toNat
    simp [h, this]
theorem negB_of (z : Int) : negB (Vl.of z) = decide (z < 0) := by
  unfold Vl.of negB
  by_cases hs : -9223372036854775808 ≤ z ∧ z ≤ 9223372036854775807
  · rw [if_pos hs]; simp
  · rw [if_neg hs, itoa_neg]; simp
theorem negB_num {a : Vl} {z : Int} (ho : a.ok) (h : a.num = some z) : negB a = decide (z < 0) := by rw [of_num ho h, negB_of]
theorem of_zero : Vl.of 0 = ⟨1, 0, []⟩ := if_pos (by omega)
theorem of_one : Vl.of 1 = ⟨1, 1, []⟩ := if_pos (by omega)
theorem veq_of {x y : Int} (hx : Nd x) (hy : Nd y) : veq (Vl.of x) (Vl.of y) = decide (x = y) := by
  by_cases h : x = y
  · subst h; simp [veq_refl]
  · rw [veq_ne (fun e => h (vl_of_inj hx hy e))]; simp [h]
theorem nd_zero : Nd 0 := nd20 (by decide)
theorem nd_one : Nd 1 := nd20 (by decide)
theorem veq_zero {x : Int} (hx : Nd x) : veq (Vl.of x) ⟨1, 0, []⟩ = decide (x = 0) := by rw [← of_zero, veq_of hx nd_zero]
theorem veq_num {a b : Vl} {x y : Int} (ha : a.ok) (hb : b.ok) (hx : a.num = some x) (hy : b.num = some y) : veq a b = decide (x = y) := by
  rw [of_num ha hx, of_num hb hy]; exact veq_of (nd_num ha hx) (nd_num hb hy)

theorem head_byte (l : List UInt8) (h : 0 < (⟨l.toArray⟩ : ByteArray).size) : ((((⟨l.toArray⟩ : ByteArray)[0]'h).toNat : Int) == 45) = (l.head? == some 45) := by
  cases l with
  | nil => exact absurd h (by decide)
  | cons c l =>
    show (((c.toNat : Nat) : Int) == 45) = _
    by_cases hc : c = 45
    · subst hc; rfl
    · have : c.toNat ≠ 45 := fun h => hc (UInt8.toNat_inj.1 (by simpa using h))
      have e1 : (((c.toNat : Nat) : Int) == 45) = false := by simp; omega
      rw [e1]; simp [hc]
end Go.Proofs.YthjpbbbmnmhmmaaGreatDoor
