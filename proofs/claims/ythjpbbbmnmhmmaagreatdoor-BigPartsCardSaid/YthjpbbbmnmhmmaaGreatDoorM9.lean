import Derived.Test.YthjpbbbmnmhmmaaGreatDoorM7
import Derived.Test.YthjpbbbmnmhmmaaGreatDoorM8
set_option linter.unusedVariables false
set_option linter.unusedSimpArgs false
namespace Go.Proofs.YthjpbbbmnmhmmaaGreatDoor
open Go.RowKit Go.Shelf Go.Lib

/-- What an operation on two values answers. -/
def opR (f : Int → Int → Vl × Int) (a b : Vl) : Vl × Int :=
  match a.num, b.num with
  | some x, some y => f x y
  | _, _ => (Vl.zero, 31)
def addF (x y : Int) : Vl × Int := limZ (x + y)
def subF (x y : Int) : Vl × Int := limZ (x - y)
def mulF (x y : Int) : Vl × Int := limZ (x * y)
def divF (x y : Int) : Vl × Int := if y = 0 then (Vl.zero, 30) else limZ (x.fdiv y)
def modF (x y : Int) : Vl × Int := if y = 0 then (Vl.zero, 30) else limZ (x.fmod y)
def gcdF (x y : Int) : Vl × Int := limZ ((Nat.gcd x.natAbs y.natAbs : Nat) : Int)
def addR := opR addF
def subR := opR subF
def mulR := opR mulF
def divR := opR divF
def modR := opR modF
def gcdR := opR gcdF
def lessR (a b : Vl) : Bool × Int :=
  match a.num, b.num with
  | some x, some y => (decide (x < y), 0)
  | _, _ => (false, 31)
def powR (a : Vl) (n : Int) : Vl × Int :=
  match a.num with
  | none => (Vl.zero, 31)
  | some x => if n < 0 ∨ 2000 < n then (Vl.zero, 1) else limZ (x ^ n.toNat)
def rootR (a : Vl) : Vl × Int :=
  match a.num with
  | none => (Vl.zero, 31)
  | some x => if x < 0 then (Vl.zero, 1) else (Vl.of (isq x.natAbs : Nat), 0)
def textR (a : Vl) : List UInt8 × Int :=
  match a.num with
  | none => ([], 31)
  | some x => (itoa x, 0)
def digitsR (a : Vl) : Int × Int :=
  match a.num with
  | none => (0, 31)
  | some x => ((nDigits x.natAbs : Nat), 0)
def checkR (a : Vl) : Int :=
  match a.num with
  | none => 31
  | some x => 0
def ofR (t : List UInt8) : Vl × Int :=
  match readZ t with
  | none => (Vl.zero, 31)
  | some x => (Vl.of x, 0)

/-- A value and an error, as results. -/
def pr (p : Vl × Int) : Value := .tuple #[p.1.val, .int .i64 p.2]

theorem divF_ok (x y : Int) : (divF x y).1.ok := by unfold divF; split; exact vl_zero_ok; exact limZ_ok _
theorem modF_ok (x y : Int) : (modF x y).1.ok := by unfold modF; split; exact vl_zero_ok; exact limZ_ok _
theorem opR_ok {f : Int → Int → Vl × Int} (hf : ∀ x y, (f x y).1.ok) (a b : Vl) : (opR f a b).1.ok := by
  unfold opR; split
  · exact hf _ _
  · exact vl_zero_ok
theorem addR_ok (a b : Vl) : (addR a b).1.ok := opR_ok (fun _ _ => limZ_ok _) a b
theorem subR_ok (a b : Vl) : (subR a b).1.ok := opR_ok (fun _ _ => limZ_ok _) a b
theorem mulR_ok (a b : Vl) : (mulR a b).1.ok := opR_ok (fun _ _ => limZ_ok _) a b
theorem divR_ok (a b : Vl) : (divR a b).1.ok := opR_ok divF_ok a b
theorem modR_ok (a b : Vl) : (modR a b).1.ok := opR_ok modF_ok a b
theorem gcdR_ok (a b : Vl) : (gcdR a b).1.ok := opR_ok (fun _ _ => limZ_ok _) a b
theorem powR_ok (a : Vl) (n : Int) : (powR a n).1.ok := by
  unfold powR; split
  · exact vl_zero_ok
  · split
    · exact vl_zero_ok
    · exact limZ_ok _
theorem isq_nd {x : Int} (h : nDigits x.natAbs ≤ 400) : nDigits (isq x.natAbs) ≤ 400 := nd_mono (k := 399) (isq_self_le _) h
theorem rootR_ok (a : Vl) (ha : a.ok) : (rootR a).1.ok := by
  unfold rootR; split
  · exact vl_zero_ok
  · rename_i x h
    split
    · exact vl_zero_ok
    · exact vl_of_ok (by simpa using isq_nd (vl_of_num ha h).2)
theorem ofR_ok (t : List UInt8) : (ofR t).1.ok := by
  unfold ofR; split
  · exact vl_zero_ok
  · rename_i z h; exact vl_of_ok (readZ_some h).2
end Go.Proofs.YthjpbbbmnmhmmaaGreatDoor
