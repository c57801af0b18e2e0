import Derived.Test.YtplpnfjccemdnaaGreatDoorJ15
set_option linter.unusedVariables false
set_option linter.unusedSimpArgs false
/- The texts L15 C1 C2 C3 C4 L16 of the proof, laid one behind the other. -/
namespace Go.Proofs.YtplpnfjccemdnaaGreatDoor
open Go.RowKit
def hpreL (s p : List UInt8) : Bool := bif decide ((s.length : Int) >= p.length) then sub s 0 p.length == p else false
theorem slpre_spec (s p : List UInt8) : Spec Tryz.prog 108 [S s, S p] (.sb (hpreL s p)) := by
 refine Spec.startL (by kernel_rfl) Tryz.func108 rfl rfl fun w0 L hst => ?_
 refine M.tq (r := hpreL s p) rfl (fun h1 q1 => ?_) (fun h1 q1 => ?_)
 ·have := of_decide_eq_true h1
  exact M.rqp [(0 : Int) <= 0 /\ (0 : Int) <= p.length /\ (p.length : Int) <= s.length] ⟨by omega, trivial⟩ q1
 ·exact M.rq q1
theorem hpre_spec (s p : List UInt8) : Spec Tryz.prog 58 [S s, S p] (.sb (hpreL s p)) := by
 refine Spec.startL (by kernel_rfl) Tryz.func58 rfl rfl fun w0 L hst => ?_
 refine M.cl (slpre_spec s p) ?_
 exact M.rq (r := hpreL s p) rfl
def hsufL (s p : List UInt8) : Bool := bif decide ((s.length : Int) >= p.length) then sub s ((s.length : Int) - p.length) s.length == p else false
theorem slsuf_spec (s p : List UInt8) (hs : s.length <= 1000000000) : Spec Tryz.prog 203 [S s, S p] (.sb (hsufL s p)) := by
 refine Spec.startL (by kernel_rfl) Tryz.func203 rfl rfl fun w0 L hst => ?_
 refine M.tq (r := hsufL s p) rfl (fun h1 q1 => ?_) (fun h1 q1 => ?_)
 ·have := of_decide_eq_true h1
  exact M.rqp [In64 ((s.length : Int) - p.length), (0 : Int) <= (s.length : Int) - p.length /\ (s.length : Int) - p.length <= s.length /\ (s.length : Int) <= s.length] ⟨⟨by omega, by omega⟩, by omega, trivial⟩ q1
 ·exact M.rq q1
theorem hsuf_spec (s p : List UInt8) (hs : s.length <= 1000000000) : Spec Tryz.prog 153 [S s, S p] (.sb (hsufL s p)) := by
 refine Spec.startL (by kernel_rfl) Tryz.func153 rfl rfl fun w0 L hst => ?_
 refine M.cl (slsuf_spec s p hs) ?_
 exact M.rq (r := hsufL s p) rfl
def isNameP (s : List UInt8) : Bool := isWordP (kindL s) s 0 0
theorem isName_spec (s : List UInt8) : Spec Tryz.prog 149 [S s] (.sb (isNameP s)) := by
 refine Spec.startL (by kernel_rfl) Tryz.func149 rfl rfl fun w0 L hst => ?_
 refine M.cl (kind_spec s) ?_
 refine M.cl (isWordP_spec (kindL s) s 0 0) ?_
 exact M.rq (r := isNameP s) rfl
def partsP (s : List UInt8) : List (List UInt8) := (cutS s).dropLast
def endsP (s : List UInt8) : Bool := (cutS s).getD (((cutS s).length : Int) - 1).toNat default == []
theorem cutS_len (s : List UInt8) : (cutS s).length = s.count 58 + 1 := cutN_len _ _ _
theorem cutParts_spec (s : List UInt8) (hs : s.length <= 1000000) : Spec Tryz.prog 201 [S s] (.tup [row 1 (fun x => [S x]) (partsP s), .sb (endsP s)]) := by
 have hl := cutS_len s
 have hc := List.count_le_length (a := (58 : UInt8)) (l := s)
 refine Spec.startL (by kernel_rfl) Tryz.func201 rfl rfl fun w0 L hst => ?_
 refine M.cl (splitAfter_spec s hs) ?_
 refine M.retw [In64 (((cutS s).length : Int) - 1), (0 : Int) <= 0 /\ (0 : Int) <= ((cutS s).length : Int) - 1 /\ ((cutS s).length : Int) - 1 <= (cutS s).length, 0 <= ((cutS s).length : Int) - 1 /\ ((cutS s).length : Int) - 1 < (cutS s).length]
  (.tup [.sl 1 (((cutS s).length : Int) - 1).toNat (fun j => [S ((cutS s).getD (0 + j) default)]), .sb (endsP s)]) (by kernel_rfl) ⟨⟨by omega, by omega⟩, by omega, by omega, trivial⟩ fun L W u h => ?_
 rw [R] at h
 rw [R]
 obtain ⟨us, rfl, h⟩ := h
 obtain ⟨u0, us', rfl, h1, h2⟩ := h.uncons
 refine ⟨_, rfl, Rs.cons (sl_eq ?_ (fun j hj => ?_) h1) h2⟩
 ·unfold partsP; rw [List.length_dropLast]; omega
 ·show [S ((cutS s).getD (0 + j) default)] = [S ((partsP s).getD j default)]
  unfold partsP
  rw [Nat.zero_add, List.getD_eq_getElem?_getD, List.getD_eq_getElem?_getD, List.getElem?_dropLast, if_pos (by omega)]
def kwP (s : List UInt8) (k : Int) : Int :=
 bif !endsP s then 0 else (bif ((partsP s).length : Int) == 0 then 0 else (bif decide (((partsP s).length : Int) > 8) then 0 else (bif kindL ((partsP s).getD 0 default) != k then 0 else (bif ((partsP s).drop 1).any kwoneP then 0 else (partsP s).length))))
theorem kwrest_spec (l : List (List UInt8)) : Spec Tryz.prog 163 [.sl 1 (l.length - 1) (fun j => [S (l.getD (1 + j) default)]), .fn 202 []] (.sb ((l.drop 1).any kwoneP)) := by
 have := has_string_0 (l.drop 1) 202 kwoneP fun x _ => kwoneP_spec x
 have e : PV.sl 1 (l.length - 1) (fun j => [S (l.getD (1 + j) default)]) = row 1 (fun s => [S s]) (l.drop 1) := row_drop 1 (fun s => [S s]) l 1
 rw [e]
 exact this
theorem keywords_spec (s : List UInt8) (k : Int) (hs : s.length <= 1000000) : Spec Tryz.prog 152 [S s, I k] (I (kwP s k)) := by
 refine Spec.startL (by kernel_rfl) Tryz.func152 rfl rfl fun w0 L hst => ?_
 refine M.cl (cutParts_spec s hs) ?_
 refine M.tq (r := kwP s k) rfl (fun h1 q1 => ?_) (fun h1 q1 => ?_)
 ·exact M.rq q1
 refine M.tq q1 (fun h2 q2 => ?_) (fun h2 q2 => ?_)
 ·exact M.rq q2
 refine M.tq q2 (fun h3 q3 => ?_) (fun h3 q3 => ?_)
 ·exact M.rq q3
 have h2' : ¬ ((partsP s).length : Int) = 0 := by simpa using h2
 refine M.clp [(0 : Int) <= 0 /\ (0 : Int) < (partsP s).length] ⟨by omega, trivial⟩ (kind_spec ((partsP s).getD 0 default)) ?_
 refine M.tq q3 (fun h4 q4 => ?_) (fun h4 q4 => ?_)
 ·exact M.rq q4
 refine M.clp [(0 : Int) <= 1 /\ (1 : Int) <= (partsP s).length /\ ((partsP s).length : Int) <= (partsP s).length] ⟨by omega, trivial⟩ (kwrest_spec (partsP s)) ?_
 refine M.tq q4 (fun h5 q5 => ?_) (fun h5 q5 => ?_)
 ·exact M.rq q5
 ·exact M.rq q5
def arity0P (s : List UInt8) : Int :=
 bif decide ((s.length : Int) > 80) then -1 else (bif isNameP s then 0 else (bif isOpP (kindL s) s 0 0 then 1 else (bif decide (kwP s 2 > 0) then kwP s 2 else -1)))
theorem arity0_spec (s : List UInt8) : Spec Tryz.prog 109 [S s] (I (arity0P s)) := by
 refine Spec.startL (by kernel_rfl) Tryz.func109 rfl rfl fun w0 L hst => ?_
 refine M.tq (r := arity0P s) rfl (fun h1 q1 => ?_) (fun h1 q1 => ?_)
 ·exact M.rq q1
 have h1' := of_decide_eq_false h1
 refine M.cl (isName_spec s) ?_
 refine M.tq q1 (fun h2 q2 => ?_) (fun h2 q2 => ?_)
 ·exact M.rq q2
 refine M.cl (kind_spec s) ?_
 refine M.cl (isOpP_spec (kindL s) s 0 0) ?_
 refine M.tq q2 (fun h3 q3 => ?_) (fun h3 q3 => ?_)
 ·exact M.rq q3
 refine M.cl (keywords_spec s 2 (by omega)) ?_
 refine M.tq q3 (fun h4 q4 => ?_) (fun h4 q4 => ?_)
 ·exact M.rq q4
 ·exact M.rq q4
def primArityP (s : List UInt8) : Int :=
 bif decide ((s.length : Int) > 80) then -1 else (bif kindL s == 4 then (bif !hsufL s [58] then 0 else (bif decide (kwP s 4 > 0) then kwP s 4 else -1)) else (bif decide (kwP s 4 > 0) then kwP s 4 else -1))
theorem primArity_spec (s : List UInt8) : Spec Tryz.prog 110 [S s] (I (primArityP s)) := by
 refine Spec.startL (by kernel_rfl) Tryz.func110 rfl rfl fun w0 L hst => ?_
 refine M.tq (r := primArityP s) rfl (fun h1 q1 => ?_) (fun h1 q1 => ?_)
 ·exact M.rq q1
 have h1' := of_decide_eq_false h1
 refine M.cl (kind_spec s) ?_
 refine M.tq q1 (fun h2 q2 => ?_) (fun h2 q2 => ?_)
 ·refine M.cl (hsuf_spec s [58] (by omega)) ?_
  refine M.tq q2 (fun h3 q3 => ?_) (fun h3 q3 => ?_)
  ·exact M.rq q3
  refine M.cl (keywords_spec s 4 (by omega)) ?_
  refine M.tq q3 (fun h4 q4 => ?_) (fun h4 q4 => ?_)
  ·exact M.rq q4
  ·exact M.rq q4
 ·refine M.cl (keywords_spec s 4 (by omega)) ?_
  refine M.tq q2 (fun h4 q4 => ?_) (fun h4 q4 => ?_)
  ·exact M.rq q4
  ·exact M.rq q4
def parityP (s : List UInt8) : Int := bif decide (arity0P s >= 0) then arity0P s else primArityP s
theorem parity_spec (s : List UInt8) : Spec Tryz.prog 59 [S s] (I (parityP s)) := by
 refine Spec.startL (by kernel_rfl) Tryz.func59 rfl rfl fun w0 L hst => ?_
 refine M.cl (arity0_spec s) ?_
 refine M.tq (r := parityP s) rfl (fun h1 q1 => ?_) (fun h1 q1 => ?_)
 ·exact M.rq q1
 refine M.cl (primArity_spec s) ?_
 exact M.rq q1
def carityP (s : List UInt8) : Int := bif hpreL s [95] then -1 else parityP s
theorem carity_spec (s : List UInt8) : Spec Tryz.prog 23 [S s] (I (carityP s)) := by
 refine Spec.startL (by kernel_rfl) Tryz.func23 rfl rfl fun w0 L hst => ?_
 refine M.cl (hpre_spec s [95]) ?_
 refine M.tq (r := carityP s) rfl (fun h1 q1 => ?_) (fun h1 q1 => ?_)
 ·exact M.rq q1
 refine M.cl (parity_spec s) ?_
 exact M.rq q1
structure Jd where
 c : Cd
 l : List Cd
 pos : Int
 deriving Inhabited
abbrev Jd.pv (j : Jd) : List PV := [S j.c.nm, .sb j.c.blk, I j.c.outer, I j.c.args, row 1 (fun s => [S s]) j.c.names, row 3 Vl.pv j.c.init, row 3 Vl.pv j.c.lits, row 1 (fun s => [S s]) j.c.sels, row 4 In.pv j.c.ins, row 9 Cd.pv j.l, I j.pos]
def noneC (x : In) : Int := 0
theorem noneC_spec' (x : In) (r : Int) (hq : noneC x = r) : Spec Tryz.prog 211 [.agg x.pv] (I r) := by
 unfold noneC at hq
 refine Spec.startL (by kernel_rfl) Tryz.func211 rfl rfl fun w0 L hst => ?_
 exact M.rq hq
theorem noneC_spec (x : In) : Spec Tryz.prog 211 [.agg x.pv] (I (noneC x)) := noneC_spec' x _ rfl
def oneC (x : In) : Int := 1
theorem oneC_spec' (x : In) (r : Int) (hq : oneC x = r) : Spec Tryz.prog 224 [.agg x.pv] (I r) := by
 unfold oneC at hq
 refine Spec.startL (by kernel_rfl) Tryz.func224 rfl rfl fun w0 L hst => ?_
 exact M.rq hq
theorem oneC_spec (x : In) : Spec Tryz.prog 224 [.agg x.pv] (I (oneC x)) := oneC_spec' x _ rfl
def plainC (j : Jd) (x : In) : Bool := (bif x.a == 0 then (bif x.b == 0 then x.c == 0 else false) else false)
theorem plainC_spec' (j : Jd) (x : In) (r : Bool) (hq : plainC j x = r) : Spec Tryz.prog 214 [.ptr j.pv, .agg x.pv] (.sb r) := by
 unfold plainC at hq
 refine Spec.startL (by kernel_rfl) Tryz.func214 rfl rfl fun w0 L hst => ?_
 refine M.tq hq (fun h1 q2 => ?_) (fun h1 q2 => ?_)
 ·refine M.tq q2 (fun h3 q4 => ?_) (fun h3 q4 => ?_)
  ·exact M.rq q4
  ·exact M.rq q4
 ·exact M.rq q2
theorem plainC_spec (j : Jd) (x : In) : Spec Tryz.prog 214 [.ptr j.pv, .agg x.pv] (.sb (plainC j x)) := plainC_spec' j x _ rfl
def insVC (l : List Vl) (i : Int) : Bool := (bif decide (i >= 0) then decide (i < (↑l.length : Int)) else false)
theorem insVC_spec' (l : List Vl) (i : Int) (r : Bool) (hq : insVC l i = r) : Spec Tryz.prog 213 [row 3 Vl.pv l, I i] (.sb r) := by
 unfold insVC at hq
 refine Spec.startL (by kernel_rfl) Tryz.func213 rfl rfl fun w0 L hst => ?_
 refine M.tq hq (fun h1 q2 => ?_) (fun h1 q2 => ?_)
 ·exact M.rq q2
 ·exact M.rq q2
theorem insVC_spec (l : List Vl) (i : Int) : Spec Tryz.prog 213 [row 3 Vl.pv l, I i] (.sb (insVC l i)) := insVC_spec' l i _ rfl
def insSC (l : List (List UInt8)) (i : Int) : Bool := (bif decide (i >= 0) then decide (i < (↑l.length : Int)) else false)
theorem insSC_spec' (l : List (List UInt8)) (i : Int) (r : Bool) (hq : insSC l i = r) : Spec Tryz.prog 249 [row 1 (fun s => [S s]) l, I i] (.sb r) := by
 unfold insSC at hq
 refine Spec.startL (by kernel_rfl) Tryz.func249 rfl rfl fun w0 L hst => ?_
 refine M.tq hq (fun h1 q2 => ?_) (fun h1 q2 => ?_)
 ·exact M.rq q2
 ·exact M.rq q2
theorem insSC_spec (l : List (List UInt8)) (i : Int) : Spec Tryz.prog 249 [row 1 (fun s => [S s]) l, I i] (.sb (insSC l i)) := insSC_spec' l i _ rfl
def insCC (l : List Cd) (i : Int) : Bool := (bif decide (i >= 0) then decide (i < (↑l.length : Int)) else false)
theorem insCC_spec' (l : List Cd) (i : Int) (r : Bool) (hq : insCC l i = r) : Spec Tryz.prog 250 [row 9 Cd.pv l, I i] (.sb r) := by
 unfold insCC at hq
 refine Spec.startL (by kernel_rfl) Tryz.func250 rfl rfl fun w0 L hst => ?_
 refine M.tq hq (fun h1 q2 => ?_) (fun h1 q2 => ?_)
 ·exact M.rq q2
 ·exact M.rq q2
theorem insCC_spec (l : List Cd) (i : Int) : Spec Tryz.prog 250 [row 9 Cd.pv l, I i] (.sb (insCC l i)) := insCC_spec' l i _ rfl
def argsC (x : In) : Int := x.b
theorem argsC_spec' (x : In) (r : Int) (hq : argsC x = r) : Spec Tryz.prog 210 [.agg x.pv] (I r) := by
 unfold argsC at hq
 refine Spec.startL (by kernel_rfl) Tryz.func210 rfl rfl fun w0 L hst => ?_
 exact M.rq hq
theorem argsC_spec (x : In) : Spec Tryz.prog 210 [.agg x.pv] (I (argsC x)) := argsC_spec' x _ rfl
def constC (j : Jd) (x : In) : Bool := (bif insVC j.c.lits x.a then (bif x.b == 0 then x.c == 0 else false) else false)
theorem constC_spec' (j : Jd) (x : In) (r : Bool) (hq : constC j x = r) : Spec Tryz.prog 212 [.ptr j.pv, .agg x.pv] (.sb r) := by
 unfold constC at hq
 refine Spec.startL (by kernel_rfl) Tryz.func212 rfl rfl fun w0 L hst => ?_
 refine M.cl (insVC_spec j.c.lits x.a) ?_
 refine M.tq hq (fun h1 q2 => ?_) (fun h1 q2 => ?_)
 ·refine M.tq q2 (fun h3 q4 => ?_) (fun h3 q4 => ?_)
  ·exact M.rq q4
  ·exact M.rq q4
 ·exact M.rq q2
theorem constC_spec (j : Jd) (x : In) : Spec Tryz.prog 212 [.ptr j.pv, .agg x.pv] (.sb (constC j x)) := constC_spec' j x _ rfl
def arofC (s : List UInt8) : Int := (bif !hpreL s [95] then -1 else parityP s)
theorem arofC_spec' (s : List UInt8) (r : Int) (hq : arofC s = r) : Spec Tryz.prog 222 [S s] (I r) := by
 unfold arofC at hq
 refine Spec.startL (by kernel_rfl) Tryz.func222 rfl rfl fun w0 L hst => ?_
 refine M.cl (hpre_spec s ([95])) ?_
 refine M.tq hq (fun h1 q2 => ?_) (fun h1 q2 => ?_)
 ·exact M.rq q2
 ·refine M.cl (parity_spec s) ?_
  exact M.rq q2
theorem arofC_spec (s : List UInt8) : Spec Tryz.prog 222 [S s] (I (arofC s)) := arofC_spec' s _ rfl
@[simp] theorem insVC_iff (l : List Vl) (i : Int) : insVC l i = true ↔ 0 <= i /\ i < l.length := by simp [insVC]
@[simp] theorem insSC_iff (l : List (List UInt8)) (i : Int) : insSC l i = true ↔ 0 <= i /\ i < l.length := by simp [insSC]
@[simp] theorem insCC_iff (l : List Cd) (i : Int) : insCC l i = true ↔ 0 <= i /\ i < l.length := by simp [insCC]
def blocksC (j : Jd) (x : In) : Bool := (bif insCC j.l x.a then (bif (j.l.getD x.a.toNat default).blk then (bif (j.l.getD x.a.toNat default).outer == j.pos then (bif x.b == 0 then x.c == 0 else false) else false) else false) else false)
theorem blocksC_spec' (j : Jd) (x : In) (r : Bool) (hq : blocksC j x = r) : Spec Tryz.prog 223 [.ptr j.pv, .agg x.pv] (.sb r) := by
 unfold blocksC at hq
 refine Spec.startL (by kernel_rfl) Tryz.func223 rfl rfl fun w0 L hst => ?_
 refine M.cl (insCC_spec j.l x.a) ?_
 refine M.tq hq (fun h1 q2 => ?_) (fun h1 q2 => ?_)
 ·refine M.tqp [0 <= x.a /\ x.a < (↑j.l.length : Int)] ⟨(by first | rfl | omega | (constructor <;> omega) | assumption | (exact hb _ ‹_›) | trivial | (simp_all; done) | (simp_all; omega)), trivial⟩ q2 (fun h3 q4 => ?_) (fun h3 q4 => ?_)
  ·refine M.tqp [0 <= x.a /\ x.a < (↑j.l.length : Int)] ⟨(by first | rfl | omega | (constructor <;> omega) | assumption | (exact hb _ ‹_›) | trivial | (simp_all; done) | (simp_all; omega)), trivial⟩ q4 (fun h5 q6 => ?_) (fun h5 q6 => ?_)
   ·refine M.tq q6 (fun h7 q8 => ?_) (fun h7 q8 => ?_)
    ·exact M.rq q8
    ·exact M.rq q8
   ·exact M.rq q6
  ·exact M.rq q4
 ·exact M.rq q2
theorem blocksC_spec (j : Jd) (x : In) : Spec Tryz.prog 223 [.ptr j.pv, .agg x.pv] (.sb (blocksC j x)) := blocksC_spec' j x _ rfl
def leaveC (j : Jd) (x : In) : Bool := (bif plainC j x then j.c.blk else false)
theorem leaveC_spec' (j : Jd) (x : In) (r : Bool) (hq : leaveC j x = r) : Spec Tryz.prog 225 [.ptr j.pv, .agg x.pv] (.sb r) := by
 unfold leaveC at hq
 refine Spec.startL (by kernel_rfl) Tryz.func225 rfl rfl fun w0 L hst => ?_
 refine M.cl (plainC_spec j x) ?_
 refine M.tq hq (fun h1 q2 => ?_) (fun h1 q2 => ?_)
 ·exact M.rq q2
 ·exact M.rq q2
theorem leaveC_spec (j : Jd) (x : In) : Spec Tryz.prog 225 [.ptr j.pv, .agg x.pv] (.sb (leaveC j x)) := leaveC_spec' j x _ rfl
def sendsC (j : Jd) (x : In) : Bool := (bif insSC j.c.sels x.a then (bif decide (x.b >= 0) then carityP (j.c.sels.getD x.a.toNat []) == x.b else false) else false)
theorem sendsC_spec' (j : Jd) (x : In) (r : Bool) (hq : sendsC j x = r) : Spec Tryz.prog 217 [.ptr j.pv, .agg x.pv, .fn 23 []] (.sb r) := by
 unfold sendsC at hq
 refine Spec.startL (by kernel_rfl) Tryz.func217 rfl rfl fun w0 L hst => ?_
 refine M.cl (insSC_spec j.c.sels x.a) ?_
 refine M.tq hq (fun h1 q2 => ?_) (fun h1 q2 => ?_)
 ·refine M.tq q2 (fun h3 q4 => ?_) (fun h3 q4 => ?_)
  ·refine M.clp [0 <= x.a /\ x.a < (↑j.c.sels.length : Int)] ⟨(by first | rfl | omega | (constructor <;> omega) | assumption | (exact hb _ ‹_›) | trivial | (simp_all; done) | (simp_all; omega)), trivial⟩ (carity_spec (j.c.sels.getD x.a.toNat [])) ?_
   exact M.rq q4
  ·exact M.rq q4
 ·exact M.rq q2
theorem sendsC_spec (j : Jd) (x : In) : Spec Tryz.prog 217 [.ptr j.pv, .agg x.pv, .fn 23 []] (.sb (sendsC j x)) := sendsC_spec' j x _ rfl
def sendpC (j : Jd) (x : In) : Bool := (bif insSC j.c.sels x.a then (bif decide (x.b >= 0) then arofC (j.c.sels.getD x.a.toNat []) == x.b else false) else false)
theorem sendpC_spec' (j : Jd) (x : In) (r : Bool) (hq : sendpC j x = r) : Spec Tryz.prog 217 [.ptr j.pv, .agg x.pv, .fn 222 []] (.sb r) := by
 unfold sendpC at hq
 refine Spec.startL (by kernel_rfl) Tryz.func217 rfl rfl fun w0 L hst => ?_
 refine M.cl (insSC_spec j.c.sels x.a) ?_
 refine M.tq hq (fun h1 q2 => ?_) (fun h1 q2 => ?_)
 ·refine M.tq q2 (fun h3 q4 => ?_) (fun h3 q4 => ?_)
  ·refine M.clp [0 <= x.a /\ x.a < (↑j.c.sels.length : Int)] ⟨(by first | rfl | omega | (constructor <;> omega) | assumption | (exact hb _ ‹_›) | trivial | (simp_all; done) | (simp_all; omega)), trivial⟩ (arofC_spec (j.c.sels.getD x.a.toNat [])) ?_
   exact M.rq q4
  ·exact M.rq q4
 ·exact M.rq q2
theorem sendpC_spec (j : Jd) (x : In) : Spec Tryz.prog 217 [.ptr j.pv, .agg x.pv, .fn 222 []] (.sb (sendpC j x)) := sendpC_spec' j x _ rfl
def sendrC (j : Jd) (x : In) : Bool := (bif sendsC j x then x.c == 0 else false)
theorem sendrC_spec' (j : Jd) (x : In) (r : Bool) (hq : sendrC j x = r) : Spec Tryz.prog 216 [.ptr j.pv, .agg x.pv] (.sb r) := by
 unfold sendrC at hq
 refine Spec.startL (by kernel_rfl) Tryz.func216 rfl rfl fun w0 L hst => ?_
 refine M.cl (sendsC_spec j x) ?_
 refine M.tq hq (fun h1 q2 => ?_) (fun h1 q2 => ?_)
 ·exact M.rq q2
 ·exact M.rq q2
theorem sendrC_spec (j : Jd) (x : In) : Spec Tryz.prog 216 [.ptr j.pv, .agg x.pv] (.sb (sendrC j x)) := sendrC_spec' j x _ rfl
def imprC (j : Jd) (x : In) : Bool := (bif sendsC j x then x.c == 0 else false)
theorem imprC_spec' (j : Jd) (x : In) (r : Bool) (hq : imprC j x = r) : Spec Tryz.prog 218 [.ptr j.pv, .agg x.pv] (.sb r) := by
 unfold imprC at hq
 refine Spec.startL (by kernel_rfl) Tryz.func218 rfl rfl fun w0 L hst => ?_
 refine M.cl (sendsC_spec j x) ?_
 refine M.tq hq (fun h1 q2 => ?_) (fun h1 q2 => ?_)
 ·exact M.rq q2
 ·exact M.rq q2
theorem imprC_spec (j : Jd) (x : In) : Spec Tryz.prog 218 [.ptr j.pv, .agg x.pv] (.sb (imprC j x)) := imprC_spec' j x _ rfl
def primrC (j : Jd) (x : In) : Bool := (bif sendpC j x then (bif x.c == 0 then true else x.c == 1) else false)
theorem primrC_spec' (j : Jd) (x : In) (r : Bool) (hq : primrC j x = r) : Spec Tryz.prog 221 [.ptr j.pv, .agg x.pv] (.sb r) := by
 unfold primrC at hq
 refine Spec.startL (by kernel_rfl) Tryz.func221 rfl rfl fun w0 L hst => ?_
 refine M.cl (sendpC_spec j x) ?_
 refine M.tq hq (fun h1 q2 => ?_) (fun h1 q2 => ?_)
 ·refine M.tq q2 (fun h3 q4 => ?_) (fun h3 q4 => ?_)
  ·exact M.rq q4
  ·exact M.rq q4
 ·exact M.rq q2
theorem primrC_spec (j : Jd) (x : In) : Spec Tryz.prog 221 [.ptr j.pv, .agg x.pv] (.sb (primrC j x)) := primrC_spec' j x _ rfl
def sendtC (x : In) : Int := x.b + 1
theorem sendtC_spec' (x : In) (hb : -1000000000 <= x.b /\ x.b <= 1000000000) (r : Int) (hq : sendtC x = r) : Spec Tryz.prog 215 [.agg x.pv] (I r) := by
 unfold sendtC at hq
 refine Spec.startL (by kernel_rfl) Tryz.func215 rfl rfl fun w0 L hst => ?_
 exact M.rqp [In64 (x.b + 1)] ⟨(by first | rfl | omega | (constructor <;> omega) | assumption | (exact hb _ ‹_›) | trivial | (simp_all; done) | (simp_all; omega)), trivial⟩ hq
theorem sendtC_spec (x : In) (hb : -1000000000 <= x.b /\ x.b <= 1000000000) : Spec Tryz.prog 215 [.agg x.pv] (I (sendtC x)) := sendtC_spec' x hb _ rfl
def primtC (x : In) : Int := x.b + x.c + 1
theorem primtC_spec' (x : In) (hb : (-1000000000 <= x.b /\ x.b <= 1000000000) /\ (-1000000000 <= x.c /\ x.c <= 1000000000)) (r : Int) (hq : primtC x = r) : Spec Tryz.prog 220 [.agg x.pv] (I r) := by
 unfold primtC at hq
 refine Spec.startL (by kernel_rfl) Tryz.func220 rfl rfl fun w0 L hst => ?_
 exact M.rqp [In64 (x.b + x.c), In64 (x.b + x.c + 1)] ⟨(by first | rfl | omega | (constructor <;> omega) | assumption | (exact hb _ ‹_›) | trivial | (simp_all; done) | (simp_all; omega)), (by first | rfl | omega | (constructor <;> omega) | assumption | (exact hb _ ‹_›) | trivial | (simp_all; done) | (simp_all; omega)), trivial⟩ hq
theorem primtC_spec (x : In) (hb : (-1000000000 <= x.b /\ x.b <= 1000000000) /\ (-1000000000 <= x.c /\ x.c <= 1000000000)) : Spec Tryz.prog 220 [.agg x.pv] (I (primtC x)) := primtC_spec' x hb _ rfl
def resendsC (j : Jd) (x : In) : Bool := bif sendsC j x then (bif x.c == 0 then true else (bif insSC j.c.sels (x.c - 1) then carityP (j.c.sels.getD (x.c - 1).toNat default) == 0 else false)) else false
theorem resendsC_spec0 (j : Jd) (x : In) (hb : In64 (x.c - 1)) : Spec Tryz.prog 219 [.ptr j.pv, .agg x.pv] (.sb (resendsC j x)) := by
 refine Spec.startL (by kernel_rfl) Tryz.func219 rfl rfl fun w0 L hst => ?_
 refine M.cl (sendsC_spec j x) ?_
 refine M.tq (r := resendsC j x) rfl (fun h1 q1 => ?_) (fun h1 q1 => M.rq q1)
 refine M.tq q1 (fun h2 q2 => M.rq q2) (fun h2 q2 => ?_)
 refine M.clp [In64 (x.c - 1)] ⟨hb, trivial⟩ (insSC_spec j.c.sels (x.c - 1)) ?_
 refine M.tq q2 (fun h3 q3 => ?_) (fun h3 q3 => M.rq q3)
 have h3' := (insSC_iff _ _).1 h3
 refine M.clp [In64 (x.c - 1), 0 <= x.c - 1 /\ x.c - 1 < j.c.sels.length] ⟨hb, h3', trivial⟩ (carity_spec (j.c.sels.getD (x.c - 1).toNat default)) ?_
 exact M.rq q3
abbrev In.po (x : In) : List PV := [I x.op, I x.a, I x.b, .o (I x.c)]
theorem agg_po {L : List Nat} {W : World} {x : In} {u : Value} : R [] L W (.agg x.po) u ↔ R [] L W (.agg x.pv) u := by
 constructor
 ·intro h
  rw [R] at h ⊢
  obtain ⟨us, e, h1, h2⟩ := h
  obtain ⟨u0, us, rfl, q0, h2⟩ := h2.uncons
  obtain ⟨u1, us, rfl, q1, h2⟩ := h2.uncons
  obtain ⟨u2, us, rfl, q2, h2⟩ := h2.uncons
  obtain ⟨u3, us, rfl, q3, h2⟩ := h2.uncons
  rw [Rs] at h2
  subst h2
  rw [R] at q3
  exact ⟨_, e, h1, Rs.cons q0 (Rs.cons q1 (Rs.cons q2 (Rs.cons q3.2 Rs.nil)))⟩
 ·intro h
  rw [R] at h ⊢
  obtain ⟨us, e, h1, h2⟩ := h
  obtain ⟨u0, us, rfl, q0, h2⟩ := h2.uncons
  obtain ⟨u1, us, rfl, q1, h2⟩ := h2.uncons
  obtain ⟨u2, us, rfl, q2, h2⟩ := h2.uncons
  obtain ⟨u3, us, rfl, q3, h2⟩ := h2.uncons
  rw [Rs] at h2
  subst h2
  exact ⟨_, e, h1, Rs.cons q0 (Rs.cons q1 (Rs.cons q2 (Rs.cons (by rw [R]; exact ⟨h1 _ (by simp), q3⟩) Rs.nil)))⟩
theorem resendsC_spec (j : Jd) (x : In) (hc : In64 x.c) (hs : j.c.sels.length <= 1000000000) : Spec Tryz.prog 219 [.ptr j.pv, .agg x.pv] (.sb (resendsC j x)) := by
 by_cases hm : x.c = -9223372036854775808
 ·have hsend : Spec Tryz.prog 217 [.ptr j.pv, .agg x.po, .fn 23 []] (.sb (sendsC j x)) := (sendsC_spec j x).conv (fun L W vs h => by
   obtain ⟨u0, us, rfl, q0, h⟩ := h.uncons
   obtain ⟨u1, us, rfl, q1, h⟩ := h.uncons
   exact Rs.cons q0 (Rs.cons (agg_po.1 q1) h)) (fun _ _ _ h => h)
  have key : Spec Tryz.prog 219 [.ptr j.pv, .agg x.po] (.sb (resendsC j x)) := by
   refine Spec.startL (by kernel_rfl) Tryz.func219 rfl rfl fun w0 L hst => ?_
   refine M.cl hsend ?_
   refine M.tq (r := resendsC j x) rfl (fun h1 q1 => ?_) (fun h1 q1 => M.rq q1)
   refine M.tq q1 (fun h2 q2 => M.rq q2) (fun h2 q2 => ?_)
   refine M.cl (insSC_spec j.c.sels (IntKind.i64.wrap (x.c - 1))) ?_
   have hf : insSC j.c.sels (x.c - 1) = false := by
    rw [Bool.eq_false_iff]
    intro h
    have := (insSC_iff _ _).1 h
    omega
   rw [hf] at q2
   have hw : IntKind.i64.wrap (x.c - 1) = 9223372036854775807 := by rw [hm]; decide
   have hf2 : insSC j.c.sels (IntKind.i64.wrap (x.c - 1)) = false := by
    rw [hw, Bool.eq_false_iff]
    intro h
    have := (insSC_iff _ _).1 h
    omega
   refine M.n hf2 ?_
   exact M.rq q2
  exact key.conv (fun L W vs h => by
   obtain ⟨u0, us, rfl, q0, h⟩ := h.uncons
   obtain ⟨u1, us, rfl, q1, h⟩ := h.uncons
   exact Rs.cons q0 (Rs.cons (agg_po.2 q1) h)) (fun _ _ _ h => h)
 ·exact resendsC_spec0 j x ⟨by have := hc.1; omega, by have := hc.2; omega⟩
def depL (l : List Cd) : Nat -> Int -> Nat -> Nat
 | 0, _, n => n
 | f + 1, i, n => bif decide (i >= 0) then (bif decide (i < (l.length : Int)) then (bif (l.getD i.toNat default).blk then (bif decide ((n : Int) <= 20) then depL l f (l.getD i.toNat default).outer (n + 1) else n) else n) else n) else n
theorem depth_spec (l : List Cd) (i : Int) : Spec Tryz.prog 160 [row 9 Cd.pv l, I i] (I (depL l 22 i 0)) := by
 refine Spec.startL (by kernel_rfl) Tryz.func160 rfl rfl fun w0 L hst => ?_
 refine M.loop (ι := {q : Int × Nat // q.2 <= 21 /\ depL l (22 - q.2) q.1 q.2 = depL l 22 i 0}) (fun q => [(0, row 9 Cd.pv l), (1, I q.1.1), (5, I q.1.2)]) (fun _ => []) (fun q => 22 - q.1.2) ⟨(i, 0), by omega, rfl⟩ [] (by kernel_rfl) trivial (by kernel_rfl) (by kernel_rfl) fun ⟨(k, n), hn, hq⟩ ih => ?_
 simp only at hn hq
 rw [show 22 - n = (21 - n) + 1 by omega] at hq
 unfold depL at hq
 refine M.tq hq (fun h1 q1 => ?_) (fun h1 q1 => M.rq (enc := fun n : Nat => I n) q1)
 refine M.tq q1 (fun h2 q2 => ?_) (fun h2 q2 => M.rq (enc := fun n : Nat => I n) q2)
 have h1' := of_decide_eq_true h1
 have h2' := of_decide_eq_true h2
 refine M.tqp [0 <= k /\ k < (l.length : Int)] ⟨⟨h1', h2'⟩, trivial⟩ q2 (fun h3 q3 => ?_) (fun h3 q3 => M.rq (enc := fun n : Nat => I n) q3)
 refine M.tq q3 (fun h4 q4 => ?_) (fun h4 q4 => M.rq (enc := fun n : Nat => I n) q4)
 have h4' := of_decide_eq_true h4
 exact M.bk [In64 ((n : Int) + 1), 0 <= k /\ k < (l.length : Int)] (ih ⟨((l.getD k.toNat default).outer, n + 1), by simp only; omega, by rw [show 22 - (n + 1) = 21 - n by omega]; exact q4⟩ (by show 22 - (n + 1) < 22 - n; omega)) ⟨⟨by omega, by omega⟩, ⟨h1', h2'⟩, trivial⟩
theorem used_spec (x : In) : Spec Tryz.prog 167 [.agg x.pv] (.fn 226 [.ptr x.pv]) := by
 refine Spec.start (by kernel_rfl) Tryz.func167 rfl rfl fun w0 L => ?_
 exact M.ret (.fn 226 [.ptr x.pv]) (by kernel_rfl) rfl
def usedL (x : In) : List Int := bif x.op == 3 then [x.a] else (bif x.op == 4 then [x.a] else (bif x.op == 6 then [x.a] else (bif x.op == 5 then (bif decide (x.c > 0) then [x.a, x.c - 1] else [x.a]) else [])))
theorem used_iter (x : In) (hb : x.c <= 9223372036854775807) : Iter Tryz.prog 226 [.ptr x.pv] (usedL x).length (fun i => [I ((usedL x).getD i default)]) none := by
 generalize hq : usedL x = r
 unfold usedL at hq
 refine Iter.start (by kernel_rfl) Tryz.func226 rfl rfl fun l J X w0 L hY hJ => ?_
 refine M.tq hq (fun h1 q1 => ?_) (fun h1 q1 => ?_)
 ·subst q1
  exact M.yield (i := 0) [] hY (by simp) hJ (by kernel_rfl) trivial rfl (fun w1 L1 hJ1 => M.retJ (r := .tup []) [] hY hJ1 (by kernel_rfl) trivial) (fun w1 L1 hJ1 => M.retX (r := .tup []) [] hY hJ1 (by kernel_rfl) trivial)
 refine M.tq q1 (fun h2 q2 => ?_) (fun h2 q2 => ?_)
 ·subst q2
  exact M.yield (i := 0) [] hY (by simp) hJ (by kernel_rfl) trivial rfl (fun w1 L1 hJ1 => M.retJ (r := .tup []) [] hY hJ1 (by kernel_rfl) trivial) (fun w1 L1 hJ1 => M.retX (r := .tup []) [] hY hJ1 (by kernel_rfl) trivial)
 refine M.tq q2 (fun h3 q3 => ?_) (fun h3 q3 => ?_)
 ·subst q3
  exact M.yield (i := 0) [] hY (by simp) hJ (by kernel_rfl) trivial rfl (fun w1 L1 hJ1 => M.retJ (r := .tup []) [] hY hJ1 (by kernel_rfl) trivial) (fun w1 L1 hJ1 => M.retX (r := .tup []) [] hY hJ1 (by kernel_rfl) trivial)
 refine M.tq q3 (fun h4 q4 => ?_) (fun h4 q4 => ?_)
 ·cases hc : decide (x.c > 0) with
  | true =>
   rw [hc] at q4
   have hc' := of_decide_eq_true hc
   subst q4
   refine M.yield (i := 0) [] hY (by simp) hJ (by kernel_rfl) trivial rfl (fun w1 L1 hJ1 => ?_) (fun w1 L1 hJ1 => M.retX (r := .tup []) [] hY hJ1 (by kernel_rfl) trivial)
   refine M.ys hc ?_
   exact M.yield (i := 1) [In64 (x.c - 1)] hY (by simp) hJ1 (by kernel_rfl) ⟨⟨by omega, by omega⟩, trivial⟩ rfl (fun w1 L1 hJ1 => M.retJ (r := .tup []) [] hY hJ1 (by kernel_rfl) trivial) (fun w1 L1 hJ1 => M.retX (r := .tup []) [] hY hJ1 (by kernel_rfl) trivial)
  | false =>
   rw [hc] at q4
   subst q4
   refine M.yield (i := 0) [] hY (by simp) hJ (by kernel_rfl) trivial rfl (fun w1 L1 hJ1 => ?_) (fun w1 L1 hJ1 => M.retX (r := .tup []) [] hY hJ1 (by kernel_rfl) trivial)
   refine M.n hc ?_
   exact M.retJ (r := .tup []) [] hY hJ1 (by kernel_rfl) trivial
 ·subst q4
  exact M.retJ (r := .tup []) [] hY hJ (by kernel_rfl) trivial
def seenN (l : List (List UInt8)) : Nat -> Atom -> Option Bool
 | 0, _ => none
 | i + 1, x => if x = .s (l.getD (i : Int).toNat default) then some true else seenN l i x
theorem seenN_mem (l : List (List UInt8)) (x : List UInt8) : ∀ i, i <= l.length -> (seenN l i (.s x)).getD false = decide (x ∈ l.take i)
 | 0, _ => by simp [seenN]
 | i + 1, h => by
  have hg : l.getD (i : Int).toNat default = l[i] := by simp [List.getD_eq_getElem?_getD, show i < l.length by omega]
  unfold seenN
  rw [hg, List.take_succ_eq_append_getElem (by omega)]
  have key : (x ∈ l.take i ++ [l[i]]) = (x ∈ l.take i \/ x = l[i]) := by rw [List.mem_append, List.mem_singleton]
  simp only [key]
  by_cases e : x = l[i]
  ·subst e; rw [if_pos rfl]; simp only [or_true, decide_true, Option.getD_some]
  ·rw [if_neg (by simpa using e), seenN_mem l x i (by omega)]
   simp only [e, or_false]
theorem distS_spec (l : List (List UInt8)) (hb : l.length <= 1000000000) : Spec Tryz.prog 162 [row 1 (fun s => [S s]) l] (.sb (decide l.Nodup)) := by
 refine Spec.startL (by kernel_rfl) Tryz.func162 rfl rfl fun w0 L hst => ?_
 refine M.loop (ι := {i : Nat // i <= l.length /\ (l.take i).Nodup}) (fun i => [(3, .mr 0), (7, row 1 (fun s => [S s]) l), (8, I l.length), (9, I i.1)]) (fun i => [[.mp .str (.b (seenN l i.1))]]) (fun i => l.length - i.1) ⟨0, Nat.zero_le _, by simp⟩ [] (by kernel_rfl) trivial (by kernel_rfl) (by kernel_rfl) fun ⟨i, hi, hn⟩ ih => ?_
 refine M.ts (decide ((i : Int) < (l.length : Int))) (fun h1 => ?_) (fun h1 => ?_)
 ·have hlt : i < l.length := by simpa using h1
  have hg : l.getD (i : Int).toNat default = l[i] := by simp [List.getD_eq_getElem?_getD, hlt]
  have hs := seenN_mem l (l.getD (i : Int).toNat default) i hi
  have htk : l.take (i + 1) = l.take i ++ [l[i]] := List.take_succ_eq_append_getElem hlt
  refine M.testp [0 <= (i : Int) /\ (i : Int) < (l.length : Int)] ((seenN l i (.s (l.getD (i : Int).toNat default))).getD false) (by kernel_rfl) ⟨by omega, trivial⟩ (fun h2 => ?_) (fun h2 => ?_)
  ·refine M.ret (.sb false) (by kernel_rfl) ?_
   rw [hs, hg] at h2
   have hm : l[i] ∈ l.take i := of_decide_eq_true h2
   rw [decide_eq_false]
   intro hd
   have h3 := hd.sublist (List.take_sublist (i + 1) l)
   rw [htk, List.nodup_append] at h3
   exact h3.2.2 l[i] hm l[i] (by simp) rfl
  ·rw [hs, hg] at h2
   have hm : ¬ l[i] ∈ l.take i := of_decide_eq_false h2
   refine M.bk [In64 ((i : Int) + 1)] (ih ⟨i + 1, hlt, ?_⟩ (by show l.length - (i + 1) < l.length - i; omega)) ⟨⟨by omega, by omega⟩, trivial⟩
   rw [htk, List.nodup_append]
   exact ⟨hn, by simp, fun a ha b hb => by simp at hb; subst hb; intro e; subst e; exact hm ha⟩
 ·have : i = l.length := by have := of_decide_eq_false h1; omega
  subst this
  rw [List.take_length] at hn
  exact M.ret (.sb true) (by kernel_rfl) (by rw [decide_eq_true hn])
theorem repeat_spec (l : List UInt8) (c : Nat) (hc : c <= 1000) (hl : l.length <= 1000000) : Spec Tryz.prog 208 [S l, I c] (S (Lib.repeatL l c)) := by
 refine ⟨by kernel_rfl, fun L W vs hL hG hR => ?_⟩
 obtain ⟨u, us, rfl, h1, hR1⟩ := hR.uncons
 obtain ⟨u2, us, rfl, h2, hR2⟩ := hR1.uncons
 rw [Rs] at hR2
 rw [R] at h1 h2
 subst h1; subst h2; subst hR2
 have hm : l.length * c <= 1000000 * 1000 := Nat.mul_le_mul hl hc
 refine (Tryz.strings_Repeat ⟨l.toArray⟩ c W (by omega) (by show l.length * c <= _; omega)).mono fun e w' ⟨he, hw⟩ => ?_
 exact ⟨_, he, by rw [R], hw⟩
def bnL (n : Int) : List UInt8 × Int := bif decide (n < 0) then ([], 1) else (bif decide (n > 8) then ([], 1) else (bif n == 0 then ([118, 97, 108, 117, 101], 0) else ([118, 97, 108, 117, 101, 58] ++ Lib.repeatL [87, 105, 116, 104, 58] (n - 1).toNat, 0)))
theorem blockName_spec (n : Int) : Spec Tryz.prog 159 [I n] (.tup [S (bnL n).1, I (bnL n).2]) := by
 refine Spec.startL (by kernel_rfl) Tryz.func159 rfl rfl fun w0 L hst => ?_
 refine M.tq (r := bnL n) rfl (fun h1 q1 => ?_) (fun h1 q1 => ?_)
 ·exact M.rq (enc := fun p : List UInt8 × Int => .tup [S p.1, I p.2]) q1
 refine M.tq q1 (fun h2 q2 => ?_) (fun h2 q2 => ?_)
 ·exact M.rq (enc := fun p : List UInt8 × Int => .tup [S p.1, I p.2]) q2
 refine M.tq q2 (fun h3 q3 => ?_) (fun h3 q3 => ?_)
 ·exact M.rq (enc := fun p : List UInt8 × Int => .tup [S p.1, I p.2]) q3
 have h1' := of_decide_eq_false h1
 have h2' := of_decide_eq_false h2
 have h3' : ¬ n = 0 := by simpa using h3
 obtain ⟨k, hk⟩ := Int.eq_ofNat_of_zero_le (show 0 <= n - 1 by omega)
 have hr := repeat_spec [87, 105, 116, 104, 58] k (by omega) (by decide)
 have e : (n - 1).toNat = k := by omega
 rw [<- hk] at hr
 rw [e] at q3
 have hlen : (Lib.repeatL [87, 105, 116, 104, 58] k).length <= 1000 := by rw [Lib.repeatL_length]; simp only [List.length_cons, List.length_nil]; omega
 refine M.clp [In64 (n - 1)] ⟨⟨by omega, by omega⟩, trivial⟩ hr ?_
 exact M.rqp (enc := fun p : List UInt8 × Int => .tup [S p.1, I p.2]) [(([118, 97, 108, 117, 101, 58].length + (Lib.repeatL [87, 105, 116, 104, 58] k).length : Nat) : Int) <= 9223372036854775807] ⟨by simp only [List.length_cons, List.length_nil]; omega, trivial⟩ q3
end Go.Proofs.YtplpnfjccemdnaaGreatDoor
namespace Go.Proofs.YtplpnfjccemdnaaGreatDoor
open Go.RowKit Go.Sort
theorem gl_tab {L : List Nat} {W : World} (h : Gl L W) : Lib.TabIs Tryz.prog W "internal/strconv.uint64pow10" .u64 Lib.pow10Tab := by
 obtain ⟨t, fr, hh⟩ := h.pow
 have e : Tryz.prog.globalNamed "internal/strconv.uint64pow10" = some gPow := by kernel_rfl
 unfold Lib.TabIs World.var?
 rw [e]
 simp only [Option.bind_some, hh]
theorem below_grow (w : World) (q : Nat) (os : Array Obj) : Below w.heap.size w (grow (w.drewN q) os) := by
 refine ⟨rfl, rfl, rfl, ?_, fun k hk => ?_⟩
 ·show w.heap.size <= (w.heap ++ os).size
  simp
 ·show (w.heap ++ os)[k]? = w.heap[k]?
  rw [Array.getElem?_append, if_pos hk]
theorem trimPrefix_spec (l p : List UInt8) : Spec Tryz.prog 236 [S l, S p] (S (Lib.trimPrefix l p)) := by
 refine ⟨by kernel_rfl, fun L W vs hL hG hR => ?_⟩
 obtain ⟨u, us, rfl, h1, hR1⟩ := hR.uncons
 obtain ⟨u2, us, rfl, h2, hR2⟩ := hR1.uncons
 rw [Rs] at hR2
 rw [R] at h1 h2
 subst h1; subst h2; subst hR2
 refine (Tryz.strings_TrimPrefix ⟨l.toArray⟩ ⟨p.toArray⟩ W).mono fun e w' ⟨he, hw⟩ => ?_
 subst hw
 exact ⟨_, he, by rw [R], Below.refl _ _⟩
end Go.Proofs.YtplpnfjccemdnaaGreatDoor
