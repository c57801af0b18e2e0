import Derived.Test.YtcknpohghmkbmaaGreatDoorK12
import Derived.RecoverIn
set_option linter.unusedVariables false
set_option linter.unusedSimpArgs false
/- The texts P1 P2 P3 P4 Q0 P5 V23 V24 of the proof, laid one behind the other. -/
namespace Go.Proofs.YtcknpohghmkbmaaGreatDoor
open Go.RowKit
def vlEq (a b : Vl) : Bool := a.k == b.k && (a.n == b.n && (a.t == b.t && true))
theorem vlEq_iff {a b : Vl} : vlEq a b = true ↔ a = b := by
 obtain ⟨k, n, t⟩ := a; obtain ⟨k', n', t'⟩ := b
 simp [vlEq]
def slEq (a b : Sl) : Bool := a.nm == b.nm && (a.kd == b.kd && (vlEq a.v b.v && true))
theorem slEq_iff {a b : Sl} : slEq a b = true ↔ a = b := by
 obtain ⟨nm, kd, v⟩ := a; obtain ⟨nm', kd', v'⟩ := b
 simp [slEq, vlEq_iff]
abbrev kTy (k : Int) : Ty := ⟨k, 0, ⟨0, 0, []⟩⟩
def assignB (s : Sl) : Bool := s.kd == 2 || s.kd == 4
theorem assignable_spec (s : Sl) : Spec Tryz.prog 69 [.agg s.pv] (.sb (assignB s)) := by
 refine Spec.start (by kernel_rfl) Tryz.func69 rfl rfl fun w0 L => ?_
 refine M.test (s.kd == 2) (by kernel_rfl) (fun h1 => M.retb true (by kernel_rfl) (by simp [assignB, h1])) (fun h1 => ?_)
 exact M.retb (s.kd == 4) (by kernel_rfl) (by simp [assignB, h1])
def startF (v : Vl) : Int := if v.k = 4 then v.n else if v.k = 3 then 6 else 5
theorem start_spec (v : Vl) : Spec Tryz.prog 54 [.agg v.pv] (I (startF v)) := by
 refine Spec.start (by kernel_rfl) Tryz.func54 rfl rfl fun w0 L => ?_
 refine M.test (v.k == 4) (by kernel_rfl) (fun h1 => M.ret (I v.n) (by kernel_rfl) (by simp at h1; simp [startF, h1])) (fun h1 => ?_)
 refine M.test (v.k == 3) (by kernel_rfl) (fun h2 => M.ret (I 6) (by kernel_rfl) (by simp at h2; simp [startF, h2])) (fun h2 => ?_)
 exact M.ret (I 5) (by kernel_rfl) (by simp at h1 h2; simp [startF, h1, h2])
def eqFrom {α : Type} (e : α -> α -> Bool) : List α -> List α -> Bool
 | [], [] => true
 | x :: l, y :: m => e x y && eqFrom e l m
 | _, _ => false
theorem eqFrom_iff {α : Type} {e : α -> α -> Bool} (he : ∀ {a b}, e a b = true ↔ a = b) : ∀ {l m : List α}, eqFrom e l m = true ↔ l = m
 | [], [] => by simp [eqFrom]
 | [], y :: m => by simp [eqFrom]
 | x :: l, [] => by simp [eqFrom]
 | x :: l, y :: m => by simp [eqFrom, he, eqFrom_iff he]
theorem eqFrom_len {α : Type} {e : α -> α -> Bool} : ∀ {l m : List α}, l.length ≠ m.length -> eqFrom e l m = false
 | [], [], h => absurd rfl h
 | [], y :: m, _ => rfl
 | x :: l, [], _ => rfl
 | x :: l, y :: m, h => by simp only [eqFrom, eqFrom_len (fun e => h (by simpa using e)), Bool.and_false]
theorem equal_Slot (l m : List Sl) : Spec Tryz.prog 129 [row 5 Sl.pv l, row 5 Sl.pv m] (.sb (eqFrom slEq l m)) := by
 refine Spec.fact (by kernel_rfl) 0 rfl fun hf => ?_
 have hl : l.length <= 9223372036854775807 := hf.1
 refine Spec.startL (by kernel_rfl) Tryz.func129 rfl rfl fun w0 L hst => ?_
 refine M.test ((l.length : Int) != (m.length : Int)) (by kernel_rfl) (fun h0 => M.retb false (by kernel_rfl) (eqFrom_len (by simp at h0; omega)).symm) (fun h0 => ?_)
 have hlm : l.length = m.length := by simp at h0; omega
 refine M.loop (ι := {i : Nat // i <= l.length /\ eqFrom slEq l m = eqFrom slEq (l.drop i) (m.drop i)}) (fun i => [(0, row 5 Sl.pv l), (1, row 5 Sl.pv m), (12, I l.length), (13, I i.1)]) (fun _ => []) (fun i => l.length - i.1) ⟨0, Nat.zero_le _, rfl⟩ [] (by kernel_rfl) trivial (by kernel_rfl) (by kernel_rfl) fun ⟨i, hi, hq⟩ ih => ?_
 refine M.test (decide ((i : Int) < (l.length : Int))) (by kernel_rfl) (fun h1 => ?_) (fun h1 => ?_)
 ·have hlt : i < l.length := by simpa using h1
  have hlt' : i < m.length := by omega
  rw [List.drop_eq_getElem_cons hlt, List.drop_eq_getElem_cons hlt', eqFrom] at hq
  refine M.testp [0 <= (i : Int) /\ (i : Int) < (l.length : Int), 0 <= (i : Int) /\ (i : Int) < (m.length : Int)] (!slEq (l.getD (i : Int).toNat default) (m.getD (i : Int).toNat default)) (by kernel_rfl) ⟨by omega, by omega, trivial⟩ (fun h2 => ?_) (fun h2 => ?_)
  ·rw [getD_nat hlt, getD_nat hlt'] at h2
   simp only [Bool.not_eq_true'] at h2
   exact M.retb false (by kernel_rfl) (by rw [hq, h2]; rfl)
  ·rw [getD_nat hlt, getD_nat hlt'] at h2
   simp only [Bool.not_eq_false'] at h2
   exact M.back [In64 ((i : Int) + 1)] (ih ⟨i + 1, hlt, by rw [hq, h2]; rfl⟩ (by show l.length - (i + 1) < l.length - i; omega)) (by kernel_rfl) ⟨⟨by omega, by omega⟩, trivial⟩ (by kernel_rfl) (by kernel_rfl) (by kernel_rfl) (by kernel_rfl)
 ·have hd : l.drop i = [] := List.drop_eq_nil_of_le (by have := of_decide_eq_false h1; omega)
  have hd' : m.drop i = [] := List.drop_eq_nil_of_le (by have := of_decide_eq_false h1; omega)
  rw [hd, hd'] at hq
  exact M.retb true (by kernel_rfl) (by rw [hq]; rfl)
theorem same_Slot (l m : List Sl) : Spec Tryz.prog 68 [row 5 Sl.pv l, row 5 Sl.pv m] (.sb (eqFrom slEq l m)) := by
 refine Spec.start (by kernel_rfl) Tryz.func68 rfl rfl fun w0 L => ?_
 exact M.call (equal_Slot l m) (by kernel_rfl) (by kernel_rfl) (M.retb (eqFrom slEq l m) (by kernel_rfl) rfl)
def mpEq (a b : Mp) : Bool := a.kd == b.kd && eqFrom slEq a.sl b.sl
theorem sameMap_spec (a b : Mp) : Spec Tryz.prog 38 [.agg a.pv, .agg b.pv] (.sb (mpEq a b)) := by
 refine Spec.start (by kernel_rfl) Tryz.func38 rfl rfl fun w0 L => ?_
 refine M.test (a.kd == b.kd) (by kernel_rfl) (fun h1 => ?_) (fun h1 => M.retb false (by kernel_rfl) (by simp [mpEq, h1]))
 exact M.call (same_Slot a.sl b.sl) (by kernel_rfl) (by kernel_rfl) (M.retb (eqFrom slEq a.sl b.sl) (by kernel_rfl) (by simp [mpEq, h1]))
def mslot (s : Sl) : Sl := if assignB s then ⟨s.nm, s.kd, ⟨0, 0, []⟩⟩ else s
def mapOfF (o : Ob) : Mp := ⟨o.kd, o.sl.map mslot⟩
abbrev mrow (o : Ob) (i : Nat) : List PV := [.rws 5 i (fun j => Sl.pv (mslot (o.sl.getD j default)))]
theorem mapOf_spec (o : Ob) (hb : o.sl.length <= 1000000) : Spec Tryz.prog 39 [.agg o.pv] (.agg (mapOfF o).pv) := by
 refine Spec.startL (by kernel_rfl) Tryz.func39 rfl rfl fun w0 L hst => ?_
 refine M.nilC [] 30 5 (fun j => Sl.pv (mslot (o.sl.getD j default))) 2 1 (by kernel_rfl) trivial (by kernel_rfl) (by kernel_rfl) ?_
 refine M.loopL (ι := {i : Nat // i <= o.sl.length}) (fun i => [(2, .ref 1 0), (3, .ref 2 0), (10, row 5 Sl.pv o.sl), (11, I o.sl.length), (12, I i.1)])
  (fun i => [o.pv, [I 0, .v (.slice none 0 0)], [I o.kd, .os 30 3 5 i.1], mrow o i.1]) (fun i => o.sl.length - i.1) ⟨0, Nat.zero_le _⟩ [] (by kernel_rfl) trivial (by kernel_rfl) (by kernel_rfl) fun ⟨i, hi⟩ L ih => ?_
 refine M.test (decide ((i : Int) < (o.sl.length : Int))) (by kernel_rfl) (fun h1 => ?_) (fun h1 => ?_)
 ·have hlt : i < o.sl.length := by simpa using h1
  refine M.callp [0 <= (i : Int) /\ (i : Int) < (o.sl.length : Int)] (assignable_spec (o.sl.getD (i : Int).toNat default)) (by kernel_rfl) ⟨by omega, trivial⟩ (by kernel_rfl) ?_
  refine M.test (assignB (o.sl.getD (i : Int).toNat default)) (by kernel_rfl) (fun h2 => ?_) (fun h2 => ?_)
  ·have h2' : assignB (o.sl.getD i default) = true := h2
   refine M.ren [i = i /\ 0 < 1 /\ i + 1 <= 9223372036854775807 /\ (i + 1) * 56 <= 140737488355328, In64 ((i : Int) + 1)] [0, 1, 2, 5] hst (by kernel_rfl) ⟨by omega, ⟨by omega, by omega⟩, trivial⟩ (by kernel_rfl) (by kernel_rfl) rfl fun L' => ?_
   refine M.sig [] [o.pv, [I 0, .v (.slice none 0 0)], [I o.kd, .os 30 3 5 (i + 1)], [.rws 5 (i + 1) (fun j => (joinEl (fun j => Sl.pv (mslot (o.sl.getD j default))) i (fun j => (([S (o.sl.getD (i : Int).toNat default).nm, I (o.sl.getD (i : Int).toNat default).kd, I 0, I 0, S []]).drop (j * 5)).take 5) j).map (renP (invF [0, 1, 2, 5] 0) 7))]]
    [o.pv, [I 0, .v (.slice none 0 0)], [I o.kd, .os 30 3 5 (i + 1)], mrow o (i + 1)] (by kernel_rfl) trivial (by kernel_rfl) (by kernel_rfl)
    (.cons (.refl _) (.cons (.refl _) (.cons (.refl _) (.cons (app_cells rfl (by simp only [mslot, h2', if_true]; rfl) fun j => rfl) .nil)))) ?_
   exact M.back [] (ih ⟨i + 1, hlt⟩ L' (by show o.sl.length - (i + 1) < o.sl.length - i; omega)) (by kernel_rfl) trivial (by kernel_rfl) (by kernel_rfl) (by kernel_rfl) (by kernel_rfl)
  ·have h2' : assignB (o.sl.getD i default) = false := h2
   refine M.ren [i = i /\ 0 < 1 /\ i + 1 <= 9223372036854775807 /\ (i + 1) * 56 <= 140737488355328, In64 ((i : Int) + 1)] [0, 1, 2, 5] hst (by kernel_rfl) ⟨by omega, ⟨by omega, by omega⟩, trivial⟩ (by kernel_rfl) (by kernel_rfl) rfl fun L' => ?_
   refine M.sig [] [o.pv, [I 0, .v (.slice none 0 0)], [I o.kd, .os 30 3 5 (i + 1)], [.rws 5 (i + 1) (fun j => (joinEl (fun j => Sl.pv (mslot (o.sl.getD j default))) i (fun j => ((Sl.pv (o.sl.getD (i : Int).toNat default)).drop (j * 5)).take 5) j).map (renP (invF [0, 1, 2, 5] 0) 7))]]
    [o.pv, [I 0, .v (.slice none 0 0)], [I o.kd, .os 30 3 5 (i + 1)], mrow o (i + 1)] (by kernel_rfl) trivial (by kernel_rfl) (by kernel_rfl)
    (.cons (.refl _) (.cons (.refl _) (.cons (.refl _) (.cons (app_cells rfl (by simp only [mslot, h2', Bool.false_eq_true, if_false]; rfl) fun j => rfl) .nil)))) ?_
   exact M.back [] (ih ⟨i + 1, hlt⟩ L' (by show o.sl.length - (i + 1) < o.sl.length - i; omega)) (by kernel_rfl) trivial (by kernel_rfl) (by kernel_rfl) (by kernel_rfl) (by kernel_rfl)
 ·have : i = o.sl.length := by have := of_decide_eq_false h1; omega
  subst this
  refine M.retw [o.sl.length <= o.sl.length] (.agg [I o.kd, .sl 5 o.sl.length (fun j => Sl.pv (mslot (o.sl.getD j default)))]) (by kernel_rfl) ⟨Nat.le_refl _, trivial⟩ fun L W u h => agg_to (qs := [I o.kd, row 5 Sl.pv (o.sl.map mslot)]) (.cons (fun u h => h) (.cons (fun u h => sl_eq (by simp) (fun j hj => ?_) h) .nil)) h
  simp [List.getD_eq_getElem?_getD, hj]
theorem isNaN_spec (x : Int) : Spec Tryz.prog 128 [I x] (.sb false) := by
 refine Spec.start (by kernel_rfl) Tryz.func128 rfl rfl fun w0 L => ?_
 exact M.retb (x != x) (by kernel_rfl) (by simp)
def cmpF (x y : Int) : Int := if x < y then -1 else if x > y then 1 else 0
theorem compare_spec (x y : Int) : Spec Tryz.prog 67 [I x, I y] (I (cmpF x y)) := by
 refine Spec.start (by kernel_rfl) Tryz.func67 rfl rfl fun w0 L => ?_
 refine M.call (isNaN_spec x) (by kernel_rfl) (by kernel_rfl) ?_
 refine M.call (isNaN_spec y) (by kernel_rfl) (by kernel_rfl) ?_
 refine M.no (b := false) rfl (by kernel_rfl) ?_
 refine M.no (b := false) rfl (by kernel_rfl) ?_
 refine M.test (decide (x < y)) (by kernel_rfl) (fun h1 => M.ret (I (-1)) (by kernel_rfl) (by simp at h1; simp [cmpF, h1])) (fun h1 => ?_)
 refine M.test (decide (x > y)) (by kernel_rfl) (fun h2 => M.ret (I 1) (by kernel_rfl) (by simp at h1 h2; simp [cmpF, h2]; omega)) (fun h2 => ?_)
 exact M.ret (I 0) (by kernel_rfl) (by simp at h1 h2; unfold cmpF; rw [if_neg (by omega), if_neg (by omega)])
def half (i j : Int) : Int := IntKind.i64.wrap ((IntKind.u64.wrap (i + j)).fdiv (2 ^ (min (1 : Int).toNat IntKind.u64.bits)))
theorem half_eq {i j : Int} (h0 : 0 <= i + j) (h1 : i + j <= 9223372036854775807) : half i j = (i + j) / 2 := by
 unfold half
 have e1 : IntKind.u64.wrap (i + j) = i + j := IntWalk.u64_in _ ⟨h0, by omega⟩
 rw [e1]
 have e2 : (i + j).fdiv (2 ^ (min (1 : Int).toNat IntKind.u64.bits)) = (i + j) / 2 := by
  show (i + j).fdiv 2 = (i + j) / 2
  rw [Int.fdiv_eq_ediv_of_nonneg _ (by decide)]
 rw [e2]
 exact IntWalk.i64_in _ ⟨by omega, by omega⟩
theorem half_at {i j : Int} (h0 : 0 <= i) (h : i < j) (h1 : j <= 1000000000) : i <= half i j /\ half i j < j := by
 rw [half_eq (by omega) (by omega)]; omega
def bsch (c : Int -> Int) : Nat -> Int -> Int -> Int
 | 0, i, _ => i
 | n + 1, i, j => if i < j then (if c (half i j) < 0 then bsch c n (half i j + 1) j else bsch c n i (half i j)) else i
theorem bsch_end (c : Int -> Int) {i j : Int} (h : ¬ i < j) : ∀ n, bsch c n i j = i
 | 0 => rfl
 | n + 1 => by unfold bsch; rw [if_neg h]
def bsR (l : List Ob) (cf : Ob -> Int) : Int := bsch (fun h => cf (l.getD h.toNat default)) l.length 0 l.length
theorem bsearch_Obj (l : List Ob) (target : Int) (g : Nat) (cf : Ob -> Int) (hb : l.length <= 1000000000) (hg : ∀ x ∈ l, Spec Tryz.prog g [.agg x.pv, I target] (I (cf x))) :
  Spec Tryz.prog 65 [row 6 Ob.pv l, I target, .fn g []] (.tup [I (bsR l cf), .sb (decide (bsR l cf < l.length) && cf (l.getD (bsR l cf).toNat default) == 0)]) := by
 have hg' : ∀ h : Int, 0 <= h -> h < l.length -> Spec Tryz.prog g [.agg (l.getD h.toNat default).pv, I target] (I (cf (l.getD h.toNat default))) := fun h h0 h1 => by
  have hlt : h.toNat < l.length := by omega
  have := hg _ (List.getElem_mem hlt)
  rwa [show l[h.toNat] = l.getD h.toNat default by simp [List.getD_eq_getElem?_getD, hlt]] at this
 refine Spec.start (by kernel_rfl) Tryz.func65 rfl rfl fun w0 L => ?_
 refine M.loop (ι := {q : Int × Int × Nat // 0 <= q.1 /\ q.1 <= q.2.1 /\ q.2.1 <= l.length /\ (q.2.1 - q.1).toNat <= q.2.2 /\ bsR l cf = bsch (fun h => cf (l.getD h.toNat default)) q.2.2 q.1 q.2.1})
  (fun q => [(0, row 6 Ob.pv l), (1, I target), (2, .fn g []), (8, I l.length), (9, I q.1.1), (10, I q.1.2.1)]) (fun _ => []) (fun q => q.1.2.2) ⟨(0, l.length, l.length), by simp only; omega, by simp only; omega, by simp only; omega, by simp only; omega, rfl⟩ [] (by kernel_rfl) trivial (by kernel_rfl) (by kernel_rfl) fun ⟨(i, j, n), hi, hij, hj, hn, hq⟩ ih => ?_
 simp only at hi hij hj hn hq
 refine M.test (decide (i < j)) (by kernel_rfl) (fun h1 => ?_) (fun h1 => ?_)
 ·have h1 := of_decide_eq_true h1
  obtain ⟨ha, hc⟩ := half_at hi h1 (by omega)
  obtain ⟨n, rfl⟩ : ∃ m, n = m + 1 := ⟨n - 1, by omega⟩
  unfold bsch at hq
  rw [if_pos h1] at hq
  refine M.callp [In64 (i + j), (0 : Int) <= 1, 0 <= half i j /\ half i j < l.length] (hg' (half i j) (by omega) (by omega)) (by kernel_rfl) ⟨⟨by omega, by omega⟩, by decide, by omega, trivial⟩ (by kernel_rfl) ?_
  refine M.test (decide (cf (l.getD (half i j).toNat default) < 0)) (by kernel_rfl) (fun h2 => ?_) (fun h2 => ?_)
  ·rw [if_pos (of_decide_eq_true h2)] at hq
   exact M.back [In64 (half i j + 1)] (ih ⟨(half i j + 1, j, n), by simp only; omega, by simp only; omega, hj, by simp only; omega, hq⟩ (Nat.lt_succ_self n)) (by kernel_rfl) ⟨⟨by omega, by omega⟩, trivial⟩ (by kernel_rfl) (by kernel_rfl) (by kernel_rfl) (by kernel_rfl)
  ·rw [if_neg (of_decide_eq_false h2)] at hq
   exact M.back [] (ih ⟨(i, half i j, n), hi, ha, by simp only; omega, by simp only; omega, hq⟩ (Nat.lt_succ_self n)) (by kernel_rfl) trivial (by kernel_rfl) (by kernel_rfl) (by kernel_rfl) (by kernel_rfl)
 ·have h1 := of_decide_eq_false h1
  rw [bsch_end _ h1] at hq
  refine M.test (decide (i < (l.length : Int))) (by kernel_rfl) (fun h2 => ?_) (fun h2 => ?_)
  ·have h3 := of_decide_eq_true h2
   refine M.callp [0 <= i /\ i < (l.length : Int)] (hg' i hi h3) (by kernel_rfl) ⟨⟨hi, h3⟩, trivial⟩ (by kernel_rfl) ?_
   exact M.ret (.tup [I i, .sb (cf (l.getD i.toNat default) == 0)]) (by kernel_rfl) (by rw [hq, h2, Bool.true_and])
  ·exact M.ret (.tup [I i, .sb false]) (by kernel_rfl) (by rw [hq, h2, Bool.false_and])
structure Fo where
 holder : Int
 slot : Int
 set : Bool
 deriving DecidableEq, Inhabited
abbrev Fo.pv (x : Fo) : List PV := [I x.holder, I x.slot, .sb x.set]
def countF (v : Vl) : Bool := (bif v.k == 1 then (bif v.t == [] then (bif decide (v.n >= 0) then decide (v.n <= 1099511627776) else false) else false) else false)
theorem count_spec' (v : Vl) (r : Bool) (hq : countF v = r) : Spec Tryz.prog 188 [.agg v.pv] (.sb r) := by
 unfold countF at hq
 refine Spec.startL (by kernel_rfl) Tryz.func188 rfl rfl fun w0 L hst => ?_
 refine M.tq hq (fun h1 q2 => ?_) (fun h1 q2 => ?_)
 ·refine M.tq q2 (fun h3 q4 => ?_) (fun h3 q4 => ?_)
  ·refine M.tq q4 (fun h5 q6 => ?_) (fun h5 q6 => ?_)
   ·exact M.rq q6
   ·exact M.rq q6
  ·exact M.rq q4
 ·exact M.rq q2
theorem count_spec (v : Vl) : Spec Tryz.prog 188 [.agg v.pv] (.sb (countF v)) := count_spec' v _ rfl
def plainObF (o : Ob) : Bool := (bif o.code == 0 then o.up == 0 else false)
theorem plainOb_spec' (o : Ob) (r : Bool) (hq : plainObF o = r) : Spec Tryz.prog 183 [.agg o.pv] (.sb r) := by
 unfold plainObF at hq
 refine Spec.startL (by kernel_rfl) Tryz.func183 rfl rfl fun w0 L hst => ?_
 refine M.tq hq (fun h1 q2 => ?_) (fun h1 q2 => ?_)
 ·exact M.rq q2
 ·exact M.rq q2
theorem plainOb_spec (o : Ob) : Spec Tryz.prog 183 [.agg o.pv] (.sb (plainObF o)) := plainOb_spec' o _ rfl
def refF (n : Int) : Vl := Vl.mk 4 n []
theorem ref_spec' (n : Int) (r : Vl) (hq : refF n = r) : Spec Tryz.prog 46 [I n] (.agg r.pv) := by
 unfold refF at hq
 refine Spec.startL (by kernel_rfl) Tryz.func46 rfl rfl fun w0 L hst => ?_
 exact M.rq (enc := fun r : Vl => .agg r.pv) hq
theorem ref_spec (n : Int) : Spec Tryz.prog 46 [I n] (.agg (refF n).pv) := ref_spec' n _ rfl
def ofF (s : Sl) (x : Fo) : Tg := (bif x.set then Tg.mk 5 x.holder x.slot false 0 (Vl.mk 0 0 []) else (bif s.v.k == 5 then Tg.mk 6 x.holder x.slot false s.v.n (Vl.mk 0 0 []) else (bif assignB s then Tg.mk 4 x.holder x.slot false 0 (Vl.mk 0 0 []) else Tg.mk 3 x.holder x.slot false 0 s.v)))
theorem of_spec' (s : Sl) (x : Fo) (r : Tg) (hq : ofF s x = r) : Spec Tryz.prog 84 [.agg s.pv, .agg x.pv] (.agg r.pv) := by
 unfold ofF at hq
 refine Spec.startL (by kernel_rfl) Tryz.func84 rfl rfl fun w0 L hst => ?_
 refine M.tq hq (fun h1 q2 => ?_) (fun h1 q2 => ?_)
 ·exact M.rq (enc := fun r : Tg => .agg r.pv) q2
 ·refine M.tq q2 (fun h3 q4 => ?_) (fun h3 q4 => ?_)
  ·exact M.rq (enc := fun r : Tg => .agg r.pv) q4
  ·refine M.cl (assignable_spec s) ?_
   refine M.tq q4 (fun h5 q6 => ?_) (fun h5 q6 => ?_)
   ·exact M.rq (enc := fun r : Tg => .agg r.pv) q6
   ·exact M.rq (enc := fun r : Tg => .agg r.pv) q6
theorem of_spec (s : Sl) (x : Fo) : Spec Tryz.prog 84 [.agg s.pv, .agg x.pv] (.agg (ofF s x).pv) := of_spec' s x _ rfl
def haObF (o : Ob) (n : Int) : Int := cmpF o.oid n
theorem haOb_spec' (o : Ob) (n : Int) (r : Int) (hq : haObF o n = r) : Spec Tryz.prog 66 [.agg o.pv, I n] (I r) := by
 unfold haObF at hq
 refine Spec.startL (by kernel_rfl) Tryz.func66 rfl rfl fun w0 L hst => ?_
 refine M.cl (compare_spec o.oid n) ?_
 exact M.rq hq
theorem haOb_spec (o : Ob) (n : Int) : Spec Tryz.prog 66 [.agg o.pv, I n] (I (haObF o n)) := haOb_spec' o n _ rfl
def matchA (s : Sl) (sel : List UInt8) : Bool := s.nm == sel
theorem matchA_spec' (s : Sl) (sel : List UInt8) (r : Bool) (hq : matchA s sel = r) : Spec Tryz.prog 145 [.agg s.pv, .ptr [S sel]] (.sb r) := by
 unfold matchA at hq
 refine Spec.startL (by kernel_rfl) Tryz.func145 rfl rfl fun w0 L hst => ?_
 exact M.rq hq
theorem matchA_spec (s : Sl) (sel : List UInt8) : Spec Tryz.prog 145 [.agg s.pv, .ptr [S sel]] (.sb (matchA s sel)) := matchA_spec' s sel _ rfl
def matchB (s : Sl) (sel : List UInt8) : Bool := (bif assignB s then s.nm ++ [58] == sel else false)
theorem matchB_spec' (s : Sl) (sel : List UInt8) (hb : s.nm.length <= 140737488355328) (r : Bool) (hq : matchB s sel = r) : Spec Tryz.prog 146 [.agg s.pv, .ptr [S sel]] (.sb r) := by
 unfold matchB at hq
 refine Spec.startL (by kernel_rfl) Tryz.func146 rfl rfl fun w0 L hst => ?_
 refine M.cl (assignable_spec s) ?_
 refine M.tq hq (fun h1 q2 => ?_) (fun h1 q2 => ?_)
 ·exact M.rqp [(↑(s.nm.length + 1) : Int) <= 9223372036854775807] ⟨(by first | rfl | omega | (constructor <;> omega) | assumption | (exact hb _ ‹_›) | trivial | (simp_all; done) | (simp_all; omega) | (simp_all [In64]; omega)), trivial⟩ q2
 ·exact M.rq q2
theorem matchB_spec (s : Sl) (sel : List UInt8) (hb : s.nm.length <= 140737488355328) : Spec Tryz.prog 146 [.agg s.pv, .ptr [S sel]] (.sb (matchB s sel)) := matchB_spec' s sel hb _ rfl
def matchF (l : List Sl) (sel : List UInt8) : Int × Bool := (bif decide (fstI (fun x => matchA x sel) l >= 0) then (fstI (fun x => matchA x sel) l, false) else (fstI (fun x => matchB x sel) l, true))
theorem match_spec' (l : List Sl) (sel : List UInt8) (hb : ∀ s ∈ l, s.nm.length <= 140737488355328) (r : Int × Bool) (hq : matchF l sel = r) : Spec Tryz.prog 86 [row 5 Sl.pv l, S sel] (.tup [I r.1, .sb r.2]) := by
 unfold matchF at hq
 refine Spec.startL (by kernel_rfl) Tryz.func86 rfl rfl fun w0 L hst => ?_
 refine M.cl (idx_Slot_1' l 145 (PV.ptr [PV.v (Value.string (ByteArray.mk sel.toArray))]) (fun x => matchA x sel) ((by first | rfl | omega | (constructor <;> omega) | assumption | (exact hb _ ‹_›) | trivial | (simp_all; done) | (simp_all; omega) | (simp_all [In64]; omega))) (fun x hx1 => matchA_spec x sel)) ?_
 refine M.tq hq (fun h1 q2 => ?_) (fun h1 q2 => ?_)
 ·exact M.rq (enc := fun r : Int × Bool => .tup [I r.1, .sb r.2]) q2
 ·refine M.cl (idx_Slot_1' l 146 (PV.ptr [PV.v (Value.string (ByteArray.mk sel.toArray))]) (fun x => matchB x sel) ((by first | rfl | omega | (constructor <;> omega) | assumption | (exact hb _ ‹_›) | trivial | (simp_all; done) | (simp_all; omega) | (simp_all [In64]; omega))) (fun x hx1 => matchB_spec x sel (by first | rfl | omega | (constructor <;> omega) | assumption | (exact hb _ ‹_›) | trivial | (simp_all; done) | (simp_all; omega) | (simp_all [In64]; omega)))) ?_
  exact M.rq (enc := fun r : Int × Bool => .tup [I r.1, .sb r.2]) q2
theorem match_spec (l : List Sl) (sel : List UInt8) (hb : ∀ s ∈ l, s.nm.length <= 140737488355328) : Spec Tryz.prog 86 [row 5 Sl.pv l, S sel] (.tup [I (matchF l sel).1, .sb (matchF l sel).2]) := match_spec' l sel hb _ rfl
def shapA (s : Sl) : Bool := s.kd == 4
theorem shapA_spec' (s : Sl) (r : Bool) (hq : shapA s = r) : Spec Tryz.prog 90 [.agg s.pv] (.sb r) := by
 unfold shapA at hq
 refine Spec.startL (by kernel_rfl) Tryz.func90 rfl rfl fun w0 L hst => ?_
 exact M.rq hq
theorem shapA_spec (s : Sl) : Spec Tryz.prog 90 [.agg s.pv] (.sb (shapA s)) := shapA_spec' s _ rfl
def bsRA (l : List Ac) (cf : Ac -> Int) : Int := bsch (fun h => cf (l.getD h.toNat default)) l.length 0 l.length
theorem bsearch_Act (l : List Ac) (target : Int) (g : Nat) (cf : Ac -> Int) (hb : l.length <= 1000000000) (hg : ∀ x ∈ l, Spec Tryz.prog g [.agg x.pv, I target] (I (cf x))) :
  Spec Tryz.prog 216 [row 9 Ac.pv l, I target, .fn g []] (.tup [I (bsRA l cf), .sb (decide (bsRA l cf < l.length) && cf (l.getD (bsRA l cf).toNat default) == 0)]) := by
 have hg' : ∀ h : Int, 0 <= h -> h < l.length -> Spec Tryz.prog g [.agg (l.getD h.toNat default).pv, I target] (I (cf (l.getD h.toNat default))) := fun h h0 h1 => by
  have hlt : h.toNat < l.length := by omega
  have := hg _ (List.getElem_mem hlt)
  rwa [show l[h.toNat] = l.getD h.toNat default by simp [List.getD_eq_getElem?_getD, hlt]] at this
 refine Spec.start (by kernel_rfl) Tryz.func216 rfl rfl fun w0 L => ?_
 refine M.loop (ι := {q : Int × Int × Nat // 0 <= q.1 /\ q.1 <= q.2.1 /\ q.2.1 <= l.length /\ (q.2.1 - q.1).toNat <= q.2.2 /\ bsRA l cf = bsch (fun h => cf (l.getD h.toNat default)) q.2.2 q.1 q.2.1})
  (fun q => [(0, row 9 Ac.pv l), (1, I target), (2, .fn g []), (8, I l.length), (9, I q.1.1), (10, I q.1.2.1)]) (fun _ => []) (fun q => q.1.2.2) ⟨(0, l.length, l.length), by simp only; omega, by simp only; omega, by simp only; omega, by simp only; omega, rfl⟩ [] (by kernel_rfl) trivial (by kernel_rfl) (by kernel_rfl) fun ⟨(i, j, n), hi, hij, hj, hn, hq⟩ ih => ?_
 simp only at hi hij hj hn hq
 refine M.test (decide (i < j)) (by kernel_rfl) (fun h1 => ?_) (fun h1 => ?_)
 ·have h1 := of_decide_eq_true h1
  obtain ⟨ha, hc⟩ := half_at hi h1 (by omega)
  obtain ⟨n, rfl⟩ : ∃ m, n = m + 1 := ⟨n - 1, by omega⟩
  unfold bsch at hq
  rw [if_pos h1] at hq
  refine M.callp [In64 (i + j), (0 : Int) <= 1, 0 <= half i j /\ half i j < l.length] (hg' (half i j) (by omega) (by omega)) (by kernel_rfl) ⟨⟨by omega, by omega⟩, by decide, by omega, trivial⟩ (by kernel_rfl) ?_
  refine M.test (decide (cf (l.getD (half i j).toNat default) < 0)) (by kernel_rfl) (fun h2 => ?_) (fun h2 => ?_)
  ·rw [if_pos (of_decide_eq_true h2)] at hq
   exact M.back [In64 (half i j + 1)] (ih ⟨(half i j + 1, j, n), by simp only; omega, by simp only; omega, hj, by simp only; omega, hq⟩ (Nat.lt_succ_self n)) (by kernel_rfl) ⟨⟨by omega, by omega⟩, trivial⟩ (by kernel_rfl) (by kernel_rfl) (by kernel_rfl) (by kernel_rfl)
  ·rw [if_neg (of_decide_eq_false h2)] at hq
   exact M.back [] (ih ⟨(i, half i j, n), hi, ha, by simp only; omega, by simp only; omega, hq⟩ (Nat.lt_succ_self n)) (by kernel_rfl) trivial (by kernel_rfl) (by kernel_rfl) (by kernel_rfl) (by kernel_rfl)
 ·have h1 := of_decide_eq_false h1
  rw [bsch_end _ h1] at hq
  refine M.test (decide (i < (l.length : Int))) (by kernel_rfl) (fun h2 => ?_) (fun h2 => ?_)
  ·have h3 := of_decide_eq_true h2
   refine M.callp [0 <= i /\ i < (l.length : Int)] (hg' i hi h3) (by kernel_rfl) ⟨⟨hi, h3⟩, trivial⟩ (by kernel_rfl) ?_
   exact M.ret (.tup [I i, .sb (cf (l.getD i.toNat default) == 0)]) (by kernel_rfl) (by rw [hq, h2, Bool.true_and])
  ·exact M.ret (.tup [I i, .sb false]) (by kernel_rfl) (by rw [hq, h2, Bool.false_and])
def viewX (P : Program) (fn : Func) (c : Cfg) : Option (List Prop × PV) :=
 let s := stop P fn.ntmps c
 match s.2.dr, s.2.todo with
 | none, .ops all (o :: _) :: _ =>
  match guardP all s.2.E o with
  | some true => match o.op with
   | .panic x => match evA s.2.E x with
    | .v (.iface t y) => some (s.1, .v (.iface t y))
    | _ => none
   | _ => none
  | _ => none
 | _, _ => none
section
variable {w0 : W0} {W : World} {L : List Nat} {β : List (Option Nat)} {N : Nat} {P : Program} {Q : Exit -> Act -> World -> Prop} {fn : Func} {σ : Sig} {E : Env} {a : Act} {c : Cfg}
theorem Ok.pan {x : PV} {ps : List Prop} (h : viewX P fn c = some (ps, x)) (hp : All ps) (k : OkP fn w0 Q (stop P fn.ntmps c).2.σ (stop P fn.ntmps c).2.E x) : OkF P fn w0 L Q c := by
 unfold viewX at h
 simp only at h
 split at h
 ·rename_i all o r t hdr ht
  split at h
  ·rename_i hg
   split at h
   ·rename_i y ho
    split at h
    ·rename_i tt yy hv
     simp only [Option.some.injEq, Prod.mk.injEq] at h
     obtain ⟨h1, h2⟩ := h
     refine run_ok 3000 c (by rw [show (runC P fn.ntmps 3000 c).1 = ps from h1]; exact hp) ?_
     show OkF P fn w0 L Q (stop P fn.ntmps c).2
     clear h1
     generalize (stop P fn.ntmps c).2 = d at hdr ht hg hv k
     obtain ⟨E, σ, todo, dr⟩ := d
     simp only at hdr ht hg hv k
     subst hdr; subst ht; subst h2
     intro β a W hI
     have hev := evA_R hI.ev y
     rw [hv, R] at hev
     show wpListIn (Fr w0.ro) 0 P all _ (o :: r) a W
     refine list_wp (by rw [ho]; rfl) (guard_wanted hI.ev hg) ?_
     unfold Oper.wp execOp
     rw [ho]
     simp only [Sem.run_bind, hev, Instr.panic, goPanic, Sem.run, Result.andThen]
     exact wpK_panic (k L β a W _ hI (by rw [R]))
    ·cases h
   ·cases h
  ·cases h
 ·cases h
def panOk (c : Cfg) : Bool :=
 match c.dr with
 | none => true
 | some q => okS q.all q.ss q.ds && (decide (q.i < q.all.size) && cutOk q.all q.i)
theorem Ok.callP {g : FuncId} {m : Nat} {σ0 σ1 : Sig} {qs : List PV} {x : PV} {ps : List Prop} (is : List Nat) (hs : SpecP P g m σ0 qs σ1 x) (h : viewM P fn c is = some (ps, g, σ0, qs)) (hp : All ps) (hdr : panOk (stop P fn.ntmps c).2 = true)
  (k : OkP fn w0 Q (mergeS is m (stop P fn.ntmps c).2.σ σ1) (stop P fn.ntmps c).2.E (renP (outF is m (stop P fn.ntmps c).2.σ.length) 8 x)) : OkF P fn w0 L Q c := by
 unfold viewM at h
 simp only at h
 split at h
 ·rename_i g' rs hc
  split at h
  ·rename_i hρ
   simp only [Option.some.injEq, Prod.mk.injEq] at h
   obtain ⟨e1, e2, e3, e4⟩ := h
   subst e2
   refine run_ok 3000 c (by rw [show (runC P fn.ntmps 3000 c).1 = ps from e1]; exact hp) ?_
   show OkF P fn w0 L Q (stop P fn.ntmps c).2
   clear e1
   generalize (stop P fn.ntmps c).2 = d at hdr hc hρ e3 e4 k
   obtain ⟨E, σ, todo, dr⟩ := d
   simp only at hdr hc hρ e3 e4 k
   cases dr with
   | some q =>
    unfold panOk at hdr
    simp only [Bool.and_eq_true, decide_eq_true_eq] at hdr
    intro hnd hok hm hT
    unfold callC at hc
    simp only at hc hT ⊢
    split at hc
    ·rename_i o ho
     split at hc
     ·rename_i hd
      split at hc
      ·rename_i hg
       split at hc
       ·rename_i g1 rs1 hoc
        cases hc
        refine drawn_cut (.inr hdr.2.2) hnd hm hok hdr.1 hT (fun h => absurd hdr.2.1 (by omega)) fun _ fuel l β a W hl hf hcl hd1 hnl hI => cut_one hdr.2.2 hdr.2.1 (fun K => ?_) fuel l hl hf hcl hd1 hnl hok
        have hw := guard_wanted hI.ev hg
        unfold wpOpIn
        simp only [ho]
        rw [if_pos hw]
        exact op_in (noDef_at hnd ho) (callOpP hI hoc hs hρ e3 e4 _ _ fun γ u W' hi hr => wpK_panic (k L γ _ W' u hi hr))
       ·cases hc
      ·cases hc
     ·cases hc
    ·cases hc
   | none =>
   intro β a W hI
   unfold callC at hc
   simp only at hc hI ⊢
   split at hc
   ·rename_i all o l k'
    split at hc
    ·rename_i hd
     split at hc
     ·rename_i hg
      have hw := guard_wanted hI.ev hg
      split at hc
      ·exact list_wp (opC_nd hc) hw (callOpP hI hc hs hρ e3 e4 _ _ fun γ u W' hi hr => wpK_panic (k L γ _ W' u hi hr))
      ·cases hc
     ·cases hc
    ·cases hc
   ·cases hc
  ·cases h
 ·cases h
theorem M.pan {x : PV} (ps : List Prop) (h : viewX P fn c = some (ps, x)) (hp : All ps) (k : OkP fn w0 Q (stop P fn.ntmps c).2.σ (stop P fn.ntmps c).2.E x) : M P fn w0 L Q c := ⟨Ok.pan h hp k⟩
theorem M.callP {g : FuncId} {m : Nat} {σ0 σ1 : Sig} {qs : List PV} {x : PV} (ps : List Prop) (is : List Nat) (hs : SpecP P g m σ0 qs σ1 x) (h : viewM P fn c is = some (ps, g, σ0, qs)) (hp : All ps) (hdr : panOk (stop P fn.ntmps c).2 = true)
  (k : OkP fn w0 Q (mergeS is m (stop P fn.ntmps c).2.σ σ1) (stop P fn.ntmps c).2.E (renP (outF is m (stop P fn.ntmps c).2.σ.length) 8 x)) : M P fn w0 L Q c := ⟨Ok.callP is hs h hp hdr k⟩
def Ep (w0 : W0) (σ : Sig) (x : PV) (e : Ending) (W' : World) : Prop := ∃ u γ L1, e = .panicked [{ v := u, recovered := false }] /\ R γ L1 W' x u /\ Bx γ L1 W' σ /\ Near w0 W' /\ (∀ g, some g ∈ γ -> some g ∈ w0.own \/ w0.w.heap.size <= g) /\ (γ.take w0.stay = w0.own.take w0.stay /\ w0.stay <= γ.length) /\ (∀ g ∈ w0.lock, g ∈ L1) /\ ∀ g, some g ∈ w0.own -> Fb γ L1 g
def Qp (P : Program) (fn : Func) (w0 : W0) (σ : Sig) (x : PV) (e : Exit) (a : Act) (w : World) : Prop :=
 w0.dfs = [] -> bodyPostM Fence.wide 0 P fn (Ep w0 σ x) e a w
theorem leave_pan {RR : Ending -> World -> Prop} {ch : List PanicEntry} (hd : w0.dfs = []) (hI : Inv w0 L β σ N E a W) (fin : ∀ a' W', Inv w0 L β σ N E a' W' -> (∀ p u, R β L W p u -> R β L W' p u) -> RR (.panicked ch) W') :
  LeavesInM Fence.wide 0 P fn a.tmps RR a.defers (.panicking ch) W := by
 obtain ⟨Ds, e, -, nd, hD⟩ := hI.nod
 rw [hd, List.append_nil] at e
 have h0 : Inv w0 L β σ N E { a with defers := [] } W := { hI with ev := hI.ev, nod := Nod.nil hd.symm }
 rw [e]
 clear e hI
 revert h0 fin
 induction Ds generalizing W with
 | nil => exact fun fin h0 => fin { a with defers := [] } W h0 fun _ _ h => h
 | cons D Ds ih =>
  intro fin h0
  have hh := hD D (List.mem_cons_self ..)
  have ho : ∀ k, k ≠ D -> (W.putObj D (.deferred none)).heap[k]? = W.heap[k]? := fun k hk => World.putObj_heap_other hk
  have hsz : (W.putObj D (.deferred none)).heap.size = W.heap.size := World.putObj_size
  have mv : ∀ p u, R β L W p u -> R β L (W.putObj D (.deferred none)) p u := fun p u h =>
   R.move (by omega) p u β L β L (fun k hk _ => ho k (fun e => hk (.inr (by rw [e]; exact hh.1)))) (fun i x hx => ⟨hx, fun g e => shape_eq (ho g (fun e' => (h0.old D hh.1).2 (by rw [<- e', <- e]; exact List.mem_of_getElem? hx)))⟩) (fun _ h => .inl h) h
  refine ⟨by simp, .inl ⟨D, W.putObj D (.deferred none), rfl, run_takeDeferred hh.2.2, ?_⟩⟩
  refine ih (List.nodup_cons.1 nd).2 (fun D' hD' => ?_) (fun a' W' hi hm => fin a' W' hi fun p u h => hm p u (mv p u h)) (h0.turn hh.1 hh.2.1 _ rfl (Nod.nil hd.symm))
  have h1 := hD D' (List.mem_cons_of_mem _ hD')
  exact ⟨h1.1, h1.2.1, (World.putObj_heap_other (fun e => (List.nodup_cons.1 nd).1 (by rw [<- e]; exact hD'))).trans h1.2.2⟩
theorem OkP.done {σ1 : Sig} {x x1 : PV} {n : Nat} (ρ : List Nat) (hst : w0.stay = n) (hm : ρ.take n = List.range n) (hρ : renOk σ ρ = true) (hσ : renS ρ σ = σ1) (hx : renP (invF ρ 0) 8 x = x1) : OkP fn w0 (Qp P fn w0 σ1 x1) σ E x := by
 subst hst
 intro L β a W u hI hr hd
 refine leave_pan hd hI fun a' W' hi hmv => ?_
 have h2 := hi.ren hρ hm
 have hsub : ∀ g, some g ∈ renB ρ β -> some g ∈ β := fun g hg => renB_sub hi.bx.1 hρ hg
 have hF := fb_without (L := L) hsub
 refine ⟨u, renB ρ β, _, rfl, ?_, ?_, h2.bel, h2.new, h2.pre, h2.inc.1, h2.inc.2⟩
 ·rw [<- hx]; exact ren_R (renF hi.bx.1 hρ) (fun g hg => (hF g).1 hg) 8 _ _ (hmv _ _ hr)
 ·rw [<- hσ]; exact h2.bx
theorem SpecP.start {f : FuncId} {m : Nat} {σ σ' : Sig} {args : List PV} {x : PV} {cd : Code} (he : entersP P f = true) (hf : P.funcs[f]? = some fn) (hb : fn.body = some cd) (hn : Nat.ble args.length fn.ntmps = true) (hm : m <= σ.length)
  (k : ∀ w0 L, w0.stay = m -> M P fn w0 L (Qp P fn w0 σ' x) (startM args σ cd)) : SpecP P f m σ args σ' x := by
 refine ⟨he, hm, fun L β W vs hL hG hB hR => ?_⟩
 refine callsIn_wide.1 (callsIn_of_wp_marks (n := 0) hf hb trivial ?_ rfl)
 have h := (k ⟨W, β, m, L, [], none, ghosts, true⟩ L rfl).out β (startA fn vs.toArray) W ⟨Near.refl _ _ _ _ _ _ _ _, fun g hg => .inl hg, hL, ⟨fun _ h => h, fun g hg => .inl hg⟩, ⟨rfl, by rw [hB.1]; exact hm⟩, hB, args_Ev (Nat.le_of_ble_eq_true hn) hR, Nod.nil rfl, Gl.gho hG, fun g hg => .inl hg, fun q hq => hq⟩
 refine wpIn_mono h fun e a w hq => ?_
 have hq' : Qp P fn ⟨W, β, m, L, [], none, ghosts, true⟩ σ' x e a w := by unfold wpK at hq; exact hq
 exact hq' rfl
theorem OkP.iter {J : Nat -> List Nat -> List Nat -> World -> Prop} {X : List Nat -> List Nat -> World -> Prop} {n l : Nat} {xs : Nat -> List PV} {x : PV} (hY : Yl P l J X n xs) (hJ : Itb (J n) w0) (hf : flatP x = true) : OkP fn w0 (Qi P fn (some x) (J n) X) σ E x := by
 intro L β a W u hI hr
 refine leave_pan hJ.dfs hI fun a' W' hi hmv => ?_
 exact ⟨bs β, w0.lock, .inl ⟨u, rfl, R.flat x u hf (hmv _ _ hr), hY.jst n _ _ _ _ _ hJ.hold hi.istep⟩⟩
end
def isRecover : Op -> Bool
 | .call { callee := .builtin .recover, args, argTypes := _ } => args.toList.isEmpty
 | _ => false
theorem recover_run {o : Oper} {a : Act} {P : Program} {W : World} (h : isRecover o.op = true) : (execOp a.eval o).run P W = .ok .recover W := by
 unfold isRecover at h
 split at h
 ·rename_i args at_ e
  have : args = #[] := Array.toList_eq_nil_iff.1 (by simpa using h)
  subst this
  unfold execOp
  rw [e]
  simp [Sem.run_bind, resolve, Sem.run_pure, Result.andThen_ok, invoke, builtin]
 ·cases h
theorem wpSIn_recover {P : Program} {Q : Exit -> Act -> List Frame -> World -> Prop} {a : Act} {cs cs' : List Frame} {w : World} {id : Nat} {ops : Array Oper} {o : Oper} {l : List Oper} {v : Value} (hops : ops.toList = o :: l) (ho : isRecover o.op = true) (hg : o.guard = none)
  (hr : (recoverD cs = some (v, cs')) \/ (recoverD cs = none /\ v = .nilIface /\ cs' = cs)) (h : wpListIn (Fr none) 0 P ops (fun e a w => Q e a cs' w) l (a.put o.dst v) w) : (Code.region id ops false).wpSIn (Fr none) 0 P Q a cs w := by
 intro b k hb hro hF hroom
 have hlen : cs'.length = cs.length := by
  rcases hr with h | ⟨_, _, h⟩
  ·exact recoverD_length h
  ·rw [h]
 have ho0 : ops[0]? = some o := by rw [<- Array.getElem?_toList, hops]; rfl
 have hsz : List.range ops.size = 0 :: List.range' 1 l.length := by
  rw [List.range_eq_range', <- Array.length_toList, hops]; rfl
 have hw : Region.wanted o (yielded ops a.tmps) = true := by simp [Region.wanted, hg]
 have hl : wpOpsIn (Fr none) 0 P ops (fun e a w => Q e a cs' w) (List.range' 1 l.length) (a.put o.dst v) w := by
  rw [wpOpsIn_eq_wpListIn l 1 (fun j => by rw [<- Array.getElem?_toList, hops, Nat.add_comm]; rfl)]; exact h
 obtain ⟨e, a', w', hq, harr⟩ := wp_opsIn _ _ _ hl b k cs' hro hF (hlen ▸ hroom)
 refine ⟨e, a', cs', w', hlen, hq, .of_steps (.one (fenced_calm hF hroom rfl) stepR_region) (.of_steps (.one ?_ (step_lone_go ?_)) harr)⟩
 ·rw [hsz]; exact fenced_oper hF hroom ho0 fun _ _ => trivial
 ·rw [hsz]
  have hk : (b.atR a (.inRegion ops (0 :: List.range' 1 l.length) :: k)).kind = .deferred := hb
  have htr := tryRecover_deferred hk cs
  have hg := stepGR_op (P := P) (b := b) (k := k) (cs := cs) (w := w) (rest := List.range' 1 l.length) ho0 hw
  rw [hro, Oper.semAt_none] at hg
  have hfin : ∀ v, (b.atR a (.inRegion ops (0 :: List.range' 1 l.length) :: k)).finish v = b.atR (a.put o.dst v) (.inRegion ops (List.range' 1 l.length) :: k) := by
   intro v; rw [Frame.finish_atR, ho0]; rfl
  rw [hg, <- hfin]
  simp only [Frame.atR, hro] at htr ⊢
  rcases hr with h | ⟨h, rfl, rfl⟩ <;> simp [stepG.apply, recover_run ho, htr, h]
def recP : Option PV -> PV
 | none => .v .nilIface
 | some x => x
theorem listIn_mono {F : Fence} {n : Nat} {P : Program} {ops : Array Oper} {Q Q' : Exit -> Act -> World -> Prop} (hq : ∀ e a w, Q e a w -> Q' e a w) : ∀ (l : List Oper) (a : Act) (w : World), wpListIn F n P ops Q l a w -> wpListIn F n P ops Q' l a w
 | [], a, w, h => hq _ _ _ h
 | o :: l, a, w, h => by
  unfold wpListIn at h ⊢
  split
  ·rename_i hw
   rw [if_pos hw] at h
   refine ⟨h.1, ?_⟩
   have h2 := h.2
   generalize (o.semAt F.round a.eval).run P w = r at h2 ⊢
   cases r with
   | ok x w' =>
    cases x <;> simp only [Oper.uponIn] at h2 ⊢ <;>
     first
      | exact listIn_mono hq l _ _ h2
      | exact ⟨h2.1, CallsIn.mono h2.2 (fun e w'' he => by cases e <;> first | exact listIn_mono hq l _ _ he | exact hq _ _ _ he | (obtain ⟨a1, w1, hx⟩ := he; exact ⟨a1, w1, hq _ _ _ hx⟩))⟩
      | exact ⟨h2.1, RowsIn.mono h2.2 (fun _ _ he => listIn_mono hq l _ _ he)⟩
      | exact ⟨h2.1, RoundIn.mono h2.2 (fun e w'' he => by cases e <;> first | exact listIn_mono hq l _ _ he | exact hq _ _ _ he | (obtain ⟨a1, w1, hx⟩ := he; exact ⟨a1, w1, hq _ _ _ hx⟩))⟩
      | exact h2.elim
   | halt x w' => cases x <;> simp only [Oper.uponIn] at h2 ⊢ <;> first | exact hq _ _ _ h2 | exact h2.elim
  ·rename_i hw
   rw [if_neg hw] at h
   exact ⟨h.1, listIn_mono hq l _ _ h.2⟩
def inMode (β : List (Option Nat)) (L : List Nat) (W : World) (um : FrameMode) : Option PV -> Prop
 | none => um = .returning
 | some x => ∃ v, um = .panicking [{ v := v, recovered := false }] /\ R β L W x v
def SpecD (P : Program) (g : FuncId) (σ : Sig) (caps : List PV) (u : Option PV) (σ' : Sig) : Prop :=
 entersP P g = true /\ σ'.length = σ.length /\ ∀ (L : List Nat) (β : List (Option Nat)) (W : World) (vs : List Value) (um : FrameMode), (∀ g ∈ L, g < W.heap.size /\ some g ∉ β) -> Gl (bs β ++ L) W -> Bx β L W σ -> Rs β L W caps vs ->
  inMode β L W um u ->
  CallsDIn Fence.wide 0 P g vs.toArray um W fun e u' W' => ∃ v γ L1, e = .returned v /\ settle u' = .returning /\ Bx γ L1 W' σ' /\ Near ⟨W, β, σ.length, L, [], none, ghosts, true⟩ W' /\ (∀ g, some g ∈ γ -> some g ∈ β \/ W.heap.size <= g) /\ (γ.take σ.length = β.take σ.length /\ σ.length <= γ.length) /\ (∀ g ∈ L, g ∈ L1) /\ ∀ g, some g ∈ β -> Fb γ L1 g
def Qd (P : Program) (fn : Func) (w0 : W0) (σ : Sig) : Exit -> Act -> World -> Prop
 | .normal, a, W => (∃ v, (results fn a.tmps).run P W = .ok v W) /\ ∃ β L, Inv w0 L β σ fn.ntmps [] a W
 | .ret, a, W => (∃ v, (results fn a.tmps).run P W = .ok v W) /\ ∃ β L, Inv w0 L β σ fn.ntmps [] a W
 | _, _, _ => False
section
variable {w0 : W0} {W : World} {L : List Nat} {β : List (Option Nat)} {N : Nat} {P : Program} {Q : Exit -> Act -> World -> Prop} {fn : Func} {σ : Sig} {E : Env} {a : Act} {c : Cfg}
theorem SpecD.start {g : FuncId} {σ σ' : Sig} {caps : List PV} {u : Option PV} {id : Nat} {all : Array Oper} {o : Oper} {l : List Oper} {rest : Code} (he : entersP P g = true) (hlen : σ'.length = σ.length) (hf : P.funcs[g]? = some fn) (hb : fn.body = some (.seq (.region id all false) rest)) (hn : Nat.ble caps.length fn.ntmps = true)
  (hops : all.toList = o :: l) (ho : isRecover o.op = true) (hg : o.guard = none) (hd : fitsD fn.ntmps o.dst = true)
  (k : ∀ w0 L, w0.stay = σ.length -> M P fn w0 L (Qd P fn w0 σ') ⟨putE (envFrom 0 caps) o.dst (recP u), σ, [.ops all l, .code rest], none⟩) : SpecD P g σ caps u σ' := by
 refine ⟨he, hlen, fun L β W vs um hL hG hB hR hu => ?_⟩
 refine callsDIn_of_wpSIn hf hb trivial fun c₀ cs hc₀ => ?_
 have key : ∃ (v : Value) (c1 : Frame) (u' : FrameMode), c1 = { c₀ with mode := u' } /\ settle u' = .returning /\ (recoverD (c₀ :: cs) = some (v, c1 :: cs) \/ (recoverD (c₀ :: cs) = none /\ v = .nilIface /\ c1 :: cs = c₀ :: cs)) /\ R β L W (recP u) v := by
  cases u with
  | none =>
   have hu' : um = .returning := hu
   exact ⟨.nilIface, c₀, .returning, by rw [<- hu', <- hc₀], rfl, .inr ⟨by simp [recoverD, hc₀, hu'], rfl, rfl⟩, by rw [recP, R]⟩
  | some x =>
   obtain ⟨v, hv, hr⟩ := hu
   exact ⟨v, _, .panicking [{ v := v, recovered := true }], rfl, rfl, .inl (by simp [recoverD, hc₀, hv]), hr⟩
 obtain ⟨v, c1, u', hc1, hset, hrec, hrv⟩ := key
 obtain ⟨w1, hw1⟩ : ∃ w1 : W0, (⟨W, β, σ.length, L, [], none, ghosts, false⟩ : W0) = w1 := ⟨_, rfl⟩
 have hinv : Inv w1 L β σ fn.ntmps (putE (envFrom 0 caps) o.dst (recP u)) ((startA fn vs.toArray).put o.dst v) W := by
  rw [<- hw1]
  exact ⟨Near.refl _ _ _ _ _ _ _ _, fun g hg => .inl hg, hL, ⟨fun _ h => h, fun g hg => .inl hg⟩, ⟨rfl, by rw [hB.1]; exact Nat.le_refl _⟩, hB, (args_Ev (Nat.le_of_ble_eq_true hn) hR).put hrv hd, (Nod.nil rfl : Nod _ L (startA fn vs.toArray) W).put _ _, Gl.gho hG, fun g hg => .inl hg, fun q hq => hq⟩
 have hm := (k w1 L (by rw [<- hw1])).out β _ W hinv
 have hro : w1.ro = none := by rw [<- hw1]
 rw [hro] at hm
 -- the end
 have fin : ∀ e a W', Qd P fn w1 σ' e a W' -> bodyPostS P fn c₀ cs (fun e u' W' => ∃ v γ L1, e = .returned v /\ settle u' = .returning /\ Bx γ L1 W' σ' /\ Near ⟨W, β, σ.length, L, [], none, ghosts, true⟩ W' /\ (∀ g, some g ∈ γ -> some g ∈ β \/ W.heap.size <= g) /\ (γ.take σ.length = β.take σ.length /\ σ.length <= γ.length) /\ (∀ g ∈ L, g ∈ L1) /\ ∀ g, some g ∈ β -> Fb γ L1 g) e a (c1 :: cs) W' := by
  have core : ∀ a W', ((∃ v, (results fn a.tmps).run P W' = .ok v W') /\ ∃ β L, Inv w1 L β σ' fn.ntmps [] a W') -> a.defers = [] /\ ∃ u'', (c1 :: cs) = { c₀ with mode := u'' } :: cs /\ ∃ v, (results fn a.tmps).run P W' = .ok v W' /\ ∃ v' γ L1, Ending.returned v = .returned v' /\ settle u'' = .returning /\ Bx γ L1 W' σ' /\ Near ⟨W, β, σ.length, L, [], none, ghosts, true⟩ W' /\ (∀ g, some g ∈ γ -> some g ∈ β \/ W.heap.size <= g) /\ (γ.take σ.length = β.take σ.length /\ σ.length <= γ.length) /\ (∀ g ∈ L, g ∈ L1) /\ ∀ g, some g ∈ β -> Fb γ L1 g := by
   rintro a W' ⟨⟨v, hv⟩, γ, L1, hi⟩
   rw [<- hw1] at hi
   obtain ⟨Ds, d1, d0, _⟩ := hi.nod
   have : Ds = [] := d0 rfl
   subst this
   exact ⟨d1, u', by rw [hc1], v, hv, v, γ, L1, rfl, hset, hi.bx, ⟨hi.bel.os, hi.bel.tape, hi.bel.output, hi.bel.size, hi.bel.block, hi.bel.shape⟩, hi.new, hi.pre, hi.inc.1, hi.inc.2⟩
  intro e a W' hq
  cases e with
  | normal => exact core a W' hq
  | ret => exact core a W' hq
  | _ => exact hq.elim
 refine wpSIn_seq (wpSIn_recover (v := v) (cs' := c1 :: cs) hops ho hg hrec ?_)
 have hm' : wpListIn (Fr none) 0 P all (wpK P none (Qd P fn w1 σ') [.code rest]) l ((startA fn vs.toArray).put o.dst v) W := hm
 refine listIn_mono (fun e a w hq => ?_) l _ _ hm'
 cases e with
 | normal =>
  show rest.wpSIn (Fr none) 0 P _ a (c1 :: cs) w
  refine wpSIn_of_wpIn rfl (wpIn_mono (show rest.wpIn (Fr none) 0 P (wpK P none (Qd P fn w1 σ') []) a w from hq) fun e a w h => fin e a w (by unfold wpK at h; exact h))
 | ret => exact fin .ret a w (by unfold wpK at hq; unfold wpK at hq; exact hq)
 | exit id => exact fin (.exit id) a w (by unfold wpK at hq; unfold wpK at hq; exact hq)
 | goto id => exact fin (.goto id) a w (by unfold wpK at hq; unfold wpK at hq; exact hq)
 | panic ch => exact fin (.panic ch) a w (by unfold wpK at hq; unfold wpK at hq; exact hq)
 | outgrown => exact fin .outgrown a w (by unfold wpK at hq; unfold wpK at hq; exact hq)
end
end Go.Proofs.YtcknpohghmkbmaaGreatDoor
