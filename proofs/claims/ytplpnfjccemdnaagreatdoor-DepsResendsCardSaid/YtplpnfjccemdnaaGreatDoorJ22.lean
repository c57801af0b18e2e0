import Derived.Test.YtplpnfjccemdnaaGreatDoorJ21
import Derived.Test.YtplpnfjccemdnaaGreatDoorJ19
import Derived.Test.YtplpnfjccemdnaaGreatDoorJ12
set_option linter.unusedVariables false
set_option linter.unusedSimpArgs false
/- The texts D2 V28 D3 V29 of the proof, laid one behind the other. -/
namespace Go.Proofs.YtplpnfjccemdnaaGreatDoor
open Go.RowKit
abbrev tr (w : Wd) (d s : PV) : List PV := [row 6 Ob.pv w.objs, row 9 Ac.pv w.acts, row 9 Cd.pv w.cds, I w.nO, I w.nA, d, s]
def objI (w : Wd) (n : Int) : Int := bsR w.objs (fun o => haObF o n)
def objF (w : Wd) (n : Int) : Bool := decide (objI w n < w.objs.length) && haObF (w.objs.getD (objI w n).toNat default) n == 0
def objT (w : Wd) (n : Int) : Ob × Bool := bif objF w n then (w.objs.getD (objI w n).toNat default, true) else (⟨0, 0, [], [], 0, 0⟩, false)
theorem nil_row {α : Type} [Inhabited α] (k : Nat) (f : α -> List PV) {L : List Nat} {W : World} {u : Value} (h : R [] L W (.v (.slice none 0 0)) u) : R [] L W (row k f []) u := by
 rw [R] at h
 subst h
 rw [R]
 exact ⟨none, 0, rfl, Nat.le_refl _, by omega, fun h => absurd h (Nat.lt_irrefl _)⟩
theorem tup_to {ps qs : List PV} {L : List Nat} {W : World} {u : Value} (h : R [] L W (.tup ps) u) (hc : ∀ us, Rs [] L W ps us -> Rs [] L W qs us) : R [] L W (.tup qs) u := by
 rw [R] at h ⊢
 obtain ⟨us, e, h⟩ := h
 exact ⟨us, e, hc us h⟩
theorem objI_in (w : Wd) (n : Int) (hl : w.objs.length <= 1000000000) : 0 <= objI w n /\ objI w n <= w.objs.length := bsch_in _ _ 0 _ (by omega) (by omega) (by omega)
theorem tobj_spec (w : Wd) (d s : PV) (n : Int) (hl : w.objs.length <= 1000000000) : Spec Tryz.prog 26 [.ptr (tr w d s), I n] (.tup [.agg (objT w n).1.pv, .sb (objT w n).2]) := by
 unfold objT
 have hin := objI_in w n hl
 cases hf : objF w n with
 | true =>
  have hlt : objI w n < w.objs.length := by
   unfold objF at hf
   simp only [Bool.and_eq_true, decide_eq_true_eq] at hf
   exact hf.1
  refine Spec.startL (by kernel_rfl) Tryz.func26 rfl rfl fun w0 L hst => ?_
  refine M.cl (bsearch_Obj w.objs n 67 (fun o => haObF o n) hl fun x _ => haOb_spec x n) ?_
  refine M.n (b := !objF w n) (by rw [hf]; rfl) ?_
  exact M.retp [0 <= objI w n /\ objI w n < w.objs.length] (.tup [.agg (w.objs.getD (objI w n).toNat default).pv, .sb true]) (by kernel_rfl) ⟨⟨hin.1, hlt⟩, trivial⟩ rfl
 | false =>
  refine Spec.startL (by kernel_rfl) Tryz.func26 rfl rfl fun w0 L hst => ?_
  refine M.cl (bsearch_Obj w.objs n 67 (fun o => haObF o n) hl fun x _ => haOb_spec x n) ?_
  refine M.ys (b := !objF w n) (by rw [hf]; rfl) ?_
  refine M.retw [] (.tup [.agg [I 0, I 0, .v (.slice none 0 0), .v (.slice none 0 0), I 0, I 0], .sb false]) (by kernel_rfl) trivial fun L W u h => tup_to h fun us h => ?_
  obtain ⟨u0, us, rfl, h0, h⟩ := h.uncons
  exact Rs.cons (agg_to (qs := (Ob.mk 0 0 [] [] 0 0).pv) (.cons (fun _ h => h) (.cons (fun _ h => h) (.cons (fun _ h => nil_row 5 Sl.pv h) (.cons (fun _ h => nil_row 3 Vl.pv h) (.cons (fun _ h => h) (.cons (fun _ h => h) .nil)))))) h0) h
def hasT (w : Wd) (d : PV) (s : PV) (v : Vl) : Bool := (bif valueC v != 0 then false else (bif v.k != 4 then true else (objT w v.n).snd))
theorem hasT_spec' (w : Wd) (d s : PV) (v : Vl) (hn : In64 v.n) (hl : w.objs.length <= 1000000000) (r : Bool) (hq : hasT w d s v = r) : Spec Tryz.prog 25 [.ptr (tr w d s), .agg v.pv] (.sb r) := by
 unfold hasT at hq
 refine Spec.startL (by kernel_rfl) Tryz.func25 rfl rfl fun w0 L hst => ?_
 refine M.cl (value_spec v ((by first | rfl | omega | (constructor <;> omega) | assumption | (exact hb _ ‹_›) | trivial | (simp_all; done) | (simp_all; omega) | (simp_all [In64]; omega)))) ?_
 refine M.tq hq (fun h1 q2 => ?_) (fun h1 q2 => ?_)
 ·exact M.rq q2
 ·refine M.cl (tobj_spec w d s v.n ((by first | rfl | omega | (constructor <;> omega) | assumption | (exact hb _ ‹_›) | trivial | (simp_all; done) | (simp_all; omega) | (simp_all [In64]; omega)))) ?_
  refine M.tq q2 (fun h3 q4 => ?_) (fun h3 q4 => ?_)
  ·exact M.rq q4
  ·exact M.rq q4
theorem hasT_spec (w : Wd) (d s : PV) (v : Vl) (hn : In64 v.n) (hl : w.objs.length <= 1000000000) : Spec Tryz.prog 25 [.ptr (tr w d s), .agg v.pv] (.sb (hasT w d s v)) := hasT_spec' w d s v hn hl _ rfl
def slotT (w : Wd) (d s : PV) (x : Sl) : Bool :=
 bif decide (x.kd < 1) then false else bif decide (x.kd > 4) then false else
 bif assignB x then (bif x.v.k == 0 && (x.v.n == 0 && (x.v.t == [] && true)) then carityP x.nm == 0 else false)
 else bif x.v.k != 5 then (bif hasT w d s x.v then carityP x.nm == 0 else false)
 else bif x.kd == 1 then (bif x.v.t == [] then (bif decide (x.v.n >= 0) then (bif decide (x.v.n < (w.cds.length : Int)) then carityP x.nm == (w.cds.getD x.v.n.toNat default).args else false) else false) else false) else false
theorem slotT_spec (w : Wd) (d s : PV) (x : Sl) (hn : In64 x.v.n) (hl : w.objs.length <= 1000000000) : Spec Tryz.prog 145 [.ptr (tr w d s), .agg x.pv] (.sb (slotT w d s x)) := by
 refine Spec.startL (by kernel_rfl) Tryz.func145 rfl rfl fun w0 L hst => ?_
 refine M.tq (r := slotT w d s x) rfl (fun h1 q1 => M.rq q1) (fun h1 q1 => ?_)
 refine M.tq q1 (fun h2 q2 => M.rq q2) (fun h2 q2 => ?_)
 refine M.cl (assignable_spec x) ?_
 refine M.tq q2 (fun h3 q3 => ?_) (fun h3 q3 => ?_)
 ·refine M.tq q3 (fun h4 q4 => ?_) (fun h4 q4 => M.rq q4)
  refine M.cl (carity_spec x.nm) ?_
  exact M.rq q4
 refine M.tq q3 (fun h4 q4 => ?_) (fun h4 q4 => ?_)
 ·refine M.cl (hasT_spec w d s x.v hn hl) ?_
  refine M.tq q4 (fun h5 q5 => ?_) (fun h5 q5 => M.rq q5)
  refine M.cl (carity_spec x.nm) ?_
  exact M.rq q5
 refine M.tq q4 (fun h5 q5 => ?_) (fun h5 q5 => M.rq q5)
 refine M.tq q5 (fun h6 q6 => ?_) (fun h6 q6 => M.rq q6)
 refine M.tq q6 (fun h7 q7 => ?_) (fun h7 q7 => M.rq q7)
 refine M.tq q7 (fun h8 q8 => ?_) (fun h8 q8 => M.rq q8)
 refine M.cl (carity_spec x.nm) ?_
 exact M.rqp [0 <= x.v.n /\ x.v.n < (w.cds.length : Int)] ⟨⟨of_decide_eq_true h7, of_decide_eq_true h8⟩, trivial⟩ q8
def sameNmT (x : Sl) (s : Sl) : Bool := x.nm == s.nm
theorem sameNmT_spec' (x s : Sl) (r : Bool) (hq : sameNmT x s = r) : Spec Tryz.prog 146 [.agg x.pv, .ptr s.pv] (.sb r) := by
 unfold sameNmT at hq
 refine Spec.startL (by kernel_rfl) Tryz.func146 rfl rfl fun w0 L hst => ?_
 exact M.rq hq
theorem sameNmT_spec (x s : Sl) : Spec Tryz.prog 146 [.agg x.pv, .ptr s.pv] (.sb (sameNmT x s)) := sameNmT_spec' x s _ rfl
def typeT (w : Wd) (d : PV) (s : PV) (y : Ty) (maps : Int) : Bool := (bif y.k == 1 then (bif y.n == 0 then hasT w d s y.v else false) else (bif y.k == 2 then (bif y.v.k == 0 && (y.v.n == 0 && (y.v.t == [] && true)) then (bif decide (y.n >= 0) then decide (y.n < maps) else false) else false) else (bif y.k == y.k && (y.n == 0 && (y.v.k == 0 && (y.v.n == 0 && (y.v.t == [] && true)) && true)) then (bif y.k == 0 then true else (bif y.k == 3 then true else y.k == 4)) else false)))
theorem typeT_spec' (w : Wd) (d s : PV) (y : Ty) (maps : Int) (hn : In64 y.v.n) (hl : w.objs.length <= 1000000000) (r : Bool) (hq : typeT w d s y maps = r) : Spec Tryz.prog 107 [.ptr (tr w d s), .agg y.pv, I maps] (.sb r) := by
 unfold typeT at hq
 refine Spec.startL (by kernel_rfl) Tryz.func107 rfl rfl fun w0 L hst => ?_
 refine M.tq hq (fun h1 q2 => ?_) (fun h1 q2 => ?_)
 ·refine M.tq q2 (fun h3 q4 => ?_) (fun h3 q4 => ?_)
  ·refine M.cl (hasT_spec w d s y.3 ((by first | rfl | omega | (constructor <;> omega) | assumption | (exact hb _ ‹_›) | trivial | (simp_all; done) | (simp_all; omega) | (simp_all [In64]; omega))) ((by first | rfl | omega | (constructor <;> omega) | assumption | (exact hb _ ‹_›) | trivial | (simp_all; done) | (simp_all; omega) | (simp_all [In64]; omega)))) ?_
   exact M.rq q4
  ·exact M.rq q4
 ·refine M.tq q2 (fun h5 q6 => ?_) (fun h5 q6 => ?_)
  ·refine M.tq q6 (fun h7 q8 => ?_) (fun h7 q8 => ?_)
   ·refine M.tq q8 (fun h9 q10 => ?_) (fun h9 q10 => ?_)
    ·exact M.rq q10
    ·exact M.rq q10
   ·exact M.rq q8
  ·refine M.tq q6 (fun h11 q12 => ?_) (fun h11 q12 => ?_)
   ·refine M.tq q12 (fun h13 q14 => ?_) (fun h13 q14 => ?_)
    ·exact M.rq q14
    ·refine M.tq q14 (fun h15 q16 => ?_) (fun h15 q16 => ?_)
     ·exact M.rq q16
     ·exact M.rq q16
   ·exact M.rq q12
theorem typeT_spec (w : Wd) (d s : PV) (y : Ty) (maps : Int) (hn : In64 y.v.n) (hl : w.objs.length <= 1000000000) : Spec Tryz.prog 107 [.ptr (tr w d s), .agg y.pv, I maps] (.sb (typeT w d s y maps)) := typeT_spec' w d s y maps hn hl _ rfl
def sameMpT (x : Mp) (m : Mp) : Bool := mpEq x m
theorem sameMpT_spec' (x m : Mp) (r : Bool) (hq : sameMpT x m = r) : Spec Tryz.prog 104 [.agg x.pv, .ptr m.pv] (.sb r) := by
 unfold sameMpT at hq
 refine Spec.startL (by kernel_rfl) Tryz.func104 rfl rfl fun w0 L hst => ?_
 refine M.cl (sameMap_spec x m) ?_
 exact M.rq hq
theorem sameMpT_spec (x m : Mp) : Spec Tryz.prog 104 [.agg x.pv, .ptr m.pv] (.sb (sameMpT x m)) := sameMpT_spec' x m _ rfl
def ntypeT (w : Wd) (d : PV) (s : PV) (maps : List Mp) (y : Ty) : Bool := !typeT w d s y (↑maps.length : Int)
theorem ntypeT_spec' (w : Wd) (d s : PV) (maps : List Mp) (y : Ty) (hn : In64 y.v.n) (hl : w.objs.length <= 1000000000) (r : Bool) (hq : ntypeT w d s maps y = r) : Spec Tryz.prog 106 [.agg y.pv, .ptr [.ptr (tr w d s)], .ptr [row 2 Mp.pv maps]] (.sb r) := by
 unfold ntypeT at hq
 refine Spec.startL (by kernel_rfl) Tryz.func106 rfl rfl fun w0 L hst => ?_
 refine M.cl (typeT_spec w d s y ((↑maps.length : Int)) ((by first | rfl | omega | (constructor <;> omega) | assumption | (exact hb _ ‹_›) | trivial | (simp_all; done) | (simp_all; omega) | (simp_all [In64]; omega))) ((by first | rfl | omega | (constructor <;> omega) | assumption | (exact hb _ ‹_›) | trivial | (simp_all; done) | (simp_all; omega) | (simp_all [In64]; omega)))) ?_
 exact M.rq hq
theorem ntypeT_spec (w : Wd) (d s : PV) (maps : List Mp) (y : Ty) (hn : In64 y.v.n) (hl : w.objs.length <= 1000000000) : Spec Tryz.prog 106 [.agg y.pv, .ptr [.ptr (tr w d s)], .ptr [row 2 Mp.pv maps]] (.sb (ntypeT w d s maps y)) := ntypeT_spec' w d s maps y hn hl _ rfl
def slotsT (w : Wd) (d s : PV) (m : Mp) : List Sl -> Nat -> Bool
 | [], _ => true
 | x :: t, i => bif !slotT w d s x then false else bif (m.sl.take i).any (fun t => sameNmT t x) then false else slotsT w d s m t (i + 1)
def mapT (w : Wd) (d s : PV) (m : Mp) : Bool := bif decide (m.kd < 1) then false else bif decide (m.kd > 5) then false else bif decide ((m.sl.length : Int) > 40) then false else slotsT w d s m m.sl 0
theorem firstsT_spec (l : List Sl) (s : Sl) (i : Nat) (hi : i <= l.length) : Spec Tryz.prog 111 [.sl 5 i (fun j => Sl.pv (l.getD (0 + j) default)), .fn 146 [.ptr s.pv]] (.sb ((l.take i).any (fun t => sameNmT t s))) := by
 have := has_Slot_1' (l.take i) 146 (.ptr s.pv) (fun t => sameNmT t s) rfl fun t _ => sameNmT_spec t s
 refine this.conv (fun L W vs h => ?_) (fun _ _ _ h => h)
 obtain ⟨u, us, rfl, h1, h2⟩ := h.uncons
 exact Rs.cons (row_take 5 Sl.pv l hi (by simpa using h1)) h2
theorem mapT_spec (w : Wd) (d s : PV) (m : Mp) (hn : ∀ x ∈ m.sl, In64 x.v.n) (hl : w.objs.length <= 1000000000) : Spec Tryz.prog 102 [.ptr (tr w d s), .agg m.pv] (.sb (mapT w d s m)) := by
 generalize hr : mapT w d s m = r
 unfold mapT at hr
 refine Spec.startL (by kernel_rfl) Tryz.func102 rfl rfl fun w0 L hst => ?_
 refine M.tq hr (fun h1 q1 => M.rq q1) (fun h1 q1 => ?_)
 refine M.tq q1 (fun h2 q2 => M.rq q2) (fun h2 q2 => ?_)
 refine M.tq q2 (fun h3 q3 => M.rq q3) (fun h3 q3 => ?_)
 have hlen : m.sl.length <= 40 := by have := of_decide_eq_false h3; omega
 clear hr q1 q2
 refine M.loopL (ι := {i : Nat // i <= m.sl.length /\ slotsT w d s m (m.sl.drop i) i = r}) (fun i => [(0, .ptr (tr w d s)), (3, .ref 0 0), (22, row 5 Sl.pv m.sl), (23, I m.sl.length), (24, I i.1)]) (fun _ => [m.pv]) (fun i => m.sl.length - i.1) ⟨0, Nat.zero_le _, q3⟩ [] (by kernel_rfl) trivial (by kernel_rfl) (by kernel_rfl) fun ⟨i, hi, hq⟩ L ih => ?_
 refine M.ts (decide ((i : Int) < (m.sl.length : Int))) (fun h1 => ?_) (fun h1 => ?_)
 ·have hlt : i < m.sl.length := by simpa using h1
  rw [loop_cons hlt, slotsT] at hq
  refine M.clp [0 <= (i : Int) /\ (i : Int) < (m.sl.length : Int)] ⟨by omega, trivial⟩ (slotT_spec w d s (m.sl.getD (i : Int).toNat default) (hn _ (getD_mem (by omega))) hl) ?_
  refine M.tq hq (fun h5 q5 => M.rq q5) (fun h5 q5 => ?_)
  refine M.clp [(0 : Int) <= 0 /\ (0 : Int) <= i /\ (i : Int) <= m.sl.length] ⟨by omega, trivial⟩ (firstsT_spec m.sl (m.sl.getD (i : Int).toNat default) i hi) ?_
  refine M.tq q5 (fun h6 q6 => M.rq q6) (fun h6 q6 => ?_)
  refine M.rn [In64 ((i : Int) + 1)] [0] hst ⟨⟨by omega, by omega⟩, trivial⟩ fun L3 => ?_
  exact M.bk [] (ih ⟨i + 1, hlt, q6⟩ L3 (by show m.sl.length - (i + 1) < m.sl.length - i; omega)) trivial
 ·rw [loop_nil (nlt_of_dec h1), slotsT] at hq
  exact M.rq hq
def mapsT (w : Wd) (d s : PV) (maps : List Mp) : List Mp -> Nat -> Bool
 | [], _ => true
 | m :: t, i => bif !mapT w d s m then false else bif (maps.take i).any (fun t => sameMpT t m) then false else mapsT w d s maps t (i + 1)
def factsT (w : Wd) (d s : PV) (maps : List Mp) (types : List Ty) : Bool := bif decide ((maps.length : Int) > 400) then false else bif !mapsT w d s maps maps 0 then false else !types.any (ntypeT w d s maps)
theorem firstsM_spec (l : List Mp) (m : Mp) (i : Nat) (hi : i <= l.length) : Spec Tryz.prog 103 [.sl 2 i (fun j => Mp.pv (l.getD (0 + j) default)), .fn 104 [.ptr m.pv]] (.sb ((l.take i).any (fun t => sameMpT t m))) := by
 have := has_Map_1' (l.take i) 104 (.ptr m.pv) (fun t => sameMpT t m) rfl fun t _ => sameMpT_spec t m
 refine this.conv (fun L W vs h => ?_) (fun _ _ _ h => h)
 obtain ⟨u, us, rfl, h1, h2⟩ := h.uncons
 exact Rs.cons (row_take 2 Mp.pv l hi (by simpa using h1)) h2
theorem factsT_spec (w : Wd) (d s : PV) (maps : List Mp) (types : List Ty) (hm : ∀ m ∈ maps, ∀ x ∈ m.sl, In64 x.v.n) (ht : ∀ y ∈ types, In64 y.v.n) (hl : w.objs.length <= 1000000000) : Spec Tryz.prog 57 [.ptr (tr w d s), row 2 Mp.pv maps, row 5 Ty.pv types] (.sb (factsT w d s maps types)) := by
 generalize hr : factsT w d s maps types = r
 unfold factsT at hr
 refine Spec.startL (by kernel_rfl) Tryz.func57 rfl rfl fun w0 L hst => ?_
 refine M.tq hr (fun h1 q1 => M.rq q1) (fun h1 q1 => ?_)
 have hlen : maps.length <= 400 := by have := of_decide_eq_false h1; omega
 clear hr
 refine M.loopL (ι := {i : Nat // i <= maps.length /\ (bif !mapsT w d s maps (maps.drop i) i then false else !types.any (ntypeT w d s maps)) = r}) (fun i => [(2, row 5 Ty.pv types), (3, .ref 0 0), (4, .ref 1 0), (12, row 2 Mp.pv maps), (13, I maps.length), (14, I i.1)]) (fun _ => [[.ptr (tr w d s)], [row 2 Mp.pv maps]]) (fun i => maps.length - i.1) ⟨0, Nat.zero_le _, q1⟩ [] (by kernel_rfl) trivial (by kernel_rfl) (by kernel_rfl) fun ⟨i, hi, hq⟩ L ih => ?_
 refine M.ts (decide ((i : Int) < (maps.length : Int))) (fun h1 => ?_) (fun h1 => ?_)
 ·have hlt : i < maps.length := by simpa using h1
  rw [loop_cons hlt, mapsT] at hq
  refine M.clp [0 <= (i : Int) /\ (i : Int) < (maps.length : Int)] ⟨by omega, trivial⟩ (mapT_spec w d s (maps.getD (i : Int).toNat default) (hm _ (getD_mem (by omega))) hl) ?_
  refine M.ts (!mapT w d s (maps.getD (i : Int).toNat default)) (fun h5 => ?_) (fun h5 => ?_)
  ·rw [h5] at hq; exact M.rq hq
  rw [h5] at hq
  refine M.clp [(0 : Int) <= 0 /\ (0 : Int) <= i /\ (i : Int) <= maps.length] ⟨by omega, trivial⟩ (firstsM_spec maps (maps.getD (i : Int).toNat default) i hi) ?_
  refine M.ts ((maps.take i).any (fun t => sameMpT t (maps.getD (i : Int).toNat default))) (fun h6 => ?_) (fun h6 => ?_)
  ·rw [h6] at hq; exact M.rq hq
  rw [h6] at hq
  refine M.rn [In64 ((i : Int) + 1)] [0, 1] hst ⟨⟨by omega, by omega⟩, trivial⟩ fun L3 => ?_
  exact M.bk [] (ih ⟨i + 1, hlt, hq⟩ L3 (by show maps.length - (i + 1) < maps.length - i; omega)) trivial
 ·rw [loop_nil (nlt_of_dec h1), mapsT] at hq
  refine M.cl (has_Ty_2' types 106 (.ptr [.ptr (tr w d s)]) (.ptr [row 2 Mp.pv maps]) (ntypeT w d s maps) rfl rfl fun y h => ntypeT_spec w d s maps y (ht y h) hl) ?_
  exact M.rq hq
def fzq (F : Nat -> Bool) : Nat -> Sig -> PV -> PV
 | 0, _, _ => .any
 | n + 1, σ, .ref i off =>
  if F i then
   match σ[i]? with
   | some cs => if isCells cs then .ptr ((cs.map (fzq F n σ)).drop off) else .any
   | none => .any
  else .any
 | n + 1, σ, .os _ i k m =>
  if F i then
   match σ[i]? with
   | some [.rws k' m' el] => if k' = k then .sl k m (fun j => (el j).map unr) else .any
   | _ => .any
  else .any
 | _ + 1, _, .rr _ _ _ _ => .any
 | _ + 1, _, .bm _ _ => .any
 | _ + 1, σ, .mr i =>
  if F i then
   match σ[i]? with
   | some [.mp ks mf] => .fm ks mf
   | _ => .any
  else .any
 | _ + 1, _, .mp _ _ => .any
 | _ + 1, _, .rws _ _ _ => .any
 | _ + 1, _, .dd => .any
 | _ + 1, _, .mps _ _ => .any
 | _ + 1, _, .rwf _ _ _ _ _ => .any
 | n + 1, σ, .agg cs => .agg (cs.map (fzq F n σ))
 | n + 1, σ, .tup cs => .tup (cs.map (fzq F n σ))
 | n + 1, σ, .fn g cs => .fn g (cs.map (fzq F n σ))
 | _ + 1, _, p => p
def fzqC (F : Nat -> Bool) : Nat -> Sig -> PV -> List Prop
 | 0, _, _ => []
 | n + 1, σ, .ref i _ =>
  if F i then
   match σ[i]? with
   | some cs => if isCells cs then joinC (fzqC F n σ) cs else []
   | none => []
  else []
 | _ + 1, σ, .os _ i _ m =>
  if F i then
   match σ[i]? with
   | some [.rws _ m' _] => [m <= m']
   | _ => []
  else []
 | n + 1, σ, .agg cs => joinC (fzqC F n σ) cs
 | n + 1, σ, .tup cs => joinC (fzqC F n σ) cs
 | n + 1, σ, .fn _ cs => joinC (fzqC F n σ) cs
 | _ + 1, _, _ => []
def fzk (F : Nat -> Bool) : Nat -> Sig -> PV -> PV
 | 0, _, _ => .any
 | n + 1, σ, .ref i off => if F i then fzq F (n + 1) σ (.ref i off) else .ref i off
 | n + 1, σ, .os e i k m => if F i then fzq F (n + 1) σ (.os e i k m) else .os e i k m
 | _ + 1, _, .rr i k j c => if F i then .any else .rr i k j c
 | _ + 1, _, .bm q i => if F i then .any else .bm q i
 | n + 1, σ, .mr i => if F i then fzq F (n + 1) σ (.mr i) else .mr i
 | n + 1, σ, .agg cs => .agg (cs.map (fzk F n σ))
 | n + 1, σ, .tup cs => .tup (cs.map (fzk F n σ))
 | n + 1, σ, .fn g cs => .fn g (cs.map (fzk F n σ))
 | _ + 1, _, p => p
def fzkC (F : Nat -> Bool) : Nat -> Sig -> PV -> List Prop
 | 0, _, _ => []
 | n + 1, σ, .ref i off => fzqC F (n + 1) σ (.ref i off)
 | n + 1, σ, .os e i k m => fzqC F (n + 1) σ (.os e i k m)
 | n + 1, σ, .agg cs => joinC (fzkC F n σ) cs
 | n + 1, σ, .tup cs => joinC (fzkC F n σ) cs
 | n + 1, σ, .fn _ cs => joinC (fzkC F n σ) cs
 | _ + 1, _, _ => []
section
variable {β β' : List (Option Nat)} {L L' : List Nat} {W : World} {σ : Sig} {F : Nat -> Bool}
theorem unr_R' {p : PV} {u : Value} (hF : ∀ g, Fb [] L' g -> Fb β L g) (h : R β L W p u) : R [] L' W (unr p) u := by
 unfold unr
 split
 ·rename_i hn; exact R.old hn hF h
 ·rw [R]; trivial
theorem fzq_R (hB : Bx β L W σ) (hF : ∀ g, Fb [] L' g -> Fb β L g) (hd : ∀ (i g : Nat), F i = true -> β[i]? = some (some g) -> (∃ cs, σ[i]? = some cs /\ isDd cs = false) -> g ∉ L') : ∀ (n : Nat) (p : PV) (u : Value), All (fzqC F n σ p) -> R β L W p u -> R [] L' W (fzq F n σ p) u
 | 0, p, u, _, _ => by rw [fzq, R]; trivial
 | n + 1, p, u, hcc, h => by
  have old : noRef p = true -> R [] L' W p u := fun hn => R.old hn hF h
  cases p with
  | ref i off =>
   rw [fzq]
   split
   case isFalse => rw [R]; trivial
   rename_i hi
   split
   ·rename_i cs hs
    split
    case isFalse => rw [R]; trivial
    rename_i hic
    have hcc' : All (joinC (fzqC F n σ) cs) := by simpa only [fzqC, hi, hs, hic, if_true] using hcc
    rw [R] at h
    obtain ⟨g, hg, e⟩ := h
    obtain ⟨g', t, us, hg', hh, h1, h2⟩ := hB.cells hs hic
    have : g' = g := by rw [hg] at hg'; exact (Option.some.inj (Option.some.inj hg')).symm
    subst this
    have hm : some g' ∈ β := List.mem_of_getElem? hg
    rw [R]
    refine ⟨g', off, us.drop off, e, ?_, hB.2.2.1 g' hm, fun x hx => h1 x (List.mem_of_mem_drop hx), (Rs.mapM (fun p hp u => fzq_R hB hF hd n p u (joinC_mem hcc' p hp)) h2).drop off, fun j x hx => ?_⟩
    ·rintro (h | h)
     ·simp at h
     ·exact hd i g' hi hg ⟨cs, hs, isDd_cells hic⟩ h
    ·rw [List.getElem?_drop] at hx
     simp only [World.cell?, hh]
     simpa using hx
   ·rw [R]; trivial
  | agg cs =>
   rw [fzq]
   rw [R] at h ⊢
   obtain ⟨us, e, h1, h2⟩ := h
   exact ⟨us, e, h1, Rs.mapM (fun p hp u => fzq_R hB hF hd n p u (joinC_mem (by simpa only [fzqC] using hcc) p hp)) h2⟩
  | tup cs =>
   rw [fzq]
   rw [R] at h ⊢
   obtain ⟨us, e, h2⟩ := h
   exact ⟨us, e, Rs.mapM (fun p hp u => fzq_R hB hF hd n p u (joinC_mem (by simpa only [fzqC] using hcc) p hp)) h2⟩
  | fn g cs =>
   rw [fzq]
   rw [R] at h ⊢
   obtain ⟨us, e, h2⟩ := h
   exact ⟨us, e, Rs.mapM (fun p hp u => fzq_R hB hF hd n p u (joinC_mem (by simpa only [fzqC] using hcc) p hp)) h2⟩
  | os ty i k m =>
   rw [fzq]
   split
   case isFalse => rw [R]; trivial
   rename_i hi
   split
   ·rename_i k' m' el hs
    split
    case isFalse => rw [R]; trivial
    rename_i hc
    subst hc
    have hm : m <= m' := by simp only [fzqC, hi, hs, if_true, All] at hcc; exact hcc.1
    rw [R] at h
    rcases h with ⟨g, c, hg, e, q1, q2, q3⟩ | ⟨_, hm0, a0, e⟩
    case inr => subst hm0; rw [R]; exact ⟨a0, 0, e, Nat.le_refl _, by omega, fun h => absurd h (Nat.lt_irrefl _)⟩
    obtain ⟨t, us, hh, h1, hl, h2⟩ := rws_out (hB.hold hs hg)
    have hmem : some g ∈ β := List.mem_of_getElem? hg
    rw [R]
    refine ⟨_, c, e, q1, q2, fun _ => ⟨g, 0, rfl, ?_, hB.2.2.1 g hmem, fun j hj => ⟨(us.drop (j * k')).take k', ?_, fun x hx => h1 x (List.mem_of_mem_drop (List.mem_of_mem_take hx)), ?_, fun i x hx => ?_⟩⟩⟩
    ·rintro (h | h)
     ·simp at h
     ·exact hd i g hi hg ⟨_, hs, rfl⟩ h
    ·rw [List.length_take, List.length_drop]
     have : j * k' + k' <= m' * k' := by rw [<- Nat.succ_mul]; exact Nat.mul_le_mul_right k' (Nat.lt_of_lt_of_le hj hm)
     omega
    ·have hF' : ∀ g, Fb [] (bs [] ++ L') g -> Fb β L g := fun g hg => hF g (fb_app.1 hg)
     exact Rs.map (fun p u => unr_R' hF') (h2 j (Nat.lt_of_lt_of_le hj hm))
    ·rw [List.getElem?_take] at hx
     split at hx
     ·rw [List.getElem?_drop] at hx
      simp only [World.cell?, hh]
      simpa using hx
     ·cases hx
   ·rw [R]; trivial
  | rr i k j c => rw [fzq, R]; trivial
  | bm q i => rw [fzq, R]; trivial
  | mr i =>
   rw [fzq]
   split
   case isFalse => rw [R]; trivial
   rename_i hi
   split
   ·rename_i ks mf hs
    rw [R] at h
    obtain ⟨g, hg, rfl⟩ := h
    obtain ⟨es, clock, hheap, hm⟩ := mp_out (hB.hold hs hg)
    have hmem : some g ∈ β := List.mem_of_getElem? hg
    rw [R]
    refine ⟨g, es, clock, rfl, ?_, hB.2.2.1 g hmem, hheap, hm⟩
    rintro (h | h)
    ·simp at h
    ·exact hd i g hi hg ⟨_, hs, rfl⟩ h
   ·rw [R]; trivial
  | mp _ _ => rw [fzq, R]; trivial
  | rws _ _ _ => rw [fzq, R]; trivial
  | dd => rw [fzq, R]; trivial
  | mps _ _ => rw [fzq, R]; trivial
  | rwf _ _ _ _ _ => rw [fzq, R]; trivial
  | fm ks mf => rw [fzq]; exact old rfl; all_goals simp
  | any => rw [fzq]; exact old rfl; all_goals simp
  | v x => rw [fzq]; exact old rfl; all_goals simp
  | sb x => rw [fzq]; exact old rfl; all_goals simp
  | sl k m el => rw [fzq]; exact old rfl; all_goals simp
  | ptr cs => rw [fzq]; exact old rfl; all_goals simp
  | abs S => rw [fzq]; exact old rfl; all_goals simp
  | o q => rw [fzq]; exact old rfl; all_goals simp
theorem fzk_R (hB : Bx β L W σ) (hsub : ∀ g, Fb β' L g -> Fb β L g) (hk : ∀ (i : Nat) (x : Option Nat), F i = false -> β[i]? = some x -> (∀ cs, σ[i]? = some cs -> isDd cs = false) -> β'[i]? = some x) (hnd : ∀ (i : Nat) (cs : List PV), σ[i]? = some cs -> isDd cs = false)
  (hd : ∀ (i g : Nat), F i = true -> β[i]? = some (some g) -> (∃ cs, σ[i]? = some cs /\ isDd cs = false) -> g ∉ bs β' ++ L) : ∀ (n : Nat) (p : PV) (u : Value), All (fzkC F n σ p) -> R β L W p u -> R β' L W (fzk F n σ p) u
 | 0, p, u, _, _ => by rw [fzk, R]; trivial
 | n + 1, p, u, hcc, h => by
  have hF' : ∀ g, Fb [] (bs β' ++ L) g -> Fb β L g := fun g hg => hsub g (fb_app.1 hg)
  have fq : All (fzqC F (n + 1) σ p) -> R β' L W (fzq F (n + 1) σ p) u := fun hc => R.own (fzq_R hB hF' hd (n + 1) p u hc h)
  have old : noRef p = true -> R β' L W p u := fun hn => R.old hn hsub h
  cases p with
  | ref i off =>
   rw [fzk]; split
   ·exact fq hcc
   ·rename_i hi
    rw [R] at h ⊢
    obtain ⟨g, hg, e⟩ := h
    exact ⟨g, hk i _ (by simpa using hi) hg (hnd i), e⟩
  | os e i k m =>
   rw [fzk]; split
   ·exact fq hcc
   ·rename_i hi
    rw [R] at h ⊢
    rcases h with ⟨g, c, hg, q⟩ | ⟨hg, q⟩
    ·exact .inl ⟨g, c, hk i _ (by simpa using hi) hg (hnd i), q⟩
    ·exact .inr ⟨hk i _ (by simpa using hi) hg (hnd i), q⟩
  | rr i k j c =>
   rw [fzk]; split
   ·rw [R]; trivial
   ·rename_i hi
    rw [R] at h ⊢
    obtain ⟨g, hg, e⟩ := h
    exact ⟨g, hk i _ (by simpa using hi) hg (hnd i), e⟩
  | bm q i =>
   rw [fzk]; split
   ·rw [R]; trivial
   ·rename_i hi
    rw [R] at h ⊢
    obtain ⟨g, hg, e⟩ := h
    exact ⟨g, hk i _ (by simpa using hi) hg (hnd i), e⟩
  | mr i =>
   rw [fzk]; split
   ·exact fq (by rw [fzqC]; trivial; all_goals simp)
   ·rename_i hi
    rw [R] at h ⊢
    obtain ⟨g, hg, e⟩ := h
    exact ⟨g, hk i _ (by simpa using hi) hg (hnd i), e⟩
  | agg l =>
   rw [fzk]
   rw [R] at h ⊢
   obtain ⟨vs, e, q1, q2⟩ := h
   exact ⟨vs, e, q1, Rs.mapM (fun p hp u => fzk_R hB hsub hk hnd hd n p u (joinC_mem (by simpa only [fzkC] using hcc) p hp)) q2⟩
  | tup l =>
   rw [fzk]
   rw [R] at h ⊢
   obtain ⟨vs, e, q2⟩ := h
   exact ⟨vs, e, Rs.mapM (fun p hp u => fzk_R hB hsub hk hnd hd n p u (joinC_mem (by simpa only [fzkC] using hcc) p hp)) q2⟩
  | fn f l =>
   rw [fzk]
   rw [R] at h ⊢
   obtain ⟨vs, e, q2⟩ := h
   exact ⟨vs, e, Rs.mapM (fun p hp u => fzk_R hB hsub hk hnd hd n p u (joinC_mem (by simpa only [fzkC] using hcc) p hp)) q2⟩
  | rws k m el => rw [R] at h; exact h.elim
  | mps _ _ => rw [R] at h; exact h.elim
  | rwf _ _ _ _ _ => rw [R] at h; exact h.elim
  | mp _ _ => rw [R] at h; exact h.elim
  | dd => rw [R] at h; exact h.elim
  | any => rw [fzk]; exact old rfl; all_goals simp
  | v x => rw [fzk]; exact old rfl; all_goals simp
  | sb x => rw [fzk]; exact old rfl; all_goals simp
  | sl k m el => rw [fzk]; exact old rfl; all_goals simp
  | ptr l => rw [fzk]; exact old rfl; all_goals simp
  | abs S => rw [fzk]; exact old rfl; all_goals simp
  | o q => rw [fzk]; exact old rfl; all_goals simp
  | fm ks mf => rw [fzk]; exact old rfl; all_goals simp
end
def fzS1 (F : Nat -> Bool) (σ : Sig) (l : List PV) : List PV := if isCells l then l.map (fzk F 8 σ) else l
def setF (is : List Nat) (i : Nat) : Bool := is.contains i
def frzBs (is : List Nat) (β : List (Option Nat)) : List (Option Nat) := (List.range β.length).map fun i => if setF is i then none else β.getD i none
def frzSs (is : List Nat) (σ : Sig) : Sig := (List.range σ.length).map fun i => if setF is i then [.dd] else fzS1 (setF is) σ (σ.getD i [])
def frzEs (is : List Nat) (σ : Sig) (E : Env) : Env := E.map fun q => (q.1, fzk (setF is) 8 σ q.2)
def frzOks (is : List Nat) (σ : Sig) : Bool :=
 σ.all (fun l => !isDd l) && (List.range σ.length).all fun i => setF is i || isCells (σ.getD i []) || (match σ.getD i [] with | [.mp _ _] => true | _ => false)
def frzCc (is : List Nat) (σ : Sig) : List Prop := ((List.range σ.length).map fun i => if setF is i then [] else if isCells (σ.getD i []) then joinC (fzkC (setF is) 8 σ) (σ.getD i []) else []).flatten
theorem lk_frzs (is : List Nat) (σ : Sig) (t : Nat) : ∀ E : Env, lk (frzEs is σ E) t = fzk (setF is) 8 σ (lk E t)
 | [] => rfl
 | q :: E => by
  show (if q.1 = t then fzk (setF is) 8 σ q.2 else lk (frzEs is σ E) t) = fzk (setF is) 8 σ (if q.1 = t then q.2 else lk E t)
  split
  ·rfl
  ·exact lk_frzs is σ t E
theorem lk_mem' (t : Nat) : ∀ E : Env, lk E t = .any \/ lk E t ∈ E.map (·.2)
 | [] => .inl rfl
 | q :: E => by
  unfold lk
  split
  ·exact .inr (List.mem_cons_self ..)
  ·rcases lk_mem' t E with h | h
   ·exact .inl h
   ·exact .inr (List.mem_cons_of_mem _ h)
section
variable {w0 : W0} {W : World} {L : List Nat} {β : List (Option Nat)} {σ : Sig} {N : Nat} {E : Env} {a : Act} {P : Program}
theorem frzB_at {is : List Nat} {β : List (Option Nat)} {i : Nat} : (frzBs is β)[i]? = if i < β.length then some (if setF is i then none else β.getD i none) else none := by
 unfold frzBs
 rw [List.getElem?_map]
 by_cases h : i < β.length
 ·rw [List.getElem?_range h, if_pos h]; rfl
 ·rw [List.getElem?_eq_none (by simpa using h), if_neg h]; rfl
theorem frzS_at {is : List Nat} {σ : Sig} {i : Nat} : (frzSs is σ)[i]? = if i < σ.length then some (if setF is i then [.dd] else fzS1 (setF is) σ (σ.getD i [])) else none := by
 unfold frzSs
 rw [List.getElem?_map]
 by_cases h : i < σ.length
 ·rw [List.getElem?_range h, if_pos h]; rfl
 ·rw [List.getElem?_eq_none (by simpa using h), if_neg h]; rfl
theorem frzB_some {is : List Nat} {β : List (Option Nat)} {i g : Nat} (h : (frzBs is β)[i]? = some (some g)) : setF is i = false /\ β[i]? = some (some g) := by
 rw [frzB_at] at h
 split at h
 ·rename_i hl
  simp only [Option.some.injEq] at h
  cases hf : setF is i with
  | true => rw [hf] at h; cases h
  | false =>
   rw [hf] at h
   refine ⟨rfl, ?_⟩
   simp only [Bool.false_eq_true, if_false] at h
   rw [List.getD_eq_getElem?_getD, List.getElem?_eq_getElem hl] at h
   rw [List.getElem?_eq_getElem hl]
   simpa using h
 ·cases h
theorem frzB_mem {is : List Nat} {β : List (Option Nat)} {g : Nat} (h : some g ∈ frzBs is β) : ∃ i, setF is i = false /\ β[i]? = some (some g) := by
 obtain ⟨i, hi, he⟩ := List.mem_iff_getElem.1 h
 exact ⟨i, frzB_some (by rw [List.getElem?_eq_getElem hi, he])⟩
theorem Inv.frzs (hI : Inv w0 L β σ N E a W) (hown : w0.own = []) {is : List Nat} (hok : frzOks is σ = true) (hc1 : All (joinC (fzkC (setF is) 8 σ) (E.map (·.2)))) (hc2 : All (frzCc is σ)) : Inv w0 L (frzBs is β) (frzSs is σ) N (frzEs is σ E) a W := by
 unfold frzOks at hok
 simp only [Bool.and_eq_true] at hok
 obtain ⟨hnd0, hkind⟩ := hok
 have hnd : ∀ (i : Nat) (cs : List PV), σ[i]? = some cs -> isDd cs = false := fun i cs hi => by
  have := List.all_eq_true.1 hnd0 cs (List.mem_of_getElem? hi)
  simpa using this
 have hsub : ∀ g, Fb (frzBs is β) L g -> Fb β L g := fun g hg => hg.imp (fun h => by obtain ⟨i, _, hi⟩ := frzB_mem h; exact List.mem_of_getElem? hi) id
 have hk : ∀ (i : Nat) (x : Option Nat), setF is i = false -> β[i]? = some x -> (∀ cs, σ[i]? = some cs -> isDd cs = false) -> (frzBs is β)[i]? = some x := fun i x hf hx _ => by
  have hl := (List.getElem?_eq_some_iff.1 hx).1
  rw [frzB_at, if_pos hl, hf]
  simp only [Bool.false_eq_true, if_false]
  rw [List.getD_eq_getElem?_getD, hx]; rfl
 have huniq : ∀ (i j g : Nat), β[i]? = some (some g) -> β[j]? = some (some g) -> i = j := fun i j g hi hj => by
  have hil : i < σ.length := by rw [<- hI.bx.1]; exact (List.getElem?_eq_some_iff.1 hi).1
  have hjl : j < σ.length := by rw [<- hI.bx.1]; exact (List.getElem?_eq_some_iff.1 hj).1
  have hsi : σ[i]? = some σ[i] := List.getElem?_eq_getElem hil
  have hsj : σ[j]? = some σ[j] := List.getElem?_eq_getElem hjl
  exact hI.bx.2.1 i j g _ _ hi hj hsi hsj (hnd i _ hsi) (hnd j _ hsj)
 have hd : ∀ (i g : Nat), setF is i = true -> β[i]? = some (some g) -> (∃ cs, σ[i]? = some cs /\ isDd cs = false) -> g ∉ bs (frzBs is β) ++ L := fun i g hf hg _ hm => by
  rcases List.mem_append.1 hm with hm | hm
  ·obtain ⟨j, hj, hgj⟩ := frzB_mem (mem_bs.1 hm)
   have := huniq i j g hg hgj
   subst this
   rw [hf] at hj; cases hj
  ·exact hI.dis g (List.mem_of_getElem? hg) hm
 have fr : ∀ (p : PV) (u : Value), All (fzkC (setF is) 8 σ p) -> R β L W p u -> R (frzBs is β) L W (fzk (setF is) 8 σ p) u := fun p u hc h => fzk_R hI.bx hsub hk hnd hd 8 p u hc h
 have hst : w0.stay = 0 := by
  have := congrArg List.length hI.pre.1
  rw [hown] at this
  simp at this
  have h2 := hI.pre.2
  rcases this with h | h
  ·exact h
  ·subst h; simpa using h2
 refine ⟨hI.bel, fun x hx => ?_, fun x hx => ⟨(hI.old x hx).1, fun h => ?_⟩, ⟨hI.inc.1, fun x hx => by rw [hown] at hx; simp at hx⟩, ⟨by rw [hst]; simp, by rw [hst]; exact Nat.zero_le _⟩,
  ⟨by simp [frzBs, frzSs, hI.bx.1], fun j k x c d hj hk' hcj hdk lc ld => ?_, fun x hx => ?_, fun j l hl => ?_⟩, ⟨hI.ev.1, fun t => ?_⟩, hI.nod, fun q hq => ⟨(hI.gho q hq).1, R.firsts (s := 0) (fun _ _ h => by omega) hsub _ _ (by have := (hI.gho q hq).1; rw [hst] at this; exact this) (hI.gho q hq).2⟩, hI.lim, hI.glo⟩
 ·obtain ⟨i, _, hi⟩ := frzB_mem hx; exact hI.new x (List.mem_of_getElem? hi)
 ·obtain ⟨i, _, hi⟩ := frzB_mem h; exact (hI.old x hx).2 (List.mem_of_getElem? hi)
 ·exact huniq j k x (frzB_some hj).2 (frzB_some hk').2
 ·obtain ⟨i, _, hi⟩ := frzB_mem hx; exact hI.bx.2.2.1 x (List.mem_of_getElem? hi)
 ·rw [frzS_at] at hl
  split at hl
  case isFalse => cases hl
  rename_i hjl
  simp only [Option.some.injEq] at hl
  subst hl
  cases hf : setF is j with
  | true =>
   refine ⟨none, ?_, by simp only [if_true]; exact HoldO.dd⟩
   rw [frzB_at, if_pos (by rw [hI.bx.1]; exact hjl), hf]; rfl
  | false =>
   simp only [Bool.false_eq_true, if_false]
   have hsj : σ[j]? = some σ[j] := List.getElem?_eq_getElem hjl
   have hgd : σ.getD j [] = σ[j] := by rw [List.getD_eq_getElem?_getD, hsj]; rfl
   obtain ⟨x, hx, hh⟩ := hI.bx.2.2.2 j _ hsj
   refine ⟨x, hk j x hf hx (hnd j), ?_⟩
   rw [hgd]
   have hkj := List.all_eq_true.1 hkind j (by simpa using hjl)
   rw [hf, hgd] at hkj
   simp only [Bool.false_or] at hkj
   unfold fzS1
   cases hic : isCells σ[j] with
   | true =>
    simp only [if_true]
    obtain ⟨g', t, us, hg', hh', q1, q2⟩ := hI.bx.cells hsj hic
    rw [hx] at hg'
    cases hg'
    have hcj : All (joinC (fzkC (setF is) 8 σ) σ[j]) := by
     unfold frzCc at hc2
     have : ∀ ps ∈ (List.range σ.length).map fun i => if setF is i then [] else if isCells (σ.getD i []) then joinC (fzkC (setF is) 8 σ) (σ.getD i []) else [], All ps := by
      intro ps hps
      revert hc2
      generalize (List.range σ.length).map (fun i => if setF is i then [] else if isCells (σ.getD i []) then joinC (fzkC (setF is) 8 σ) (σ.getD i []) else []) = LL at hps
      intro hc2
      induction LL with
      | nil => simp at hps
      | cons q LL ih =>
       rw [List.flatten_cons] at hc2
       obtain ⟨ha, hb⟩ := All_app.1 hc2
       rcases List.mem_cons.1 hps with rfl | hps
       ·exact ha
       ·exact ih hps hb
     have := this _ (List.mem_map.2 ⟨j, by simpa using hjl, rfl⟩)
     rw [hf, hgd, hic] at this
     simpa using this
    exact .cells _ t us hh' q1 (Rs.mapM (fun p hp u h => fr p u (joinC_mem hcj p hp) h) q2)
   | false =>
    simp only [Bool.false_eq_true, if_false]
    rw [hic] at hkj
    simp only [Bool.false_or] at hkj
    split at hkj
    ·rename_i ks mf e
     rw [e] at hh hsj ⊢
     cases x with
     | none =>
      rcases hh with ⟨k, el, h⟩ | h
      ·cases h
      ·cases h
     | some g =>
      obtain ⟨es, clock, hheap, hm⟩ := mp_out hh
      exact .mp _ _ es clock hheap hm
    ·cases hkj
 ·rw [lk_frzs]
  refine fr _ _ ?_ (hI.ev.2 t)
  rcases lk_mem' t E with h | h
  ·rw [h, fzkC]; trivial; all_goals simp
  ·exact joinC_mem hc1 _ h
end
def frzCfg (P : Program) (fn : Func) (c : Cfg) (is : List Nat) : Cfg :=
 let d := (stop P fn.ntmps c).2
 ⟨frzEs is d.σ d.E, frzSs is d.σ, d.todo, none⟩
section
variable {P : Program} {fn : Func} {w0 : W0} {L : List Nat} {Q : Exit -> Act -> World -> Prop} {c : Cfg}
theorem M.frzF (ps qs : List Prop) (is : List Nat) (hown : w0.own = []) (h : (stop P fn.ntmps c).1 = ps) (hp : All ps) (hdr : (stop P fn.ntmps c).2.dr = none) (hok : frzOks is (stop P fn.ntmps c).2.σ = true) (hqs : joinC (fzkC (setF is) 8 (stop P fn.ntmps c).2.σ) ((stop P fn.ntmps c).2.E.map (·.2)) ++ frzCc is (stop P fn.ntmps c).2.σ = qs) (hq : All qs) (k : M P fn w0 L Q (frzCfg P fn c is)) : M P fn w0 L Q c := by
 refine ⟨run_ok 3000 c (by rw [show (runC P fn.ntmps 3000 c).1 = ps from h]; exact hp) ?_⟩
 show OkF P fn w0 L Q (stop P fn.ntmps c).2
 have k := k.out
 unfold frzCfg at k
 rw [<- hqs] at hq
 clear hqs h
 generalize (stop P fn.ntmps c).2 = d at hdr hok hq k
 obtain ⟨E, σ, todo, dr⟩ := d
 simp only at hdr
 subst hdr
 intro β a W hI
 simp only at hok k hq
 exact k _ a W (hI.frzs hown hok (All_app.1 hq).1 (All_app.1 hq).2)
theorem Spec.startN {f : FuncId} {args : List PV} {r : PV} {cd : Code} (he : entersP P f = true) (hf : P.funcs[f]? = some fn) (hb : fn.body = some cd) (hn : Nat.ble args.length fn.ntmps = true)
  (k : ∀ w0 L, w0.stay = 0 -> w0.own = [] -> M P fn w0 L (Qf P fn w0 r) (startC args cd)) : Spec P f args r := Spec.startRN he hf hb hn fun w0 L h1 _ _ h2 => k w0 L h1 h2
end
theorem wcheckW_or (w : Wd) : wcheckW w = 0 \/ wcheckW w = 50 := by unfold wcheckW; cases validW w <;> simp
abbrev nilS : PV := .v (.slice none 0 0)
abbrev nilP : PV := .v (.pointer none)
abbrev noSeen : PV := .fm (.int .i64) (.b fun _ => none)
abbrev trS (w : Wd) : Sig := [[row 6 Ob.pv w.objs, row 9 Ac.pv w.acts, row 9 Cd.pv w.cds, I w.nO, I w.nA, nilS, .mr 1], [.mp (.int .i64) (.b fun _ => none)]]
theorem begun_ok (w : Wd) (hw : w.Ok) (h : wcheckW w = 0) : SpecM Tryz.prog 54 0 [] [.agg w.pv] (trS w) (.tup [.ref 0 0, I 0]) := by
 refine SpecM.start (by kernel_rfl) Tryz.func54 rfl rfl (Nat.le_refl _) fun w0 L hst => ?_
 refine M.cl (wcheck_spec w hw) ?_
 refine M.n (b := wcheckW w != 0) (by rw [h]; rfl) ?_
 exact M.retm [] [2, 1] hst rfl (by kernel_rfl) trivial rfl rfl
theorem begun_no (w : Wd) (hw : w.Ok) (h : wcheckW w = 50) : Spec Tryz.prog 54 [.agg w.pv] (.tup [nilP, I 50]) := by
 refine Spec.startL (by kernel_rfl) Tryz.func54 rfl rfl fun w0 L hst => ?_
 refine M.cl (wcheck_spec w hw) ?_
 refine M.ys (b := wcheckW w != 0) (by rw [h]; rfl) ?_
 exact M.ret (.tup [nilP, I (wcheckW w)]) (by kernel_rfl) (by rw [h])
def knownE (w : Wd) (maps : List Mp) (types : List Ty) : Int := bif wcheckW w == 0 then (bif factsT w nilS noSeen maps types then 0 else 140) else 50
structure FactsOk (maps : List Mp) (types : List Ty) : Prop where
 maps : ∀ m ∈ maps, ∀ x ∈ m.sl, In64 x.v.n
 types : ∀ y ∈ types, In64 y.v.n
theorem knownE_or (w : Wd) (maps : List Mp) (types : List Ty) : knownE w maps types = 0 /\ wcheckW w = 0 /\ factsT w nilS noSeen maps types = true \/ knownE w maps types ≠ 0 := by
 unfold knownE
 rcases wcheckW_or w with h | h
 ·rw [h]
  cases factsT w nilS noSeen maps types
  ·exact .inr (show (140 : Int) ≠ 0 by decide)
  ·exact .inl ⟨rfl, rfl, rfl⟩
 ·rw [h]; exact .inr (show (50 : Int) ≠ 0 by decide)
theorem known_ok (w : Wd) (hw : w.Ok) (maps : List Mp) (types : List Ty) (hf : FactsOk maps types) (h : wcheckW w = 0) (h2 : factsT w nilS noSeen maps types = true) : SpecM Tryz.prog 22 0 [] [.agg w.pv, row 2 Mp.pv maps, row 5 Ty.pv types] (trS w) (.tup [.ref 0 0, I 0]) := by
 refine SpecM.start (by kernel_rfl) Tryz.func22 rfl rfl (Nat.le_refl _) fun w0 L hst => ?_
 refine M.cm [] (begun_ok w hw h) ?_
 refine M.ys (b := (0 : Int) == 0) rfl ?_
 refine M.cl (factsT_spec w nilS noSeen maps types hf.maps hf.types hw.nobjs) ?_
 refine M.n (b := !factsT w nilS noSeen maps types) (by rw [h2]; rfl) ?_
 exact M.retm [] [1, 2] hst rfl (by kernel_rfl) trivial rfl rfl
theorem known_no (w : Wd) (hw : w.Ok) (maps : List Mp) (types : List Ty) (hf : FactsOk maps types) (h : knownE w maps types ≠ 0) : Spec Tryz.prog 22 [.agg w.pv, row 2 Mp.pv maps, row 5 Ty.pv types] (.tup [.any, I (knownE w maps types)]) := by
 refine Spec.startL (by kernel_rfl) Tryz.func22 rfl rfl fun w0 L hst => ?_
 rcases wcheckW_or w with hc | hc
 ·refine M.cm [] (begun_ok w hw hc) ?_
  refine M.ys (b := (0 : Int) == 0) rfl ?_
  refine M.cl (factsT_spec w nilS noSeen maps types hf.maps hf.types hw.nobjs) ?_
  have h2 : factsT w nilS noSeen maps types = false := by
   unfold knownE at h
   rw [hc] at h
   cases hx : factsT w nilS noSeen maps types
   ·rfl
   ·rw [hx] at h; exact absurd rfl h
  refine M.ys (b := !factsT w nilS noSeen maps types) (by rw [h2]; rfl) ?_
  have e : knownE w maps types = 140 := by unfold knownE; rw [hc, h2]; rfl
  rw [e]
  refine M.retw [] (.tup [.ptr (tr w nilS noSeen), I 140]) (by kernel_rfl) trivial fun L W u h => tup_to h fun us h => ?_
  obtain ⟨u0, us, rfl, h0, h⟩ := h.uncons
  exact Rs.cons (by rw [R]; trivial) h
 ·refine M.cl (begun_no w hw hc) ?_
  have e : knownE w maps types = 50 := by unfold knownE; rw [hc]; rfl
  rw [e]
  refine M.n (b := (50 : Int) == 0) rfl ?_
  refine M.retw [] (.tup [nilP, I 50]) (by kernel_rfl) trivial fun L W u h => tup_to h fun us h => ?_
  obtain ⟨u0, us, rfl, h0, h⟩ := h.uncons
  exact Rs.cons (by rw [R]; trivial) h
theorem objT_len (w : Wd) (hw : w.Ok) (n : Int) : (objT w n).1.sl.length <= 1000000 := by
 unfold objT
 cases hf : objF w n with
 | false => simp
 | true =>
  have hlt : objI w n < w.objs.length := by
   unfold objF at hf
   simp only [Bool.and_eq_true, decide_eq_true_eq] at hf
   exact hf.1
  have := (objI_in w n hw.nobjs).1
  exact (hw.objs _ (getD_mem (by omega))).nsl
def mapOfW (w : Wd) (n : Int) : Mp × Int := bif wcheckW w != 0 then (⟨0, []⟩, 50) else bif !(objT w n).2 then (⟨0, []⟩, 3) else (mapOfF (objT w n).1, 0)
theorem map_zero {e : Int} {L : List Nat} {W : World} {u : Value} (h : R [] L W (.tup [.agg [I 0, nilS], I e]) u) : R [] L W (.tup [.agg (Mp.mk 0 []).pv, I e]) u := tup_to h fun us h => by
 obtain ⟨u0, us, rfl, h0, h⟩ := h.uncons
 exact Rs.cons (agg_to (qs := (Mp.mk 0 []).pv) (.cons (fun _ h => h) (.cons (fun _ h => nil_row 5 Sl.pv h) .nil)) h0) h
theorem MapOf_spec (w : Wd) (hw : w.Ok) (n : Int) : Spec Tryz.prog 19 [.agg w.pv, I n] (.tup [.agg (mapOfW w n).1.pv, I (mapOfW w n).2]) := by
 refine Spec.startN (by kernel_rfl) Tryz.func19 rfl rfl fun w0 L hst hown => ?_
 unfold mapOfW
 rcases wcheckW_or w with h | h
 ·rw [h]
  refine M.cm [] (begun_ok w hw h) ?_
  refine M.n (b := (0 : Int) != 0) rfl ?_
  refine M.frzF [] [] [2, 3] hown (by kernel_rfl) trivial (by kernel_rfl) (by kernel_rfl) (by kernel_rfl) trivial ?_
  refine M.cl (tobj_spec w nilS noSeen n hw.nobjs) ?_
  refine M.ts (!(objT w n).2) (fun h2 => ?_) (fun h2 => ?_)
  ·rw [h2]
   exact M.retw [] (.tup [.agg [I 0, nilS], I 3]) (by kernel_rfl) trivial fun L W u h => map_zero h
  ·rw [h2]
   refine M.cl (mapOf_spec (objT w n).1 (objT_len w hw n)) ?_
   exact M.ret (.tup [.agg (mapOfF (objT w n).1).pv, I 0]) (by kernel_rfl) rfl
 ·rw [h]
  refine M.cl (begun_no w hw h) ?_
  refine M.ys (b := (50 : Int) != 0) rfl ?_
  exact M.retw [] (.tup [.agg [I 0, nilS], I 50]) (by kernel_rfl) trivial fun L W u h => map_zero h
def holdsT (w : Wd) (x : Dp) : Bool :=
 bif !(objT w x.oid).2 then false else bif x.whole then mpEq (mapOfF (objT w x.oid).1) x.map else
 bif decide (x.slot >= 0) then (bif decide (x.slot < ((objT w x.oid).1.sl.length : Int)) then vlEq ((objT w x.oid).1.sl.getD x.slot.toNat default).v x.v else false) else false
theorem holdsT_spec (w : Wd) (hw : w.Ok) (d s : PV) (x : Dp) : Spec Tryz.prog 71 [.ptr (tr w d s), .agg x.pv] (.sb (holdsT w x)) := by
 refine Spec.startL (by kernel_rfl) Tryz.func71 rfl rfl fun w0 L hst => ?_
 refine M.cl (tobj_spec w d s x.oid hw.nobjs) ?_
 refine M.tq (r := holdsT w x) rfl (fun h1 q1 => M.rq q1) (fun h1 q1 => ?_)
 refine M.tq q1 (fun h2 q2 => ?_) (fun h2 q2 => ?_)
 ·refine M.cl (mapOf_spec (objT w x.oid).1 (objT_len w hw x.oid)) ?_
  refine M.cl (sameMap_spec (mapOfF (objT w x.oid).1) x.map) ?_
  exact M.rq q2
 refine M.tq q2 (fun h3 q3 => ?_) (fun h3 q3 => M.rq q3)
 refine M.tq q3 (fun h4 q4 => ?_) (fun h4 q4 => M.rq q4)
 exact M.rqp [0 <= x.slot /\ x.slot < ((objT w x.oid).1.sl.length : Int)] ⟨⟨of_decide_eq_true h3, of_decide_eq_true h4⟩, trivial⟩ q4
def HoldsW (w : Wd) (x : Dp) : Bool × Int := bif wcheckW w != 0 then (false, 50) else (holdsT w x, 0)
theorem Holds_spec (w : Wd) (hw : w.Ok) (x : Dp) : Spec Tryz.prog 29 [.agg w.pv, .agg x.pv] (.tup [.sb (HoldsW w x).1, I (HoldsW w x).2]) := by
 refine Spec.startL (by kernel_rfl) Tryz.func29 rfl rfl fun w0 L hst => ?_
 unfold HoldsW
 rcases wcheckW_or w with h | h
 ·rw [h]
  refine M.cm [] (begun_ok w hw h) ?_
  refine M.n (b := (0 : Int) != 0) rfl ?_
  refine M.cl (holdsT_spec w hw nilS noSeen x) ?_
  exact M.ret (.tup [.sb (holdsT w x), I 0]) (by kernel_rfl) rfl
 ·rw [h]
  refine M.cl (begun_no w hw h) ?_
  refine M.ys (b := (50 : Int) != 0) rfl ?_
  exact M.ret (.tup [.sb false, I 50]) (by kernel_rfl) rfl
def ceasesT (w v : Wd) (x : Dp) : Bool := bif holdsT w x then !holdsT v x else false
theorem ceases_spec (w v : Wd) (hw : w.Ok) (hv : v.Ok) (x : Dp) : Spec Tryz.prog 56 [.agg w.pv, .agg v.pv, .agg x.pv] (.sb (ceasesT w v x)) := by
 refine Spec.startL (by kernel_rfl) Tryz.func56 rfl rfl fun w0 L hst => ?_
 refine M.cl (holdsT_spec w hw nilS (.v (.map none)) x) ?_
 refine M.tq (r := ceasesT w v x) rfl (fun h1 q1 => ?_) (fun h1 q1 => M.rq q1)
 refine M.cl (holdsT_spec v hv nilS (.v (.map none)) x) ?_
 exact M.rq q1
theorem SpecM.conv {P : Program} {f : FuncId} {m : Nat} {σ σ' : Sig} {args : List PV} {r r' : PV} (h : SpecM P f m σ args σ' r) (hr : ∀ β L W u, R β L W r u -> R β L W r' u) : SpecM P f m σ args σ' r' :=
 ⟨h.1, h.2.1, fun L β W vs hL hG hB hR => (h.2.2 L β W vs hL hG hB hR).mono fun e W' ⟨u, γ, L1, he, hu, hk⟩ => ⟨u, γ, L1, he, hr γ L1 W' u hu, hk⟩⟩
theorem nil_rowB {α : Type} [Inhabited α] (k : Nat) (f : α -> List PV) {β : List (Option Nat)} {L : List Nat} {W : World} {u : Value} (h : R β L W (.v (.slice none 0 0)) u) : R β L W (row k f []) u := by
 rw [R] at h
 subst h
 rw [R]
 exact ⟨none, 0, rfl, Nat.le_refl _, by omega, fun h => absurd h (Nat.lt_irrefl _)⟩
theorem tup_toB {ps qs : List PV} {β : List (Option Nat)} {L : List Nat} {W : World} {u : Value} (h : R β L W (.tup ps) u) (hc : ∀ us, Rs β L W ps us -> Rs β L W qs us) : R β L W (.tup qs) u := by
 rw [R] at h ⊢
 obtain ⟨us, e, h⟩ := h
 exact ⟨us, e, hc us h⟩
end Go.Proofs.YtplpnfjccemdnaaGreatDoor
