import Derived.Test.YtplpnfjccemdnaaGreatDoorJ29
set_option linter.unusedVariables false
set_option linter.unusedSimpArgs false
/- The texts S11 S12 S13 S14 S15 S16 S17 of the proof, laid one behind the other. -/
namespace Go.Proofs.YtplpnfjccemdnaaGreatDoor
open Go.RowKit
theorem lresend_spec {u : Wd} (hu : u.Ok) (hc : wcheckW u = 0) (n : Int) (sel : List UInt8) (hsel : sel.length <= 1000000000) (h2 : (objT u n).2 = true) (h3 : decide (carityP sel < 0) = false) {U : List Int} (hU : Clo u U) (hn : ∀ v ∈ parL (objT u n).1.sl, startF v ∈ U) (f : Nat) (hf : U.length < f) (hf2 : f <= 900000) :
  Spec Tryz.prog 16 [.agg u.pv, I n, S sel] (.tup [.agg (fdP (fdOf (upL u sel f (parL (objT u n).1.sl) s0L).2.2)), I 0]) := by
 obtain ⟨r1, r2⟩ := room0 hU
 refine Spec.startN (by kernel_rfl) Tryz.func16 rfl rfl fun w0 L hst hown => ?_
 refine M.cm [] (holder_ok u hu n sel hc h2 h3) ?_
 refine M.n (b := (0 : Int) != 0) rfl ?_
 refine M.nilC [] 3 1 (fun j => [I (([] : List Int).getD j default)]) 2 3 (by kernel_rfl) trivial (by kernel_rfl) (by kernel_rfl) ?_
 refine M.nilC [] 154 4 (fun j => htV (([] : List Fo).getD j default)) 2 4 (by kernel_rfl) trivial (by kernel_rfl) (by kernel_rfl) ?_
 refine M.cm [2, 3, 5, 6] (lupN (lkW_of hu hc hU) hsel f s0L (objT u n).1 (objT_len u hu n) (fun v hv => ⟨hn v hv, parT_val hu (valid_parts hc) n hv⟩) (by omega) r2 hf2) ?_
 refine M.clp [(upL u sel f (parL (objT u n).1.sl) s0L).2.1.length <= (upL u sel f (parL (objT u n).1.sl) s0L).2.1.length, (upL u sel f (parL (objT u n).1.sl) s0L).2.2.length <= (upL u sel f (parL (objT u n).1.sl) s0L).2.2.length] ⟨Nat.le_refl _, Nat.le_refl _, trivial⟩ (found_spec u sel (upL u sel f (parL (objT u n).1.sl) s0L)) ?_
 exact M.ret (.tup [.agg (fdP (fdOf (upL u sel f (parL (objT u n).1.sl) s0L).2.2)), I 0]) (by kernel_rfl) rfl
def dirF (nm : List UInt8) (s : Sl) : Bool := bif s.nm == nm then isPar s else false
theorem ldir1_spec (nm : List UInt8) (s : Sl) : Spec Tryz.prog 48 [.agg s.pv, .ptr [S nm]] (.sb (dirF nm s)) := by
 refine Spec.startL (by kernel_rfl) Tryz.func48 rfl rfl fun w0 L hst => ?_
 refine M.tq (r := dirF nm s) rfl (fun h1 q1 => ?_) (fun h1 q1 => M.rq q1)
 refine M.cl (leads_spec s) ?_
 exact M.rq q1
theorem lit1_any (p : PV) {β : List (Option Nat)} {L : List Nat} {W : World} {u : Value} (h : R β L W (lit1 1 [p]) u) : R β L W litP u := by
 rw [R] at h ⊢
 obtain ⟨a, c, rfl, h1, h2, h3⟩ := h
 refine ⟨a, c, rfl, h1, h2, fun h0 => ?_⟩
 obtain ⟨b, off, rfl, q1, q2, q3⟩ := h3 h0
 refine ⟨b, off, rfl, q1, q2, fun j hj => ?_⟩
 obtain ⟨us, e1, e2, e3, e4⟩ := q3 j hj
 refine ⟨us, e1, e2, ?_, e4⟩
 match us, e1 with
 | [x], _ => exact .cons (by rw [R]; trivial) .nil
theorem lvis1 {w : Wd} {sel : List UInt8} {s s' : StL} {n : Int} (i : Int) (h : SpecM Tryz.prog 31 2 (visS w sel s) [.ref 0 0, I n, litP] (visS w sel s') (.tup [])) : SpecM Tryz.prog 31 2 (visS w sel s) [.ref 0 0, I n, lit1 1 [I i]] (visS w sel s') (.tup []) :=
 h.args fun β L W vs h => by
  obtain ⟨u0, us, rfl, q0, h⟩ := h.uncons
  obtain ⟨u1, us, rfl, q1, h⟩ := h.uncons
  obtain ⟨u2, us, rfl, q2, h⟩ := h.uncons
  exact .cons q0 (.cons q1 (.cons (lit1_any _ q2) h))
theorem ldirected_spec {u : Wd} (hu : u.Ok) (hc : wcheckW u = 0) (n : Int) (nm sel : List UInt8) (hsel : sel.length <= 1000000000) (h2 : (objT u n).2 = true) (h3 : decide (carityP sel < 0) = false) (h4 : decide (fstI (dirF nm) (objT u n).1.sl < 0) = false) {U : List Int} (hU : Clo u U) (hn : ∀ v ∈ parL (objT u n).1.sl, startF v ∈ U) (f : Nat) (hf : U.length < f) (hf2 : f <= 900000) :
  Spec Tryz.prog 17 [.agg u.pv, I n, S nm, S sel] (.tup [.agg (fdP (fdOf (visL u sel f s0L (startF ((objT u n).1.sl.getD (fstI (dirF nm) (objT u n).1.sl).toNat default).v)).2.2)), I 0]) := by
 obtain ⟨r1, r2⟩ := room0 hU
 have hi0 : 0 <= fstI (dirF nm) (objT u n).1.sl := by have := of_decide_eq_false h4; omega
 have hi1 := fstI_lt (dirF nm) (objT u n).1.sl
 obtain ⟨s, q1, q2⟩ := fst_at (p := dirF nm) (l := (objT u n).1.sl) hi0
 have hgd : (objT u n).1.sl.getD (fstI (dirF nm) (objT u n).1.sl).toNat default = s := by rw [List.getD_eq_getElem?_getD, q1]; rfl
 have hpar : s.v ∈ parL (objT u n).1.sl := List.mem_map.2 ⟨s, List.mem_filter.2 ⟨List.mem_of_getElem? q1, (bif_and q2).2⟩, rfl⟩
 obtain ⟨hval, h64⟩ := parT_val hu (valid_parts hc) n hpar
 rw [hgd]
 refine Spec.startN (by kernel_rfl) Tryz.func17 rfl rfl fun w0 L hst hown => ?_
 refine M.cm [] (holder_ok u hu n sel hc h2 h3) ?_
 refine M.n (b := (0 : Int) != 0) rfl ?_
 refine M.cl (idx_Slot_1' (objT u n).1.sl 48 (.ptr [S nm]) (dirF nm) rfl fun x _ => ldir1_spec nm x) ?_
 refine M.n (b := decide (fstI (dirF nm) (objT u n).1.sl < 0)) h4 ?_
 refine M.clp [0 <= fstI (dirF nm) (objT u n).1.sl /\ fstI (dirF nm) (objT u n).1.sl < ((objT u n).1.sl.length : Int)] ⟨⟨hi0, hi1⟩, trivial⟩ (gstart_spec u (valid_sorted hu hc).1 ((objT u n).1.sl.getD (fstI (dirF nm) (objT u n).1.sl).toNat default).v (by rw [hgd]; exact h64)) ?_
 rw [hgd, gstW_of hval]
 refine M.nilC [] 3 1 (fun j => [I (([] : List Int).getD j default)]) 3 3 (by kernel_rfl) trivial (by kernel_rfl) (by kernel_rfl) ?_
 refine M.nilC [] 154 4 (fun j => htV (([] : List Fo).getD j default)) 3 4 (by kernel_rfl) trivial (by kernel_rfl) (by kernel_rfl) ?_
 refine M.cm [3, 4, 6, 7] (lvis1 (fstI (dirF nm) (objT u n).1.sl) (lvisL (lkW_of hu hc hU) hsel f s0L (startF s.v) (hn s.v hpar) (by omega) r2 hf2)) ?_
 refine M.clp [(visL u sel f s0L (startF s.v)).2.1.length <= (visL u sel f s0L (startF s.v)).2.1.length, (visL u sel f s0L (startF s.v)).2.2.length <= (visL u sel f s0L (startF s.v)).2.2.length] ⟨Nat.le_refl _, Nat.le_refl _, trivial⟩ (found_spec u sel (visL u sel f s0L (startF s.v))) ?_
 exact M.ret (.tup [.agg (fdP (fdOf (visL u sel f s0L (startF s.v)).2.2)), I 0]) (by kernel_rfl) rfl
theorem idx_Dep_1 (l : List Dp) (g : Nat) (q0 : PV) (p : Dp -> Bool) (hg : ∀ x ∈ l, Spec Tryz.prog g [.agg x.pv, .o q0] (.sb (p x))) :
  Spec Tryz.prog 121 [row 8 Dp.pv l, .fn g [.o q0]] (I (fstI p l)) := by
 refine Spec.fact (by kernel_rfl) 0 rfl fun hf => ?_
 have hl : l.length <= 9223372036854775807 := hf.1
 refine Spec.start (by kernel_rfl) Tryz.func121 rfl rfl fun w0 L => ?_
 refine M.loop (ι := {i : Nat // i <= l.length /\ noneB p l i}) (fun i => [(0, row 8 Dp.pv l), (1, .fn g [.o q0]), (7, I l.length), (8, I i.1)]) (fun _ => []) (fun i => l.length - i.1) ⟨0, Nat.zero_le _, noneB_zero p l⟩ [] (by kernel_rfl) trivial (by kernel_rfl) (by kernel_rfl) fun ⟨i, hi, hb⟩ ih => ?_
 refine M.ts (decide ((i : Int) < (l.length : Int))) (fun h1 => ?_) (fun h1 => ?_)
 ·have hlt : i < l.length := by simpa using h1
  have hs := hg _ (List.getElem_mem hlt)
  rw [<- getD_nat hlt] at hs
  refine M.callp [0 <= (i : Int) /\ (i : Int) < (l.length : Int)] hs (by kernel_rfl) ⟨by omega, trivial⟩ (by kernel_rfl) ?_
  refine M.ts (p (l.getD (i : Int).toNat default)) (fun h2 => ?_) (fun h2 => ?_)
  ·rw [getD_nat hlt] at h2
   exact M.ret (I i) (by kernel_rfl) (by rw [fstI_at hlt hb h2])
  ·rw [getD_nat hlt] at h2
   exact M.bk [In64 ((i : Int) + 1)] (ih ⟨i + 1, hlt, noneB_step hlt hb h2⟩ (by show l.length - (i + 1) < l.length - i; omega)) ⟨⟨by omega, by omega⟩, trivial⟩
 ·exact M.ret (I (-1)) (by kernel_rfl) (by rw [fstI_no (by simpa using h1) hb])
theorem has_Dep_1 (l : List Dp) (g : Nat) (q0 : PV) (p : Dp -> Bool) (hg : ∀ x ∈ l, Spec Tryz.prog g [.agg x.pv, .o q0] (.sb (p x))) :
  Spec Tryz.prog 80 [row 8 Dp.pv l, .fn g [.o q0]] (.sb (l.any p)) := by
 refine Spec.start (by kernel_rfl) Tryz.func80 rfl rfl fun w0 L => ?_
 refine M.call (idx_Dep_1 l g q0 p hg) (by kernel_rfl) (by kernel_rfl) ?_
 exact M.retb (decide (fstI p l >= 0)) (by kernel_rfl) (fstI_any p l)
theorem has_Dep_1' (l : List Dp) (g : Nat) (q0 : PV) (p : Dp -> Bool) (h0 : oneP q0 = true) (hg : ∀ x ∈ l, Spec Tryz.prog g [.agg x.pv, q0] (.sb (p x))) :
  Spec Tryz.prog 80 [row 8 Dp.pv l, .fn g [q0]] (.sb (l.any p)) :=
 Spec.capO (ax := [row 8 Dp.pv l]) (qs := [q0]) (bs := []) (by simp [h0]) (has_Dep_1 l g q0 p fun x hx => Spec.unO (ax := [.agg x.pv]) (qs := [q0]) (hg x hx))
def sdEq (a b : Dp) : Bool := bif a.oid == b.oid then (bif a.whole == b.whole then (bif a.slot == b.slot then (bif vlEq a.v b.v then mpEq a.map b.map else false) else false) else false) else false
theorem sdEq_iff {a b : Dp} : sdEq a b = true ↔ a = b := by
 obtain ⟨a1, a2, a3, a4, a5⟩ := a
 obtain ⟨b1, b2, b3, b4, b5⟩ := b
 constructor
 ·intro h
  unfold sdEq at h
  have h1 := bif_and h
  have h2 := bif_and h1.2
  have h3 := bif_and h2.2
  have h4 := bif_and h3.2
  have e1 : a1 = b1 := by simpa using h1.1
  have e2 : a2 = b2 := by simpa using h2.1
  have e3 : a4 = b4 := by simpa using h3.1
  have e4 : a5 = b5 := vlEq_iff.1 h4.1
  have e5 : a3 = b3 := mpEq_iff.1 h4.2
  rw [e1, e2, e3, e4, e5]
 ·intro h
  rw [h]
  unfold sdEq
  simp [vlEq_iff.2 rfl, mpEq_iff.2 rfl]
theorem dsame_spec (a b : Dp) : Spec Tryz.prog 82 [.agg a.pv, .agg b.pv] (.sb (sdEq a b)) := by
 refine Spec.startL (by kernel_rfl) Tryz.func82 rfl rfl fun w0 L hst => ?_
 refine M.tq (r := sdEq a b) rfl (fun h1 q1 => ?_) (fun h1 q1 => M.rq q1)
 refine M.tq q1 (fun h2 q2 => ?_) (fun h2 q2 => M.rq q2)
 refine M.tq q2 (fun h3 q3 => ?_) (fun h3 q3 => M.rq q3)
 refine M.tq q3 (fun h4 q4 => ?_) (fun h4 q4 => M.rq q4)
 refine M.cl (sameMap_spec a.map b.map) ?_
 exact M.rq q4
theorem once1_spec (x d : Dp) : Spec Tryz.prog 81 [.agg x.pv, .ptr d.pv] (.sb (sdEq x d)) := by
 refine Spec.startL (by kernel_rfl) Tryz.func81 rfl rfl fun w0 L hst => ?_
 refine M.cl (dsame_spec x d) ?_
 exact M.rq (r := sdEq x d) rfl
def onceA (acc : List Dp) (d : Dp) : List Dp := bif !acc.any (fun x => sdEq x d) then acc ++ [d] else acc
def onceL (D : List Dp) : List Dp := D.foldl onceA []
theorem onceA_mem {acc : List Dp} {d x : Dp} : x ∈ onceA acc d ↔ x ∈ acc \/ x = d := by
 unfold onceA
 cases h : acc.any (fun x => sdEq x d) with
 | true =>
  obtain ⟨y, hy, e⟩ := List.any_eq_true.1 h
  have e := sdEq_iff.1 e
  subst e
  show x ∈ acc ↔ _
  exact ⟨.inl, fun h => h.elim id fun e => e ▸ hy⟩
 | false =>
  show x ∈ acc ++ [d] ↔ _
  simp
theorem foldl_mem {x : Dp} : ∀ (D acc : List Dp), x ∈ D.foldl onceA acc ↔ x ∈ acc \/ x ∈ D
 | [], acc => by simp
 | d :: D, acc => by rw [List.foldl_cons, foldl_mem D, onceA_mem, List.mem_cons, or_assoc]
theorem onceL_mem {D : List Dp} {x : Dp} : x ∈ onceL D ↔ x ∈ D := by unfold onceL; rw [foldl_mem]; simp
theorem foldl_len : ∀ (D acc : List Dp), (D.foldl onceA acc).length <= acc.length + D.length
 | [], acc => Nat.le_refl _
 | d :: D, acc => by
  rw [List.foldl_cons]
  have := foldl_len D (onceA acc d)
  have h2 : (onceA acc d).length <= acc.length + 1 := by
   unfold onceA
   cases !acc.any (fun x => sdEq x d)
   ·exact Nat.le_succ _
   ·show (acc ++ [d]).length <= _; simp
  simp only [List.length_cons]; omega
theorem onceL_take {D : List Dp} {i : Nat} (h : i < D.length) : onceL (D.take (i + 1)) = onceA (onceL (D.take i)) (D.getD (i : Int).toNat default) := by
 unfold onceL
 rw [(take_snoc h).1, List.foldl_append]; rfl
theorem once_spec (w : Wd) (D : List Dp) (s : PV) (hD : (D.length + 1) * 88 <= 140737488355328) : Spec Tryz.prog 39 [.ptr (tr w (row 8 Dp.pv D) s)] (row 8 Dp.pv (onceL D)) := by
 refine Spec.startL (by kernel_rfl) Tryz.func39 rfl rfl fun w0 L hst => ?_
 refine M.nilT [] 70 8 (fun j => Dp.pv (([] : List Dp).getD j default)) 3 (by kernel_rfl) trivial (by kernel_rfl) (by kernel_rfl) ?_
 refine M.loopL (ι := {i : Nat // i <= D.length}) (fun i => [(3, .os 70 0 8 (onceL (D.take i.1)).length), (9, row 8 Dp.pv D), (10, I D.length), (11, I i.1)]) (fun i => [[.rws 8 (onceL (D.take i.1)).length (fun j => Dp.pv ((onceL (D.take i.1)).getD j default))]]) (fun i => D.length - i.1) ⟨0, Nat.zero_le _⟩ [] (by kernel_rfl) trivial (by kernel_rfl) (by kernel_rfl) fun ⟨i, hi⟩ L ih => ?_
 refine M.ts (decide ((i : Int) < (D.length : Int))) (fun h1 => ?_) (fun h1 => ?_)
 ·have hlt : i < D.length := by simpa using h1
  have htk := onceL_take hlt
  have hln : (onceL (D.take i)).length <= D.length := by
   have := foldl_len (D.take i) []
   have h2 : (D.take i).length <= D.length := by rw [List.length_take]; omega
   simp only [List.length_nil] at this
   unfold onceL; omega
  refine M.clp [0 <= (i : Int) /\ (i : Int) < (D.length : Int), (onceL (D.take i)).length <= (onceL (D.take i)).length] ⟨by omega, Nat.le_refl _, trivial⟩ (has_Dep_1' (onceL (D.take i)) 81 (.ptr (D.getD (i : Int).toNat default).pv) (fun x => sdEq x (D.getD (i : Int).toNat default)) rfl fun x _ => once1_spec x (D.getD (i : Int).toNat default)) ?_
  unfold onceA at htk
  refine M.ts (!(onceL (D.take i)).any (fun x => sdEq x (D.getD (i : Int).toNat default))) (fun h2 => ?_) (fun h2 => ?_)
  ·rw [h2, cond_true] at htk
   refine M.rn [(onceL (D.take i)).length = (onceL (D.take i)).length /\ 0 < 1 /\ (onceL (D.take i)).length + 1 <= 9223372036854775807 /\ ((onceL (D.take i)).length + 1) * 88 <= 140737488355328, In64 ((i : Int) + 1)] [2] hst ⟨⟨rfl, by omega, by omega, by omega⟩, ⟨by omega, by omega⟩, trivial⟩ fun L' => ?_
   have kk := ih ⟨i + 1, hlt⟩ L' (by show D.length - (i + 1) < D.length - i; omega)
   simp only [htk, List.length_append, List.length_cons, List.length_nil] at kk
   refine M.sig [] [[.rws 8 ((onceL (D.take i)).length + 1) (fun j => (joinEl (fun j => Dp.pv ((onceL (D.take i)).getD j default)) (onceL (D.take i)).length (fun j => ((Dp.pv (D.getD (i : Int).toNat default)).drop (j * 8)).take 8) j).map (renP (invF [2] 0) 7))]] [[.rws 8 ((onceL (D.take i)).length + 1) (fun j => Dp.pv ((onceL (D.take i) ++ [D.getD (i : Int).toNat default]).getD j default))]] (by kernel_rfl) trivial (by kernel_rfl) (by kernel_rfl) (.cons (by
    have := app_snoc (k := 8) (f := Dp.pv) (onceL (D.take i)) (D.getD (i : Int).toNat default) (ds := Dp.pv (D.getD (i : Int).toNat default)) (g := renP (invF [2] 0) 7) rfl (fun x => rfl) rfl
    rwa [List.length_append, List.length_cons, List.length_nil] at this) .nil) ?_
   exact M.bk [] kk trivial
  ·rw [h2, cond_false] at htk
   refine M.rn [In64 ((i : Int) + 1)] [0] hst ⟨⟨by omega, by omega⟩, trivial⟩ fun L' => ?_
   have kk := ih ⟨i + 1, hlt⟩ L' (by show D.length - (i + 1) < D.length - i; omega)
   simp only [htk] at kk
   exact M.bk [] kk trivial
 ·have : i = D.length := by have := of_decide_eq_false h1; omega
  subst this
  have e : D.take D.length = D := List.take_length
  simp only [e]
  exact M.retp [(onceL D).length <= (onceL D).length] (row 8 Dp.pv (onceL D)) (by kernel_rfl) ⟨Nat.le_refl _, trivial⟩ rfl
theorem parent1_spec (nm : List UInt8) (s : Sl) : Spec Tryz.prog 83 [.agg s.pv, .ptr [S nm]] (.sb (dirF nm s)) := by
 refine Spec.startL (by kernel_rfl) Tryz.func83 rfl rfl fun w0 L hst => ?_
 refine M.ts (s.nm == nm) (fun h1 => ?_) (fun h1 => M.retb false (by kernel_rfl) (by unfold dirF; rw [h1]; rfl))
 refine M.ts (s.kd == 3) (fun h2 => M.retb true (by kernel_rfl) (by unfold dirF isPar; rw [h1, h2]; rfl)) (fun h2 => ?_)
 exact M.retb (s.kd == 4) (by kernel_rfl) (by unfold dirF isPar; rw [h1, h2]; rfl)
theorem parent_spec (o : Ob) (nm : List UInt8) : Spec Tryz.prog 40 [.agg o.pv, S nm] (I (fstI (dirF nm) o.sl)) := by
 refine Spec.startL (by kernel_rfl) Tryz.func40 rfl rfl fun w0 L hst => ?_
 refine M.cl (idx_Slot_1' o.sl 83 (.ptr [S nm]) (dirF nm) rfl fun x _ => parent1_spec nm x) ?_
 exact M.ret (I (fstI (dirF nm) o.sl)) (by kernel_rfl) rfl
theorem holding_ok (w : Wd) (hw : w.Ok) (n : Int) (sel : List UInt8) (h : wcheckW w = 0) (h2 : (objT w n).2 = true) (h3 : decide (carityP sel < 0) = false) : SpecM Tryz.prog 34 0 [] [.agg w.pv, I n, S sel] (trM w sf0 []) (.tup [.ref 0 0, .agg (objT w n).1.pv, I 0]) := by
 refine SpecM.start (by kernel_rfl) Tryz.func34 rfl rfl (Nat.le_refl _) fun w0 L hst => ?_
 refine M.cm [] (begun_ok w hw h) ?_
 refine M.n (b := (0 : Int) != 0) rfl ?_
 refine M.nilC [] 70 8 (fun j => Dp.pv (([] : List Dp).getD j default)) 2 5 (by kernel_rfl) trivial (by kernel_rfl) (by kernel_rfl) ?_
 refine M.cm [2, 3, 4] (tobjM w sf0 [] n hw.nobjs) ?_
 refine M.n (b := !(objT w n).2) (by rw [h2]; rfl) ?_
 refine M.cl (carity_spec sel) ?_
 refine M.n (b := decide (carityP sel < 0)) h3 ?_
 exact M.retm [] [2, 3, 4] hst rfl (by kernel_rfl) trivial rfl rfl
def holdE (w : Wd) (n : Int) (sel : List UInt8) : Int := bif wcheckW w != 0 then 50 else bif !(objT w n).2 then 3 else bif decide (carityP sel < 0) then 1 else 0
abbrev obZ : List PV := [I 0, I 0, nilS, nilS, I 0, I 0]
theorem holding_no (w : Wd) (hw : w.Ok) (n : Int) (sel : List UInt8) (he : holdE w n sel ≠ 0) : Spec Tryz.prog 34 [.agg w.pv, I n, S sel] (.tup [nilP, .agg obZ, I (holdE w n sel)]) := by
 refine Spec.startL (by kernel_rfl) Tryz.func34 rfl rfl fun w0 L hst => ?_
 unfold holdE at he ⊢
 rcases wcheckW_or w with h | h
 ·rw [h] at he ⊢
  have he : (bif !(objT w n).2 then (3 : Int) else bif decide (carityP sel < 0) then 1 else 0) ≠ 0 := he
  show M _ _ _ _ (Qf _ _ _ (.tup [nilP, .agg obZ, I (bif !(objT w n).2 then (3 : Int) else bif decide (carityP sel < 0) then 1 else 0)])) _
  refine M.cm [] (begun_ok w hw h) ?_
  refine M.n (b := (0 : Int) != 0) rfl ?_
  refine M.nilC [] 70 8 (fun j => Dp.pv (([] : List Dp).getD j default)) 2 5 (by kernel_rfl) trivial (by kernel_rfl) (by kernel_rfl) ?_
  refine M.cm [2, 3, 4] (tobjM w sf0 [] n hw.nobjs) ?_
  refine M.ts (!(objT w n).2) (fun h1 => ?_) (fun h1 => ?_)
  ·rw [h1]
   exact M.ret (.tup [nilP, .agg obZ, I 3]) (by kernel_rfl) rfl
  rw [h1] at he ⊢
  refine M.cl (carity_spec sel) ?_
  refine M.ts (decide (carityP sel < 0)) (fun h1 => ?_) (fun h1 => ?_)
  ·rw [h1]
   exact M.ret (.tup [nilP, .agg obZ, I 1]) (by kernel_rfl) rfl
  ·rw [h1] at he
   exact absurd rfl he
 ·rw [h]
  refine M.cl (begun_no w hw h) ?_
  refine M.ys (b := (50 : Int) != 0) rfl ?_
  exact M.ret (.tup [nilP, .agg obZ, I 50]) (by kernel_rfl) rfl
theorem targetS_spec {w : Wd} (hw : w.Ok) (d s : PV) (O : List Fo) (ho : OutOk w O) : Spec Tryz.prog 37 [.ptr (tr w d s), row 3 Fo.pv O] (.agg (targT w O).pv) := by
 refine Spec.startL (by kernel_rfl) Tryz.func37 rfl rfl fun w0 L hst => ?_
 cases O with
 | nil =>
  refine M.ys (b := decide ((([] : List Fo).length : Int) = 0)) rfl ?_
  exact M.ret (.agg (targT w []).pv) (by kernel_rfl) rfl
 | cons x O =>
  refine M.n (b := decide (((x :: O).length : Int) = 0)) (by simp; omega) ?_
  cases O with
  | nil =>
   refine M.ys (b := decide ((([x] : List Fo).length : Int) = 1)) rfl ?_
   refine M.clp [(0 : Int) <= 0 /\ (0 : Int) < (([x] : List Fo).length : Int)] ⟨by simp, trivial⟩ (tobj_spec w d s x.holder hw.nobjs) ?_
   refine M.clp [(0 : Int) <= 0 /\ (0 : Int) < (([x] : List Fo).length : Int), 0 <= x.slot /\ x.slot < ((objT w x.holder).1.sl.length : Int), (0 : Int) <= 0 /\ (0 : Int) < (([x] : List Fo).length : Int)] ⟨by simp, ho x (List.mem_singleton.2 rfl), by simp, trivial⟩ (of_spec ((objT w x.holder).1.sl.getD x.slot.toNat default) x) ?_
   exact M.ret (.agg (targT w [x]).pv) (by kernel_rfl) rfl
  | cons y O =>
   refine M.n (b := decide (((x :: y :: O).length : Int) = 1)) (by simp; omega) ?_
   exact M.ret (.agg (targT w (x :: y :: O)).pv) (by kernel_rfl) rfl
theorem holdE_zero {w : Wd} {n : Int} {sel : List UInt8} (h : holdE w n sel = 0) : wcheckW w = 0 /\ (objT w n).2 = true /\ decide (carityP sel < 0) = false := by
 unfold holdE at h
 rcases wcheckW_or w with h1 | h1
 ·rw [h1] at h
  have h : (bif !(objT w n).2 then (3 : Int) else bif decide (carityP sel < 0) then 1 else 0) = 0 := h
  cases h2 : (objT w n).2 with
  | false => rw [h2] at h; exact absurd (show (3 : Int) = 0 from h) (by decide)
  | true =>
   rw [h2] at h
   have h : (bif decide (carityP sel < 0) then (1 : Int) else 0) = 0 := h
   cases h3 : decide (carityP sel < 0) with
   | true => rw [h3] at h; exact absurd (show (1 : Int) = 0 from h) (by decide)
   | false => exact ⟨h1, rfl, rfl⟩
 ·rw [h1] at h; exact absurd (show (50 : Int) = 0 from h) (by decide)
def resT (w : Wd) (f : Nat) (n : Int) (sel : List UInt8) : St := upT w sel f (parL (objT w n).1.sl) (sf0, [] ++ [wholeD (objT w n).1] ++ contL (objT w n).1 (objT w n).1.sl 0, [])
def resD (w : Wd) (f : Nat) (n : Int) (sel : List UInt8) : (Tg × List Dp) × Int := bif holdE w n sel != 0 then ((tgZ, []), holdE w n sel) else ((targT w (resT w f n sel).2.2, onceL (resT w f n sel).2.1), 0)
theorem unseen_sf0 (U : List Int) : unseen U sf0 <= U.length := List.length_filter_le _ _
theorem Resend_spec {w : Wd} (hw : w.Ok) (n : Int) (sel : List UInt8) {U : List Int} (hU : Clo w U) (hn : ∀ v ∈ parL (objT w n).1.sl, startF v ∈ U) (f : Nat) (hf : U.length < f) :
  Spec Tryz.prog 13 [.agg w.pv, I n, S sel] (.tup [.agg (resD w f n sel).1.1.pv, row 8 Dp.pv (resD w f n sel).1.2, I (resD w f n sel).2]) := by
 unfold resD
 refine Spec.startN (by kernel_rfl) Tryz.func13 rfl rfl fun w0 L hst hown => ?_
 by_cases he : holdE w n sel = 0
 ·rw [show (holdE w n sel != 0) = false by rw [he]; rfl, cond_false]
  obtain ⟨h1, h2, h3⟩ := holdE_zero he
  have hol := objT_len w hw n
  have hcl := contL_len (objT w n).1 (objT w n).1.sl 0
  have hu0 := unseen_sf0 U
  have hm := hU.many
  have hun : unseen U sf0 < f := by omega
  have hroom : Room U (sf0, [] ++ [wholeD (objT w n).1] ++ contL (objT w n).1 (objT w n).1.sl 0, []) := ⟨by simp only [List.length_append, List.length_cons, List.length_nil]; omega, by simp only [List.length_nil]; omega⟩
  have hless := (upT_less (visT_less hw hU (sel := sel) f) (parL (objT w n).1.sl) (sf0, [] ++ [wholeD (objT w n).1] ++ contL (objT w n).1 (objT w n).1.sl 0, []) hn).deps
  have hlen : (resT w f n sel).2.1.length <= 1500000000000 := by
   have := hroom.deps
   unfold resT; omega
  have hout : OutOk w (resT w f n sel).2.2 := upT_out (visT_out f) _ _ (fun x hx => by cases hx)
  have hup : SpecM Tryz.prog 38 2 (trM w sf0 ([] ++ [wholeD (objT w n).1] ++ contL (objT w n).1 (objT w n).1.sl 0)) [.ref 0 0, row 5 Sl.pv (objT w n).1.sl, S sel, nilS] (trO w (resT w f n sel)) (.os 159 3 3 (resT w f n sel).2.2.length) := upN hw hU f sf0 ([] ++ [wholeD (objT w n).1] ++ contL (objT w n).1 (objT w n).1.sl 0) (objT w n).1.sl hol hn hun hroom
  generalize resT w f n sel = T at hlen hout hup ⊢
  refine M.cm [] (holding_ok w hw n sel h1 h2 h3) ?_
  refine M.n (b := (0 : Int) != 0) rfl ?_
  refine M.cm [2, 3, 4] (whole_spec w sf0 [] (objT w n).1 hol (by simp)) ?_
  refine M.cm [2, 3, 6] (contents_spec w sf0 ([] ++ [wholeD (objT w n).1]) (objT w n).1 hol (by simp only [List.length_append, List.length_cons, List.length_nil]; omega)) ?_
  refine M.cm [2, 3, 7] hup ?_
  refine M.rn [] [1, 2, 3, 8, 9] hst trivial fun L' => ?_
  refine M.frzF [] [T.2.2.length <= T.2.2.length, T.2.1.length <= T.2.1.length, T.2.1.length <= T.2.1.length, T.2.1.length <= T.2.1.length, T.2.1.length <= T.2.1.length, T.2.1.length <= T.2.1.length, T.2.1.length <= T.2.1.length, T.2.1.length <= T.2.1.length, T.2.1.length <= T.2.1.length] [1, 2, 3, 4] hown (by kernel_rfl) trivial (by kernel_rfl) (by kernel_rfl) (by kernel_rfl) ⟨Nat.le_refl _, Nat.le_refl _, Nat.le_refl _, Nat.le_refl _, Nat.le_refl _, Nat.le_refl _, Nat.le_refl _, Nat.le_refl _, Nat.le_refl _, trivial⟩ ?_
  refine M.cl (targetS_spec hw (row 8 Dp.pv T.2.1) (.fm (.int .i64) (.b T.1)) T.2.2 hout) ?_
  refine M.cl (once_spec w T.2.1 (.fm (.int .i64) (.b T.1)) (by omega)) ?_
  exact M.ret (.tup [.agg (targT w T.2.2).pv, row 8 Dp.pv (onceL T.2.1), I 0]) (by kernel_rfl) rfl
 ·rw [show (holdE w n sel != 0) = true by simp [he], cond_true]
  refine M.cl (holding_no w hw n sel he) ?_
  refine M.ys (b := holdE w n sel != 0) (by simp [he]) ?_
  exact M.retw [] (.tup [.agg tgZ.pv, nilS, I (holdE w n sel)]) (by kernel_rfl) trivial fun L W u h => tgz_nil h
def dirI (w : Wd) (n : Int) (nm : List UInt8) : Int := fstI (dirF nm) (objT w n).1.sl
def dirS (w : Wd) (n : Int) (nm : List UInt8) : Sl := (objT w n).1.sl.getD (dirI w n nm).toNat default
def dirDs (w : Wd) (n : Int) (nm : List UInt8) : List Dp := bif (dirS w n nm).kd == 4 then [] ++ [wholeD (objT w n).1] ++ [⟨n, false, ⟨0, []⟩, dirI w n nm, (dirS w n nm).v⟩] else [] ++ [wholeD (objT w n).1]
def dirT (w : Wd) (f : Nat) (n : Int) (nm sel : List UInt8) : St := visT w sel f (sf0, dirDs w n nm, []) (startF (dirS w n nm).v)
def dirE (w : Wd) (n : Int) (nm sel : List UInt8) : Int := bif holdE w n sel != 0 then holdE w n sel else bif decide (dirI w n nm < 0) then 3 else 0
def dirD (w : Wd) (f : Nat) (n : Int) (nm sel : List UInt8) : (Tg × List Dp) × Int := bif dirE w n nm sel != 0 then ((tgZ, []), dirE w n nm sel) else ((targT w (dirT w f n nm sel).2.2, onceL (dirT w f n nm sel).2.1), 0)
theorem dir_par {w : Wd} {n : Int} {nm : List UInt8} (h : decide (dirI w n nm < 0) = false) : (dirS w n nm).v ∈ parL (objT w n).1.sl /\ (0 <= dirI w n nm /\ dirI w n nm < ((objT w n).1.sl.length : Int)) /\ (objT w n).1.sl[(dirI w n nm).toNat]? = some (dirS w n nm) /\ dirF nm (dirS w n nm) = true := by
 have hi0 : 0 <= dirI w n nm := by have := of_decide_eq_false h; omega
 have hi1 : dirI w n nm < ((objT w n).1.sl.length : Int) := fstI_lt (dirF nm) (objT w n).1.sl
 obtain ⟨s, q1, q2⟩ := fst_at (p := dirF nm) (l := (objT w n).1.sl) hi0
 have hgd : dirS w n nm = s := by
  show (objT w n).1.sl.getD (fstI (dirF nm) (objT w n).1.sl).toNat default = s
  rw [List.getD_eq_getElem?_getD, q1]; rfl
 rw [hgd]
 exact ⟨List.mem_map.2 ⟨s, List.mem_filter.2 ⟨List.mem_of_getElem? q1, (bif_and q2).2⟩, rfl⟩, ⟨hi0, hi1⟩, q1, q2⟩
theorem Directed_spec {w : Wd} (hw : w.Ok) (n : Int) (nm sel : List UInt8) {U : List Int} (hU : Clo w U) (hn : ∀ v ∈ parL (objT w n).1.sl, startF v ∈ U) (f : Nat) (hf : U.length < f) :
  Spec Tryz.prog 14 [.agg w.pv, I n, S nm, S sel] (.tup [.agg (dirD w f n nm sel).1.1.pv, row 8 Dp.pv (dirD w f n nm sel).1.2, I (dirD w f n nm sel).2]) := by
 unfold dirD
 refine Spec.startN (by kernel_rfl) Tryz.func14 rfl rfl fun w0 L hst hown => ?_
 by_cases he : holdE w n sel = 0
 case neg =>
  have e : dirE w n nm sel = holdE w n sel := by unfold dirE; rw [show (holdE w n sel != 0) = true by simp [he]]; rfl
  rw [e, show (holdE w n sel != 0) = true by simp [he], cond_true]
  refine M.cl (holding_no w hw n sel he) ?_
  refine M.ys (b := holdE w n sel != 0) (by simp [he]) ?_
  exact M.retw [] (.tup [.agg tgZ.pv, nilS, I (holdE w n sel)]) (by kernel_rfl) trivial fun L W u h => tgz_nil h
 have e : dirE w n nm sel = bif decide (dirI w n nm < 0) then 3 else 0 := by unfold dirE; rw [he]; rfl
 rw [e]
 obtain ⟨h1, h2, h3⟩ := holdE_zero he
 refine M.cm [] (holding_ok w hw n sel h1 h2 h3) ?_
 refine M.n (b := (0 : Int) != 0) rfl ?_
 refine M.cl (parent_spec (objT w n).1 nm) ?_
 refine M.ts (decide (dirI w n nm < 0)) (fun hi => ?_) (fun hi => ?_)
 ·rw [hi]
  exact M.retw [] (.tup [.agg tgZ.pv, nilS, I 3]) (by kernel_rfl) trivial fun L W u h => tgz_nil h
 rw [hi]
 obtain ⟨p1, p2, p3, p4⟩ := dir_par hi
 have hol := objT_len w hw n
 have hu0 := unseen_sf0 U
 have hm := hU.many
 have hun : unseen U sf0 < f := by omega
 have hDs : (dirDs w n nm).length <= 2 := by unfold dirDs; cases (dirS w n nm).kd == 4 <;> simp
 have hroom : Room U (sf0, dirDs w n nm, []) := ⟨by simp only; omega, by simp only [List.length_nil]; omega⟩
 have hless := (visT_less hw hU (sel := sel) f (sf0, dirDs w n nm, []) (startF (dirS w n nm).v) (hn _ p1)).deps
 have hlen : (dirT w f n nm sel).2.1.length <= 1500000000000 := by
  have := hroom.deps
  unfold dirT; omega
 have hout : OutOk w (dirT w f n nm sel).2.2 := visT_out f _ _ (fun x hx => by cases hx)
 have hvis : SpecM Tryz.prog 41 2 (trM w sf0 (dirDs w n nm)) [.ref 0 0, I (startF (dirS w n nm).v), S sel, nilS] (trO w (dirT w f n nm sel)) (.os 159 3 3 (dirT w f n nm sel).2.2.length) := visN hw hU f sf0 (dirDs w n nm) (startF (dirS w n nm).v) (hn _ p1) hun hroom
 show M _ _ _ _ (Qf _ _ _ (.tup [.agg (targT w (dirT w f n nm sel).2.2).pv, row 8 Dp.pv (onceL (dirT w f n nm sel).2.1), I 0])) _
 generalize dirT w f n nm sel = T at hlen hout hvis ⊢
 refine M.cm [2, 3, 4] (whole_spec w sf0 [] (objT w n).1 hol (by simp)) ?_
 refine M.testp [0 <= dirI w n nm /\ dirI w n nm < ((objT w n).1.sl.length : Int)] ((dirS w n nm).kd == 4) (by kernel_rfl) ⟨p2, trivial⟩ (fun hk => ?_) (fun hk => ?_)
 ·unfold dirDs at hvis
  rw [hk, cond_true] at hvis
  refine M.rn [0 <= dirI w n nm /\ dirI w n nm < ((objT w n).1.sl.length : Int), ([] ++ [wholeD (objT w n).1]).length = ([] ++ [wholeD (objT w n).1]).length /\ 0 < 1 /\ ([] ++ [wholeD (objT w n).1]).length + 1 <= 9223372036854775807 /\ (([] ++ [wholeD (objT w n).1]).length + 1) * 88 <= 140737488355328, 0 <= dirI w n nm /\ dirI w n nm < ((objT w n).1.sl.length : Int)] [2, 3, 7, 1] hst ⟨p2, ⟨rfl, by omega, by simp, by simp⟩, p2, trivial⟩ fun L' => ?_
  refine M.sigT [] [trc w (([] ++ [wholeD (objT w n).1]).length + 1), [.mp (.int .i64) (.b sf0)], [.rws 8 (([] ++ [wholeD (objT w n).1]).length + 1) (fun j => (joinEl (fun j => Dp.pv (([] ++ [wholeD (objT w n).1]).getD j default)) ([] ++ [wholeD (objT w n).1]).length (fun j => (([I n, .v (.bool false), I 0, .v (.slice none 0 0), I (dirI w n nm), I (dirS w n nm).v.k, I (dirS w n nm).v.n, S (dirS w n nm).v.t] : List PV).drop (j * 8)).take 8) j).map (renP (invF [2, 3, 7, 1] 0) 7))], [I 0, I 0, I 0, .v (.bool false), I 0, I 0, I 0, S []]]
   (trM w sf0 ([] ++ [wholeD (objT w n).1] ++ [⟨n, false, ⟨0, []⟩, dirI w n nm, (dirS w n nm).v⟩]) ++ [[I 0, I 0, I 0, .v (.bool false), I 0, I 0, I 0, S []]]) (by kernel_rfl) trivial (by kernel_rfl) (by kernel_rfl)
   (.cons (.refl _) (.cons (.refl _) (.cons (app_snocT (k := 8) (f := Dp.pv) ([] ++ [wholeD (objT w n).1]) ⟨n, false, ⟨0, []⟩, dirI w n nm, (dirS w n nm).v⟩ (ds := [I n, .v (.bool false), I 0, .v (.slice none 0 0), I (dirI w n nm), I (dirS w n nm).v.k, I (dirS w n nm).v.n, S (dirS w n nm).v.t]) (g := renP (invF [2, 3, 7, 1] 0) 7) rfl (fun x => rfl) fun β L W us h => by
    obtain ⟨u0, us, rfl, h0, h⟩ := h.uncons
    obtain ⟨u1, us, rfl, h1, h⟩ := h.uncons
    obtain ⟨u2, us, rfl, h2, h⟩ := h.uncons
    obtain ⟨u3, us, rfl, h3, h⟩ := h.uncons
    exact .cons h0 (.cons (nrm_R 4 _ _ h1) (.cons h2 (.cons (nil_rowB 5 Sl.pv h3) h)))) (.cons (.refl _) .nil)))) ?_
  refine M.cl (start_spec (dirS w n nm).v) ?_
  refine M.cm [0, 1, 2] hvis ?_
  refine M.rn [] [3, 0, 1, 4, 5] hst trivial fun L' => ?_
  refine M.frzF [] [T.2.2.length <= T.2.2.length, T.2.1.length <= T.2.1.length, T.2.1.length <= T.2.1.length, T.2.1.length <= T.2.1.length, T.2.1.length <= T.2.1.length, T.2.1.length <= T.2.1.length, T.2.1.length <= T.2.1.length, T.2.1.length <= T.2.1.length, T.2.1.length <= T.2.1.length, T.2.1.length <= T.2.1.length, T.2.1.length <= T.2.1.length, T.2.1.length <= T.2.1.length, T.2.1.length <= T.2.1.length, T.2.1.length <= T.2.1.length] [1, 2, 3, 4] hown (by kernel_rfl) trivial (by kernel_rfl) (by kernel_rfl) (by kernel_rfl) ⟨Nat.le_refl _, Nat.le_refl _, Nat.le_refl _, Nat.le_refl _, Nat.le_refl _, Nat.le_refl _, Nat.le_refl _, Nat.le_refl _, Nat.le_refl _, Nat.le_refl _, Nat.le_refl _, Nat.le_refl _, Nat.le_refl _, Nat.le_refl _, trivial⟩ ?_
  refine M.cl (targetS_spec hw (row 8 Dp.pv T.2.1) (.fm (.int .i64) (.b T.1)) T.2.2 hout) ?_
  refine M.cl (once_spec w T.2.1 (.fm (.int .i64) (.b T.1)) (by omega)) ?_
  exact M.ret (.tup [.agg (targT w T.2.2).pv, row 8 Dp.pv (onceL T.2.1), I 0]) (by kernel_rfl) rfl
 ·unfold dirDs at hvis
  rw [hk, cond_false] at hvis
  refine M.rn [0 <= dirI w n nm /\ dirI w n nm < ((objT w n).1.sl.length : Int)] [2, 3, 6, 1] hst ⟨p2, trivial⟩ fun L' => ?_
  refine M.cl (start_spec (dirS w n nm).v) ?_
  refine M.cm [0, 1, 2] hvis ?_
  refine M.rn [] [3, 0, 1, 4, 5] hst trivial fun L' => ?_
  refine M.frzF [] [T.2.2.length <= T.2.2.length, T.2.1.length <= T.2.1.length, T.2.1.length <= T.2.1.length, T.2.1.length <= T.2.1.length, T.2.1.length <= T.2.1.length, T.2.1.length <= T.2.1.length, T.2.1.length <= T.2.1.length, T.2.1.length <= T.2.1.length] [1, 2, 3, 4] hown (by kernel_rfl) trivial (by kernel_rfl) (by kernel_rfl) (by kernel_rfl) ⟨Nat.le_refl _, Nat.le_refl _, Nat.le_refl _, Nat.le_refl _, Nat.le_refl _, Nat.le_refl _, Nat.le_refl _, Nat.le_refl _, trivial⟩ ?_
  refine M.cl (targetS_spec hw (row 8 Dp.pv T.2.1) (.fm (.int .i64) (.b T.1)) T.2.2 hout) ?_
  refine M.cl (once_spec w T.2.1 (.fm (.int .i64) (.b T.1)) (by omega)) ?_
  exact M.ret (.tup [.agg (targT w T.2.2).pv, row 8 Dp.pv (onceL T.2.1), I 0]) (by kernel_rfl) rfl
theorem outs_start (u : Wd) (sel : List UInt8) (D : List Dp) : Outs u sel (sf0, D, []) := ⟨(outs_none u sel).mem, (outs_none u sel).nd, (outs_none u sel).at_⟩
theorem targ_fits {w u : Wd} (hsw : Sorted w) (hsu : Sorted u) (hpw : Parts w) (hpu : Parts u) {sel : List UInt8} {s : St} (ho : Outs u sel s) (hd : OutD u s) (hw : OutD w s) (h : HoldsAll u s) (v : Vl) : FitsP u (targT w s.2.2) (fdOf s.2.2) v := by
 have e := targT_same hsw hsu hpw hpu hw h
 rw [<- e]
 have hfit := fits_targ hsu hpu ho hd v false (fun h => by cases h)
 rwa [own_false (targT_own u _)] at hfit
theorem resend_law {w u : Wd} (hsw : Sorted w) (hsu : Sorted u) (hpw : Parts w) (hpu : Parts u) {n : Int} {sel : List UInt8} {f : Nat} (hn : Has w n) (h : ∀ d ∈ (resT w f n sel).2.1, holdsT u d = true) :
  Has u n /\ FitsP u (targT w (resT w f n sel).2.2) (fdOf (upL u sel f (parL (objT u n).1.sl) s0L).2.2) ⟨0, 0, []⟩ := by
 have hpre : ∀ d ∈ ([] ++ [wholeD (objT w n).1] ++ contL (objT w n).1 (objT w n).1.sl 0 : List Dp), holdsT u d = true := fun d hd => h d (upT_pre (fun s n => visT_pre f s n) _ _ hd)
 obtain ⟨hun, e1, e2, e3⟩ := whole_same hsw hsu hn (hpre _ (by simp))
 have e4 : (objT u n).1.sl.map mslot = (objT w n).1.sl.map mslot := congrArg Mp.sl e3
 obtain ⟨q1, -⟩ := slots_same (o := (objT w n).1) (o' := (objT u n).1) (by rw [e1, e2]) (objT w n).1.sl (objT u n).1.sl 0 e4 fun j s1 s2 h1 h2 hk => by
  have hd := contL_at (objT w n).1 _ 0 j s1 h1 hk
  have hh := hpre _ (List.mem_append_right _ hd)
  rw [e2, holdsT_cont] at hh
  obtain ⟨-, s3, h3, h4⟩ := hh
  rw [h2] at h3; cases h3
  exact h4
 have hl : ∀ v ∈ parL (objT w n).1.sl, Has w (startF v) := fun v hv => par_has hpw (hn.objT hsw).2.1 hv
 have hlu : ∀ v ∈ parL (objT w n).1.sl, Has u (startF v) := fun v hv => by
  rw [<- q1] at hv
  exact par_has hpu (hun.objT hsu).2.1 hv
 have eu : upT u sel f (parL (objT w n).1.sl) (sf0, [] ++ [wholeD (objT w n).1] ++ contL (objT w n).1 (objT w n).1.sl 0, []) = resT w f n sel := upT_same (visT_same hsw hsu hpw f) _ _ hl h
 refine ⟨hun, ?_⟩
 have eo : (upL u sel f (parL (objT u n).1.sl) s0L).2.2 = (resT w f n sel).2.2 := by
  rw [q1, <- eu]
  exact (upL_sim (fun s t n => visL_sim f s t n) _ s0L _ ⟨fun _ => rfl, rfl⟩).outs
 rw [eo]
 refine targ_fits hsw hsu hpw hpu (sel := sel) (s := resT w f n sel) ?_ ?_ ?_ h _
 ·rw [<- eu]; exact upT_outs (visT_outs f) _ _ (outs_start u sel _)
 ·rw [<- eu]; exact upT_keep hpu (visT_outd hsu hpu f) _ _ hlu (fun x hx => by cases hx)
 ·exact upT_keep hpw (visT_outd hsw hpw f) _ _ hl (fun x hx => by cases hx)
theorem dirI_same {l m : List Sl} (h : l.map mslot = m.map mslot) (nm : List UInt8) : fstI (dirF nm) l = fstI (dirF nm) m := by
 have e : ∀ l : List Sl, fstI (dirF nm) l = fstI (fun q : List UInt8 × Int => bif q.1 == nm then (q.2 == 3 || q.2 == 4) else false) (l.map fun s => (s.nm, s.kd)) := fun l => fstI_map (fun s : Sl => (s.nm, s.kd)) (fun q : List UInt8 × Int => bif q.1 == nm then (q.2 == 3 || q.2 == 4) else false) l
 rw [e, e, map_nm h]
theorem directed_law {w u : Wd} (hsw : Sorted w) (hsu : Sorted u) (hpw : Parts w) (hpu : Parts u) {n : Int} {nm sel : List UInt8} {f : Nat} (hn : Has w n) (hi : decide (dirI w n nm < 0) = false) (h : ∀ d ∈ (dirT w f n nm sel).2.1, holdsT u d = true) :
  Has u n /\ decide (dirI u n nm < 0) = false /\ FitsP u (targT w (dirT w f n nm sel).2.2) (fdOf (visL u sel f s0L (startF (dirS u n nm).v)).2.2) ⟨0, 0, []⟩ := by
 have hpre : ∀ d ∈ dirDs w n nm, holdsT u d = true := fun d hd => h d (visT_pre f _ _ hd)
 obtain ⟨p1, p2, p3, p4⟩ := dir_par hi
 obtain ⟨hun, e1, e2, e3⟩ := whole_same hsw hsu hn (hpre _ (by unfold dirDs; cases (dirS w n nm).kd == 4 <;> simp))
 have e4 : (objT u n).1.sl.map mslot = (objT w n).1.sl.map mslot := congrArg Mp.sl e3
 have ei : dirI u n nm = dirI w n nm := dirI_same e4 nm
 have hiu : decide (dirI u n nm < 0) = false := by rw [ei]; exact hi
 obtain ⟨u1, u2, u3, u4⟩ := dir_par hiu
 have em : mslot (dirS u n nm) = mslot (dirS w n nm) := by
  unfold dirS; rw [ei]; exact getD_map e4 _
 have ev : (dirS u n nm).v = (dirS w n nm).v := by
  cases hk : (dirS w n nm).kd == 4 with
  | true =>
   have hh := hpre ⟨n, false, ⟨0, []⟩, dirI w n nm, (dirS w n nm).v⟩ (by unfold dirDs; rw [hk]; simp)
   have ec : dirI w n nm = ((0 + (dirI w n nm).toNat : Nat) : Int) := by omega
   rw [ec, holdsT_cont] at hh
   obtain ⟨-, s3, h3, h4⟩ := hh
   rw [<- ei, u3] at h3
   cases h3; exact h4
  | false =>
   have hpar := (bif_and p4).2
   unfold isPar at hpar
   rw [hk, Bool.or_false, beq_iff_eq] at hpar
   have ha : assignB (dirS w n nm) = false := by unfold assignB; rw [hpar]; rfl
   have e5 : (mslot (dirS u n nm)).kd = (dirS u n nm).kd := by unfold mslot; split <;> rfl
   have e6 : mslot (dirS w n nm) = dirS w n nm := by unfold mslot; rw [ha]; rfl
   have ha2 : assignB (dirS u n nm) = false := by unfold assignB; rw [<- e5, em, e6, hpar]; rfl
   have e7 : mslot (dirS u n nm) = dirS u n nm := by unfold mslot; rw [ha2]; rfl
   rw [<- e7, em, e6]
 have hs : Has w (startF (dirS w n nm).v) := par_has hpw (hn.objT hsw).2.1 p1
 have hsu' : Has u (startF (dirS w n nm).v) := by
  rw [<- ev]; exact par_has hpu (hun.objT hsu).2.1 u1
 have eu : visT u sel f (sf0, dirDs w n nm, []) (startF (dirS w n nm).v) = dirT w f n nm sel := visT_same hsw hsu hpw f _ _ hs h
 refine ⟨hun, hiu, ?_⟩
 have eo : (visL u sel f s0L (startF (dirS u n nm).v)).2.2 = (dirT w f n nm sel).2.2 := by
  rw [ev, <- eu]
  exact (visL_sim f s0L _ _ ⟨fun _ => rfl, rfl⟩).outs
 rw [eo]
 refine targ_fits hsw hsu hpw hpu (sel := sel) (s := dirT w f n nm sel) ?_ ?_ ?_ h _
 ·rw [<- eu]; exact visT_outs f _ _ (outs_start u sel _)
 ·rw [<- eu]; exact visT_outd hsu hpu f _ _ hsu' (fun x hx => by cases hx)
 ·exact visT_outd hsw hpw f _ _ hs (fun x hx => by cases hx)
theorem resD_parts {w : Wd} {f : Nat} {n : Int} {sel : List UInt8} (h : (resD w f n sel).2 = 0) : holdE w n sel = 0 /\ resD w f n sel = ((targT w (resT w f n sel).2.2, onceL (resT w f n sel).2.1), 0) := by
 unfold resD at h ⊢
 by_cases he : holdE w n sel = 0
 ·rw [show (holdE w n sel != 0) = false by rw [he]; rfl]; exact ⟨he, rfl⟩
 ·rw [show (holdE w n sel != 0) = true by simp [he], cond_true] at h; exact absurd h he
theorem dirD_parts {w : Wd} {f : Nat} {n : Int} {nm sel : List UInt8} (h : (dirD w f n nm sel).2 = 0) : holdE w n sel = 0 /\ decide (dirI w n nm < 0) = false /\ dirD w f n nm sel = ((targT w (dirT w f n nm sel).2.2, onceL (dirT w f n nm sel).2.1), 0) := by
 unfold dirD at h ⊢
 by_cases he : dirE w n nm sel = 0
 ·rw [show (dirE w n nm sel != 0) = false by rw [he]; rfl]
  unfold dirE at he
  by_cases h1 : holdE w n sel = 0
  ·rw [show (holdE w n sel != 0) = false by rw [h1]; rfl, cond_false] at he
   cases h2 : decide (dirI w n nm < 0) with
   | true => rw [h2] at he; exact absurd (show (3 : Int) = 0 from he) (by decide)
   | false => exact ⟨h1, rfl, rfl⟩
  ·rw [show (holdE w n sel != 0) = true by simp [h1], cond_true] at he; exact absurd he h1
 ·rw [show (dirE w n nm sel != 0) = true by simp [he], cond_true] at h; exact absurd h he
theorem once_all {u : Wd} {D : List Dp} (h : (onceL D).all (holdsT u) = true) : ∀ d ∈ D, holdsT u d = true := fun d hd => List.all_eq_true.1 h d (onceL_mem.2 hd)
theorem par_in {u : Wd} {U : List Int} (hU : Clo u U) {n : Int} (hn : n ∈ U) : ∀ v ∈ parL (objT u n).1.sl, startF v ∈ U := hU.clo n hn
theorem DepsResends_spec (w u : Wd) (n : Int) (nm sel : List UInt8) (d : Bool) (hbw : Bulk w) (hbu : Bulk u) (hww : smallT w = true -> w.Ok) (hwu : smallT u = true -> u.Ok)
  (hnw : ∀ o ∈ w.objs, ∀ s ∈ o.sl, s.nm.length <= 140737488355328) (hnu : ∀ o ∈ u.objs, ∀ s ∈ o.sl, s.nm.length <= 140737488355328) :
  Spec Tryz.prog 4 [.agg w.pv, .agg u.pv, I n, S nm, S sel, .sb d] (.sb true) := by
 refine Spec.startL (by kernel_rfl) Tryz.func4 rfl rfl fun w0 L hst => ?_
 refine M.cl awake_spec ?_
 refine M.cl (small_spec w hbw) ?_
 refine M.ts (!smallT w) (fun hs => M.ret (.sb true) (by kernel_rfl) rfl) (fun hs => ?_)
 have hsw : smallT w = true := by simpa using hs
 have hok := hww hsw
 refine M.cl (small_spec u hbu) ?_
 refine M.ts (!smallT u) (fun hs => M.ret (.sb true) (by kernel_rfl) rfl) (fun hs => ?_)
 have hsu : smallT u = true := by simpa using hs
 have huk := hwu hsu
 refine M.ts (decide ((sel.length : Int) > 300)) (fun hs3 => M.ret (.sb true) (by kernel_rfl) rfl) (fun hs3 => ?_)
 have hsel : sel.length <= 1000000000 := by have := of_decide_eq_false hs3; omega
 refine M.ts (decide ((nm.length : Int) > 300)) (fun hs4 => M.ret (.sb true) (by kernel_rfl) rfl) (fun hs4 => ?_)
 obtain ⟨a1, a2, a3⟩ := more_v (u := w) ⟨4, n, []⟩ hsw hnw
 obtain ⟨c1, c2, c3⟩ := more_v (u := u) ⟨4, n, []⟩ hsu hnu
 have a2 : n ∈ moreU w [] ⟨1, 0, ⟨4, n, []⟩⟩ := a2
 have c2 : n ∈ moreU u [] ⟨1, 0, ⟨4, n, []⟩⟩ := c2
 refine M.cl (Resend_spec hok n sel a1 (par_in a1 a2) 4000 (by omega)) ?_
 have hlp := resD_parts (w := w) (f := 4000) (n := n) (sel := sel)
 have hlr : (resD w 4000 n sel).2 = 0 -> wcheckW u = 0 -> (resD w 4000 n sel).1.2.all (holdsT u) = true -> (objT u n).2 = true /\ decide (carityP sel < 0) = false /\ FitsP u (resD w 4000 n sel).1.1 (fdOf (upL u sel 4000 (parL (objT u n).1.sl) s0L).2.2) ⟨0, 0, []⟩ /\ (resD w 4000 n sel).1.1.own = false := fun h1 hc h2 => by
  obtain ⟨q1, q2⟩ := hlp h1
  obtain ⟨r1, r2, r3⟩ := holdE_zero q1
  have hso := (valid_sorted hok r1).1
  have hsu' := (valid_sorted huk hc).1
  rw [q2] at h2 ⊢
  obtain ⟨l1, l2⟩ := resend_law hso hsu' (valid_parts r1) (valid_parts hc) (sel := sel) (f := 4000) (has_of hok.nobjs r2) (once_all h2)
  exact ⟨(l1.objT hsu').1, r3, l2, targT_own _ _⟩
 generalize resD w 4000 n sel = A at hlr ⊢
 refine M.ts d (fun hd => ?_) (fun hd => ?_)
 ·refine M.cl (Directed_spec hok n nm sel a1 (par_in a1 a2) 4000 (by omega)) ?_
  have hlp2 := dirD_parts (w := w) (f := 4000) (n := n) (nm := nm) (sel := sel)
  have hld : (dirD w 4000 n nm sel).2 = 0 -> wcheckW u = 0 -> (dirD w 4000 n nm sel).1.2.all (holdsT u) = true -> (objT u n).2 = true /\ decide (carityP sel < 0) = false /\ decide (dirI u n nm < 0) = false /\ FitsP u (dirD w 4000 n nm sel).1.1 (fdOf (visL u sel 4000 s0L (startF (dirS u n nm).v)).2.2) ⟨0, 0, []⟩ /\ (dirD w 4000 n nm sel).1.1.own = false := fun h1 hc h2 => by
   obtain ⟨q1, q3, q2⟩ := hlp2 h1
   obtain ⟨r1, r2, r3⟩ := holdE_zero q1
   have hso := (valid_sorted hok r1).1
   have hsu' := (valid_sorted huk hc).1
   rw [q2] at h2 ⊢
   obtain ⟨l1, l2, l3⟩ := directed_law hso hsu' (valid_parts r1) (valid_parts hc) (nm := nm) (sel := sel) (f := 4000) (has_of hok.nobjs r2) q3 (once_all h2)
   exact ⟨(l1.objT hsu').1, r3, l2, l3, targT_own _ _⟩
  generalize dirD w 4000 n nm sel = B at hld ⊢
  refine M.ts (B.2 != 0) (fun h1 => M.ret (.sb true) (by kernel_rfl) rfl) (fun h1 => ?_)
  refine M.cl (wcheck_spec u huk) ?_
  refine M.ts (wcheckW u != 0) (fun h2 => M.ret (.sb true) (by kernel_rfl) rfl) (fun h2 => ?_)
  have hc : wcheckW u = 0 := by simpa using h2
  refine M.cl (allHoldG u huk B.1.2 hc) ?_
  refine M.ts (!B.1.2.all (holdsT u)) (fun h3 => M.ret (.sb true) (by kernel_rfl) rfl) (fun h3 => ?_)
  obtain ⟨z1, z2, z3, z4, z5⟩ := hld (by simpa using h1) hc (by simpa using h3)
  refine M.cl (lresend_spec huk hc n sel hsel z1 z2 c1 (par_in c1 c2) 4000 (by omega) (by omega)) ?_
  refine M.ys (b := d) hd ?_
  refine M.cl (ldirected_spec huk hc n nm sel hsel z1 z2 z3 c1 (par_in c1 c2) 4000 (by omega) (by omega)) ?_
  refine M.ys (b := true) rfl ?_
  refine M.ys (b := (0 : Int) == 0) rfl ?_
  refine M.ys (b := !B.1.1.own) (by rw [z5]; rfl) ?_
  refine M.cl (fits_spec u huk hc B.1.1 _ ⟨0, 0, []⟩ z4) ?_
  exact M.ret (.sb true) (by kernel_rfl) rfl
 ·skip
  refine M.ts (A.2 != 0) (fun h1 => M.ret (.sb true) (by kernel_rfl) rfl) (fun h1 => ?_)
  refine M.cl (wcheck_spec u huk) ?_
  refine M.ts (wcheckW u != 0) (fun h2 => M.ret (.sb true) (by kernel_rfl) rfl) (fun h2 => ?_)
  have hc : wcheckW u = 0 := by simpa using h2
  refine M.cl (allHoldG u huk A.1.2 hc) ?_
  refine M.ts (!A.1.2.all (holdsT u)) (fun h3 => M.ret (.sb true) (by kernel_rfl) rfl) (fun h3 => ?_)
  obtain ⟨z1, z2, z4, z5⟩ := hlr (by simpa using h1) hc (by simpa using h3)
  refine M.cl (lresend_spec huk hc n sel hsel z1 z2 c1 (par_in c1 c2) 4000 (by omega) (by omega)) ?_
  refine M.n (b := d) hd ?_
  refine M.ys (b := true) rfl ?_
  refine M.ys (b := (0 : Int) == 0) rfl ?_
  refine M.ys (b := !A.1.1.own) (by rw [z5]; rfl) ?_
  refine M.cl (fits_spec u huk hc A.1.1 _ ⟨0, 0, []⟩ z4) ?_
  exact M.ret (.sb true) (by kernel_rfl) rfl
end Go.Proofs.YtplpnfjccemdnaaGreatDoor
