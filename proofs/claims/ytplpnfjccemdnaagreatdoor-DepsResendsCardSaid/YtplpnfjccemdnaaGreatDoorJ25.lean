import Derived.Test.YtplpnfjccemdnaaGreatDoorJ24
set_option linter.unusedVariables false
set_option linter.unusedSimpArgs false
/- The texts D15 D16 D17 D18 V35 D19 D20 D21 D22 of the proof, laid one behind the other. -/
namespace Go.Proofs.YtplpnfjccemdnaaGreatDoor
open Go.RowKit
abbrev slotR (l : List Sl) : List PV := [.rws 5 l.length (fun j => Sl.pv (l.getD j default))]
abbrev ObO (i : Nat) (o : Ob) : List PV := [I o.oid, I o.kd, .os 65 i 5 o.sl.length, row 3 Vl.pv o.el, I o.code, I o.up]
theorem ccopyO (o : Ob) (h : o.sl.length <= 1000000) (h2 : o.el.length <= 1000000) : SpecM Tryz.prog 194 0 [] [.agg o.pv] [slotR o.sl] (.agg (ObO 0 o)) := by
 refine SpecM.start (by kernel_rfl) Tryz.func194 rfl rfl (Nat.le_refl _) fun w0 L hst => ?_
 refine M.cm [] (cloneO_Slot o.sl h) ?_
 refine M.cl (clone_Val o.el h2) ?_
 exact M.retm [] [2] hst rfl (by kernel_rfl) trivial rfl rfl
def focE (l : List Ob) (i0 : Nat) (cs : List PV) (j : Nat) : List PV := if j = i0 then cs else Ob.pv (l.getD j default)
theorem cmapO (l : List Ob) (g : Nat) (i0 : Nat) (hl : l.length <= 1000000000) (hi0 : i0 < l.length) (hg : ∀ x ∈ l, Spec Tryz.prog g [.agg x.pv] (.agg x.pv))
  (hgo : SpecM Tryz.prog g 0 [] [.agg (l.getD i0 default).pv] [slotR (l.getD i0 default).sl] (.agg (ObO 0 (l.getD i0 default)))) :
  SpecM Tryz.prog 193 0 [] [row 6 Ob.pv l, .fn g []] [[.rwf 6 l.length (fun j => Ob.pv (l.getD j default)) i0 (ObO 1 (l.getD i0 default))], slotR (l.getD i0 default).sl] (.os 73 0 6 l.length) := by
 refine SpecM.start (by kernel_rfl) Tryz.func193 rfl rfl (Nat.le_refl _) fun w0 L hst => ?_
 refine M.nilT [] 73 6 (fun j => Ob.pv (l.getD j default)) 5 (by kernel_rfl) trivial (by kernel_rfl) (by kernel_rfl) ?_
 refine M.loopL (ι := {i : Nat // i <= i0} ⊕ {i : Nat // i0 < i /\ i <= l.length})
  (fun | .inl i => [(1, .fn g []), (5, .os 73 0 6 i.1), (8, row 6 Ob.pv l), (9, I l.length), (10, I i.1)] | .inr i => [(1, .fn g []), (5, .os 73 0 6 i.1), (8, row 6 Ob.pv l), (9, I l.length), (10, I i.1)])
  (fun | .inl i => [[.rws 6 i.1 (fun j => Ob.pv (l.getD j default))]] | .inr i => [[.rws 6 i.1 (focE l i0 (ObO 1 (l.getD i0 default)))], slotR (l.getD i0 default).sl])
  (fun | .inl i => l.length - i.1 | .inr i => l.length - i.1) (.inl ⟨0, Nat.zero_le _⟩) [] (by kernel_rfl) trivial (by kernel_rfl) (by kernel_rfl) fun x L ih => ?_
 cases x with
 | inl x =>
  obtain ⟨i, hi⟩ := x
  refine M.ys (b := decide ((i : Int) < (l.length : Int))) (by simp; omega) ?_
  by_cases hii : i = i0
  ·subst hii
   refine M.callmp [0 <= (i : Int) /\ (i : Int) < (l.length : Int)] [] hgo (by kernel_rfl) ⟨by omega, trivial⟩ ?_
   refine M.rn [1 <= 1 /\ i = i /\ 0 < 1 /\ i + 1 <= 9223372036854775807 /\ (i + 1) * 80 <= 140737488355328, In64 ((i : Int) + 1)] [4, 2] hst ⟨⟨Nat.le_refl _, rfl, by omega, by omega, by omega⟩, ⟨by omega, by omega⟩, trivial⟩ fun L' => ?_
   refine M.sig [] [[.rws 6 (i + 1) (fun j => (joinEl (fun j => Ob.pv (l.getD j default)) i (fun j => ((ObO 2 (l.getD i default)).drop (j * 6)).take 6) j).map (renP (invF [4, 2] 0) 7))], slotR (l.getD i default).sl]
    [[.rws 6 (i + 1) (focE l i (ObO 1 (l.getD i default)))], slotR (l.getD i default).sl] (by kernel_rfl) trivial (by kernel_rfl) (by kernel_rfl) (.cons (.rws rfl fun j hj => ?_) (.cons (.refl _) .nil)) ?_
   ·unfold joinEl focE
    by_cases h : j < i
    ·rw [if_pos h, if_neg (by omega)]; rfl
    ·have : j = i := by omega
     subst this
     rw [if_neg (Nat.lt_irrefl _), if_pos rfl, Nat.sub_self]; rfl
   ·exact M.bk [] (ih (.inr ⟨i + 1, Nat.lt_succ_self _, hi0⟩) L' (by show l.length - (i + 1) < l.length - i; omega)) trivial
  ·refine M.clp [0 <= (i : Int) /\ (i : Int) < (l.length : Int)] ⟨by omega, trivial⟩ (hg _ (getD_mem (p := (i : Int).toNat) (by omega))) ?_
   refine M.rn [i = i /\ 0 < 1 /\ i + 1 <= 9223372036854775807 /\ (i + 1) * 80 <= 140737488355328, In64 ((i : Int) + 1)] [2] hst ⟨⟨rfl, by omega, by omega, by omega⟩, ⟨by omega, by omega⟩, trivial⟩ fun L' => ?_
   refine M.sig [] [[.rws 6 (i + 1) (fun j => (joinEl (fun j => Ob.pv (l.getD j default)) i (fun j => ((Ob.pv (l.getD (i : Int).toNat default)).drop (j * 6)).take 6) j).map (renP (invF [2] 0) 7))]]
    [[.rws 6 (i + 1) (fun j => Ob.pv (l.getD j default))]] (by kernel_rfl) trivial (by kernel_rfl) (by kernel_rfl) (.cons (app_cells rfl rfl fun j => rfl) .nil) ?_
   exact M.bk [] (ih (.inl ⟨i + 1, by omega⟩) L' (by show l.length - (i + 1) < l.length - i; omega)) trivial
 | inr x =>
  obtain ⟨i, hi1, hi⟩ := x
  refine M.ts (decide ((i : Int) < (l.length : Int))) (fun h1 => ?_) (fun h1 => ?_)
  ·have hlt : i < l.length := by simpa using h1
   refine M.clp [0 <= (i : Int) /\ (i : Int) < (l.length : Int)] ⟨by omega, trivial⟩ (hg _ (getD_mem (p := (i : Int).toNat) (by omega))) ?_
   refine M.rn [i = i /\ 0 < 1 /\ i + 1 <= 9223372036854775807 /\ (i + 1) * 80 <= 140737488355328, In64 ((i : Int) + 1)] [3, 1] hst ⟨⟨rfl, by omega, by omega, by omega⟩, ⟨by omega, by omega⟩, trivial⟩ fun L' => ?_
   refine M.sig [] [[.rws 6 (i + 1) (fun j => (joinEl (focE l i0 (ObO 1 (l.getD i0 default))) i (fun j => ((Ob.pv (l.getD (i : Int).toNat default)).drop (j * 6)).take 6) j).map (renP (invF [3, 1] 0) 7))], slotR (l.getD i0 default).sl]
    [[.rws 6 (i + 1) (focE l i0 (ObO 1 (l.getD i0 default)))], slotR (l.getD i0 default).sl] (by kernel_rfl) trivial (by kernel_rfl) (by kernel_rfl) (.cons (.rws rfl fun j hj => ?_) (.cons (.refl _) .nil)) ?_
   ·unfold joinEl focE
    by_cases h : j < i
    ·rw [if_pos h]
     by_cases h2 : j = i0
     ·rw [if_pos h2]; rfl
     ·rw [if_neg h2]; rfl
    ·have : j = i := by omega
     subst this
     rw [if_neg (Nat.lt_irrefl _), if_neg (by omega), Nat.sub_self]; rfl
   ·exact M.bk [] (ih (.inr ⟨i + 1, by omega, hlt⟩) L' (by show l.length - (i + 1) < l.length - i; omega)) trivial
  ·have : i = l.length := by have := of_decide_eq_false h1; omega
   subst this
   refine M.sig [] [[.rws 6 l.length (focE l i0 (ObO 1 (l.getD i0 default)))], slotR (l.getD i0 default).sl] [[.rwf 6 l.length (fun j => Ob.pv (l.getD j default)) i0 (ObO 1 (l.getD i0 default))], slotR (l.getD i0 default).sl] (by kernel_rfl) trivial (by kernel_rfl) (by kernel_rfl) (.cons (.foc rfl hi0 fun x _ => rfl) (.cons (.refl _) .nil)) ?_
   exact M.retm [] [0, 1] hst rfl (by kernel_rfl) trivial rfl rfl
abbrev edC (w : Wd) : List PV := [.os 73 1 6 w.objs.length, .os 75 2 9 w.acts.length, .os 79 3 9 w.cds.length, I w.nO, I w.nA]
abbrev actR (w : Wd) : List PV := [.rws 9 w.acts.length (fun j => Ac.pv (w.acts.getD j default))]
abbrev cdR (w : Wd) : List PV := [.rws 9 w.cds.length (fun j => Cd.pv (w.cds.getD j default))]
abbrev objR (w : Wd) : List PV := [.rws 6 w.objs.length (fun j => Ob.pv (w.objs.getD j default))]
abbrev edS (w : Wd) : Sig := [edC w, objR w, actR w, cdR w]
abbrev objF' (w : Wd) (i : Nat) : List PV := [.rwf 6 w.objs.length (fun j => Ob.pv (w.objs.getD j default)) i (ObO 4 (w.objs.getD i default))]
abbrev edF (w : Wd) (i : Nat) : Sig := [edC w, objF' w i, actR w, cdR w, slotR (w.objs.getD i default).sl]
theorem copied_spec (w : Wd) (hw : w.Ok) : SpecM Tryz.prog 143 0 [] [.agg w.pv] (edS w) (.ref 0 0) := by
 refine SpecM.start (by kernel_rfl) Tryz.func143 rfl rfl (Nat.le_refl _) fun w0 L hst => ?_
 refine M.cm [] (c_mapped_Obj w.objs 194 hw.nobjs fun x hx => ccopyObj x (hw.objs x hx).nsl (hw.objs x hx).nel) ?_
 refine M.cm [] (c_mapped_Act w.acts 196 hw.nacts fun x hx => ccopyAct x (hw.acts x hx).nvars) ?_
 refine M.cm [] (c_mapped_Code w.cds 198 hw.ncds fun x hx => ccopyCode x (hw.cds x hx).names (hw.cds x hx).ninit (hw.cds x hx).nlits (hw.cds x hx).sels (hw.cds x hx).nins) ?_
 exact M.retm [] [4, 1, 2, 3] hst rfl (by kernel_rfl) trivial rfl rfl
theorem copiedF_spec (w : Wd) (hw : w.Ok) (i : Nat) (hi : i < w.objs.length) : SpecM Tryz.prog 143 0 [] [.agg w.pv] (edF w i) (.ref 0 0) := by
 have ho := hw.objs (w.objs.getD i default) (getD_mem (p := i) hi)
 refine SpecM.start (by kernel_rfl) Tryz.func143 rfl rfl (Nat.le_refl _) fun w0 L hst => ?_
 refine M.cm [] (cmapO w.objs 194 i hw.nobjs hi (fun x hx => ccopyObj x (hw.objs x hx).nsl (hw.objs x hx).nel) (ccopyO _ ho.nsl ho.nel)) ?_
 refine M.cm [] (c_mapped_Act w.acts 196 hw.nacts fun x hx => ccopyAct x (hw.acts x hx).nvars) ?_
 refine M.cm [] (c_mapped_Code w.cds 198 hw.ncds fun x hx => ccopyCode x (hw.cds x hx).names (hw.cds x hx).ninit (hw.cds x hx).nlits (hw.cds x hx).sels (hw.cds x hx).nins) ?_
 exact M.retm [] [5, 1, 3, 4, 2] hst rfl (by kernel_rfl) trivial rfl rfl
abbrev unfV (e : Int) : PV := .v (.iface 232 (.agg #[.int .i64 e]))
theorem must_s {b : Bool} (hb : b = true) (e : Int) : Spec Tryz.prog 144 [.sb b, I e] (.tup []) := by
 refine Spec.start (by kernel_rfl) Tryz.func144 rfl rfl fun w0 L => ?_
 refine M.n (b := !b) (by rw [hb]; rfl) ?_
 exact M.ret (.tup []) (by kernel_rfl) rfl
theorem mustP_s {b : Bool} (hb : b = false) (e : Int) : SpecP Tryz.prog 144 0 [] [.sb b, I e] [] (unfV e) := by
 refine SpecP.start (by kernel_rfl) Tryz.func144 rfl rfl (Nat.le_refl _) fun w0 L hst => ?_
 refine M.ys (b := !b) (by rw [hb]; rfl) ?_
 exact M.pan (x := unfV e) [] (by kernel_rfl) trivial (OkP.done [] hst rfl (by kernel_rfl) (by kernel_rfl) (by kernel_rfl))
def nmEq (n : List UInt8) (s : Sl) : Bool := s.nm == n
theorem at1_spec (n : List UInt8) (s : Sl) : Spec Tryz.prog 252 [.agg s.pv, .ptr [S n]] (.sb (nmEq n s)) := by
 refine Spec.startL (by kernel_rfl) Tryz.func252 rfl rfl fun w0 L hst => ?_
 exact M.ret (.sb (nmEq n s)) (by kernel_rfl) rfl
def atF (l : List Sl) (n : List UInt8) : Int := fstI (nmEq n) l
theorem haE_spec (o : Ob) (n : Int) : Spec Tryz.prog 251 [.agg o.pv, I n] (I (haObF o n)) := by
 refine Spec.startL (by kernel_rfl) Tryz.func251 rfl rfl fun w0 L hst => ?_
 refine M.cl (compare_spec o.oid n) ?_
 exact M.ret (I (haObF o n)) (by kernel_rfl) rfl
abbrev edG (w : Wd) (i : Nat) (o : Ob) : Sig := [edC w, [.rwf 6 w.objs.length (fun j => Ob.pv (w.objs.getD j default)) i (ObO 4 o)], actR w, cdR w, slotR o.sl]
abbrev focV (w : Wd) (i : Nat) (o : Ob) : PV := .sl 6 w.objs.length (fun j => if j = i then Ob.pv o else Ob.pv (w.objs.getD j default))
theorem foc_row {w : Wd} {i : Nat} {o : Ob} (hi : i < w.objs.length) {β : List (Option Nat)} {L : List Nat} {W : World} {u : Value} (h : R β L W (focV w i o) u) : R β L W (row 6 Ob.pv (w.objs.set i o)) u :=
 sl_eq (by rw [List.length_set]) (fun j hj => by
  simp only [List.getD_eq_getElem?_getD, List.getElem?_set]
  by_cases e : j = i
  ·subst e; simp [hi]
  ·rw [if_neg e, if_neg (fun h => e h.symm)]) h
theorem set_same {l : List Ob} {i : Nat} (hi : i < l.length) : l.set i (l.getD i default) = l := by
 rw [List.getD_eq_getElem?_getD, List.getElem?_eq_getElem hi]; simp
theorem at_spec (w : Wd) (i : Nat) (o : Ob) (n : List UInt8) (hil : i < w.objs.length) : SpecM Tryz.prog 230 5 (edG w i o) [.rr 1 6 i 0, S n] (edG w i o) (I (atF o.sl n)) := by
 refine SpecM.start (by kernel_rfl) Tryz.func230 rfl rfl (Nat.le_of_ble_eq_true rfl) fun w0 L hst => ?_
 refine M.clp [i < w.objs.length /\ i = i, o.sl.length <= o.sl.length] ⟨⟨hil, rfl⟩, Nat.le_refl _, trivial⟩ (idx_Slot_1' o.sl 252 (.ptr [S n]) (nmEq n) rfl fun x _ => at1_spec n x) ?_
 exact M.retm [] [0, 1, 2, 3, 4] hst rfl (by kernel_rfl) trivial rfl rfl
theorem edobj_ok (w : Wd) (hw : w.Ok) (oid : Int) (i : Nat) (hf : objF w oid = true) (hi : i = (objI w oid).toNat) : SpecM Tryz.prog 229 5 (edG w i (w.objs.getD i default)) [.ref 0 0, I oid] (edG w i (w.objs.getD i default)) (.rr 1 6 i 0) := by
 have hlt : objI w oid < w.objs.length := by
  unfold objF at hf
  simp only [Bool.and_eq_true, decide_eq_true_eq] at hf
  exact hf.1
 have h0 := (objI_in w oid hw.nobjs).1
 have hil : i < w.objs.length := by omega
 have hb : Spec Tryz.prog 66 [focV w i (w.objs.getD i default), I oid, .fn 251 []] (.tup [I (objI w oid), .sb (objF w oid)]) :=
  (bsearch_Obj w.objs oid 251 (fun o => haObF o oid) hw.nobjs fun x _ => haE_spec x oid).conv (fun L W vs h => by
   obtain ⟨u0, us, rfl, q0, h⟩ := h.uncons
   have := foc_row hil q0
   rw [set_same hil] at this
   exact .cons this h) fun _ _ _ h => h
 refine SpecM.start (by kernel_rfl) Tryz.func229 rfl rfl (Nat.le_of_ble_eq_true rfl) fun w0 L hst => ?_
 refine M.clp [w.objs.length <= w.objs.length, (w.objs.getD i default).sl.length <= (w.objs.getD i default).sl.length] ⟨Nat.le_refl _, Nat.le_refl _, trivial⟩ hb ?_
 refine M.cl (must_s hf 3) ?_
 subst hi
 exact M.retm [0 <= objI w oid /\ objI w oid < w.objs.length] [0, 1, 2, 3, 4] hst rfl (by kernel_rfl) ⟨⟨h0, hlt⟩, trivial⟩ rfl rfl
theorem edobj_no (w : Wd) (hw : w.Ok) (oid : Int) (hf : objF w oid = false) : SpecP Tryz.prog 229 4 (edS w) [.ref 0 0, I oid] (edS w) (unfV 3) := by
 refine SpecP.start (by kernel_rfl) Tryz.func229 rfl rfl (Nat.le_of_ble_eq_true rfl) fun w0 L hst => ?_
 have hb : Spec Tryz.prog 66 [row 6 Ob.pv w.objs, I oid, .fn 251 []] (.tup [I (objI w oid), .sb (objF w oid)]) := bsearch_Obj w.objs oid 251 (fun o => haObF o oid) hw.nobjs fun x _ => haE_spec x oid
 refine M.clp [w.objs.length <= w.objs.length] ⟨Nat.le_refl _, trivial⟩ hb ?_
 exact M.callP [] [] (mustP_s hf 3) (by kernel_rfl) trivial (by kernel_rfl) (OkP.done [0, 1, 2, 3] hst rfl (by kernel_rfl) (by kernel_rfl) (by kernel_rfl))
def chI (w : Wd) (ch : Ch) : Nat := (objI w ch.oid).toNat
def chO (w : Wd) (ch : Ch) : Ob := w.objs.getD (chI w ch) default
theorem chI_lt {w : Wd} (hw : w.Ok) {ch : Ch} (hf : objF w ch.oid = true) : chI w ch < w.objs.length := by
 have h0 := (objI_in w ch.oid hw.nobjs).1
 unfold objF at hf
 simp only [Bool.and_eq_true, decide_eq_true_eq] at hf
 have := hf.1
 unfold chI; omega
theorem add_ok (w : Wd) (hw : w.Ok) (ch : Ch) (hf : objF w ch.oid = true) (h1 : decide (((chO w ch).sl.length : Int) < 40) = true) (h2 : decide (atF (chO w ch).sl ch.slot.nm < 0) = true) :
  SpecM Tryz.prog 183 4 (edG w (chI w ch) (chO w ch)) [.ref 0 0, .agg ch.pv] (edG w (chI w ch) { chO w ch with sl := (chO w ch).sl ++ [ch.slot] }) (.tup []) := by
 have hil := chI_lt hw hf
 have hlen := of_decide_eq_true h1
 refine SpecM.start (by kernel_rfl) Tryz.func183 rfl rfl (Nat.le_of_ble_eq_true rfl) fun w0 L hst => ?_
 refine M.cm [0, 1, 2, 3, 4] (edobj_ok w hw ch.oid (chI w ch) hf rfl) ?_
 refine M.clp [chI w ch < w.objs.length /\ chI w ch = chI w ch] ⟨⟨hil, rfl⟩, trivial⟩ (must_s h1 2) ?_
 refine M.cm [0, 1, 2, 3, 4] (at_spec w (chI w ch) (chO w ch) ch.slot.nm hil) ?_
 refine M.cl (must_s h2 110) ?_
 refine M.rn [chI w ch < w.objs.length /\ chI w ch = chI w ch, (chO w ch).sl.length = (chO w ch).sl.length /\ 0 < 1 /\ (chO w ch).sl.length + 1 <= 9223372036854775807 /\ ((chO w ch).sl.length + 1) * 56 <= 140737488355328, chI w ch < w.objs.length /\ chI w ch = chI w ch] [0, 1, 2, 3, 6] hst ⟨⟨hil, rfl⟩, ⟨rfl, by omega, by omega, by omega⟩, ⟨hil, rfl⟩, trivial⟩ fun L' => ?_
 refine M.sigT [] [edC w, [.rwf 6 w.objs.length (fun j => Ob.pv (w.objs.getD j default)) (chI w ch) [I (chO w ch).oid, I (chO w ch).kd, .os 65 4 5 ((chO w ch).sl.length + 1), row 3 Vl.pv (chO w ch).el, I (chO w ch).code, I (chO w ch).up]], actR w, cdR w, [.rws 5 ((chO w ch).sl.length + 1) (fun j => (joinEl (fun j => Sl.pv ((chO w ch).sl.getD j default)) (chO w ch).sl.length (fun j => ((Sl.pv ch.slot).drop (j * 5)).take 5) j).map (renP (invF [0, 1, 2, 3, 6] 0) 7))]]
  (edG w (chI w ch) { chO w ch with sl := (chO w ch).sl ++ [ch.slot] }) (by kernel_rfl) trivial (by kernel_rfl) (by kernel_rfl) (.cons (.refl _) (.cons ?_ (.cons (.refl _) (.cons (.refl _) (.cons (app_snocT (k := 5) (f := Sl.pv) (chO w ch).sl ch.slot (ds := Sl.pv ch.slot) (g := renP (invF [0, 1, 2, 3, 6] 0) 7) rfl (fun x => rfl) fun β L W us h => h) .nil))))) ?_
 ·simp only [ObO, List.length_append, List.length_cons, List.length_nil, Nat.zero_add]; exact .refl _
 ·exact M.retm [] [0, 1, 2, 3, 4] hst rfl (by kernel_rfl) trivial rfl rfl
theorem add_none (w : Wd) (hw : w.Ok) (ch : Ch) (hf : objF w ch.oid = false) : SpecP Tryz.prog 183 4 (edS w) [.ref 0 0, .agg ch.pv] (edS w) (unfV 3) := by
 refine SpecP.start (by kernel_rfl) Tryz.func183 rfl rfl (Nat.le_of_ble_eq_true rfl) fun w0 L hst => ?_
 exact M.callP [] [0, 1, 2, 3] (edobj_no w hw ch.oid hf) (by kernel_rfl) trivial (by kernel_rfl) (OkP.done [0, 1, 2, 3] hst rfl (by kernel_rfl) (by kernel_rfl) (by kernel_rfl))
theorem add_full (w : Wd) (hw : w.Ok) (ch : Ch) (hf : objF w ch.oid = true) (h1 : decide (((chO w ch).sl.length : Int) < 40) = false) :
  SpecP Tryz.prog 183 5 (edG w (chI w ch) (chO w ch)) [.ref 0 0, .agg ch.pv] (edG w (chI w ch) (chO w ch)) (unfV 2) := by
 have hil := chI_lt hw hf
 refine SpecP.start (by kernel_rfl) Tryz.func183 rfl rfl (Nat.le_of_ble_eq_true rfl) fun w0 L hst => ?_
 refine M.cm [0, 1, 2, 3, 4] (edobj_ok w hw ch.oid (chI w ch) hf rfl) ?_
 exact M.callP [chI w ch < w.objs.length /\ chI w ch = chI w ch] [] (mustP_s h1 2) (by kernel_rfl) ⟨⟨hil, rfl⟩, trivial⟩ (by kernel_rfl) (OkP.done [0, 1, 2, 3, 4] hst rfl (by kernel_rfl) (by kernel_rfl) (by kernel_rfl))
theorem add_twice (w : Wd) (hw : w.Ok) (ch : Ch) (hf : objF w ch.oid = true) (h1 : decide (((chO w ch).sl.length : Int) < 40) = true) (h2 : decide (atF (chO w ch).sl ch.slot.nm < 0) = false) :
  SpecP Tryz.prog 183 5 (edG w (chI w ch) (chO w ch)) [.ref 0 0, .agg ch.pv] (edG w (chI w ch) (chO w ch)) (unfV 110) := by
 have hil := chI_lt hw hf
 refine SpecP.start (by kernel_rfl) Tryz.func183 rfl rfl (Nat.le_of_ble_eq_true rfl) fun w0 L hst => ?_
 refine M.cm [0, 1, 2, 3, 4] (edobj_ok w hw ch.oid (chI w ch) hf rfl) ?_
 refine M.clp [chI w ch < w.objs.length /\ chI w ch = chI w ch] ⟨⟨hil, rfl⟩, trivial⟩ (must_s h1 2) ?_
 refine M.cm [0, 1, 2, 3, 4] (at_spec w (chI w ch) (chO w ch) ch.slot.nm hil) ?_
 exact M.callP [] [] (mustP_s h2 110) (by kernel_rfl) trivial (by kernel_rfl) (OkP.done [0, 1, 2, 3, 4] hst rfl (by kernel_rfl) (by kernel_rfl) (by kernel_rfl))
abbrev zSlot : List PV := [S [], I 0, I 0, I 0, S []]
def form1 (ch : Ch) : Bool := ch.name == []
theorem form1_spec (ch : Ch) : Spec Tryz.prog 182 [.agg ch.pv] (.sb (form1 ch)) := by
 refine Spec.startL (by kernel_rfl) Tryz.func182 rfl rfl fun w0 L hst => ?_
 exact M.ret (.sb (form1 ch)) (by kernel_rfl) rfl
section
variable {w0 : W0} {L : List Nat} {P : Program} {Q : Exit -> Act -> World -> Prop} {fn : Func} {c : Cfg}
def lookAt (P : Program) (N : Nat) (d : Cfg) : Option (TypeId × PV × PV × Bool) :=
 match d.dr with
 | some q => match q.all[q.i]? with
  | some o => if fitsD N o.dst then match guardP q.all d.E o with
   | some true => match o.op with
    | .lookup t x i ok => some (t, evA d.E x, evA d.E i, ok)
    | _ => none
   | _ => none
   else none
  | none => none
 | none => none
def lookC (P : Program) (fn : Func) (c : Cfg) (p : PV) : Cfg :=
 let d := (stop P fn.ntmps c).2
 match d.dr with
 | some q => match q.all[q.i]? with
  | some o => { d with E := putE d.E o.dst p, dr := some { q with i := q.i + 1, ds := (q.i, some 1000) :: q.ds } }
  | none => d
 | none => d
theorem M.look (p : PV) (S : AbsRel) (key : PV) (t : TypeId) (ok : Bool) (ps : List Prop) (h : (stop P fn.ntmps c).1 = ps) (hp : All ps) (hat : lookAt P fn.ntmps (stop P fn.ntmps c).2 = some (t, .abs S, key, ok))
  (hrun : ∀ (β : List (Option Nat)) (L : List Nat) (W : World) (u v : Value), S.rel (Fb β L) W u -> R β L W key v -> ∃ y, (Instr.lookup t u v ok).run P W = .ok y W /\ R β L W p y)
  (k : M P fn w0 L Q (lookC P fn c p)) : M P fn w0 L Q c := by
 refine ⟨run_ok 3000 c (by rw [show (runC P fn.ntmps 3000 c).1 = ps from h]; exact hp) ?_⟩
 have k := k.out
 unfold lookC at k
 show OkF P fn w0 L Q (stop P fn.ntmps c).2
 simp only at k
 generalize (stop P fn.ntmps c).2 = d at hat k
 obtain ⟨E, σ, todo, dr⟩ := d
 unfold lookAt at hat
 cases dr with
 | none => cases hat
 | some q =>
  simp only at hat k
  cases ho : q.all[q.i]? with
  | none => rw [ho] at hat; cases hat
  | some o =>
   rw [ho] at hat k
   simp only at hat k
   split at hat
   ·rename_i hd
    split at hat
    ·rename_i hg
     split at hat
     ·rename_i t' x i ok' hop
      simp only [Option.some.injEq, Prod.mk.injEq] at hat
      obtain ⟨e1, e2, e3, e4⟩ := hat
      subst e1; subst e4
      intro hnd hok hm hT β a W hI
      refine k hnd hok hm (.op hT ho hd (.h 1000 hg (fun N β L W E2 σ2 a hev _ hEv hBx => ?_) rfl) rfl rfl) β a W hI
      have hx := hev x (by rw [hop]; simp [Op.operands])
      have hi := hev i (by rw [hop]; simp [Op.operands])
      have r1 := evA_R hEv x
      have r2 := evA_R hEv i
      rw [hx, e2, R] at r1
      rw [hi, e3] at r2
      obtain ⟨y, hy, hr⟩ := hrun β L W _ _ r1 r2
      refine ⟨y, ?_, hr⟩
      unfold execOp
      rw [hop]
      simp only [Sem.run_bind, hy, Result.andThen_ok, Sem.run_pure]
     ·cases hat
    ·cases hat
   ·cases hat
end
def kindsM : Atom -> List PV := fun x => if x = .i 5 then [.fn 191 [.ref 0 0], .fn 192 []] else if x = .i 4 then [.fn 189 [.ref 0 0], .fn 190 []] else
 if x = .i 3 then [.fn 186 [], .fn 187 []] else if x = .i 2 then [.fn 184 [.ref 0 0], .fn 185 []] else if x = .i 1 then [.fn 182 [], .fn 183 []] else []
def kindsP : Atom -> List PV := fun x => if x = .i 5 then [.fn 191 [.ptr zSlot], .fn 192 []] else if x = .i 4 then [.fn 189 [.ptr zSlot], .fn 190 []] else
 if x = .i 3 then [.fn 186 [], .fn 187 []] else if x = .i 2 then [.fn 184 [.ptr zSlot], .fn 185 []] else if x = .i 1 then [.fn 182 [], .fn 183 []] else []
abbrev fV (g : Nat) (cs : List Value) : Value := .func (.func g) #[] cs.toArray
def kindsV (b : Nat) : Atom -> Option (List Value) := fun x => if x = .i 5 then some [fV 191 [pV b], fV 192 []] else if x = .i 4 then some [fV 189 [pV b], fV 190 []] else
 if x = .i 3 then some [fV 186 [], fV 187 []] else if x = .i 2 then some [fV 184 [pV b], fV 185 []] else if x = .i 1 then some [fV 182 [], fV 183 []] else none
theorem kindsO : SpecM Tryz.prog 141 0 [] [] [[.mps (.int .i64) (fun x => (kindsM x).map (renP (invF [1, 0] 0) 7))], zSlot] (.mr 0) := by
 refine SpecM.start (by kernel_rfl) Tryz.func141 rfl rfl (Nat.le_refl _) fun w0 L hst => ?_
 exact M.retm [] [1, 0] hst rfl (by kernel_rfl) trivial rfl rfl
abbrev zSlotV : List Value := [.string ⟨#[]⟩, .int .i64 0, .int .i64 0, .int .i64 0, .string ⟨#[]⟩]
def kindsRel : AbsRel where
 rel F W u := ∃ (m b : Nat) (es : Array MapEntry) (clock : Nat) (t : TypeId), u = .map (some m) /\ ¬ F m /\ m < W.heap.size /\ W.heap[m]? = some (.map es clock) /\ ¬ F b /\ b < W.heap.size /\ W.heap[b]? = some (.cells zSlotV.toArray t (0, 0)) /\ (∀ e ∈ es.toList, ∃ a, keyAt (.int .i64) e.key = some a) /\
  ∀ a, (es.toList.find? fun e => keyAt (.int .i64) e.key == some a).map (·.val) = (kindsV b a).map fun l => .agg l.toArray
 move {F F' W W' u} h hs hk hF := by
  obtain ⟨m, b, es, clock, t, e, h1, h2, h3, h4, h5, h6, h9, h10⟩ := h
  refine ⟨m, b, es, clock, t, e, fun h => ?_, Nat.lt_of_lt_of_le h2 hs, (hk m h1 h2).trans h3, fun h => ?_, Nat.lt_of_lt_of_le h5 hs, (hk b h4 h5).trans h6, h9, h10⟩
  ·rcases hF m h with h | h
   ·exact h1 h
   ·omega
  ·rcases hF b h with h | h
   ·exact h4 h
   ·omega
theorem fnR0 {β : List (Option Nat)} {L : List Nat} {W : World} {g : Nat} {u : Value} (h : R β L W (.fn g []) u) : u = fV g [] := by
 rw [R] at h
 obtain ⟨us, rfl, h⟩ := h
 rw [Rs] at h
 subst h; rfl
theorem fnR1 {β : List (Option Nat)} {L : List Nat} {W : World} {g b : Nat} {u : Value} (hb : β[1]? = some (some b)) (h : R β L W (.fn g [.ref 1 0]) u) : u = fV g [pV b] := by
 rw [R] at h
 obtain ⟨us, rfl, h⟩ := h
 obtain ⟨v, vs, rfl, hv, h⟩ := h.uncons
 rw [Rs] at h
 subst h
 rw [R] at hv
 obtain ⟨x, hx, rfl⟩ := hv
 rw [hb] at hx
 cases hx
 rfl
theorem kinds_spec : Spec Tryz.prog 141 [] (.abs kindsRel) := by
 refine ⟨kindsO.1, fun L W vs hL hG hR => ?_⟩
 refine (kindsO.2.2 L [] W vs (fun g hg => ⟨hL g hg, by simp⟩) hG ⟨rfl, fun i j g c d hi => by simp at hi, fun g hg => by simp at hg, fun i cs hi => by simp at hi⟩ hR).mono fun e W' ⟨u, γ, L1, he, hu, hb, hn, hg, hs, hl, hf⟩ => ?_
 refine ⟨u, he, ?_, hn.plain⟩
 rw [R] at hu
 obtain ⟨m, hm, rfl⟩ := hu
 obtain ⟨x1, hx1, hh1⟩ := hb.2.2.2 1 zSlot rfl
 cases x1 with
 | none =>
  rcases hh1 with ⟨k, el, e⟩ | e
  ·cases e
  ·cases e
 | some b =>
  obtain ⟨t, us, hheap, h1, h2⟩ := Hold.out hh1 rfl
  obtain ⟨es, clock, hmap, hms⟩ := mps_out (hb.hold (i := 0) rfl hm)
  have hus : us = zSlotV := by
   obtain ⟨u0, us, rfl, q0, h2⟩ := h2.uncons
   obtain ⟨u1, us, rfl, q1, h2⟩ := h2.uncons
   obtain ⟨u2, us, rfl, q2, h2⟩ := h2.uncons
   obtain ⟨u3, us, rfl, q3, h2⟩ := h2.uncons
   obtain ⟨u4, us, rfl, q4, h2⟩ := h2.uncons
   rw [Rs] at h2
   rw [R] at q0 q1 q2 q3 q4
   subst h2; subst q0; subst q1; subst q2; subst q3; subst q4; rfl
  subst hus
  have far : ∀ g, some g ∈ γ -> ¬ Fb [] L g := fun g hmem h => by
   rcases hg g hmem with h' | h'
   ·simp at h'
   ·rcases h with h | h
    ·simp at h
    ·have := hL g h; omega
  rw [R]
  refine ⟨m, b, es, clock, t, rfl, far m (List.mem_of_getElem? hm), hb.2.2.1 m (List.mem_of_getElem? hm), hmap, far b (List.mem_of_getElem? hx1), hb.2.2.1 b (List.mem_of_getElem? hx1), hheap, hms.1, fun a => ?_⟩
  have key : ∀ (p q : PV) (v w : Value), (kindsM a).map (renP (invF [1, 0] 0) 7) = [p, q] -> (∀ u, R γ L1 W' p u -> u = v) -> (∀ u, R γ L1 W' q u -> u = w) -> kindsV b a = some [v, w] -> (es.toList.find? fun e => keyAt (.int .i64) e.key == some a).map (·.val) = (kindsV b a).map fun l => .agg l.toArray := fun p q v w e1 hp hq e2 => by
   have e1' : (fun x => (kindsM x).map (renP (invF [1, 0] 0) 7)) a = [p, q] := e1
   rcases hms.2 a with ⟨h, _⟩ | ⟨us, q1, _, _, q4⟩
   ·rw [e1'] at h; cases h
   ·rw [e1'] at q4
    obtain ⟨u0, us, rfl, r0, q4⟩ := q4.uncons
    obtain ⟨u1, us, rfl, r1, q4⟩ := q4.uncons
    rw [Rs] at q4
    subst q4
    rw [q1, e2, hp _ r0, hq _ r1]; rfl
  by_cases a5 : a = .i 5
  ·subst a5; exact key _ _ _ _ rfl (fun u h => fnR1 hx1 h) (fun u h => fnR0 h) rfl
  by_cases a4 : a = .i 4
  ·subst a4; exact key _ _ _ _ rfl (fun u h => fnR1 hx1 h) (fun u h => fnR0 h) rfl
  by_cases a3 : a = .i 3
  ·subst a3; exact key _ _ _ _ rfl (fun u h => fnR0 h) (fun u h => fnR0 h) rfl
  by_cases a2 : a = .i 2
  ·subst a2; exact key _ _ _ _ rfl (fun u h => fnR1 hx1 h) (fun u h => fnR0 h) rfl
  by_cases a1 : a = .i 1
  ·subst a1; exact key _ _ _ _ rfl (fun u h => fnR0 h) (fun u h => fnR0 h) rfl
  have e1 : kindsM a = [] := by unfold kindsM; rw [if_neg a5, if_neg a4, if_neg a3, if_neg a2, if_neg a1]
  have e2 : kindsV b a = none := by unfold kindsV; rw [if_neg a5, if_neg a4, if_neg a3, if_neg a2, if_neg a1]
  rcases hms.2 a with ⟨_, h⟩ | ⟨us, _, _, h, _⟩
  ·rw [h, e2]; rfl
  ·exact absurd (show (fun x => (kindsM x).map (renP (invF [1, 0] 0) 7)) a = [] by show (kindsM a).map _ = []; rw [e1]; rfl) h
theorem kinds_look {k : Int} {β : List (Option Nat)} {L : List Nat} {W : World} {u v : Value} (h : kindsRel.rel (Fb β L) W u) (hv : R β L W (I k) v) {zs : List Value} (hz : zeroAgg Tryz.prog 227 = some zs) :
  ∃ y, (Instr.lookup 229 u v true).run Tryz.prog W = .ok y W /\ R β L W (.tup [cellsOr (zs.map .v) (kindsP (.i k)), .sb (!(kindsP (.i k)).isEmpty)]) y := by
 obtain ⟨m, b, es, clock, t, rfl, h1, h2, h3, h4, h5, h6, h9, h10⟩ := h
 have hbp : R β L W (.ptr zSlot) (pV b) := by
  rw [R]
  refine ⟨b, 0, zSlotV, rfl, h4, h5, fun x hx => ?_, ?_, fun i x hx => ?_⟩
  ·simp only [List.mem_cons, List.not_mem_nil, or_false] at hx
   rcases hx with rfl | rfl | rfl | rfl | rfl <;> rfl
  ·exact plain_Rs zSlotV
  ·simp only [World.cell?, h6]; simpa using hx
 have f0 : ∀ g, R β L W (.fn g []) (fV g []) := fun g => by rw [R]; exact ⟨[], rfl, Rs.nil⟩
 have f1 : ∀ g, R β L W (.fn g [.ptr zSlot]) (fV g [pV b]) := fun g => by rw [R]; exact ⟨[pV b], rfl, Rs.cons hbp Rs.nil⟩
 have one : ∀ g cs, (fV g cs).oneCell' = true := fun _ _ => rfl
 have hm : MapS β L W (.int .i64) es kindsP := by
  refine ⟨h9, fun a => ?_⟩
  have key : ∀ (p q : PV) (v w : Value), kindsP a = [p, q] -> R β L W p v -> R β L W q w -> kindsV b a = some [v, w] -> v.oneCell' = true -> w.oneCell' = true ->
   (kindsP a = [] /\ (es.toList.find? fun e => keyAt (.int .i64) e.key == some a).map (·.val) = none) \/ ∃ us : List Value, (es.toList.find? fun e => keyAt (.int .i64) e.key == some a).map (·.val) = some (.agg us.toArray) /\ (∀ x ∈ us, x.oneCell' = true) /\ kindsP a ≠ [] /\ Rs β L W (kindsP a) us := fun p q v w e1 hp hq e2 o1 o2 => by
   refine .inr ⟨[v, w], by rw [h10, e2]; rfl, fun x hx => ?_, by rw [e1]; simp, by rw [e1]; exact Rs.cons hp (Rs.cons hq Rs.nil)⟩
   simp only [List.mem_cons, List.not_mem_nil, or_false] at hx
   rcases hx with rfl | rfl
   ·exact o1
   ·exact o2
  by_cases a5 : a = .i 5
  ·subst a5; exact key _ _ _ _ rfl (f1 _) (f0 _) rfl rfl rfl
  by_cases a4 : a = .i 4
  ·subst a4; exact key _ _ _ _ rfl (f1 _) (f0 _) rfl rfl rfl
  by_cases a3 : a = .i 3
  ·subst a3; exact key _ _ _ _ rfl (f0 _) (f0 _) rfl rfl rfl
  by_cases a2 : a = .i 2
  ·subst a2; exact key _ _ _ _ rfl (f1 _) (f0 _) rfl rfl rfl
  by_cases a1 : a = .i 1
  ·subst a1; exact key _ _ _ _ rfl (f0 _) (f0 _) rfl rfl rfl
  refine .inl ⟨by unfold kindsP; rw [if_neg a5, if_neg a4, if_neg a3, if_neg a2, if_neg a1], ?_⟩
  rw [h10, show kindsV b a = none by unfold kindsV; rw [if_neg a5, if_neg a4, if_neg a3, if_neg a2, if_neg a1]]; rfl
 exact looks_at (ok := true) (kt := 3) (k := .i k) (by kernel_rfl) (by kernel_rfl) hz rfl h3 hm hv
abbrev nilW : List PV := [nilS, nilS, nilS, I 0, I 0]
abbrev wZ : Wd := ⟨[], [], [], 0, 0⟩
theorem wz_nil {β : List (Option Nat)} {L : List Nat} {W : World} {e : Int} {u : Value} (h : R β L W (.tup [.agg nilW, I e]) u) : R β L W (.tup [.agg wZ.pv, I e]) u := tup_toB h fun us h => by
 obtain ⟨u0, us, rfl, h0, h⟩ := h.uncons
 exact Rs.cons (agg_to (qs := wZ.pv) (.cons (fun _ h => nil_rowB 6 Ob.pv h) (.cons (fun _ h => nil_rowB 9 Ac.pv h) (.cons (fun _ h => nil_rowB 9 Cd.pv h) (.cons (fun _ h => h) (.cons (fun _ h => h) .nil))))) h0) h
abbrev doneS (w : Wd) (i : Nat) (o : Ob) : Sig := [[.os 73 2 6 w.objs.length, .os 75 3 9 w.acts.length, .os 79 4 9 w.cds.length, I w.nO, I w.nA], [I 0], [.rwf 6 w.objs.length (fun j => Ob.pv (w.objs.getD j default)) i (ObO 5 o)], actR w, cdR w, slotR o.sl]
theorem appl_none (w : Wd) (i : Nat) (o : Ob) : SpecD Tryz.prog 142 (doneS w i o) [.ref 0 0, .ref 1 0] none (doneS w i o) := by
 refine SpecD.start (by kernel_rfl) rfl Tryz.func142 rfl rfl rfl rfl rfl rfl fun w0 L hst => ?_
 exact M.dend [] (by kernel_rfl) trivial (by kernel_rfl) (by kernel_rfl) [0, 1, 2, 3, 4, 5] (n := 6) hst rfl (by kernel_rfl) (by kernel_rfl) rfl
theorem appl_some (x : Int) : SpecD Tryz.prog 142 [nilW, [I 0]] [.ref 0 0, .ref 1 0] (some (unfV x)) [nilW, [I x]] := by
 refine SpecD.start (by kernel_rfl) rfl Tryz.func142 rfl rfl rfl rfl rfl rfl fun w0 L hst => ?_
 exact M.dend [] (by kernel_rfl) trivial (by kernel_rfl) (by kernel_rfl) [0, 1] (n := 2) hst rfl (by kernel_rfl) (by kernel_rfl) rfl
def setW (w : Wd) (i : Nat) (o : Ob) : Wd := { w with objs := w.objs.set i o }
theorem setW_ok {w : Wd} (hw : w.Ok) (i : Nat) {o : Ob} (ho : o.Ok) : (setW w i o).Ok := ⟨fun x hx => by
 rcases List.mem_or_eq_of_mem_set hx with h | h
 ·exact hw.objs x h
 ·rw [h]; exact ho, hw.acts, hw.cds, hw.nacts, by show (w.objs.set i o).length <= _; rw [List.length_set]; exact hw.nobjs, hw.ncds⟩
abbrev focW (w : Wd) (i : Nat) (o : Ob) : List PV := [focV w i o, row 9 Ac.pv w.acts, row 9 Cd.pv w.cds, I w.nO, I w.nA]
theorem focW_R {w : Wd} {i : Nat} {o : Ob} (hi : i < w.objs.length) {β : List (Option Nat)} {L : List Nat} {W : World} {u : Value} (h : R β L W (.agg (focW w i o)) u) : R β L W (.agg (setW w i o).pv) u :=
 agg_to (.cons (fun _ h => foc_row hi h) (.cons (fun _ h => h) (.cons (fun _ h => h) (.cons (fun _ h => h) (.cons (fun _ h => h) .nil))))) h
theorem checkG {w : Wd} {i : Nat} {o : Ob} (hi : i < w.objs.length) (hw : (setW w i o).Ok) : Spec Tryz.prog 15 [.agg (focW w i o)] (I (wcheckW (setW w i o))) :=
 (wcheck_spec _ hw).conv (fun L W vs h => by
  obtain ⟨u0, us, rfl, q0, h⟩ := h.uncons
  exact .cons (focW_R hi q0) h) fun _ _ _ h => h
def finT (w : Wd) : Wd × Int := bif wcheckW w == 0 then (w, 0) else (wZ, 110)
def app1 (w : Wd) (ch : Ch) : Wd × Int := bif form1 ch then (bif objF w ch.oid then (bif decide (((chO w ch).sl.length : Int) < 40) then (bif decide (atF (chO w ch).sl ch.slot.nm < 0) then finT (setW w (chI w ch) { chO w ch with sl := (chO w ch).sl ++ [ch.slot] }) else (wZ, 110)) else (wZ, 2)) else (wZ, 3)) else (wZ, 110)
theorem applied1 (w : Wd) (hw : w.Ok) (ch : Ch) (hk : ch.kind = 1) (hch : In64 ch.slot.v.n) : Spec Tryz.prog 101 [.agg w.pv, .agg ch.pv] (.tup [.agg (app1 w ch).1.pv, I (app1 w ch).2]) := by
 unfold app1
 obtain ⟨kd, oid, nm, sl⟩ := ch
 simp only at hk
 subst hk
 refine Spec.startD (by kernel_rfl) Tryz.func101 rfl rfl fun w0 L hst hd0 hro hmk hgh => ?_
 refine M.cl kinds_spec ?_
 refine M.look (.tup [.agg [.fn 182 [], .fn 183 []], .sb true]) kindsRel (I 1) 229 true [] (by kernel_rfl) trivial (by kernel_rfl) (fun β L W u v h hv => kinds_look (k := 1) h hv (zs := [.nilFunc, .nilFunc]) (by kernel_rfl)) ?_
 refine M.n (b := !true) rfl ?_
 refine M.cl (form1_spec ⟨1, oid, nm, sl⟩) ?_
 cases hfm : form1 ⟨1, oid, nm, sl⟩ with
 | false =>
  refine M.ys (b := !false) rfl ?_
  exact M.retw [] (.tup [.agg nilW, I 110]) (by kernel_rfl) trivial fun L W u h => wz_nil h
 | true =>
 refine M.n (b := !true) rfl ?_
 refine M.defer (g := 142) (caps := [.ref 2 0, .ref 3 0]) 4 [] (by kernel_rfl) trivial hst (Nat.le_of_ble_eq_true (by kernel_rfl)) (by kernel_rfl) hd0 hro hmk hgh fun w1 L1 hD => ?_
 cases hf : objF w oid with
 | false =>
  refine M.cm [] (copied_spec w hw) ?_
  exact M.callP [] [5, 6, 7, 8] (add_none w hw ⟨1, oid, nm, sl⟩ hf) (by kernel_rfl) trivial (by kernel_rfl) (OkP.leave (x' := unfV 3) hD [2, 3] (appl_some 3) [] (.tup [.agg nilW, I 3]) (by kernel_rfl) rfl (by kernel_rfl) (by kernel_rfl) (by kernel_rfl) (by kernel_rfl) (by kernel_rfl) trivial fun L W u h => wz_nil h)
 | true =>
 have hil := chI_lt hw (ch := ⟨1, oid, nm, sl⟩) hf
 have hok := hw.objs _ (getD_mem (p := chI w ⟨1, oid, nm, sl⟩) hil)
 refine M.cm [] (copiedF_spec w hw (chI w ⟨1, oid, nm, sl⟩) hil) ?_
 cases h1 : decide (((chO w ⟨1, oid, nm, sl⟩).sl.length : Int) < 40) with
 | false =>
  exact M.callP [] [5, 6, 7, 8, 9] (add_full w hw ⟨1, oid, nm, sl⟩ hf h1) (by kernel_rfl) trivial (by kernel_rfl) (OkP.leave (x' := unfV 2) hD [2, 3] (appl_some 2) [] (.tup [.agg nilW, I 2]) (by kernel_rfl) rfl (by kernel_rfl) (by kernel_rfl) (by kernel_rfl) (by kernel_rfl) (by kernel_rfl) trivial fun L W u h => wz_nil h)
 | true =>
 cases h2 : decide (atF (chO w ⟨1, oid, nm, sl⟩).sl sl.nm < 0) with
 | false =>
  exact M.callP [] [5, 6, 7, 8, 9] (add_twice w hw ⟨1, oid, nm, sl⟩ hf h1 h2) (by kernel_rfl) trivial (by kernel_rfl) (OkP.leave (x' := unfV 110) hD [2, 3] (appl_some 110) [] (.tup [.agg nilW, I 110]) (by kernel_rfl) rfl (by kernel_rfl) (by kernel_rfl) (by kernel_rfl) (by kernel_rfl) (by kernel_rfl) trivial fun L W u h => wz_nil h)
 | true =>
 have ho' : ({ chO w ⟨1, oid, nm, sl⟩ with sl := (chO w ⟨1, oid, nm, sl⟩).sl ++ [sl] } : Ob).Ok := ⟨fun s hs => by
  rcases List.mem_append.1 hs with h | h
  ·exact hok.sl s h
  ·rw [List.mem_singleton.1 h]; exact hch, hok.el, by have := of_decide_eq_true h1; simp only [List.length_append, List.length_cons, List.length_nil]; omega, hok.nel⟩
 refine M.callmp [] [5, 6, 7, 8, 9] (add_ok w hw ⟨1, oid, nm, sl⟩ hf h1 h2) (by kernel_rfl) trivial ?_
 refine M.clp [w.objs.length <= w.objs.length, ((chO w ⟨1, oid, nm, sl⟩).sl ++ [sl]).length <= ((chO w ⟨1, oid, nm, sl⟩).sl ++ [sl]).length, w.acts.length <= w.acts.length, w.cds.length <= w.cds.length] ⟨Nat.le_refl _, Nat.le_refl _, Nat.le_refl _, Nat.le_refl _, trivial⟩ (checkG hil (setW_ok hw _ ho')) ?_
 unfold finT
 cases hc : wcheckW (setW w (chI w ⟨1, oid, nm, sl⟩) { chO w ⟨1, oid, nm, sl⟩ with sl := (chO w ⟨1, oid, nm, sl⟩).sl ++ [sl] }) == 0 with
 | true =>
  refine M.cl (must_s hc 110) ?_
  exact M.leave hD [2, 3, 6, 7, 8, 10] (appl_none w (chI w ⟨1, oid, nm, sl⟩) { chO w ⟨1, oid, nm, sl⟩ with sl := (chO w ⟨1, oid, nm, sl⟩).sl ++ [sl] }) [] [w.objs.length <= w.objs.length, ((chO w ⟨1, oid, nm, sl⟩).sl ++ [sl]).length <= ((chO w ⟨1, oid, nm, sl⟩).sl ++ [sl]).length, w.acts.length <= w.acts.length, w.cds.length <= w.cds.length] (.tup [.agg (focW w (chI w ⟨1, oid, nm, sl⟩) { chO w ⟨1, oid, nm, sl⟩ with sl := (chO w ⟨1, oid, nm, sl⟩).sl ++ [sl] }), I 0]) (by kernel_rfl) trivial (by kernel_rfl) (by kernel_rfl) (by kernel_rfl) rfl (by kernel_rfl) (by kernel_rfl) (by kernel_rfl) (by kernel_rfl) ⟨Nat.le_refl _, Nat.le_refl _, Nat.le_refl _, Nat.le_refl _, trivial⟩ fun L W u h => tup_to h fun us h => by
   obtain ⟨u0, us, rfl, h0, h⟩ := h.uncons
   exact Rs.cons (focW_R hil h0) h
 | false =>
  exact M.callP [] [] (mustP_s hc 110) (by kernel_rfl) trivial (by kernel_rfl) (OkP.leave (x' := unfV 110) hD [2, 3] (appl_some 110) [] (.tup [.agg nilW, I 110]) (by kernel_rfl) rfl (by kernel_rfl) (by kernel_rfl) (by kernel_rfl) (by kernel_rfl) (by kernel_rfl) trivial fun L W u h => wz_nil h)
theorem Apply_spec (w : Wd) (hw : w.Ok) (ch : Ch) (a : Wd × Int) (ha : Spec Tryz.prog 101 [.agg w.pv, .agg ch.pv] (.tup [.agg a.1.pv, I a.2])) :
  Spec Tryz.prog 55 [.agg w.pv, .agg ch.pv] (.tup [.agg (bif wcheckW w != 0 then (wZ, wcheckW w) else a).1.pv, I (bif wcheckW w != 0 then (wZ, wcheckW w) else a).2]) := by
 refine Spec.startL (by kernel_rfl) Tryz.func55 rfl rfl fun w0 L hst => ?_
 refine M.cl (wcheck_spec w hw) ?_
 refine M.ts (wcheckW w != 0) (fun h => ?_) (fun h => ?_)
 ·rw [h, cond_true]
  exact M.retw [] (.tup [.agg nilW, I (wcheckW w)]) (by kernel_rfl) trivial fun L W u h => wz_nil h
 ·rw [h, cond_false]
  refine M.cl ha ?_
  exact M.ret (.tup [.agg a.1.pv, I a.2]) (by kernel_rfl) rfl
def hitW (w : Wd) (x : Dp) (a : Wd × Int) : Bool × Int := bif a.2 != 0 then (false, a.2) else (ceasesT w a.1 x, 0)
theorem Hit_spec (w : Wd) (hw : w.Ok) (ch : Ch) (x : Dp) (a : Wd × Int) (ha : Spec Tryz.prog 55 [.agg w.pv, .agg ch.pv] (.tup [.agg a.1.pv, I a.2])) (hv : a.2 = 0 -> a.1.Ok) :
  Spec Tryz.prog 21 [.agg w.pv, .agg ch.pv, .agg x.pv] (.tup [.sb (hitW w x a).1, I (hitW w x a).2]) := by
 refine Spec.startL (by kernel_rfl) Tryz.func21 rfl rfl fun w0 L hst => ?_
 unfold hitW
 refine M.cl ha ?_
 refine M.ts (a.2 != 0) (fun h => ?_) (fun h => ?_)
 ·rw [h, cond_true]
  exact M.ret (.tup [.sb false, I a.2]) (by kernel_rfl) rfl
 ·rw [h, cond_false]
  refine M.cl (ceases_spec w a.1 hw (hv (by simpa using h)) x) ?_
  exact M.ret (.tup [.sb (ceasesT w a.1 x), I 0]) (by kernel_rfl) rfl
def sumTo {α : Type} (b : Int) (f : α -> Int) : List α -> Int -> Int
 | [], n => n
 | x :: t, n => bif decide (n <= b) then sumTo b f t (n + f x) else n
theorem sumTo_stop {α : Type} {b : Int} {f : α -> Int} {n : Int} (h : ¬ n <= b) : ∀ l : List α, sumTo b f l n = n
 | [] => rfl
 | x :: t => by rw [sumTo, decide_eq_false h]; rfl
def obN (o : Ob) : Int := (o.sl.length : Int) + (o.el.length : Int)
def acN (a : Ac) : Int := (a.vars.length : Int)
def cdN (c : Cd) : Int := 1 + (c.names.length : Int) + (c.init.length : Int) + (c.lits.length : Int) + (c.sels.length : Int) + (c.ins.length : Int)
def smallN (w : Wd) : Int := sumTo 1200 cdN w.cds (sumTo 1200 acN w.acts (sumTo 1200 obN w.objs ((w.objs.length : Int) + (w.acts.length : Int))))
def smallT (w : Wd) : Bool := decide (smallN w <= 1200)
structure Bulk (w : Wd) : Prop where
 nobjs : w.objs.length <= 140737488355328
 nacts : w.acts.length <= 140737488355328
 ncds : w.cds.length <= 140737488355328
 objs : ∀ o ∈ w.objs, o.sl.length <= 140737488355328 /\ o.el.length <= 140737488355328
 acts : ∀ a ∈ w.acts, a.vars.length <= 140737488355328
 cds : ∀ c ∈ w.cds, c.names.length <= 140737488355328 /\ c.init.length <= 140737488355328 /\ c.lits.length <= 140737488355328 /\ c.sels.length <= 140737488355328 /\ c.ins.length <= 140737488355328
theorem small_spec (w : Wd) (hb : Bulk w) : Spec Tryz.prog 6 [.agg w.pv] (.sb (smallT w)) := by
 have hb1 := hb.nobjs
 have hb2 := hb.nacts
 have hb3 := hb.ncds
 unfold smallT smallN
 generalize hr1 : sumTo 1200 obN w.objs ((w.objs.length : Int) + (w.acts.length : Int)) = r1
 generalize hr2 : sumTo 1200 acN w.acts r1 = r2
 generalize hr3 : sumTo 1200 cdN w.cds r2 = r3
 refine Spec.startL (by kernel_rfl) Tryz.func6 rfl rfl fun w0 L hst => ?_
 refine M.loopL (ι := {q : Nat × Int // q.1 <= w.objs.length /\ 0 <= q.2 /\ q.2 <= 2000000000000000 /\ sumTo 1200 obN (w.objs.drop q.1) q.2 = r1}) (fun q => [(1, .ref 0 0), (3, I q.1.2), (4, I q.1.1)])
  (fun q => [w.pv]) (fun q => w.objs.length - q.1.1) ⟨(0, (w.objs.length : Int) + (w.acts.length : Int)), Nat.zero_le _, by simp only; omega, by simp only; omega, hr1⟩ [In64 ((w.objs.length : Int) + (w.acts.length : Int))] (by kernel_rfl) ⟨⟨by omega, by omega⟩, trivial⟩ (by kernel_rfl) (by kernel_rfl) fun ⟨(i, n), hi, h0, hn, hq⟩ L ih => ?_
 simp only at hi h0 hn hq
 refine M.ts (decide ((i : Int) < (w.objs.length : Int))) (fun h1 => M.test (decide (n <= 1200)) (by kernel_rfl) (fun h2 => ?_) (fun h2 => ?_)) (fun h1 => ?_)
 ·
  have hlt : i < w.objs.length := by simpa using h1
  have h2' := of_decide_eq_true h2
  have hq' := hq
  rw [loop_cons hlt, sumTo, h2, cond_true] at hq'
  have hx := hb.objs _ (getD_mem (p := (i : Int).toNat) (l := w.objs) (by omega))
  refine M.rn [0 <= (i : Int) /\ (i : Int) < (w.objs.length : Int), 0 <= (i : Int) /\ (i : Int) < (w.objs.length : Int), In64 (((w.objs.getD (i : Int).toNat default).sl.length : Int) + ((w.objs.getD (i : Int).toNat default).el.length : Int)), In64 (n + (((w.objs.getD (i : Int).toNat default).sl.length : Int) + ((w.objs.getD (i : Int).toNat default).el.length : Int))), In64 ((i : Int) + 1)] [0] hst ⟨⟨by omega, by omega⟩, ⟨by omega, by omega⟩, ⟨by omega, by omega⟩, ⟨by omega, by omega⟩, ⟨by omega, by omega⟩, trivial⟩ fun L' => ?_
  exact M.bk [] (ih ⟨(i + 1, n + obN (w.objs.getD (i : Int).toNat default)), hlt, by unfold obN; simp only; omega, by unfold obN; simp only; omega, hq'⟩ L' (by show w.objs.length - (i + 1) < w.objs.length - i; omega)) trivial
 all_goals
  have e : n = r1 := by
   first
   | exact (by rw [<- hq, sumTo_stop (of_decide_eq_false h2)])
   | exact (by rw [<- hq, loop_nil (nlt_of_dec h1)]; rfl)
  subst e
  clear ih
  refine M.loopL (ι := {q : Nat × Int // q.1 <= w.acts.length /\ 0 <= q.2 /\ q.2 <= 2000000000000000 /\ sumTo 1200 acN (w.acts.drop q.1) q.2 = r2}) (fun q => [(1, .ref 0 0), (3, I q.1.2), (5, I q.1.1)])
   (fun q => [w.pv]) (fun q => w.acts.length - q.1.1) ⟨(0, n), Nat.zero_le _, by simp only; omega, by simp only; omega, hr2⟩ [] (by kernel_rfl) trivial (by kernel_rfl) (by kernel_rfl) fun ⟨(i, n), hi, h0, hn, hq⟩ L ih => ?_
  simp only at hi h0 hn hq
  refine M.ts (decide ((i : Int) < (w.acts.length : Int))) (fun h1 => M.test (decide (n <= 1200)) (by kernel_rfl) (fun h2 => ?_) (fun h2 => ?_)) (fun h1 => ?_)
  ·
   have hlt : i < w.acts.length := by simpa using h1
   have h2' := of_decide_eq_true h2
   have hq' := hq
   rw [loop_cons hlt, sumTo, h2, cond_true] at hq'
   have hx := hb.acts _ (getD_mem (p := (i : Int).toNat) (l := w.acts) (by omega))
   refine M.rn [0 <= (i : Int) /\ (i : Int) < (w.acts.length : Int), In64 (n + ((w.acts.getD (i : Int).toNat default).vars.length : Int)), In64 ((i : Int) + 1)] [0] hst ⟨⟨by omega, by omega⟩, ⟨by omega, by omega⟩, ⟨by omega, by omega⟩, trivial⟩ fun L' => ?_
   exact M.bk [] (ih ⟨(i + 1, n + acN (w.acts.getD (i : Int).toNat default)), hlt, by unfold acN; simp only; omega, by unfold acN; simp only; omega, hq'⟩ L' (by show w.acts.length - (i + 1) < w.acts.length - i; omega)) trivial
  all_goals
   have e : n = r2 := by
    first
    | exact (by rw [<- hq, sumTo_stop (of_decide_eq_false h2)])
    | exact (by rw [<- hq, loop_nil (nlt_of_dec h1)]; rfl)
   subst e
   clear ih
   refine M.loopL (ι := {q : Nat × Int // q.1 <= w.cds.length /\ 0 <= q.2 /\ q.2 <= 2000000000000000 /\ sumTo 1200 cdN (w.cds.drop q.1) q.2 = r3}) (fun q => [(1, .ref 0 0), (3, I q.1.2), (6, I q.1.1)])
    (fun q => [w.pv]) (fun q => w.cds.length - q.1.1) ⟨(0, n), Nat.zero_le _, by simp only; omega, by simp only; omega, hr3⟩ [] (by kernel_rfl) trivial (by kernel_rfl) (by kernel_rfl) fun ⟨(i, n), hi, h0, hn, hq⟩ L ih => ?_
   simp only at hi h0 hn hq
   refine M.ts (decide ((i : Int) < (w.cds.length : Int))) (fun h1 => M.test (decide (n <= 1200)) (by kernel_rfl) (fun h2 => ?_) (fun h2 => ?_)) (fun h1 => ?_)
   ·
    have hlt : i < w.cds.length := by simpa using h1
    have h2' := of_decide_eq_true h2
    have hq' := hq
    rw [loop_cons hlt, sumTo, h2, cond_true] at hq'
    have hx := hb.cds _ (getD_mem (p := (i : Int).toNat) (l := w.cds) (by omega))
    refine M.rn [0 <= (i : Int) /\ (i : Int) < (w.cds.length : Int), In64 (1 + ((w.cds.getD (i : Int).toNat default).names.length : Int)), In64 (1 + ((w.cds.getD (i : Int).toNat default).names.length : Int) + ((w.cds.getD (i : Int).toNat default).init.length : Int)), In64 (1 + ((w.cds.getD (i : Int).toNat default).names.length : Int) + ((w.cds.getD (i : Int).toNat default).init.length : Int) + ((w.cds.getD (i : Int).toNat default).lits.length : Int)), In64 (1 + ((w.cds.getD (i : Int).toNat default).names.length : Int) + ((w.cds.getD (i : Int).toNat default).init.length : Int) + ((w.cds.getD (i : Int).toNat default).lits.length : Int) + ((w.cds.getD (i : Int).toNat default).sels.length : Int)), In64 (1 + ((w.cds.getD (i : Int).toNat default).names.length : Int) + ((w.cds.getD (i : Int).toNat default).init.length : Int) + ((w.cds.getD (i : Int).toNat default).lits.length : Int) + ((w.cds.getD (i : Int).toNat default).sels.length : Int) + ((w.cds.getD (i : Int).toNat default).ins.length : Int)), In64 (n + (1 + ((w.cds.getD (i : Int).toNat default).names.length : Int) + ((w.cds.getD (i : Int).toNat default).init.length : Int) + ((w.cds.getD (i : Int).toNat default).lits.length : Int) + ((w.cds.getD (i : Int).toNat default).sels.length : Int) + ((w.cds.getD (i : Int).toNat default).ins.length : Int))), In64 ((i : Int) + 1)] [0] hst ⟨⟨by omega, by omega⟩, ⟨by omega, by omega⟩, ⟨by omega, by omega⟩, ⟨by omega, by omega⟩, ⟨by omega, by omega⟩, ⟨by omega, by omega⟩, ⟨by omega, by omega⟩, ⟨by omega, by omega⟩, trivial⟩ fun L' => ?_
    exact M.bk [] (ih ⟨(i + 1, n + cdN (w.cds.getD (i : Int).toNat default)), hlt, by unfold cdN; simp only; omega, by unfold cdN; simp only; omega, hq'⟩ L' (by show w.cds.length - (i + 1) < w.cds.length - i; omega)) trivial
   all_goals
    have e : n = r3 := by
     first
     | exact (by rw [<- hq, sumTo_stop (of_decide_eq_false h2)])
     | exact (by rw [<- hq, loop_nil (nlt_of_dec h1)]; rfl)
    subst e
    clear ih
    exact M.ret (.sb (decide (n <= 1200))) (by kernel_rfl) rfl
def mpN (m : Mp) : Int := (m.sl.length : Int)
def fewT (maps : List Mp) : Bool := decide (sumTo 1500 mpN maps (maps.length : Int) <= 1500)
end Go.Proofs.YtplpnfjccemdnaaGreatDoor
