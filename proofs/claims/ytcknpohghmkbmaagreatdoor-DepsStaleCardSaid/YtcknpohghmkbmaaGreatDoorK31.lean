import Derived.Test.YtcknpohghmkbmaaGreatDoorK30
set_option linter.unusedVariables false
set_option linter.unusedSimpArgs false
/- The texts D37 H5 D38 of the proof, laid one behind the other. -/
namespace Go.Proofs.YtcknpohghmkbmaaGreatDoor
open Go.RowKit
abbrev opnF (w : Wd) (i : Nat) (o : Ob) : Sig := [wO w 1 ++ [.mr 5], [.rwf 6 w.objs.length (fun j => Ob.pv (w.objs.getD j default)) i (ObO 4 o)], actR w, cdR w, slotR o.sl, mpR w]
theorem open_okF (w : Wd) (hw : w.Ok) (h : wcheckW w = 0) (i : Nat) (hi : i < w.objs.length) : SpecM Tryz.prog 70 0 [] [.agg w.pv] (opnF w i (w.objs.getD i default)) (.tup [.ref 0 0, I 0]) := by
 have hv : validW w = true := by
  unfold wcheckW at h
  cases hx : validW w with
  | true => rfl
  | false => rw [hx] at h; cases h
 have ho := hw.objs (w.objs.getD i default) (getD_mem (p := i) hi)
 refine SpecM.start (by kernel_rfl) Tryz.func70 rfl rfl (Nat.zero_le _) fun w0 L hst => ?_
 refine M.callm [] (indexed_spec w) (by kernel_rfl) ?_
 refine M.cl (valid_spec w hw) ?_
 refine M.no (b := !validW w) (by rw [hv]; rfl) (by kernel_rfl) ?_
 refine M.callm [] (wmapO w.objs 131 i hw.nobjs hi (fun x hx => wcopyObj x (hw.objs x hx).nsl (hw.objs x hx).nel) (wcopyO _ ho.nsl ho.nel)) (by kernel_rfl) ?_
 refine M.callm [] (w_mapped_Act w.acts 133 hw.nacts fun x hx => wcopyAct x (hw.acts x hx).nvars) (by kernel_rfl) ?_
 refine M.callm [] (w_mapped_Code w.cds 135 hw.ncds fun x hx => wcopyCode x (hw.cds x hx).names (hw.cds x hx).ninit (hw.cds x hx).nlits (hw.cds x hx).sels (hw.cds x hx).nins) (by kernel_rfl) ?_
 refine M.callm [3, 5, 6, 4] (indexedF w hw i hi) (by kernel_rfl) ?_
 exact M.retm [] [7, 3, 5, 6, 4, 8] hst rfl (by kernel_rfl) trivial rfl rfl
def atI (w : Wd) (n : Int) : Nat := ((atN w.objs w.objs.length (.i n)).getD 0).toNat
def atS (w : Wd) (n : Int) : Bool := (atN w.objs w.objs.length (.i n)).isSome
theorem atI_lt {w : Wd} {n : Int} (h : atS w n = true) : 0 <= (atN w.objs w.objs.length (.i n)).getD 0 /\ (atN w.objs w.objs.length (.i n)).getD 0 < (w.objs.length : Int) := by
 unfold atS at h
 obtain ⟨i, hi⟩ := Option.isSome_iff_exists.1 h
 rw [hi]
 exact atN_lt _ _ _ _ hi
theorem objM_ok (w : Wd) (n : Int) (i : Nat) (hs : atS w n = true) (hi : i = atI w n) : SpecM Tryz.prog 71 6 (opnF w i (w.objs.getD i default)) [.ref 0 0, I n] (opnF w i (w.objs.getD i default)) (.rr 1 6 i 0) := by
 have hlt := atI_lt hs
 refine SpecM.start (by kernel_rfl) Tryz.func71 rfl rfl (Nat.le_of_ble_eq_true rfl) fun w0 L hst => ?_
 refine M.no (b := !atS w n) (by rw [hs]; rfl) (by kernel_rfl) ?_
 subst hi
 exact M.retm [0 <= (atN w.objs w.objs.length (.i n)).getD 0 /\ (atN w.objs w.objs.length (.i n)).getD 0 < (w.objs.length : Int)] [0, 1, 2, 3, 4, 5] hst rfl (by kernel_rfl) ⟨hlt, trivial⟩ rfl rfl
theorem objM_no (w : Wd) (n : Int) (hs : atS w n = false) : SpecM Tryz.prog 71 5 (opS' w) [.ref 0 0, I n] (opS' w) nilP := by
 refine SpecM.start (by kernel_rfl) Tryz.func71 rfl rfl (Nat.le_of_ble_eq_true rfl) fun w0 L hst => ?_
 refine M.yes (b := !atS w n) (by rw [hs]; rfl) (by kernel_rfl) ?_
 exact M.retm [] [0, 1, 2, 3, 4] hst rfl (by kernel_rfl) trivial rfl rfl
theorem object_ok (w : Wd) (hw : w.Ok) (h : wcheckW w = 0) (n : Int) (i : Nat) (hs : atS w n = true) (hi : i = atI w n) : SpecM Tryz.prog 40 0 [] [.agg w.pv, I n] (opnF w i (w.objs.getD i default)) (.tup [.ref 0 0, .rr 1 6 i 0, I 0]) := by
 have hil : i < w.objs.length := by have := atI_lt hs; rw [hi]; unfold atI; omega
 refine SpecM.start (by kernel_rfl) Tryz.func40 rfl rfl (Nat.zero_le _) fun w0 L hst => ?_
 refine M.callm [] (open_okF w hw h i hil) (by kernel_rfl) ?_
 refine M.no (b := (0 : Int) != 0) rfl (by kernel_rfl) ?_
 refine M.callm [1, 2, 3, 4, 5, 6] (objM_ok w n i hs hi) (by kernel_rfl) ?_
 exact M.retm [] [1, 2, 3, 4, 5, 6] hst rfl (by kernel_rfl) trivial rfl rfl
theorem object_none (w : Wd) (hw : w.Ok) (h : wcheckW w = 0) (n : Int) (hs : atS w n = false) : Spec Tryz.prog 40 [.agg w.pv, I n] (.tup [nilP, nilP, I 3]) := by
 refine Spec.startL (by kernel_rfl) Tryz.func40 rfl rfl fun w0 L hst => ?_
 refine M.callm [] (open_ok w hw h) (by kernel_rfl) ?_
 refine M.no (b := (0 : Int) != 0) rfl (by kernel_rfl) ?_
 refine M.callm [1, 2, 3, 4, 5] (objM_no w n hs) (by kernel_rfl) ?_
 exact M.ret (.tup [nilP, nilP, I 3]) (by kernel_rfl) rfl
theorem object_bad (w : Wd) (hw : w.Ok) (n : Int) (h : wcheckW w ≠ 0) : Spec Tryz.prog 40 [.agg w.pv, I n] (.tup [nilP, nilP, I 50]) := by
 refine Spec.startL (by kernel_rfl) Tryz.func40 rfl rfl fun w0 L hst => ?_
 refine M.cl (open_no w hw h) ?_
 refine M.yes (b := (50 : Int) != 0) rfl (by kernel_rfl) ?_
 exact M.ret (.tup [nilP, nilP, I 50]) (by kernel_rfl) rfl
theorem slotOf1_spec (n : List UInt8) (s : Sl) : Spec Tryz.prog 73 [.agg s.pv, .ptr [S n]] (.sb (nmEq n s)) := by
 refine Spec.startL (by kernel_rfl) Tryz.func73 rfl rfl fun w0 L hst => ?_
 exact M.ret (.sb (nmEq n s)) (by kernel_rfl) rfl
theorem slotOf_ok (w : Wd) (i : Nat) (o : Ob) (n : List UInt8) (hil : i < w.objs.length) (ha : decide (atF o.sl n < 0) = false) : SpecM Tryz.prog 41 6 (opnF w i o) [.rr 1 6 i 0, S n] (opnF w i o) (.rr 4 5 (atF o.sl n).toNat 0) := by
 have h0 := of_decide_eq_false ha
 refine SpecM.start (by kernel_rfl) Tryz.func41 rfl rfl (Nat.le_of_ble_eq_true rfl) fun w0 L hst => ?_
 refine M.clp [i < w.objs.length /\ i = i, o.sl.length <= o.sl.length] ⟨⟨hil, rfl⟩, Nat.le_refl _, trivial⟩ (idx_Slot_1' o.sl 73 (.ptr [S n]) (nmEq n) rfl fun x _ => slotOf1_spec n x) ?_
 refine M.no (b := decide (atF o.sl n < 0)) ha (by kernel_rfl) ?_
 exact M.retm [i < w.objs.length /\ i = i, 0 <= atF o.sl n /\ atF o.sl n < (o.sl.length : Int)] [0, 1, 2, 3, 4, 5] hst rfl (by kernel_rfl) ⟨⟨hil, rfl⟩, ⟨by omega, fstI_lt _ _⟩, trivial⟩ rfl rfl
theorem slotOf_no (w : Wd) (i : Nat) (o : Ob) (n : List UInt8) (hil : i < w.objs.length) (ha : decide (atF o.sl n < 0) = true) : SpecM Tryz.prog 41 6 (opnF w i o) [.rr 1 6 i 0, S n] (opnF w i o) nilP := by
 refine SpecM.start (by kernel_rfl) Tryz.func41 rfl rfl (Nat.le_of_ble_eq_true rfl) fun w0 L hst => ?_
 refine M.clp [i < w.objs.length /\ i = i, o.sl.length <= o.sl.length] ⟨⟨hil, rfl⟩, Nat.le_refl _, trivial⟩ (idx_Slot_1' o.sl 73 (.ptr [S n]) (nmEq n) rfl fun x _ => slotOf1_spec n x) ?_
 refine M.yes (b := decide (atF o.sl n < 0)) ha (by kernel_rfl) ?_
 exact M.retm [] [0, 1, 2, 3, 4, 5] hst rfl (by kernel_rfl) trivial rfl rfl
theorem ptr_to {β : List (Option Nat)} {L : List Nat} {W : World} {ps qs : List PV} {u : Value} (hc : ∀ us, Rs [] (bs β ++ L) W ps us -> Rs [] (bs β ++ L) W qs us) (h : R β L W (.ptr ps) u) : R β L W (.ptr qs) u := by
 rw [R] at h ⊢
 obtain ⟨b, off, us, h1, h2, h3, h4, h5, h6⟩ := h
 exact ⟨b, off, us, h1, h2, h3, h4, hc us h5, h6⟩
abbrev chgG (w : Wd) (i : Nat) (o : Ob) : List PV := [focV w i o, row 9 Ac.pv w.acts, row 9 Cd.pv w.cds, I w.nO, I w.nA, .fm (.int .i64) (.i .i64 (atN w.objs w.objs.length))]
theorem hasF_spec (w : Wd) (i : Nat) (hi : i < w.objs.length) (v : Vl) (hn : In64 v.n) : Spec Tryz.prog 42 [.ptr (chgG w i (w.objs.getD i default)), .agg v.pv] (.sb (hasW w v)) :=
 (hasW_spec w v hn).conv (fun L W vs h => by
  obtain ⟨u0, us, rfl, q0, h⟩ := h.uncons
  refine .cons (ptr_to (fun us h => ?_) q0) h
  obtain ⟨u1, us, rfl, q1, h⟩ := h.uncons
  have := foc_row hi q1
  rw [set_same hi] at this
  exact .cons this h) fun _ _ _ h => h
theorem put_row (l : List Sl) (k : Nat) (v : Vl) (hk : k < l.length) : setEl (fun j => Sl.pv (l.getD j default)) k 2 [I v.k, I v.n, S v.t] = fun j => Sl.pv ((l.set k { l.getD k default with v := v }).getD j default) := by
 funext j
 unfold setEl
 by_cases e : j = k
 ·subst e
  rw [if_pos rfl]
  have : (l.set j { l.getD j default with v := v }).getD j default = { l.getD j default with v := v } := by
   simp only [List.getD_eq_getElem?_getD, List.getElem?_set_self hk]; rfl
  rw [this]; rfl
 ·rw [if_neg e]
  have : (l.set k { l.getD k default with v := v }).getD j default = l.getD j default := by
   simp only [List.getD_eq_getElem?_getD]; rw [List.getElem?_set_ne (fun h => e h.symm)]
  rw [this]
def putO (w : Wd) (n : Int) (nm : List UInt8) (v : Vl) : Ob :=
 { w.objs.getD (atI w n) default with sl := (w.objs.getD (atI w n) default).sl.set (atF (w.objs.getD (atI w n) default).sl nm).toNat { (w.objs.getD (atI w n) default).sl.getD (atF (w.objs.getD (atI w n) default).sl nm).toNat default with v := v } }
def putW (w : Wd) (n : Int) (nm : List UInt8) (v : Vl) : Wd × Int :=
 bif wcheckW w != 0 then (wZ, 50) else bif !atS w n then (wZ, 3) else bif decide (atF (w.objs.getD (atI w n) default).sl nm < 0) then (wZ, 3) else
 bif (bif !hasW w v then true else bif ((w.objs.getD (atI w n) default).sl.getD (atF (w.objs.getD (atI w n) default).sl nm).toNat default).kd != 2 then ((w.objs.getD (atI w n) default).sl.getD (atF (w.objs.getD (atI w n) default).sl nm).toNat default).kd != 4 else false) then (wZ, 1) else
 (setW w (atI w n) (putO w n nm v), 0)
theorem Put_spec (w : Wd) (hw : w.Ok) (n : Int) (nm : List UInt8) (v : Vl) (hv : In64 v.n) : Spec Tryz.prog 21 [.agg w.pv, I n, S nm, .agg v.pv] (.tup [.agg (putW w n nm v).1.pv, I (putW w n nm v).2]) := by
 unfold putW
 refine Spec.startL (by kernel_rfl) Tryz.func21 rfl rfl fun w0 L hst => ?_
 by_cases hc : wcheckW w = 0
 case neg =>
  rw [show (wcheckW w != 0) = true by simp [hc], cond_true]
  refine M.cl (object_bad w hw n hc) ?_
  refine M.yes (b := (50 : Int) != 0) rfl (by kernel_rfl) ?_
  exact M.retw [] (.tup [.agg nilW, I 50]) (by kernel_rfl) trivial fun L W u h => wz_nil h
 rw [show (wcheckW w != 0) = false by simp [hc], cond_false]
 cases hs : atS w n with
 | false =>
  refine M.cl (object_none w hw hc n hs) ?_
  refine M.yes (b := (3 : Int) != 0) rfl (by kernel_rfl) ?_
  exact M.retw [] (.tup [.agg nilW, I 3]) (by kernel_rfl) trivial fun L W u h => wz_nil h
 | true =>
 have hil : atI w n < w.objs.length := by have := atI_lt hs; unfold atI; omega
 rw [Bool.not_true, cond_false]
 refine M.callm [] (object_ok w hw hc n (atI w n) hs rfl) (by kernel_rfl) ?_
 refine M.no (b := (0 : Int) != 0) rfl (by kernel_rfl) ?_
 cases ha : decide (atF (w.objs.getD (atI w n) default).sl nm < 0) with
 | true =>
  refine M.callm [3, 4, 5, 6, 7, 8] (slotOf_no w (atI w n) (w.objs.getD (atI w n) default) nm hil ha) (by kernel_rfl) ?_
  exact M.retw [] (.tup [.agg nilW, I 3]) (by kernel_rfl) trivial fun L W u h => wz_nil h
 | false =>
 rw [cond_false]
 have ha' := of_decide_eq_false ha
 have hlt : (atF (w.objs.getD (atI w n) default).sl nm).toNat < (w.objs.getD (atI w n) default).sl.length := by have := fstI_lt (nmEq nm) (w.objs.getD (atI w n) default).sl; unfold atF at ha' ⊢; omega
 refine M.callm [3, 4, 5, 6, 7, 8] (slotOf_ok w (atI w n) (w.objs.getD (atI w n) default) nm hil ha) (by kernel_rfl) ?_
 refine M.clp [w.objs.length <= w.objs.length, (w.objs.getD (atI w n) default).sl.length <= (w.objs.getD (atI w n) default).sl.length, w.acts.length <= w.acts.length, w.cds.length <= w.cds.length] ⟨Nat.le_refl _, Nat.le_refl _, Nat.le_refl _, Nat.le_refl _, trivial⟩ (hasF_spec w (atI w n) hil v hv) ?_
 refine M.test (!hasW w v) (by kernel_rfl) (fun h1 => ?_) (fun h1 => ?_)
 ·rw [h1, cond_true, cond_true]
  exact M.retw [] (.tup [.agg nilW, I 1]) (by kernel_rfl) trivial fun L W u h => wz_nil h
 rw [h1, cond_false]
 have fin : ∀ L W u, R [] L W (.tup [.agg (focW w (atI w n) (putO w n nm v)), I 0]) u -> R [] L W (.tup [.agg (setW w (atI w n) (putO w n nm v)).pv, I 0]) u := fun L W u h => tup_to h fun us h => by
  obtain ⟨u0, us, rfl, h0, h⟩ := h.uncons
  exact Rs.cons (focW_R (o := putO w n nm v) hil h0) h
 have hlen : (putO w n nm v).sl.length = (w.objs.getD (atI w n) default).sl.length := by unfold putO; exact List.length_set
 have hst2 : STo [w.pv, v.pv, wO w 4, wO w 4 ++ [.mr 8], [.rwf 6 w.objs.length (fun j => Ob.pv (w.objs.getD j default)) (atI w n) (ObO 7 (w.objs.getD (atI w n) default))], actR w, cdR w, [.rws 5 (w.objs.getD (atI w n) default).sl.length (setEl (fun j => Sl.pv ((w.objs.getD (atI w n) default).sl.getD j default)) (atF (w.objs.getD (atI w n) default).sl nm).toNat 2 [I v.k, I v.n, S v.t])], mpR w]
   [w.pv, v.pv, wO w 4, wO w 4 ++ [.mr 8], [.rwf 6 w.objs.length (fun j => Ob.pv (w.objs.getD j default)) (atI w n) (ObO 7 (putO w n nm v))], actR w, cdR w, slotR (putO w n nm v).sl, mpR w] := by
  have e1 : ObO 7 (putO w n nm v) = ObO 7 (w.objs.getD (atI w n) default) := by unfold ObO; rw [hlen]; rfl
  have e2 : slotR (putO w n nm v).sl = [.rws 5 (w.objs.getD (atI w n) default).sl.length (setEl (fun j => Sl.pv ((w.objs.getD (atI w n) default).sl.getD j default)) (atF (w.objs.getD (atI w n) default).sl nm).toNat 2 [I v.k, I v.n, S v.t])] := by
   rw [put_row _ _ _ hlt]; unfold slotR; rw [hlen]; rfl
  rw [e1, e2]
  exact .cons (.refl _) (.cons (.refl _) (.cons (.refl _) (.cons (.refl _) (.cons (.refl _) (.cons (.refl _) (.cons (.refl _) (.cons (.refl _) (.cons (.refl _) .nil))))))))
 refine M.testp [(atF (w.objs.getD (atI w n) default).sl nm).toNat < (w.objs.getD (atI w n) default).sl.length] (((w.objs.getD (atI w n) default).sl.getD (atF (w.objs.getD (atI w n) default).sl nm).toNat default).kd != 2) (by kernel_rfl) ⟨hlt, trivial⟩ (fun h2 => ?_) (fun h2 => ?_)
 ·rw [h2, cond_true]
  refine M.testp [(atF (w.objs.getD (atI w n) default).sl nm).toNat < (w.objs.getD (atI w n) default).sl.length] (((w.objs.getD (atI w n) default).sl.getD (atF (w.objs.getD (atI w n) default).sl nm).toNat default).kd != 4) (by kernel_rfl) ⟨hlt, trivial⟩ (fun h3 => ?_) (fun h3 => ?_)
  ·rw [h3, cond_true]
   exact M.retw [] (.tup [.agg nilW, I 1]) (by kernel_rfl) trivial fun L W u h => wz_nil h
  rw [h3, cond_false]
  refine M.sigT [(atF (w.objs.getD (atI w n) default).sl nm).toNat < (w.objs.getD (atI w n) default).sl.length] [w.pv, v.pv, wO w 4, wO w 4 ++ [.mr 8], [.rwf 6 w.objs.length (fun j => Ob.pv (w.objs.getD j default)) (atI w n) (ObO 7 (w.objs.getD (atI w n) default))], actR w, cdR w, [.rws 5 (w.objs.getD (atI w n) default).sl.length (setEl (fun j => Sl.pv ((w.objs.getD (atI w n) default).sl.getD j default)) (atF (w.objs.getD (atI w n) default).sl nm).toNat 2 [I v.k, I v.n, S v.t])], mpR w]
   [w.pv, v.pv, wO w 4, wO w 4 ++ [.mr 8], [.rwf 6 w.objs.length (fun j => Ob.pv (w.objs.getD j default)) (atI w n) (ObO 7 (putO w n nm v))], actR w, cdR w, slotR (putO w n nm v).sl, mpR w] (by kernel_rfl) ⟨hlt, trivial⟩ (by kernel_rfl) (by kernel_rfl) hst2 ?_
  exact M.retw [w.objs.length <= w.objs.length, (putO w n nm v).sl.length <= (putO w n nm v).sl.length, w.acts.length <= w.acts.length, w.cds.length <= w.cds.length] (.tup [.agg (focW w (atI w n) (putO w n nm v)), I 0]) (by kernel_rfl) ⟨Nat.le_refl _, Nat.le_refl _, Nat.le_refl _, Nat.le_refl _, trivial⟩ fin
 ·rw [h2, cond_false, cond_false]
  refine M.sigT [(atF (w.objs.getD (atI w n) default).sl nm).toNat < (w.objs.getD (atI w n) default).sl.length] [w.pv, v.pv, wO w 4, wO w 4 ++ [.mr 8], [.rwf 6 w.objs.length (fun j => Ob.pv (w.objs.getD j default)) (atI w n) (ObO 7 (w.objs.getD (atI w n) default))], actR w, cdR w, [.rws 5 (w.objs.getD (atI w n) default).sl.length (setEl (fun j => Sl.pv ((w.objs.getD (atI w n) default).sl.getD j default)) (atF (w.objs.getD (atI w n) default).sl nm).toNat 2 [I v.k, I v.n, S v.t])], mpR w]
   [w.pv, v.pv, wO w 4, wO w 4 ++ [.mr 8], [.rwf 6 w.objs.length (fun j => Ob.pv (w.objs.getD j default)) (atI w n) (ObO 7 (putO w n nm v))], actR w, cdR w, slotR (putO w n nm v).sl, mpR w] (by kernel_rfl) ⟨hlt, trivial⟩ (by kernel_rfl) (by kernel_rfl) hst2 ?_
  exact M.retw [w.objs.length <= w.objs.length, (putO w n nm v).sl.length <= (putO w n nm v).sl.length, w.acts.length <= w.acts.length, w.cds.length <= w.cds.length] (.tup [.agg (focW w (atI w n) (putO w n nm v)), I 0]) (by kernel_rfl) ⟨Nat.le_refl _, Nat.le_refl _, Nat.le_refl _, Nat.le_refl _, trivial⟩ fin
section
variable {w : Wd} {i : Nat} {x : Ob}
theorem atN_set {l : List Ob} (hx : x.oid = (l.getD i default).oid) (a : Atom) : ∀ k, atN (l.set i x) k a = atN l k a
 | 0 => rfl
 | k + 1 => by
  unfold atN
  have e : ((l.set i x).getD (k : Int).toNat default).oid = (l.getD (k : Int).toNat default).oid := by
   simp only [Int.toNat_natCast, List.getD_eq_getElem?_getD, List.getElem?_set] at hx ⊢
   by_cases h : i = k
   ·subst h
    rw [if_pos rfl]
    by_cases hl : i < l.length
    ·rw [if_pos hl, <- hx]; rfl
    ·rw [if_neg hl, List.getElem?_eq_none (by omega)]
   ·rw [if_neg h]
  rw [e, atN_set hx a k]
theorem objAt_set (hx : x.oid = (w.objs.getD i default).oid) (n : Int) : (objAt (setW w i x) n).isSome = (objAt w n).isSome := by
 unfold objAt
 show (match atN (w.objs.set i x) (w.objs.set i x).length (.i n) with | some i => some _ | none => none : Option Ob).isSome = _
 rw [List.length_set, atN_set hx]
 cases atN w.objs w.objs.length (.i n) <;> rfl
theorem hasW_set (hx : x.oid = (w.objs.getD i default).oid) (v : Vl) : hasW (setW w i x) v = hasW w v := by
 unfold hasW; rw [objAt_set hx]
theorem allW_set (hx : x.oid = (w.objs.getD i default).oid) (l : List Vl) : allW (setW w i x) l = allW w l := by
 unfold allW
 congr 1
 have : nhasW (setW w i x) = nhasW w := by funext v; unfold nhasW; rw [hasW_set hx]
 rw [this]
theorem activW_set (hx : x.oid = (w.objs.getD i default).oid) (a : Ac) : activW (setW w i x) a = activW w a := by
 unfold activW
 rw [hasW_set hx, allW_set hx]
 have h := objAt_set hx a.holder
 cases h1 : objAt (setW w i x) a.holder with
 | none =>
  cases h2 : objAt w a.holder with
  | none => rfl
  | some o => rw [h1, h2] at h; cases h
 | some o =>
  cases h2 : objAt w a.holder with
  | none => rw [h1, h2] at h; cases h
  | some o => rfl
theorem slotW_set (hx : x.oid = (w.objs.getD i default).oid) (o : Ob) (s : Sl) : slotW (setW w i x) o s = slotW w o s := by
 unfold slotW; rw [hasW_set hx]; rfl
theorem slotsW_set (hx : x.oid = (w.objs.getD i default).oid) (o : Ob) : ∀ (l : List Sl) (j : Nat), slotsW (setW w i x) o l j = slotsW w o l j
 | [], _ => rfl
 | s :: t, j => by unfold slotsW; rw [slotW_set hx, slotsW_set hx o t]
theorem kindW_set (hx : x.oid = (w.objs.getD i default).oid) (o : Ob) : kindW (setW w i x) o = kindW w o := by
 unfold kindW rule2W rule4W
 rw [allW_set hx]; rfl
theorem objectW_set (hx : x.oid = (w.objs.getD i default).oid) (o : Ob) : objectW (setW w i x) o = objectW w o := by
 unfold objectW; rw [kindW_set hx, slotsW_set hx]
theorem rootsW_set (hx : x.oid = (w.objs.getD i default).oid) : ∀ (n : Nat) (k : Int), rootsW (setW w i x) n k = rootsW w n k
 | 0, _ => rfl
 | n + 1, k => by unfold rootsW; rw [objAt_set hx, rootsW_set hx n]
theorem codesW_set (hx : x.oid = (w.objs.getD i default).oid) : ∀ l : List Cd, codesW (setW w i x) l = codesW w l
 | [] => rfl
 | c :: t => by unfold codesW; rw [allW_set hx, allW_set hx, codesW_set hx t]
theorem valid_set (hx : x.oid = (w.objs.getD i default).oid) (hi : i < w.objs.length) (ho : objectW w x = true) (h : wcheckW w = 0) : wcheckW (setW w i x) = 0 := by
 have hp := valid_parts h
 unfold wcheckW at h ⊢
 have hv : validW w = true := by
  cases hx : validW w with
  | true => rfl
  | false => rw [hx] at h; exact absurd h (by decide)
 have e : validW (setW w i x) = true := by
  unfold validW at hv ⊢
  have e1 : (setW w i x).objs.length = w.objs.length := List.length_set
  have e2 : (setW w i x).objs.map (·.oid) = w.objs.map (·.oid) := by
   show (w.objs.set i x).map (·.oid) = _
   rw [List.map_set, hx]
   apply List.ext_getElem?
   intro k
   rw [List.getElem?_set]
   by_cases hk : i = k
   ·subst hk
    rw [if_pos rfl, if_pos (by simpa using hi), List.getElem?_map, List.getD_eq_getElem?_getD, List.getElem?_eq_getElem hi]; rfl
   ·rw [if_neg hk]
  have e3 : (setW w i x).objs.any (nobjectW (setW w i x)) = false := by
   rw [List.any_eq_false]
   intro o hm
   unfold nobjectW
   rw [objectW_set hx]
   rcases List.mem_or_eq_of_mem_set hm with hm | hm
   ·rw [hp.objs o hm]; simp
   ·rw [hm, ho]; simp
  have e4 : nactivW (setW w i x) = nactivW w := by funext a; unfold nactivW; rw [activW_set hx]
  have h1 := bif_nor hv
  have h2 := bif_nor h1.2
  have h3 := bif_nor h2.2
  have h4 := bif_nor h3.2
  have h5 := bif_nor h4.2
  have h6 := bif_nor h5.2
  have h7 := bif_nor h6.2
  have h8 := bif_nor h7.2
  rw [e1, h1.1, cond_false, e2, e3, e4, rootsW_set hx, codesW_set hx]
  show (bif decide ((w.acts.length : Int) > 4000) then false else _) = true
  rw [h2.1, cond_false]
  show (bif !numbB (w.objs.map (·.oid)) w.nO then false else bif !numbB (w.acts.map (·.aid)) w.nA then false else bif ccheckC w.cds != 0 then false else bif !rootsW w 10 1 then false else bif !codesW w w.cds then false else bif w.acts.any (nactivW w) then false else !false) = true
  rw [h3.1, h4.1, h5.1, h6.1, h7.1, h8.1]; rfl
 rw [e]; rfl
end
theorem any_nm (l : List Sl) (m : Nat) (s : Sl) : (l.take m).any (fun t => sameNm t s) = ((l.map (·.nm)).take m).any (fun q => q == s.nm) := by
 rw [<- List.map_take, List.any_map]; rfl
theorem slotsW_iff {w : Wd} {o : Ob} : ∀ (l : List Sl) (i : Nat), slotsW w o l i = true ↔ (∀ s ∈ l, slotW w o s = true) /\ ∀ (j : Nat) (s : Sl), l[j]? = some s -> (o.sl.take (i + j)).any (fun t => sameNm t s) = false
 | [], i => ⟨fun _ => ⟨fun s hs => by (cases hs), fun j s h => by simp at h⟩, fun _ => rfl⟩
 | x :: t, i => by
  unfold slotsW
  constructor
  ·intro h
   have h1 := bif_nor h
   have h2 := bif_nor h1.2
   obtain ⟨q1, q2⟩ := (slotsW_iff t (i + 1)).1 h2.2
   refine ⟨fun s hs => ?_, fun j s hj => ?_⟩
   ·rcases List.mem_cons.1 hs with rfl | hs
    ·simpa using h1.1
    ·exact q1 s hs
   ·cases j with
    | zero => simp at hj; subst hj; exact h2.1
    | succ j =>
     have := q2 j s (by simpa using hj)
     rwa [show i + 1 + j = i + (j + 1) by omega] at this
  ·rintro ⟨h1, h2⟩
   have e1 := h1 x (List.mem_cons_self ..)
   have e2 := h2 0 x rfl
   rw [Nat.add_zero] at e2
   rw [e1, e2]
   exact (slotsW_iff t (i + 1)).2 ⟨fun s hs => h1 s (List.mem_cons_of_mem _ hs), fun j s hj => by
    have := h2 (j + 1) s (by simpa using hj)
    rwa [show i + (j + 1) = i + 1 + j by omega] at this⟩
theorem hasW_meth {w : Wd} {v : Vl} (h : hasW w v = true) : v.k ≠ 5 := fun e => by
 unfold hasW at h
 have h1 := (bif_nor h).1
 have : valueC v = 1 := by
  unfold valueC; rw [e]; rfl
 rw [this] at h1; cases h1
theorem object_put {w : Wd} {o : Ob} {k : Nat} {v : Vl} (ho : objectW w o = true) (hk : k < o.sl.length) (ha : (o.sl.getD k default).kd = 2 \/ (o.sl.getD k default).kd = 4) (hv : hasW w v = true) : objectW w { o with sl := o.sl.set k { o.sl.getD k default with v := v } } = true := by
 unfold objectW at ho ⊢
 have h1 := bif_nor ho
 have h2 := bif_nor h1.2
 have h3 := bif_nor h2.2
 have h4 := bif_nor h3.2
 have e1 : decide (((o.sl.set k { o.sl.getD k default with v := v }).length : Int) > 40) = false := by rw [List.length_set]; exact h3.1
 have hs := (slotsW_iff _ _).1 h4.2
 show (bif decide (o.kd < 1) then false else bif decide (o.kd > 5) then false else bif decide (((o.sl.set k { o.sl.getD k default with v := v }).length : Int) > 40) then false else bif !kindW w o then false else slotsW w { o with sl := o.sl.set k { o.sl.getD k default with v := v } } (o.sl.set k { o.sl.getD k default with v := v }) 0) = true
 rw [h1.1, h2.1, e1, h4.1]
 show slotsW w { o with sl := o.sl.set k { o.sl.getD k default with v := v } } (o.sl.set k { o.sl.getD k default with v := v }) 0 = true
 have hmem : o.sl.getD k default ∈ o.sl := getD_mem hk
 have enm : (o.sl.set k { o.sl.getD k default with v := v }).map (·.nm) = o.sl.map (·.nm) := by
  rw [List.map_set]
  apply List.ext_getElem?
  intro j
  rw [List.getElem?_set]
  by_cases hj : k = j
  ·subst hj
   rw [if_pos rfl, if_pos (by simpa using hk), List.getElem?_map, List.getD_eq_getElem?_getD, List.getElem?_eq_getElem hk]; rfl
  ·rw [if_neg hj]
 refine (slotsW_iff _ _).2 ⟨fun s hs' => ?_, fun j s hj => ?_⟩
 ·rcases List.mem_or_eq_of_mem_set hs' with hm | hm
  ·exact hs.1 s hm
  ·rw [hm]
   have hq := hs.1 _ hmem
   generalize o.sl.getD k default = q at ha hq
   have hk5 : q.v.k ≠ 5 := fun e => by
    have := slot_meth hq e
    rcases ha with h | h <;> omega
   unfold slotW at hq ⊢
   rw [show (q.v.k != 5) = true by simp [hk5], cond_true] at hq
   show (bif v.k != 5 then _ else _) = true
   rw [show (v.k != 5) = true by simp [hasW_meth hv], cond_true]
   have q1 := bif_and hq
   have q2 := bif_and q1.2
   have q3 := bif_and q2.2
   show (bif decide (q.kd >= 1) then (bif decide (q.kd <= 4) then (bif carityP q.nm == 0 then hasW w v else false) else false) else false) = true
   rw [q1.1, q2.1, q3.1, hv]; rfl
 ·show ((o.sl.set k { o.sl.getD k default with v := v }).take (0 + j)).any (fun t => sameNm t s) = false
  rw [any_nm, enm]
  rw [List.getElem?_set] at hj
  by_cases hjk : k = j
  ·subst hjk
   rw [if_pos rfl, if_pos hk] at hj
   cases hj
   have := hs.2 k (o.sl.getD k default) (by rw [List.getD_eq_getElem?_getD, List.getElem?_eq_getElem hk]; rfl)
   rw [any_nm] at this; exact this
  ·rw [if_neg hjk] at hj
   have := hs.2 j s hj
   rw [any_nm] at this; exact this
theorem atN_oid (l : List Ob) (n : Int) : ∀ (k : Nat) (i : Int), atN l k (.i n) = some i -> (l.getD i.toNat default).oid = n
 | 0, i, h => by cases h
 | k + 1, i, h => by
  unfold atN at h
  split at h
  ·rename_i e
   cases h
   injection e with e; exact e.symm
  ·exact atN_oid l n k i h
structure PutOk (w : Wd) (n : Int) (nm : List UInt8) (v : Vl) : Prop where
 valid : wcheckW w = 0
 lt : atI w n < w.objs.length
 oid : (w.objs.getD (atI w n) default).oid = n
 slot : (atF (w.objs.getD (atI w n) default).sl nm).toNat < (w.objs.getD (atI w n) default).sl.length
 kd : ((w.objs.getD (atI w n) default).sl.getD (atF (w.objs.getD (atI w n) default).sl nm).toNat default).kd = 2 \/ ((w.objs.getD (atI w n) default).sl.getD (atF (w.objs.getD (atI w n) default).sl nm).toNat default).kd = 4
 has : hasW w v = true
 eq : putW w n nm v = (setW w (atI w n) (putO w n nm v), 0)
theorem putW_ok {w : Wd} {n : Int} {nm : List UInt8} {v : Vl} (h : (putW w n nm v).2 = 0) : PutOk w n nm v := by
 have no : ∀ {e : Int} {x : Wd}, e ≠ 0 -> ((x, e) : Wd × Int).2 = 0 -> False := fun h1 h2 => h1 h2
 unfold putW at h
 cases hc : wcheckW w != 0 with
 | true => rw [hc] at h; exact (no (by decide) h).elim
 | false =>
 rw [hc, cond_false] at h
 cases hs : atS w n with
 | false => rw [hs] at h; exact (no (by decide) h).elim
 | true =>
 rw [hs, Bool.not_true, cond_false] at h
 cases ha : decide (atF (w.objs.getD (atI w n) default).sl nm < 0) with
 | true => rw [ha] at h; exact (no (by decide) h).elim
 | false =>
 rw [ha, cond_false] at h
 cases hh : hasW w v with
 | false => rw [hh] at h; exact (no (by decide) h).elim
 | true =>
 have hkd : ((w.objs.getD (atI w n) default).sl.getD (atF (w.objs.getD (atI w n) default).sl nm).toNat default).kd = 2 \/ ((w.objs.getD (atI w n) default).sl.getD (atF (w.objs.getD (atI w n) default).sl nm).toNat default).kd = 4 := by
  rw [hh] at h
  cases h2 : ((w.objs.getD (atI w n) default).sl.getD (atF (w.objs.getD (atI w n) default).sl nm).toNat default).kd != 2 with
  | false => exact .inl (by simpa using h2)
  | true =>
   rw [h2] at h
   cases h4 : ((w.objs.getD (atI w n) default).sl.getD (atF (w.objs.getD (atI w n) default).sl nm).toNat default).kd != 4 with
   | false => exact .inr (by simpa using h4)
   | true => rw [h4] at h; exact (no (by decide) h).elim
 have ha' := of_decide_eq_false ha
 have hl := atI_lt hs
 refine ⟨by simpa using hc, by unfold atI; omega, ?_, by have := fstI_lt (nmEq nm) (w.objs.getD (atI w n) default).sl; unfold atF at ha' ⊢; omega, hkd, hh, ?_⟩
 ·unfold atS at hs
  obtain ⟨j, hj⟩ := Option.isSome_iff_exists.1 hs
  have := atN_oid w.objs n _ _ hj
  unfold atI; rw [hj]; exact this
 ·unfold putW
  rw [hc, hs, ha, hh]
  rcases hkd with h2 | h2
  ·rw [show (((w.objs.getD (atI w n) default).sl.getD (atF (w.objs.getD (atI w n) default).sl nm).toNat default).kd != 2) = false by rw [h2]; rfl]; rfl
  ·rw [show (((w.objs.getD (atI w n) default).sl.getD (atF (w.objs.getD (atI w n) default).sl nm).toNat default).kd != 2) = true by rw [h2]; rfl, show (((w.objs.getD (atI w n) default).sl.getD (atF (w.objs.getD (atI w n) default).sl nm).toNat default).kd != 4) = false by rw [h2]; rfl]; rfl
theorem PutOk.after {w : Wd} (hw : w.Ok) {n : Int} {nm : List UInt8} {v : Vl} (hv : In64 v.n) (h : PutOk w n nm v) : (setW w (atI w n) (putO w n nm v)).Ok /\ wcheckW (setW w (atI w n) (putO w n nm v)) = 0 := by
 have hm : w.objs.getD (atI w n) default ∈ w.objs := getD_mem h.lt
 have hok := hw.objs _ hm
 refine ⟨setW_ok hw _ ⟨fun s hs => ?_, hok.el, ?_, hok.nel⟩, valid_set rfl h.lt (object_put ((valid_parts h.valid).objs _ hm) h.slot h.kd h.has) h.valid⟩
 ·rcases List.mem_or_eq_of_mem_set hs with hs | hs
  ·exact hok.sl s hs
  ·rw [hs]; exact hv
 ·unfold putO; simp only [List.length_set]; exact hok.nsl
theorem PutOk.map {w : Wd} (hw : w.Ok) {n : Int} {nm : List UInt8} {v : Vl} (hv : In64 v.n) (h : PutOk w n nm v) : ∃ m, mapOfW w n = (m, 0) /\ mapOfW (setW w (atI w n) (putO w n nm v)) n = (m, 0) := by
 obtain ⟨hok, hva⟩ := h.after hw hv
 have hm : w.objs.getD (atI w n) default ∈ w.objs := getD_mem h.lt
 have e1 := objT_mem_of (valid_sorted hw h.valid).1 hm
 rw [h.oid] at e1
 have hm2 : putO w n nm v ∈ (setW w (atI w n) (putO w n nm v)).objs := List.mem_iff_getElem.2 ⟨atI w n, by show _ < (w.objs.set _ _).length; rw [List.length_set]; exact h.lt, by show (w.objs.set (atI w n) (putO w n nm v))[atI w n]'_ = _; rw [List.getElem_set_self]⟩
 have e2 := objT_mem_of (valid_sorted hok hva).1 hm2
 rw [show (putO w n nm v).oid = n from h.oid] at e2
 have em : mapOfF (putO w n nm v) = mapOfF (w.objs.getD (atI w n) default) := by
  unfold mapOfF putO
  have hs := h.slot
  have hk := h.kd
  simp only [Mp.mk.injEq, true_and]
  generalize (w.objs.getD (atI w n) default).sl = l at hs hk ⊢
  generalize (atF l nm).toNat = k at hs hk ⊢
  rw [List.map_set]
  apply List.ext_getElem?
  intro j
  rw [List.getElem?_set]
  by_cases hj : k = j
  ·subst hj
   rw [if_pos rfl, if_pos (by simpa using hs), List.getElem?_map, List.getElem?_eq_getElem hs]
   have e : l.getD k default = l[k] := by rw [List.getD_eq_getElem?_getD, List.getElem?_eq_getElem hs]; rfl
   rw [e] at hk ⊢
   have ha : assignB l[k] = true := by unfold assignB; rcases hk with h | h <;> rw [h] <;> rfl
   show some (mslot { l[k] with v := v }) = some (mslot l[k])
   unfold mslot
   rw [if_pos (show assignB { l[k] with v := v } = true from ha), if_pos ha]
  ·rw [if_neg hj]
 refine ⟨mapOfF (w.objs.getD (atI w n) default), ?_, ?_⟩
 ·unfold mapOfW; rw [h.valid, e1]; rfl
 ·unfold mapOfW; rw [hva, e2]
  show (bif (0 : Int) != 0 then _ else bif !true then _ else (mapOfF (putO w n nm v), (0 : Int))) = _
  rw [em]; rfl
def staleW (w : Wd) (x : Dp) (a : Wd × Int) : Bool × Int := bif a.2 != 0 then (false, a.2) else (ceasesT w a.1 x, 0)
theorem Stale_spec (w : Wd) (hw : w.Ok) (n : Int) (nm : List UInt8) (v : Vl) (hv : In64 v.n) (x : Dp) : Spec Tryz.prog 22 [.agg w.pv, I n, S nm, .agg v.pv, .agg x.pv] (.tup [.sb (staleW w x (putW w n nm v)).1, I (staleW w x (putW w n nm v)).2]) := by
 have hp := putW_ok (w := w) (n := n) (nm := nm) (v := v)
 have hput := Put_spec w hw n nm v hv
 refine Spec.startL (by kernel_rfl) Tryz.func22 rfl rfl fun w0 L hst => ?_
 have hok : (putW w n nm v).2 = 0 -> (putW w n nm v).1.Ok := fun h => by rw [(hp h).eq]; exact ((hp h).after hw hv).1
 generalize putW w n nm v = a at hput hok ⊢
 unfold staleW
 refine M.cl hput ?_
 refine M.test (a.2 != 0) (by kernel_rfl) (fun h => ?_) (fun h => ?_)
 ·rw [h, cond_true]
  exact M.ret (.tup [.sb false, I a.2]) (by kernel_rfl) rfl
 ·rw [h, cond_false]
  refine M.cl (ceases_spec w a.1 hw (hok (by simpa using h)) x) ?_
  exact M.ret (.tup [.sb (ceasesT w a.1 x), I 0]) (by kernel_rfl) rfl
theorem DepsStale_spec (w : Wd) (n : Int) (nm : List UInt8) (v : Vl) (x : Dp) (hb : Bulk w) (hw : smallT w = true -> w.Ok) (hv : In64 v.n) :
  Spec Tryz.prog 7 [.agg w.pv, I n, S nm, .agg v.pv, .agg x.pv] (.sb true) := by
 refine Spec.startL (by kernel_rfl) Tryz.func7 rfl rfl fun w0 L hst => ?_
 refine M.cl awake_spec ?_
 refine M.cl (small_spec w hb) ?_
 refine M.test (!smallT w) (by kernel_rfl) (fun hs => M.ret (.sb true) (by kernel_rfl) rfl) (fun hs => ?_)
 have hok := hw (by simpa using hs)
 refine M.test (decide ((nm.length : Int) > 300)) (by kernel_rfl) (fun h => M.ret (.sb true) (by kernel_rfl) rfl) (fun h => ?_)
 refine M.test (decide ((x.map.sl.length : Int) > 200)) (by kernel_rfl) (fun h => M.ret (.sb true) (by kernel_rfl) rfl) (fun h => ?_)
 have hput := Put_spec w hok n nm v hv
 have hsta := Stale_spec w hok n nm v hv x
 have hp := putW_ok (w := w) (n := n) (nm := nm) (v := v)
 generalize ha : putW w n nm v = a at hput hsta hp
 refine M.cl hput ?_
 refine M.test (a.2 != 0) (by kernel_rfl) (fun h => M.ret (.sb true) (by kernel_rfl) rfl) (fun h => ?_)
 have h0 : a.2 = 0 := by simpa using h
 have hq := hp h0
 obtain ⟨huok, huv⟩ := hq.after hok hv
 obtain ⟨m, m1, m2⟩ := hq.map hok hv
 have he : a = (setW w (atI w n) (putO w n nm v), 0) := ha.symm.trans hq.eq
 have hv0 := hq.valid
 have e1 : HoldsW w x = (holdsT w x, 0) := by unfold HoldsW; rw [hv0]; rfl
 have e2 : HoldsW a.1 x = (holdsT a.1 x, 0) := by unfold HoldsW; rw [he, huv]; rfl
 have e3 : staleW w x a = (ceasesT w a.1 x, 0) := by unfold staleW; rw [h0]; rfl
 have g1 := Holds_spec w hok x
 have g2 := Holds_spec a.1 (by rw [he]; exact huok) x
 have g3 := MapOf_spec w hok n
 have g4 := MapOf_spec a.1 (by rw [he]; exact huok) n
 rw [e1] at g1; rw [e2] at g2; rw [e3] at hsta; rw [m1] at g3; rw [he, m2] at g4
 rw [<- he] at g4
 have g5 : Spec Tryz.prog 24 [.agg m.pv, .agg m.pv] (.sb true) := by
  have := rsameMap m m
  rwa [show rmpEq m m = true by unfold rmpEq; simp [(eqFrom_iff slEq_iff (l := m.sl) (m := m.sl)).2 rfl]] at this
 unfold ceasesT at hsta
 clear e1 e2 e3 m1 m2 hp hq hput ha
 generalize holdsT w x = p at g1 hsta
 generalize holdsT a.1 x = q at g2 hsta
 refine M.cl g1 ?_
 refine M.cl g2 ?_
 refine M.cl hsta ?_
 refine M.cl g3 ?_
 refine M.cl g4 ?_
 refine M.yes (b := true) rfl (by kernel_rfl) ?_
 refine M.yes (b := (0 : Int) == 0) rfl (by kernel_rfl) ?_
 refine M.yes (b := (0 : Int) == 0) rfl (by kernel_rfl) ?_
 refine M.yes (b := (0 : Int) == 0) rfl (by kernel_rfl) ?_
 have e4 : ((bif p then !q else false) == (p && !q)) = true := by cases p <;> cases q <;> rfl
 refine M.test p (by kernel_rfl) (fun k1 => ?_) (fun k1 => ?_)
 ·refine M.yes (b := (bif p then !q else false) == !q) (by rw [k1]; cases q <;> rfl) (by kernel_rfl) ?_
  refine M.yes (b := (0 : Int) == 0) rfl (by kernel_rfl) ?_
  refine M.yes (b := (0 : Int) == 0) rfl (by kernel_rfl) ?_
  refine M.cl g5 ?_
  exact M.ret (.sb true) (by kernel_rfl) rfl
 ·refine M.yes (b := (bif p then !q else false) == false) (by rw [k1]; rfl) (by kernel_rfl) ?_
  refine M.yes (b := (0 : Int) == 0) rfl (by kernel_rfl) ?_
  refine M.yes (b := (0 : Int) == 0) rfl (by kernel_rfl) ?_
  refine M.cl g5 ?_
  exact M.ret (.sb true) (by kernel_rfl) rfl
end Go.Proofs.YtcknpohghmkbmaaGreatDoor
