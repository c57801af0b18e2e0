import Derived.Test.YtcknpohghmkbmaaGreatDoorK30
set_option linter.unusedVariables false
set_option linter.unusedSimpArgs false
/- The texts D31 D32 H1 D33 of the proof, laid one behind the other. -/
namespace Go.Proofs.YtcknpohghmkbmaaGreatDoor
open Go.RowKit
theorem remove_ok (w : Wd) (hw : w.Ok) (ch : Ch) (hf : objF w ch.oid = true) (ha : decide (atF (chO w ch).sl ch.name >= 0) = true) :
  SpecM Tryz.prog 107 4 (edG w (chI w ch) (chO w ch)) [.ref 0 0, .agg ch.pv] (edG w (chI w ch) { chO w ch with sl := delF ch.name (chO w ch).sl }) (.tup []) := by
 have hil := chI_lt hw hf
 have hat := of_decide_eq_true ha
 obtain ⟨i0, hi0⟩ : ∃ i0 : Nat, fstI (nmEq ch.name) (chO w ch).sl = (i0 : Int) := ⟨(fstI (nmEq ch.name) (chO w ch).sl).toNat, by unfold atF at hat; omega⟩
 have hnl : (chO w ch).sl.length <= 1000000000 := by have := (hw.objs _ (getD_mem (p := chI w ch) hil)).nsl; unfold chO; omega
 refine SpecM.start (by kernel_rfl) Tryz.func107 rfl rfl (Nat.le_of_ble_eq_true rfl) fun w0 L hst => ?_
 refine M.callm [0, 1, 2, 3, 4] (slot_ok w hw ch (chI w ch) hf rfl ha) (by kernel_rfl) ?_
 refine M.callm [0, 1, 2, 3, 4] (edobj_ok w hw ch.oid (chI w ch) hf rfl) (by kernel_rfl) ?_
 refine M.callmp [chI w ch < w.objs.length /\ chI w ch = chI w ch] [4, 5] (delF_spec (chO w ch).sl ch hnl i0 hi0) (by kernel_rfl) ⟨⟨hil, rfl⟩, trivial⟩ ?_
 exact M.retm [chI w ch < w.objs.length /\ chI w ch = chI w ch] [0, 1, 2, 3, 4] hst rfl (by kernel_rfl) ⟨⟨hil, rfl⟩, trivial⟩ rfl rfl
def newO (n : Int) : Ob := ⟨n, 1, [], [], 0, 0⟩
abbrev zObS (n : Int) : List PV := [I n, I 1, .v (.slice none 0 0), .v (.slice none 0 0), I 0, I 0]
theorem create_ok (w : Wd) (hw : w.Ok) (hn : In64 w.nO) (ch : Ch) (h1 : (bif decide ((w.objs.length : Int) < 3000) then decide (w.nO < 1099511627776) else false) = true) (h2 : (ch.oid == w.nO) = true) :
  SpecM Tryz.prog 114 1 (edS w) [.ref 0 0, .agg ch.pv] (edS { w with objs := w.objs ++ [newO ch.oid], nO := w.nO + 1 }) (.tup []) := by
 have ha : decide ((w.objs.length : Int) < 3000) = true := by
  cases h : decide ((w.objs.length : Int) < 3000) with
  | true => rfl
  | false => rw [h] at h1; cases h1
 rw [ha, cond_true] at h1
 have ha' := of_decide_eq_true ha
 have hb' := of_decide_eq_true h1
 refine SpecM.start (by kernel_rfl) Tryz.func114 rfl rfl (Nat.le_of_ble_eq_true rfl) fun w0 L hst => ?_
 refine M.yes (b := decide ((w.objs.length : Int) < 3000)) ha (by kernel_rfl) ?_
 refine M.cl (must_s h1 2) ?_
 refine M.cl (must_s h2 110) ?_
 refine M.ren [w.objs.length = w.objs.length /\ 0 < 1 /\ w.objs.length + 1 <= 9223372036854775807 /\ (w.objs.length + 1) * 80 <= 140737488355328, In64 (w.nO + 1)] [0, 5, 2, 3] hst (by kernel_rfl) ⟨⟨rfl, by omega, by omega, by omega⟩, ⟨by have := hn.1; omega, by omega⟩, trivial⟩ (by kernel_rfl) (by kernel_rfl) rfl fun L' => ?_
 refine M.sigT [] [[.os 76 1 6 (w.objs.length + 1), .os 78 2 9 w.acts.length, .os 82 3 9 w.cds.length, I (w.nO + 1), I w.nA], [.rws 6 (w.objs.length + 1) (fun j => (joinEl (fun j => Ob.pv (w.objs.getD j default)) w.objs.length (fun j => ((zObS ch.oid).drop (j * 6)).take 6) j).map (renP (invF [0, 5, 2, 3] 0) 7))], actR w, cdR w]
  (edS { w with objs := w.objs ++ [newO ch.oid], nO := w.nO + 1 }) (by kernel_rfl) trivial (by kernel_rfl) (by kernel_rfl) (.cons ?_ (.cons (app_snocT (k := 6) (f := Ob.pv) w.objs (newO ch.oid) (ds := zObS ch.oid) (g := renP (invF [0, 5, 2, 3] 0) 7) rfl (fun x => rfl) fun β L W us h => (CellsTo.cons (fun _ h => h) (.cons (fun _ h => h) (.cons (fun _ h => nil_rowB 5 Sl.pv h) (.cons (fun _ h => nil_rowB 3 Vl.pv h) (.cons (fun _ h => h) (.cons (fun _ h => h) .nil)))))).rs h) (.cons (.refl _) (.cons (.refl _) .nil)))) ?_
 ·simp only [edC, List.length_append, List.length_cons, List.length_nil, Nat.zero_add]; exact .refl _
 ·exact M.retm [] [0, 1, 2, 3] hst rfl (by kernel_rfl) trivial rfl rfl
theorem mustPv_s (e : Int) : SpecP Tryz.prog 63 0 [] [.v (.bool false), I e] [] (unfV e) := by
 refine SpecP.start (by kernel_rfl) Tryz.func63 rfl rfl (Nat.le_refl _) fun w0 L hst => ?_
 exact M.pan (x := unfV e) [] (by kernel_rfl) trivial (OkP.done [] hst rfl (by kernel_rfl) (by kernel_rfl) (by kernel_rfl))
theorem create_full (w : Wd) (ch : Ch) (h1 : (bif decide ((w.objs.length : Int) < 3000) then decide (w.nO < 1099511627776) else false) = false) :
  SpecP Tryz.prog 114 4 (edS w) [.ref 0 0, .agg ch.pv] (edS w) (unfV 2) := by
 refine SpecP.start (by kernel_rfl) Tryz.func114 rfl rfl (Nat.le_of_ble_eq_true rfl) fun w0 L hst => ?_
 refine M.test (decide ((w.objs.length : Int) < 3000)) (by kernel_rfl) (fun h => ?_) (fun h => ?_)
 ·rw [h, cond_true] at h1
  exact M.callP [] [] (mustP_s h1 2) (by kernel_rfl) trivial (by kernel_rfl) (OkP.done [0, 1, 2, 3] hst rfl (by kernel_rfl) (by kernel_rfl) (by kernel_rfl))
 ·exact M.callP [] [] (mustPv_s 2) (by kernel_rfl) trivial (by kernel_rfl) (OkP.done [0, 1, 2, 3] hst rfl (by kernel_rfl) (by kernel_rfl) (by kernel_rfl))
theorem create_other (w : Wd) (ch : Ch) (h1 : (bif decide ((w.objs.length : Int) < 3000) then decide (w.nO < 1099511627776) else false) = true) (h2 : (ch.oid == w.nO) = false) :
  SpecP Tryz.prog 114 4 (edS w) [.ref 0 0, .agg ch.pv] (edS w) (unfV 110) := by
 have ha : decide ((w.objs.length : Int) < 3000) = true := by
  cases h : decide ((w.objs.length : Int) < 3000) with
  | true => rfl
  | false => rw [h] at h1; cases h1
 rw [ha, cond_true] at h1
 refine SpecP.start (by kernel_rfl) Tryz.func114 rfl rfl (Nat.le_of_ble_eq_true rfl) fun w0 L hst => ?_
 refine M.yes (b := decide ((w.objs.length : Int) < 3000)) ha (by kernel_rfl) ?_
 refine M.cl (must_s h1 2) ?_
 exact M.callP [] [] (mustP_s h2 110) (by kernel_rfl) trivial (by kernel_rfl) (OkP.done [0, 1, 2, 3] hst rfl (by kernel_rfl) (by kernel_rfl) (by kernel_rfl))
def app2 (w : Wd) (ch : Ch) : Wd × Int := bif form2 ch then (bif objF w ch.oid then (bif decide (atF (chO w ch).sl ch.name >= 0) then finT (setW w (chI w ch) { chO w ch with sl := delF ch.name (chO w ch).sl }) else (wZ, 3)) else (wZ, 3)) else (wZ, 110)
theorem applied2 (w : Wd) (hw : w.Ok) (ch : Ch) (hk : ch.kind = 2) (hch : In64 ch.slot.v.n) : Spec Tryz.prog 32 [.agg w.pv, .agg ch.pv] (.tup [.agg (app2 w ch).1.pv, I (app2 w ch).2]) := by
 unfold app2
 obtain ⟨kd, oid, nm, sl⟩ := ch
 simp only at hk
 subst hk
 refine Spec.startD (by kernel_rfl) Tryz.func32 rfl rfl fun w0 L hst hd0 hro hmk hgh => ?_
 refine M.cl kinds_spec ?_
 refine M.look (.tup [.agg [.fn 106 [.ptr zSlot], .fn 107 []], .sb true]) kindsRel (I 2) 130 true [] (by kernel_rfl) trivial (by kernel_rfl) (fun β L W u v h hv => kinds_look (k := 2) h hv (zs := [.nilFunc, .nilFunc]) (by kernel_rfl)) ?_
 refine M.no (b := !true) rfl (by kernel_rfl) ?_
 refine M.cl (form2_spec ⟨2, oid, nm, sl⟩) ?_
 cases hfm : form2 ⟨2, oid, nm, sl⟩ with
 | false =>
  refine M.yes (b := !false) rfl (by kernel_rfl) ?_
  exact M.retw [] (.tup [.agg nilW, I 110]) (by kernel_rfl) trivial fun L W u h => wz_nil h
 | true =>
 refine M.no (b := !true) rfl (by kernel_rfl) ?_
 refine M.defer (g := 61) (caps := [.ref 2 0, .ref 3 0]) 4 [] (by kernel_rfl) trivial hst (Nat.le_of_ble_eq_true (by kernel_rfl)) (by kernel_rfl) hd0 hro hmk hgh fun w1 L1 hD => ?_
 cases hf : objF w oid with
 | false =>
  refine M.callm [] (copied_spec w hw) (by kernel_rfl) ?_
  exact M.callP [] [5, 6, 7, 8] (remove_none w hw ⟨2, oid, nm, sl⟩ hf) (by kernel_rfl) trivial (by kernel_rfl) (OkP.leave (x' := unfV 3) hD [2, 3] (appl_some 3) [] (.tup [.agg nilW, I 3]) (by kernel_rfl) rfl (by kernel_rfl) (by kernel_rfl) (by kernel_rfl) (by kernel_rfl) (by kernel_rfl) trivial fun L W u h => wz_nil h)
 | true =>
 have hil := chI_lt hw (ch := ⟨2, oid, nm, sl⟩) hf
 have hok := hw.objs _ (getD_mem (p := chI w ⟨2, oid, nm, sl⟩) hil)
 refine M.callm [] (copiedF_spec w hw (chI w ⟨2, oid, nm, sl⟩) hil) (by kernel_rfl) ?_
 cases ha : decide (atF (chO w ⟨2, oid, nm, sl⟩).sl nm >= 0) with
 | false =>
  exact M.callP [] [5, 6, 7, 8, 9] (remove_no w hw ⟨2, oid, nm, sl⟩ hf ha) (by kernel_rfl) trivial (by kernel_rfl) (OkP.leave (x' := unfV 3) hD [2, 3] (appl_some 3) [] (.tup [.agg nilW, I 3]) (by kernel_rfl) rfl (by kernel_rfl) (by kernel_rfl) (by kernel_rfl) (by kernel_rfl) (by kernel_rfl) trivial fun L W u h => wz_nil h)
 | true =>
 have ho' : ({ chO w ⟨2, oid, nm, sl⟩ with sl := delF nm (chO w ⟨2, oid, nm, sl⟩).sl } : Ob).Ok := ⟨fun s hs => hok.sl s (List.mem_filter.1 hs).1, hok.el, Nat.le_trans (List.length_filter_le _ _) hok.nsl, hok.nel⟩
 refine M.callmp [] [5, 6, 7, 8, 9] (remove_ok w hw ⟨2, oid, nm, sl⟩ hf ha) (by kernel_rfl) trivial ?_
 refine M.clp [w.objs.length <= w.objs.length, (delF nm (chO w ⟨2, oid, nm, sl⟩).sl).length <= (delF nm (chO w ⟨2, oid, nm, sl⟩).sl).length, w.acts.length <= w.acts.length, w.cds.length <= w.cds.length] ⟨Nat.le_refl _, Nat.le_refl _, Nat.le_refl _, Nat.le_refl _, trivial⟩ (checkG hil (setW_ok hw _ ho')) ?_
 unfold finT
 cases hc : wcheckW (setW w (chI w ⟨2, oid, nm, sl⟩) { chO w ⟨2, oid, nm, sl⟩ with sl := delF nm (chO w ⟨2, oid, nm, sl⟩).sl }) == 0 with
 | true =>
  refine M.cl (must_s hc 110) ?_
  exact M.leave hD [2, 3, 6, 7, 8, 10] (appl_none w (chI w ⟨2, oid, nm, sl⟩) { chO w ⟨2, oid, nm, sl⟩ with sl := delF nm (chO w ⟨2, oid, nm, sl⟩).sl }) [] [w.objs.length <= w.objs.length, (delF nm (chO w ⟨2, oid, nm, sl⟩).sl).length <= (delF nm (chO w ⟨2, oid, nm, sl⟩).sl).length, w.acts.length <= w.acts.length, w.cds.length <= w.cds.length] (.tup [.agg (focW w (chI w ⟨2, oid, nm, sl⟩) { chO w ⟨2, oid, nm, sl⟩ with sl := delF nm (chO w ⟨2, oid, nm, sl⟩).sl }), I 0]) (by kernel_rfl) trivial (by kernel_rfl) (by kernel_rfl) (by kernel_rfl) rfl (by kernel_rfl) (by kernel_rfl) (by kernel_rfl) (by kernel_rfl) ⟨Nat.le_refl _, Nat.le_refl _, Nat.le_refl _, Nat.le_refl _, trivial⟩ fun L W u h => tup_to h fun us h => by
   obtain ⟨u0, us, rfl, h0, h⟩ := h.uncons
   exact Rs.cons (focW_R hil h0) h
 | false =>
  exact M.callP [] [] (mustP_s hc 110) (by kernel_rfl) trivial (by kernel_rfl) (OkP.leave (x' := unfV 110) hD [2, 3] (appl_some 110) [] (.tup [.agg nilW, I 110]) (by kernel_rfl) rfl (by kernel_rfl) (by kernel_rfl) (by kernel_rfl) (by kernel_rfl) (by kernel_rfl) trivial fun L W u h => wz_nil h)
def app3 (w : Wd) (ch : Ch) : Wd × Int := bif form3 ch then (bif objF w ch.oid then (bif decide (atF (chO w ch).sl ch.name >= 0) then finT (setW w (chI w ch) { chO w ch with sl := (chO w ch).sl.set (atF (chO w ch).sl ch.name).toNat { (chO w ch).sl.getD (atF (chO w ch).sl ch.name).toNat default with v := ch.slot.v } }) else (wZ, 3)) else (wZ, 3)) else (wZ, 110)
theorem applied3 (w : Wd) (hw : w.Ok) (ch : Ch) (hk : ch.kind = 3) (hch : In64 ch.slot.v.n) : Spec Tryz.prog 32 [.agg w.pv, .agg ch.pv] (.tup [.agg (app3 w ch).1.pv, I (app3 w ch).2]) := by
 unfold app3
 obtain ⟨kd, oid, nm, sl⟩ := ch
 simp only at hk
 subst hk
 refine Spec.startD (by kernel_rfl) Tryz.func32 rfl rfl fun w0 L hst hd0 hro hmk hgh => ?_
 refine M.cl kinds_spec ?_
 refine M.look (.tup [.agg [.fn 108 [], .fn 109 []], .sb true]) kindsRel (I 3) 130 true [] (by kernel_rfl) trivial (by kernel_rfl) (fun β L W u v h hv => kinds_look (k := 3) h hv (zs := [.nilFunc, .nilFunc]) (by kernel_rfl)) ?_
 refine M.no (b := !true) rfl (by kernel_rfl) ?_
 refine M.cl (form3_spec ⟨3, oid, nm, sl⟩) ?_
 cases hfm : form3 ⟨3, oid, nm, sl⟩ with
 | false =>
  refine M.yes (b := !false) rfl (by kernel_rfl) ?_
  exact M.retw [] (.tup [.agg nilW, I 110]) (by kernel_rfl) trivial fun L W u h => wz_nil h
 | true =>
 refine M.no (b := !true) rfl (by kernel_rfl) ?_
 refine M.defer (g := 61) (caps := [.ref 2 0, .ref 3 0]) 4 [] (by kernel_rfl) trivial hst (Nat.le_of_ble_eq_true (by kernel_rfl)) (by kernel_rfl) hd0 hro hmk hgh fun w1 L1 hD => ?_
 cases hf : objF w oid with
 | false =>
  refine M.callm [] (copied_spec w hw) (by kernel_rfl) ?_
  exact M.callP [] [5, 6, 7, 8] (put_none w hw ⟨3, oid, nm, sl⟩ hf) (by kernel_rfl) trivial (by kernel_rfl) (OkP.leave (x' := unfV 3) hD [2, 3] (appl_some 3) [] (.tup [.agg nilW, I 3]) (by kernel_rfl) rfl (by kernel_rfl) (by kernel_rfl) (by kernel_rfl) (by kernel_rfl) (by kernel_rfl) trivial fun L W u h => wz_nil h)
 | true =>
 have hil := chI_lt hw (ch := ⟨3, oid, nm, sl⟩) hf
 have hok := hw.objs _ (getD_mem (p := chI w ⟨3, oid, nm, sl⟩) hil)
 refine M.callm [] (copiedF_spec w hw (chI w ⟨3, oid, nm, sl⟩) hil) (by kernel_rfl) ?_
 cases ha : decide (atF (chO w ⟨3, oid, nm, sl⟩).sl nm >= 0) with
 | false =>
  exact M.callP [] [5, 6, 7, 8, 9] (put_no w hw ⟨3, oid, nm, sl⟩ hf ha) (by kernel_rfl) trivial (by kernel_rfl) (OkP.leave (x' := unfV 3) hD [2, 3] (appl_some 3) [] (.tup [.agg nilW, I 3]) (by kernel_rfl) rfl (by kernel_rfl) (by kernel_rfl) (by kernel_rfl) (by kernel_rfl) (by kernel_rfl) trivial fun L W u h => wz_nil h)
 | true =>
 have ho' : ({ chO w ⟨3, oid, nm, sl⟩ with sl := (chO w ⟨3, oid, nm, sl⟩).sl.set (atF (chO w ⟨3, oid, nm, sl⟩).sl nm).toNat { (chO w ⟨3, oid, nm, sl⟩).sl.getD (atF (chO w ⟨3, oid, nm, sl⟩).sl nm).toNat default with v := sl.v } } : Ob).Ok := ⟨fun s hs => by
  rcases List.mem_or_eq_of_mem_set hs with h | h
  ·exact hok.sl s h
  ·rw [h]; exact hch, hok.el, by rw [List.length_set]; exact hok.nsl, hok.nel⟩
 refine M.callmp [] [5, 6, 7, 8, 9] (put_ok w hw ⟨3, oid, nm, sl⟩ hf ha) (by kernel_rfl) trivial ?_
 refine M.clp [w.objs.length <= w.objs.length, ((chO w ⟨3, oid, nm, sl⟩).sl.set (atF (chO w ⟨3, oid, nm, sl⟩).sl nm).toNat { (chO w ⟨3, oid, nm, sl⟩).sl.getD (atF (chO w ⟨3, oid, nm, sl⟩).sl nm).toNat default with v := sl.v }).length <= ((chO w ⟨3, oid, nm, sl⟩).sl.set (atF (chO w ⟨3, oid, nm, sl⟩).sl nm).toNat { (chO w ⟨3, oid, nm, sl⟩).sl.getD (atF (chO w ⟨3, oid, nm, sl⟩).sl nm).toNat default with v := sl.v }).length, w.acts.length <= w.acts.length, w.cds.length <= w.cds.length] ⟨Nat.le_refl _, Nat.le_refl _, Nat.le_refl _, Nat.le_refl _, trivial⟩ (checkG hil (setW_ok hw _ ho')) ?_
 unfold finT
 cases hc : wcheckW (setW w (chI w ⟨3, oid, nm, sl⟩) { chO w ⟨3, oid, nm, sl⟩ with sl := (chO w ⟨3, oid, nm, sl⟩).sl.set (atF (chO w ⟨3, oid, nm, sl⟩).sl nm).toNat { (chO w ⟨3, oid, nm, sl⟩).sl.getD (atF (chO w ⟨3, oid, nm, sl⟩).sl nm).toNat default with v := sl.v } }) == 0 with
 | true =>
  refine M.cl (must_s hc 110) ?_
  exact M.leave hD [2, 3, 6, 7, 8, 10] (appl_none w (chI w ⟨3, oid, nm, sl⟩) { chO w ⟨3, oid, nm, sl⟩ with sl := (chO w ⟨3, oid, nm, sl⟩).sl.set (atF (chO w ⟨3, oid, nm, sl⟩).sl nm).toNat { (chO w ⟨3, oid, nm, sl⟩).sl.getD (atF (chO w ⟨3, oid, nm, sl⟩).sl nm).toNat default with v := sl.v } }) [] [w.objs.length <= w.objs.length, ((chO w ⟨3, oid, nm, sl⟩).sl.set (atF (chO w ⟨3, oid, nm, sl⟩).sl nm).toNat { (chO w ⟨3, oid, nm, sl⟩).sl.getD (atF (chO w ⟨3, oid, nm, sl⟩).sl nm).toNat default with v := sl.v }).length <= ((chO w ⟨3, oid, nm, sl⟩).sl.set (atF (chO w ⟨3, oid, nm, sl⟩).sl nm).toNat { (chO w ⟨3, oid, nm, sl⟩).sl.getD (atF (chO w ⟨3, oid, nm, sl⟩).sl nm).toNat default with v := sl.v }).length, w.acts.length <= w.acts.length, w.cds.length <= w.cds.length] (.tup [.agg (focW w (chI w ⟨3, oid, nm, sl⟩) { chO w ⟨3, oid, nm, sl⟩ with sl := (chO w ⟨3, oid, nm, sl⟩).sl.set (atF (chO w ⟨3, oid, nm, sl⟩).sl nm).toNat { (chO w ⟨3, oid, nm, sl⟩).sl.getD (atF (chO w ⟨3, oid, nm, sl⟩).sl nm).toNat default with v := sl.v } }), I 0]) (by kernel_rfl) trivial (by kernel_rfl) (by kernel_rfl) (by kernel_rfl) rfl (by kernel_rfl) (by kernel_rfl) (by kernel_rfl) (by kernel_rfl) ⟨Nat.le_refl _, Nat.le_refl _, Nat.le_refl _, Nat.le_refl _, trivial⟩ fun L W u h => tup_to h fun us h => by
   obtain ⟨u0, us, rfl, h0, h⟩ := h.uncons
   exact Rs.cons (focW_R hil h0) h
 | false =>
  exact M.callP [] [] (mustP_s hc 110) (by kernel_rfl) trivial (by kernel_rfl) (OkP.leave (x' := unfV 110) hD [2, 3] (appl_some 110) [] (.tup [.agg nilW, I 110]) (by kernel_rfl) rfl (by kernel_rfl) (by kernel_rfl) (by kernel_rfl) (by kernel_rfl) (by kernel_rfl) trivial fun L W u h => wz_nil h)
def app4 (w : Wd) (ch : Ch) : Wd × Int := bif form4 ch then (bif objF w ch.oid then (bif decide (atF (chO w ch).sl ch.name >= 0) then finT (setW w (chI w ch) { chO w ch with sl := (chO w ch).sl.set (atF (chO w ch).sl ch.name).toNat { (chO w ch).sl.getD (atF (chO w ch).sl ch.name).toNat default with kd := ch.slot.kd } }) else (wZ, 3)) else (wZ, 3)) else (wZ, 110)
theorem applied4 (w : Wd) (hw : w.Ok) (ch : Ch) (hk : ch.kind = 4) (hch : In64 ch.slot.v.n) : Spec Tryz.prog 32 [.agg w.pv, .agg ch.pv] (.tup [.agg (app4 w ch).1.pv, I (app4 w ch).2]) := by
 unfold app4
 obtain ⟨kd, oid, nm, sl⟩ := ch
 simp only at hk
 subst hk
 refine Spec.startD (by kernel_rfl) Tryz.func32 rfl rfl fun w0 L hst hd0 hro hmk hgh => ?_
 refine M.cl kinds_spec ?_
 refine M.look (.tup [.agg [.fn 111 [.ptr zSlot], .fn 112 []], .sb true]) kindsRel (I 4) 130 true [] (by kernel_rfl) trivial (by kernel_rfl) (fun β L W u v h hv => kinds_look (k := 4) h hv (zs := [.nilFunc, .nilFunc]) (by kernel_rfl)) ?_
 refine M.no (b := !true) rfl (by kernel_rfl) ?_
 refine M.cl (form4_spec ⟨4, oid, nm, sl⟩) ?_
 cases hfm : form4 ⟨4, oid, nm, sl⟩ with
 | false =>
  refine M.yes (b := !false) rfl (by kernel_rfl) ?_
  exact M.retw [] (.tup [.agg nilW, I 110]) (by kernel_rfl) trivial fun L W u h => wz_nil h
 | true =>
 refine M.no (b := !true) rfl (by kernel_rfl) ?_
 refine M.defer (g := 61) (caps := [.ref 2 0, .ref 3 0]) 4 [] (by kernel_rfl) trivial hst (Nat.le_of_ble_eq_true (by kernel_rfl)) (by kernel_rfl) hd0 hro hmk hgh fun w1 L1 hD => ?_
 cases hf : objF w oid with
 | false =>
  refine M.callm [] (copied_spec w hw) (by kernel_rfl) ?_
  exact M.callP [] [5, 6, 7, 8] (turn_none w hw ⟨4, oid, nm, sl⟩ hf) (by kernel_rfl) trivial (by kernel_rfl) (OkP.leave (x' := unfV 3) hD [2, 3] (appl_some 3) [] (.tup [.agg nilW, I 3]) (by kernel_rfl) rfl (by kernel_rfl) (by kernel_rfl) (by kernel_rfl) (by kernel_rfl) (by kernel_rfl) trivial fun L W u h => wz_nil h)
 | true =>
 have hil := chI_lt hw (ch := ⟨4, oid, nm, sl⟩) hf
 have hok := hw.objs _ (getD_mem (p := chI w ⟨4, oid, nm, sl⟩) hil)
 refine M.callm [] (copiedF_spec w hw (chI w ⟨4, oid, nm, sl⟩) hil) (by kernel_rfl) ?_
 cases ha : decide (atF (chO w ⟨4, oid, nm, sl⟩).sl nm >= 0) with
 | false =>
  exact M.callP [] [5, 6, 7, 8, 9] (turn_no w hw ⟨4, oid, nm, sl⟩ hf ha) (by kernel_rfl) trivial (by kernel_rfl) (OkP.leave (x' := unfV 3) hD [2, 3] (appl_some 3) [] (.tup [.agg nilW, I 3]) (by kernel_rfl) rfl (by kernel_rfl) (by kernel_rfl) (by kernel_rfl) (by kernel_rfl) (by kernel_rfl) trivial fun L W u h => wz_nil h)
 | true =>
 have ho' : ({ chO w ⟨4, oid, nm, sl⟩ with sl := (chO w ⟨4, oid, nm, sl⟩).sl.set (atF (chO w ⟨4, oid, nm, sl⟩).sl nm).toNat { (chO w ⟨4, oid, nm, sl⟩).sl.getD (atF (chO w ⟨4, oid, nm, sl⟩).sl nm).toNat default with kd := sl.kd } } : Ob).Ok := ⟨fun s hs => by
  rcases List.mem_or_eq_of_mem_set hs with h | h
  ·exact hok.sl s h
  ·rw [h]
   have hat := of_decide_eq_true ha
   have hlt := fstI_lt (nmEq nm) (chO w ⟨4, oid, nm, sl⟩).sl
   have hq : (atF (chO w ⟨4, oid, nm, sl⟩).sl nm).toNat < (chO w ⟨4, oid, nm, sl⟩).sl.length := by unfold atF at hat ⊢; omega
   exact hok.sl ((chO w ⟨4, oid, nm, sl⟩).sl.getD (atF (chO w ⟨4, oid, nm, sl⟩).sl nm).toNat default) (getD_mem hq), hok.el, by rw [List.length_set]; exact hok.nsl, hok.nel⟩
 refine M.callmp [] [5, 6, 7, 8, 9] (turn_ok w hw ⟨4, oid, nm, sl⟩ hf ha) (by kernel_rfl) trivial ?_
 refine M.clp [w.objs.length <= w.objs.length, ((chO w ⟨4, oid, nm, sl⟩).sl.set (atF (chO w ⟨4, oid, nm, sl⟩).sl nm).toNat { (chO w ⟨4, oid, nm, sl⟩).sl.getD (atF (chO w ⟨4, oid, nm, sl⟩).sl nm).toNat default with kd := sl.kd }).length <= ((chO w ⟨4, oid, nm, sl⟩).sl.set (atF (chO w ⟨4, oid, nm, sl⟩).sl nm).toNat { (chO w ⟨4, oid, nm, sl⟩).sl.getD (atF (chO w ⟨4, oid, nm, sl⟩).sl nm).toNat default with kd := sl.kd }).length, w.acts.length <= w.acts.length, w.cds.length <= w.cds.length] ⟨Nat.le_refl _, Nat.le_refl _, Nat.le_refl _, Nat.le_refl _, trivial⟩ (checkG hil (setW_ok hw _ ho')) ?_
 unfold finT
 cases hc : wcheckW (setW w (chI w ⟨4, oid, nm, sl⟩) { chO w ⟨4, oid, nm, sl⟩ with sl := (chO w ⟨4, oid, nm, sl⟩).sl.set (atF (chO w ⟨4, oid, nm, sl⟩).sl nm).toNat { (chO w ⟨4, oid, nm, sl⟩).sl.getD (atF (chO w ⟨4, oid, nm, sl⟩).sl nm).toNat default with kd := sl.kd } }) == 0 with
 | true =>
  refine M.cl (must_s hc 110) ?_
  exact M.leave hD [2, 3, 6, 7, 8, 10] (appl_none w (chI w ⟨4, oid, nm, sl⟩) { chO w ⟨4, oid, nm, sl⟩ with sl := (chO w ⟨4, oid, nm, sl⟩).sl.set (atF (chO w ⟨4, oid, nm, sl⟩).sl nm).toNat { (chO w ⟨4, oid, nm, sl⟩).sl.getD (atF (chO w ⟨4, oid, nm, sl⟩).sl nm).toNat default with kd := sl.kd } }) [] [w.objs.length <= w.objs.length, ((chO w ⟨4, oid, nm, sl⟩).sl.set (atF (chO w ⟨4, oid, nm, sl⟩).sl nm).toNat { (chO w ⟨4, oid, nm, sl⟩).sl.getD (atF (chO w ⟨4, oid, nm, sl⟩).sl nm).toNat default with kd := sl.kd }).length <= ((chO w ⟨4, oid, nm, sl⟩).sl.set (atF (chO w ⟨4, oid, nm, sl⟩).sl nm).toNat { (chO w ⟨4, oid, nm, sl⟩).sl.getD (atF (chO w ⟨4, oid, nm, sl⟩).sl nm).toNat default with kd := sl.kd }).length, w.acts.length <= w.acts.length, w.cds.length <= w.cds.length] (.tup [.agg (focW w (chI w ⟨4, oid, nm, sl⟩) { chO w ⟨4, oid, nm, sl⟩ with sl := (chO w ⟨4, oid, nm, sl⟩).sl.set (atF (chO w ⟨4, oid, nm, sl⟩).sl nm).toNat { (chO w ⟨4, oid, nm, sl⟩).sl.getD (atF (chO w ⟨4, oid, nm, sl⟩).sl nm).toNat default with kd := sl.kd } }), I 0]) (by kernel_rfl) trivial (by kernel_rfl) (by kernel_rfl) (by kernel_rfl) rfl (by kernel_rfl) (by kernel_rfl) (by kernel_rfl) (by kernel_rfl) ⟨Nat.le_refl _, Nat.le_refl _, Nat.le_refl _, Nat.le_refl _, trivial⟩ fun L W u h => tup_to h fun us h => by
   obtain ⟨u0, us, rfl, h0, h⟩ := h.uncons
   exact Rs.cons (focW_R hil h0) h
 | false =>
  exact M.callP [] [] (mustP_s hc 110) (by kernel_rfl) trivial (by kernel_rfl) (OkP.leave (x' := unfV 110) hD [2, 3] (appl_some 110) [] (.tup [.agg nilW, I 110]) (by kernel_rfl) rfl (by kernel_rfl) (by kernel_rfl) (by kernel_rfl) (by kernel_rfl) (by kernel_rfl) trivial fun L W u h => wz_nil h)
abbrev mkW (w : Wd) (n : Int) : Wd := { w with objs := w.objs ++ [newO n], nO := w.nO + 1 }
theorem mkW_ok {w : Wd} (hw : w.Ok) (n : Int) (hl : w.objs.length < 3000) : (mkW w n).Ok := ⟨fun x hx => by
 rcases List.mem_append.1 hx with h | h
 ·exact hw.objs x h
 ·rw [List.mem_singleton.1 h]
  exact ⟨(fun s hs => by cases hs), (fun s hs => by cases hs), Nat.zero_le _, Nat.zero_le _⟩, hw.acts, hw.cds, hw.nacts, by show (w.objs ++ [newO n]).length <= _; rw [List.length_append]; simp only [List.length_cons, List.length_nil]; omega, hw.ncds⟩
abbrev doneM (w : Wd) : Sig := [[.os 76 2 6 w.objs.length, .os 78 3 9 w.acts.length, .os 82 4 9 w.cds.length, I w.nO, I w.nA], [I 0], objR w, actR w, cdR w]
theorem appl_made (w : Wd) : SpecD Tryz.prog 61 (doneM w) [.ref 0 0, .ref 1 0] none (doneM w) := by
 refine SpecD.start (by kernel_rfl) rfl Tryz.func61 rfl rfl rfl rfl rfl rfl fun w0 L hst => ?_
 exact M.dend [] (by kernel_rfl) trivial (by kernel_rfl) (by kernel_rfl) [0, 1, 2, 3, 4] (n := 5) hst rfl (by kernel_rfl) (by kernel_rfl) rfl
def app5 (w : Wd) (ch : Ch) : Wd × Int := bif form5 ch then (bif (bif decide ((w.objs.length : Int) < 3000) then decide (w.nO < 1099511627776) else false) then (bif ch.oid == w.nO then finT (mkW w ch.oid) else (wZ, 110)) else (wZ, 2)) else (wZ, 110)
theorem applied5 (w : Wd) (hw : w.Ok) (hn : In64 w.nO) (ch : Ch) (hk : ch.kind = 5) (hch : In64 ch.slot.v.n) : Spec Tryz.prog 32 [.agg w.pv, .agg ch.pv] (.tup [.agg (app5 w ch).1.pv, I (app5 w ch).2]) := by
 unfold app5
 obtain ⟨kd, oid, nm, sl⟩ := ch
 simp only at hk
 subst hk
 refine Spec.startD (by kernel_rfl) Tryz.func32 rfl rfl fun w0 L hst hd0 hro hmk hgh => ?_
 refine M.cl kinds_spec ?_
 refine M.look (.tup [.agg [.fn 113 [.ptr zSlot], .fn 114 []], .sb true]) kindsRel (I 5) 130 true [] (by kernel_rfl) trivial (by kernel_rfl) (fun β L W u v h hv => kinds_look (k := 5) h hv (zs := [.nilFunc, .nilFunc]) (by kernel_rfl)) ?_
 refine M.no (b := !true) rfl (by kernel_rfl) ?_
 refine M.cl (form5_spec ⟨5, oid, nm, sl⟩) ?_
 cases hfm : form5 ⟨5, oid, nm, sl⟩ with
 | false =>
  refine M.yes (b := !false) rfl (by kernel_rfl) ?_
  exact M.retw [] (.tup [.agg nilW, I 110]) (by kernel_rfl) trivial fun L W u h => wz_nil h
 | true =>
 refine M.no (b := !true) rfl (by kernel_rfl) ?_
 refine M.defer (g := 61) (caps := [.ref 2 0, .ref 3 0]) 4 [] (by kernel_rfl) trivial hst (Nat.le_of_ble_eq_true (by kernel_rfl)) (by kernel_rfl) hd0 hro hmk hgh fun w1 L1 hD => ?_
 cases h1 : (bif decide ((w.objs.length : Int) < 3000) then decide (w.nO < 1099511627776) else false) with
 | false =>
  refine M.callm [] (copied_spec w hw) (by kernel_rfl) ?_
  exact M.callP [] [5, 6, 7, 8] (create_full w ⟨5, oid, nm, sl⟩ h1) (by kernel_rfl) trivial (by kernel_rfl) (OkP.leave (x' := unfV 2) hD [2, 3] (appl_some 2) [] (.tup [.agg nilW, I 2]) (by kernel_rfl) rfl (by kernel_rfl) (by kernel_rfl) (by kernel_rfl) (by kernel_rfl) (by kernel_rfl) trivial fun L W u h => wz_nil h)
 | true =>
 cases h2 : oid == w.nO with
 | false =>
  refine M.callm [] (copied_spec w hw) (by kernel_rfl) ?_
  exact M.callP [] [5, 6, 7, 8] (create_other w ⟨5, oid, nm, sl⟩ h1 h2) (by kernel_rfl) trivial (by kernel_rfl) (OkP.leave (x' := unfV 110) hD [2, 3] (appl_some 110) [] (.tup [.agg nilW, I 110]) (by kernel_rfl) rfl (by kernel_rfl) (by kernel_rfl) (by kernel_rfl) (by kernel_rfl) (by kernel_rfl) trivial fun L W u h => wz_nil h)
 | true =>
 have hl : w.objs.length < 3000 := by
  cases h : decide ((w.objs.length : Int) < 3000) with
  | true => have := of_decide_eq_true h; omega
  | false => rw [h] at h1; cases h1
 refine M.callm [] (copied_spec w hw) (by kernel_rfl) ?_
 refine M.callmp [] [5, 6, 7, 8] (create_ok w hw hn ⟨5, oid, nm, sl⟩ h1 h2) (by kernel_rfl) trivial ?_
 refine M.clp [(w.objs ++ [newO oid]).length <= (w.objs ++ [newO oid]).length, w.acts.length <= w.acts.length, w.cds.length <= w.cds.length] ⟨Nat.le_refl _, Nat.le_refl _, Nat.le_refl _, trivial⟩ (wcheck_spec (mkW w oid) (mkW_ok hw oid hl)) ?_
 unfold finT
 cases hc : wcheckW (mkW w oid) == 0 with
 | true =>
  refine M.cl (must_s hc 110) ?_
  exact M.leave hD [2, 3, 9, 10, 11] (appl_made (mkW w oid)) [] [(w.objs ++ [newO oid]).length <= (w.objs ++ [newO oid]).length, w.acts.length <= w.acts.length, w.cds.length <= w.cds.length] (.tup [.agg (mkW w oid).pv, I 0]) (by kernel_rfl) trivial (by kernel_rfl) (by kernel_rfl) (by kernel_rfl) rfl (by kernel_rfl) (by kernel_rfl) (by kernel_rfl) (by kernel_rfl) ⟨Nat.le_refl _, Nat.le_refl _, Nat.le_refl _, trivial⟩ fun L W u h => h
 | false =>
  exact M.callP [] [] (mustP_s hc 110) (by kernel_rfl) trivial (by kernel_rfl) (OkP.leave (x' := unfV 110) hD [2, 3] (appl_some 110) [] (.tup [.agg nilW, I 110]) (by kernel_rfl) rfl (by kernel_rfl) (by kernel_rfl) (by kernel_rfl) (by kernel_rfl) (by kernel_rfl) trivial fun L W u h => wz_nil h)
theorem incr_sorted : ∀ (l : List Int) (k m : Int), incr k l = some m -> (∀ x ∈ l, k < x /\ x <= m) /\ l.Pairwise (· < ·) /\ k <= m
 | [], k, m, h => by
  unfold incr at h; cases h
  exact ⟨fun x hx => by simp at hx, List.Pairwise.nil, Int.le_refl _⟩
 | n :: l, k, m, h => by
  unfold incr at h
  split at h
  ·cases h
  ·rename_i hn
   obtain ⟨h1, h2, h3⟩ := incr_sorted l n m h
   refine ⟨fun x hx => ?_, List.pairwise_cons.2 ⟨fun x hx => (h1 x hx).1, h2⟩, by omega⟩
   rcases List.mem_cons.1 hx with rfl | hx
   ·omega
   ·have := h1 x hx; omega
theorem bsch_split (c : Int -> Int) (len : Int) (hl : len <= 1000000000) (mono : ∀ a b, 0 <= a -> a <= b -> b < len -> c b < 0 -> c a < 0) : ∀ (n : Nat) (i j : Int), (j - i).toNat <= n -> 0 <= i -> i <= j -> j <= len ->
  (∀ k, 0 <= k -> k < i -> c k < 0) -> (∀ k, j <= k -> k < len -> ¬ c k < 0) -> (∀ k, 0 <= k -> k < bsch c n i j -> c k < 0) /\ ∀ k, bsch c n i j <= k -> k < len -> ¬ c k < 0
 | 0, i, j, hn, h0, hij, hj, ha, hb => by
  have : i = j := by omega
  subst this
  exact ⟨ha, hb⟩
 | n + 1, i, j, hn, h0, hij, hj, ha, hb => by
  unfold bsch
  split
  ·rename_i hlt
   obtain ⟨h1, h2⟩ := half_at h0 hlt (by omega)
   split
   ·rename_i hc
    exact bsch_split c len hl mono n (half i j + 1) j (by omega) (by omega) (by omega) hj (fun k hk hk2 => mono k (half i j) hk (by omega) (by omega) hc) hb
   ·rename_i hc
    exact bsch_split c len hl mono n i (half i j) (by omega) h0 h1 (by omega) ha (fun k hk hk2 h => hc (mono (half i j) k (by omega) hk hk2 h))
  ·exact ⟨ha, fun k hk => hb k (by omega)⟩
def Sorted (w : Wd) : Prop := (w.objs.map (·.oid)).Pairwise (· < ·) /\ w.objs.length <= 1000000000
theorem valid_sorted {w : Wd} (hw : w.Ok) (h : wcheckW w = 0) : Sorted w /\ ∀ o ∈ w.objs, 0 < o.oid /\ o.oid < w.nO := by
 unfold wcheckW at h
 have hv : validW w = true := by
  cases hx : validW w with
  | true => rfl
  | false => rw [hx] at h; exact absurd h (by decide)
 unfold validW at hv
 cases h1 : decide ((w.objs.length : Int) > 3000) with
 | true => rw [h1] at hv; cases hv
 | false =>
 rw [h1, cond_false] at hv
 cases h2 : decide ((w.acts.length : Int) > 4000) with
 | true => rw [h2] at hv; cases hv
 | false =>
 rw [h2, cond_false] at hv
 cases h3 : numbB (w.objs.map (·.oid)) w.nO with
 | false => rw [h3] at hv; cases hv
 | true =>
 unfold numbB at h3
 split at h3
 ·rename_i m hm
  obtain ⟨q1, q2, q3⟩ := incr_sorted _ _ _ hm
  simp only [Bool.and_eq_true, decide_eq_true_eq] at h3
  exact ⟨⟨q2, hw.nobjs⟩, fun o ho => by have := q1 o.oid (List.mem_map.2 ⟨o, ho, rfl⟩); omega⟩
 ·cases h3
theorem sorted_lt {l : List Ob} (h : (l.map (·.oid)).Pairwise (· < ·)) {a b : Nat} (hab : a < b) (hb : b < l.length) : (l.getD a default).oid < (l.getD b default).oid := by
 rw [List.pairwise_map, List.pairwise_iff_getElem] at h
 have := h a b (by omega) hb hab
 rw [List.getD_eq_getElem?_getD, List.getD_eq_getElem?_getD, List.getElem?_eq_getElem (by omega), List.getElem?_eq_getElem hb]
 exact this
theorem cmpF_neg {x y : Int} : cmpF x y < 0 ↔ x < y := by unfold cmpF; split <;> (try split) <;> omega
theorem cmpF_zero {x y : Int} : cmpF x y = 0 ↔ x = y := by unfold cmpF; split <;> (try split) <;> omega
theorem objI_split {w : Wd} (h : Sorted w) (n : Int) : (∀ k : Int, 0 <= k -> k < objI w n -> (w.objs.getD k.toNat default).oid < n) /\ ∀ k : Int, objI w n <= k -> k < w.objs.length -> n <= (w.objs.getD k.toNat default).oid := by
 have hh := bsch_split (fun h => haObF (w.objs.getD h.toNat default) n) w.objs.length (by have := h.2; omega) (fun a b ha hab hb hc => by
  simp only [haObF] at hc ⊢
  rw [cmpF_neg] at hc ⊢
  by_cases e : a = b
  ·rw [e]; exact hc
  ·have := sorted_lt h.1 (a := a.toNat) (b := b.toNat) (by omega) (by omega); omega) w.objs.length 0 w.objs.length (by omega) (by omega) (by omega) (by omega) (fun k h1 h2 => by omega) (fun k h1 h2 => by omega)
 refine ⟨fun k h1 h2 => ?_, fun k h1 h2 => ?_⟩
 ·have := hh.1 k h1 h2
  simp only [haObF, cmpF_neg] at this; exact this
 ·have := hh.2 k h1 h2
  simp only [haObF, cmpF_neg] at this; omega
theorem objT_true {w : Wd} {n : Int} (hl : w.objs.length <= 1000000000) (h : objF w n = true) : (objT w n).1 ∈ w.objs /\ (objT w n).1.oid = n /\ (objT w n).2 = true := by
 have h0 := (objI_in w n hl).1
 unfold objT
 rw [h, cond_true]
 unfold objF at h
 simp only [Bool.and_eq_true, decide_eq_true_eq, beq_iff_eq] at h
 refine ⟨getD_mem (by omega), ?_, rfl⟩
 have := h.2
 unfold haObF at this
 exact cmpF_zero.1 this
theorem objF_of {w : Wd} (h : Sorted w) {o : Ob} (ho : o ∈ w.objs) : objF w o.oid = true /\ (objT w o.oid).1 = o := by
 obtain ⟨i, hi, he⟩ := List.mem_iff_getElem.1 ho
 obtain ⟨h1, h2⟩ := objI_split h o.oid
 have hin := objI_in w o.oid h.2
 have hgi : w.objs.getD i default = o := by rw [List.getD_eq_getElem?_getD, List.getElem?_eq_getElem hi]; exact he
 have e : objI w o.oid = i := by
  rcases Int.lt_trichotomy (objI w o.oid) i with hlt | heq | hgt
  ·have a1 := h2 (objI w o.oid) (Int.le_refl _) (by omega)
   have a2 := sorted_lt h.1 (a := (objI w o.oid).toNat) (b := i) (by omega) hi
   rw [hgi] at a2; omega
  ·exact heq
  ·have a1 := h1 i (by omega) hgt
   rw [show (i : Int).toNat = i by omega, hgi] at a1; omega
 have hf : objF w o.oid = true := by
  unfold objF
  rw [e]
  simp only [Bool.and_eq_true, decide_eq_true_eq, beq_iff_eq]
  refine ⟨by omega, ?_⟩
  rw [show (i : Int).toNat = i by omega, hgi]
  unfold haObF
  exact cmpF_zero.2 rfl
 refine ⟨hf, ?_⟩
 unfold objT
 rw [hf, cond_true, e, show (i : Int).toNat = i by omega]
 exact hgi
theorem objT_mem_of {w : Wd} (h : Sorted w) {o : Ob} (ho : o ∈ w.objs) : objT w o.oid = (o, true) := by
 obtain ⟨h1, h2⟩ := objF_of h ho
 exact Prod.ext h2 (objT_true h.2 h1).2.2
theorem objT_none {w : Wd} (hl : w.objs.length <= 1000000000) {n : Int} (h : ∀ o ∈ w.objs, o.oid ≠ n) : objT w n = (⟨0, 0, [], [], 0, 0⟩, false) := by
 cases hf : objF w n with
 | true => exact absurd (objT_true hl hf).2.1 (h _ (objT_true hl hf).1)
 | false => unfold objT; rw [hf]; rfl
theorem objT_same {w v : Wd} (hw : Sorted w) (hv : Sorted v) {n : Int} (h : ∀ o : Ob, o.oid = n -> (o ∈ w.objs ↔ o ∈ v.objs)) : objT v n = objT w n := by
 by_cases he : ∃ o ∈ w.objs, o.oid = n
 ·obtain ⟨o, ho, rfl⟩ := he
  rw [objT_mem_of hw ho, objT_mem_of hv ((h o rfl).1 ho)]
 ·rw [objT_none hw.2 fun o ho e => he ⟨o, ho, e⟩, objT_none hv.2 fun o ho e => he ⟨o, (h o e).2 ho, e⟩]
theorem objI_at {w : Wd} (h : Sorted w) {n : Int} (hf : objF w n = true) : (w.objs.getD (objI w n).toNat default).oid = n /\ (objI w n).toNat < w.objs.length := by
 have h0 := (objI_in w n h.2).1
 unfold objF at hf
 simp only [Bool.and_eq_true, decide_eq_true_eq, beq_iff_eq] at hf
 exact ⟨cmpF_zero.1 hf.2, by omega⟩
theorem set_mem {l : List Ob} (h : (l.map (·.oid)).Pairwise (· < ·)) {i : Nat} (hi : i < l.length) {x o : Ob} (hx : x.oid = (l.getD i default).oid) (ho : o.oid ≠ x.oid) : o ∈ l ↔ o ∈ l.set i x := by
 constructor
 ·intro hm
  obtain ⟨j, hj, he⟩ := List.mem_iff_getElem.1 hm
  have hne : i ≠ j := fun e => by
   subst e
   apply ho
   rw [hx, List.getD_eq_getElem?_getD, List.getElem?_eq_getElem hi, <- he]; rfl
  exact List.mem_iff_getElem.2 ⟨j, by rw [List.length_set]; exact hj, by rw [List.getElem_set_ne hne]; exact he⟩
 ·intro hm
  rcases List.mem_or_eq_of_mem_set hm with hm | hm
  ·exact hm
  ·exact absurd (by rw [hm]) ho
theorem appliedX (w : Wd) (hw : w.Ok) (ch : Ch) (hk : kindsP (.i ch.kind) = []) : Spec Tryz.prog 32 [.agg w.pv, .agg ch.pv] (.tup [.agg wZ.pv, I 110]) := by
 refine Spec.startD (by kernel_rfl) Tryz.func32 rfl rfl fun w0 L hst hd0 hro hmk hgh => ?_
 refine M.cl kinds_spec ?_
 refine M.look (.tup [.agg [.v .nilFunc, .v .nilFunc], .sb false]) kindsRel (I ch.kind) 130 true [] (by kernel_rfl) trivial (by kernel_rfl) (fun β L W u v h hv => by
  have h2 := kinds_look (k := ch.kind) h hv (zs := [.nilFunc, .nilFunc]) (by kernel_rfl)
  rw [hk] at h2
  exact h2) ?_
 refine M.yes (b := !false) rfl (by kernel_rfl) ?_
 exact M.retw [] (.tup [.agg nilW, I 110]) (by kernel_rfl) trivial fun L W u h => wz_nil h
def appW (w : Wd) (ch : Ch) : Wd × Int := bif ch.kind == 1 then app1 w ch else bif ch.kind == 2 then app2 w ch else bif ch.kind == 3 then app3 w ch else bif ch.kind == 4 then app4 w ch else bif ch.kind == 5 then app5 w ch else (wZ, 110)
theorem applied_spec (w : Wd) (hw : w.Ok) (hn : In64 w.nO) (ch : Ch) (hch : In64 ch.slot.v.n) : Spec Tryz.prog 32 [.agg w.pv, .agg ch.pv] (.tup [.agg (appW w ch).1.pv, I (appW w ch).2]) := by
 unfold appW
 by_cases h1 : ch.kind = 1
 ·rw [show (ch.kind == 1) = true by simp [h1]]; exact applied1 w hw ch h1 hch
 rw [show (ch.kind == 1) = false by simp [h1]]
 by_cases h2 : ch.kind = 2
 ·rw [show (ch.kind == 2) = true by simp [h2]]; exact applied2 w hw ch h2 hch
 rw [show (ch.kind == 2) = false by simp [h2]]
 by_cases h3 : ch.kind = 3
 ·rw [show (ch.kind == 3) = true by simp [h3]]; exact applied3 w hw ch h3 hch
 rw [show (ch.kind == 3) = false by simp [h3]]
 by_cases h4 : ch.kind = 4
 ·rw [show (ch.kind == 4) = true by simp [h4]]; exact applied4 w hw ch h4 hch
 rw [show (ch.kind == 4) = false by simp [h4]]
 by_cases h5 : ch.kind = 5
 ·rw [show (ch.kind == 5) = true by simp [h5]]; exact applied5 w hw hn ch h5 hch
 rw [show (ch.kind == 5) = false by simp [h5]]
 refine appliedX w hw ch ?_
 have e : ∀ n : Int, ch.kind ≠ n -> Atom.i ch.kind ≠ .i n := fun n h h' => h (by injection h')
 unfold kindsP
 rw [if_neg (e 5 h5), if_neg (e 4 h4), if_neg (e 3 h3), if_neg (e 2 h2), if_neg (e 1 h1)]
theorem finT_ok {w : Wd} (h : (finT w).2 = 0) : wcheckW w = 0 /\ finT w = (w, 0) := by
 unfold finT at h ⊢
 cases hc : wcheckW w == 0 with
 | true => exact ⟨by simpa using hc, rfl⟩
 | false => rw [hc] at h; exact absurd (show (110 : Int) = 0 from h) (by decide)
structure Appd (w v : Wd) (ch : Ch) : Prop where
 ok : v.Ok
 valid : wcheckW v = 0
 acts : v.acts = w.acts
 cds : v.cds = w.cds
 nA : v.nA = w.nA
 objs : (∃ o : Ob, objF w ch.oid = true /\ o.oid = ch.oid /\ o.kd = (chO w ch).kd /\ o.el = (chO w ch).el /\ o.code = (chO w ch).code /\ o.up = (chO w ch).up /\ v = setW w (chI w ch) o) \/ (ch.oid = w.nO /\ v = mkW w ch.oid)
theorem set_appd {w : Wd} (hs : Sorted w) (hw : w.Ok) {ch : Ch} (hf : objF w ch.oid = true) {sl : List Sl} (hsl : ∀ s ∈ sl, In64 s.v.n) (hn : sl.length <= 1000000) (h : (finT (setW w (chI w ch) { chO w ch with sl := sl })).2 = 0) :
  Appd w (finT (setW w (chI w ch) { chO w ch with sl := sl })).1 ch := by
 obtain ⟨h1, h2⟩ := finT_ok h
 have hok := hw.objs _ (getD_mem (p := chI w ch) (chI_lt hw hf))
 rw [h2]
 exact ⟨setW_ok hw _ ⟨hsl, hok.el, hn, hok.nel⟩, h1, rfl, rfl, rfl, .inl ⟨{ chO w ch with sl := sl }, hf, (objI_at hs hf).1, rfl, rfl, rfl, rfl, rfl⟩⟩
theorem app_ok {w : Wd} (hw : w.Ok) (hs : Sorted w) {ch : Ch} (hch : In64 ch.slot.v.n) (h : (appW w ch).2 = 0) : Appd w (appW w ch).1 ch := by
 have no : ∀ {n : Int}, n ≠ 0 -> ((wZ, n) : Wd × Int).2 = 0 -> Appd w wZ ch := fun h1 h2 => absurd h2 h1
 have hok : objF w ch.oid = true -> (chO w ch).Ok := fun hf => hw.objs _ (getD_mem (p := chI w ch) (chI_lt hw hf))
 revert h
 unfold appW
 cases ch.kind == 1
 case true =>
  simp only [cond_true]
  unfold app1
  cases form1 ch
  case false => exact no (by decide)
  cases hf : objF w ch.oid
  case false => exact no (by decide)
  cases h1 : decide (((chO w ch).sl.length : Int) < 40)
  case false => exact no (by decide)
  cases decide (atF (chO w ch).sl ch.slot.nm < 0)
  case false => exact no (by decide)
  simp only [cond_true]
  refine set_appd hs hw hf (fun s hs => ?_) (by have := of_decide_eq_true h1; simp only [List.length_append, List.length_cons, List.length_nil]; omega)
  rcases List.mem_append.1 hs with h | h
  ·exact (hok hf).sl s h
  ·rw [List.mem_singleton.1 h]; exact hch
 simp only [cond_false]
 cases ch.kind == 2
 case true =>
  simp only [cond_true]
  unfold app2
  cases form2 ch
  case false => exact no (by decide)
  cases hf : objF w ch.oid
  case false => exact no (by decide)
  cases decide (atF (chO w ch).sl ch.name >= 0)
  case false => exact no (by decide)
  simp only [cond_true]
  exact set_appd hs hw hf (fun s hs => (hok hf).sl s (List.mem_filter.1 hs).1) (Nat.le_trans (List.length_filter_le _ _) (hok hf).nsl)
 simp only [cond_false]
 cases ch.kind == 3
 case true =>
  simp only [cond_true]
  unfold app3
  cases form3 ch
  case false => exact no (by decide)
  cases hf : objF w ch.oid
  case false => exact no (by decide)
  cases decide (atF (chO w ch).sl ch.name >= 0)
  case false => exact no (by decide)
  simp only [cond_true]
  refine set_appd hs hw hf (fun s hs => ?_) (by rw [List.length_set]; exact (hok hf).nsl)
  rcases List.mem_or_eq_of_mem_set hs with h | h
  ·exact (hok hf).sl s h
  ·rw [h]; exact hch
 simp only [cond_false]
 cases ch.kind == 4
 case true =>
  simp only [cond_true]
  unfold app4
  cases form4 ch
  case false => exact no (by decide)
  cases hf : objF w ch.oid
  case false => exact no (by decide)
  cases ha : decide (atF (chO w ch).sl ch.name >= 0)
  case false => exact no (by decide)
  simp only [cond_true]
  refine set_appd hs hw hf (fun s hs => ?_) (by rw [List.length_set]; exact (hok hf).nsl)
  rcases List.mem_or_eq_of_mem_set hs with h | h
  ·exact (hok hf).sl s h
  ·rw [h]
   have hat := of_decide_eq_true ha
   have hlt := fstI_lt (nmEq ch.name) (chO w ch).sl
   have hq : (atF (chO w ch).sl ch.name).toNat < (chO w ch).sl.length := by unfold atF at hat ⊢; omega
   exact (hok hf).sl ((chO w ch).sl.getD (atF (chO w ch).sl ch.name).toNat default) (getD_mem hq)
 simp only [cond_false]
 cases ch.kind == 5
 case true =>
  simp only [cond_true]
  unfold app5
  cases form5 ch
  case false => exact no (by decide)
  cases h1 : decide ((w.objs.length : Int) < 3000)
  case false => exact no (by decide)
  cases decide (w.nO < 1099511627776)
  case false => exact no (by decide)
  cases h2 : ch.oid == w.nO
  case false => exact no (by decide)
  simp only [cond_true]
  intro h
  obtain ⟨q1, q2⟩ := finT_ok h
  rw [q2]
  exact ⟨mkW_ok hw _ (by have := of_decide_eq_true h1; omega), q1, rfl, rfl, rfl, .inr ⟨by simpa using h2, rfl⟩⟩
 exact no (by decide)
theorem Appd.mem {w v : Wd} {ch : Ch} (h : Appd w v ch) (hs : Sorted w) {o : Ob} (ho : o.oid ≠ ch.oid) : o ∈ w.objs ↔ o ∈ v.objs := by
 rcases h.objs with ⟨x, hf, hx, -, -, -, -, rfl⟩ | ⟨hn, rfl⟩
 ·exact set_mem hs.1 (objI_at hs hf).2 (by rw [hx]; exact ((objI_at hs hf).1).symm) (by rw [hx]; exact ho)
 ·show o ∈ w.objs ↔ o ∈ w.objs ++ [newO ch.oid]
  rw [List.mem_append]
  constructor
  ·exact .inl
  ·rintro (h | h)
   ·exact h
   ·rw [List.mem_singleton.1 h] at ho; exact absurd rfl ho
theorem Appd.objT {w v : Wd} {ch : Ch} (h : Appd w v ch) (hs : Sorted w) {n : Int} (hn : n ≠ ch.oid) : objT v n = objT w n :=
 objT_same hs (valid_sorted h.ok h.valid).1 fun o ho => h.mem hs (by rw [ho]; exact hn)
theorem Appd.holds {w v : Wd} {ch : Ch} (h : Appd w v ch) (hs : Sorted w) {x : Dp} (hn : x.oid ≠ ch.oid) : holdsT v x = holdsT w x := by
 unfold holdsT; rw [h.objT hs hn]
def applyW (w : Wd) (ch : Ch) : Wd × Int := bif wcheckW w != 0 then (wZ, wcheckW w) else appW w ch
theorem applyW_spec (w : Wd) (hw : w.Ok) (hn : In64 w.nO) (ch : Ch) (hch : In64 ch.slot.v.n) : Spec Tryz.prog 15 [.agg w.pv, .agg ch.pv] (.tup [.agg (applyW w ch).1.pv, I (applyW w ch).2]) :=
 Apply_spec w hw ch (appW w ch) (applied_spec w hw hn ch hch)
theorem applyW_ok {w : Wd} (hw : w.Ok) {ch : Ch} (hch : In64 ch.slot.v.n) (h : (applyW w ch).2 = 0) : wcheckW w = 0 /\ Appd w (applyW w ch).1 ch := by
 unfold applyW at h ⊢
 cases hc : wcheckW w != 0 with
 | true => rw [hc] at h; simp only [cond_true] at h; rw [h] at hc; cases hc
 | false =>
  rw [hc] at h
  have h0 : wcheckW w = 0 := by simpa using hc
  exact ⟨h0, app_ok hw (valid_sorted hw h0).1 hch h⟩
theorem DepsLocal_spec (w : Wd) (ch : Ch) (x : Dp) (hb : Bulk w) (hw : smallT w = true -> w.Ok) (hn : In64 w.nO) (hch : In64 ch.slot.v.n) :
  Spec Tryz.prog 3 [.agg w.pv, .agg ch.pv, .agg x.pv] (.sb true) := by
 refine Spec.startL (by kernel_rfl) Tryz.func3 rfl rfl fun w0 L hst => ?_
 refine M.cl awake_spec ?_
 refine M.cl (small_spec w hb) ?_
 refine M.test (!smallT w) (by kernel_rfl) (fun hs => M.ret (.sb true) (by kernel_rfl) rfl) (fun hs => ?_)
 have hs : smallT w = true := by simpa using hs
 have hok := hw hs
 refine M.test (decide ((x.map.sl.length : Int) > 200)) (by kernel_rfl) (fun hs3 => M.ret (.sb true) (by kernel_rfl) rfl) (fun hs3 => ?_)
 refine M.cl (Hit_spec w hok ch x (applyW w ch) (applyW_spec w hok hn ch hch) fun h => (applyW_ok hok hch h).2.ok) ?_
 have key : (hitW w x (applyW w ch)).2 = 0 -> (hitW w x (applyW w ch)).1 = true -> ch.oid = x.oid := fun h1 h2 => by
  unfold hitW at h1 h2
  cases hz : (applyW w ch).2 != 0 with
  | true => rw [hz] at h2; cases h2
  | false =>
   rw [hz] at h2
   simp only [cond_false] at h2
   obtain ⟨hv, hA⟩ := applyW_ok hok hch (by simpa using hz)
   by_cases e : x.oid = ch.oid
   ·exact e.symm
   ·unfold ceasesT at h2
    rw [hA.holds (valid_sorted hok hv).1 e] at h2
    cases hh : holdsT w x <;> rw [hh] at h2 <;> cases h2
 generalize hitW w x (applyW w ch) = H at key
 refine M.yes (b := true) rfl (by kernel_rfl) ?_
 refine M.test (H.2 != 0) (by kernel_rfl) (fun h1 => M.ret (.sb true) (by kernel_rfl) rfl) (fun h1 => ?_)
 refine M.test (!H.1) (by kernel_rfl) (fun h2 => M.ret (.sb true) (by kernel_rfl) rfl) (fun h2 => ?_)
 exact M.ret (.sb (ch.oid == x.oid)) (by kernel_rfl) (by rw [beq_iff_eq.2 (key (by simpa using h1) (by simpa using h2))])
end Go.Proofs.YtcknpohghmkbmaaGreatDoor
