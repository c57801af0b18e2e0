import Derived.Test.YtplpnfjccemdnaaGreatDoorK25
set_option linter.unusedVariables false
set_option linter.unusedSimpArgs false
/- The texts D20 D21 D22 D23 D24 V36 D25 D26 D27 of the proof, laid one behind the other. -/
namespace Go.Proofs.YtplpnfjccemdnaaGreatDoor
open Go.RowKit
abbrev nilW : List PV := [nilS, nilS, nilS, I 0, I 0]
abbrev wZ : Wd := ⟨[], [], [], 0, 0⟩
theorem wz_nil {β : List (Option Nat)} {L : List Nat} {W : World} {e : Int} {u : Value} (h : R β L W (.tup [.agg nilW, I e]) u) : R β L W (.tup [.agg wZ.pv, I e]) u := tup_toB h fun us h => by
 obtain ⟨u0, us, rfl, h0, h⟩ := h.uncons
 exact Rs.cons (agg_to (qs := wZ.pv) (.cons (fun _ h => nil_rowB 6 Ob.pv h) (.cons (fun _ h => nil_rowB 9 Ac.pv h) (.cons (fun _ h => nil_rowB 9 Cd.pv h) (.cons (fun _ h => h) (.cons (fun _ h => h) .nil))))) h0) h
abbrev doneS (w : Wd) (i : Nat) (o : Ob) : Sig := [[.os 73 2 6 w.objs.length, .os 75 3 9 w.acts.length, .os 79 4 9 w.cds.length, I w.nO, I w.nA], [I 0], [.rwf 6 w.objs.length (fun j => Ob.pv (w.objs.getD j default)) i (ObO 5 o)], actR w, cdR w, slotR o.sl]
theorem appl_none (w : Wd) (i : Nat) (o : Ob) : SpecD Tryz.prog 142 (doneS w i o) [.ref 0 0, .ref 1 0] none (doneS w i o) := by
 refine SpecD.start (by kernel_rfl) rfl Tryz.func142 rfl rfl rfl rfl rfl rfl fun w0 L hst => ?_
 exact M.dend [] (by kernel_rfl) trivial (by kernel_rfl) (by kernel_rfl) [0, 1, 2, 3, 4, 5] (n := 6) hst rfl (by kernel_rfl) (by kernel_rfl) rfl
theorem appl_some (x : Int) : SpecD Tryz.prog 142 [nilW, [I 0]] [.ref 0 0, .ref 1 0] (some (unfV x)) [nilW, [I x]] := by
 refine SpecD.start (by kernel_rfl) rfl Tryz.func142 rfl rfl rfl rfl rfl rfl fun w0 L hst => ?_
 exact M.dend [] (by kernel_rfl) trivial (by kernel_rfl) (by kernel_rfl) [0, 1] (n := 2) hst rfl (by kernel_rfl) (by kernel_rfl) rfl
def setW (w : Wd) (i : Nat) (o : Ob) : Wd := { w with objs := w.objs.set i o }
theorem setW_ok {w : Wd} (hw : w.Ok) (i : Nat) {o : Ob} (ho : o.Ok) : (setW w i o).Ok := ⟨fun x hx => by
 rcases List.mem_or_eq_of_mem_set hx with h | h
 ·exact hw.objs x h
 ·rw [h]; exact ho, hw.acts, hw.cds, hw.nacts, by show (w.objs.set i o).length <= _; rw [List.length_set]; exact hw.nobjs, hw.ncds⟩
abbrev focW (w : Wd) (i : Nat) (o : Ob) : List PV := [focV w i o, row 9 Ac.pv w.acts, row 9 Cd.pv w.cds, I w.nO, I w.nA]
theorem focW_R {w : Wd} {i : Nat} {o : Ob} (hi : i < w.objs.length) {β : List (Option Nat)} {L : List Nat} {W : World} {u : Value} (h : R β L W (.agg (focW w i o)) u) : R β L W (.agg (setW w i o).pv) u :=
 agg_to (.cons (fun _ h => foc_row hi h) (.cons (fun _ h => h) (.cons (fun _ h => h) (.cons (fun _ h => h) (.cons (fun _ h => h) .nil))))) h
theorem checkG {w : Wd} {i : Nat} {o : Ob} (hi : i < w.objs.length) (hw : (setW w i o).Ok) : Spec Tryz.prog 15 [.agg (focW w i o)] (I (wcheckW (setW w i o))) :=
 (wcheck_spec _ hw).conv (fun L W vs h => by
  obtain ⟨u0, us, rfl, q0, h⟩ := h.uncons
  exact .cons (focW_R hi q0) h) fun _ _ _ h => h
def finT (w : Wd) : Wd × Int := bif wcheckW w == 0 then (w, 0) else (wZ, 110)
def app1 (w : Wd) (ch : Ch) : Wd × Int := bif form1 ch then (bif objF w ch.oid then (bif decide (((chO w ch).sl.length : Int) < 40) then (bif decide (atF (chO w ch).sl ch.slot.nm < 0) then finT (setW w (chI w ch) { chO w ch with sl := (chO w ch).sl ++ [ch.slot] }) else (wZ, 110)) else (wZ, 2)) else (wZ, 3)) else (wZ, 110)
theorem applied1 (w : Wd) (hw : w.Ok) (ch : Ch) (hk : ch.kind = 1) (hch : In64 ch.slot.v.n) : Spec Tryz.prog 101 [.agg w.pv, .agg ch.pv] (.tup [.agg (app1 w ch).1.pv, I (app1 w ch).2]) := by
 unfold app1
 obtain ⟨kd, oid, nm, sl⟩ := ch
 simp only at hk
 subst hk
 refine Spec.startD (by kernel_rfl) Tryz.func101 rfl rfl fun w0 L hst hd0 hro hmk hgh => ?_
 refine M.cl kinds_spec ?_
 refine M.look (.tup [.agg [.fn 182 [], .fn 183 []], .sb true]) kindsRel (I 1) 229 true [] (by kernel_rfl) trivial (by kernel_rfl) (fun β L W u v h hv => kinds_look (k := 1) h hv (zs := [.nilFunc, .nilFunc]) (by kernel_rfl)) ?_
 refine M.no (b := !true) rfl (by kernel_rfl) ?_
 refine M.cl (form1_spec ⟨1, oid, nm, sl⟩) ?_
 cases hfm : form1 ⟨1, oid, nm, sl⟩ with
 | false =>
  refine M.yes (b := !false) rfl (by kernel_rfl) ?_
  exact M.retw [] (.tup [.agg nilW, I 110]) (by kernel_rfl) trivial fun L W u h => wz_nil h
 | true =>
 refine M.no (b := !true) rfl (by kernel_rfl) ?_
 refine M.defer (g := 142) (caps := [.ref 2 0, .ref 3 0]) 4 [] (by kernel_rfl) trivial hst (Nat.le_of_ble_eq_true (by kernel_rfl)) (by kernel_rfl) hd0 hro hmk hgh fun w1 L1 hD => ?_
 cases hf : objF w oid with
 | false =>
  refine M.callm [] (copied_spec w hw) (by kernel_rfl) ?_
  exact M.callP [] [5, 6, 7, 8] (add_none w hw ⟨1, oid, nm, sl⟩ hf) (by kernel_rfl) trivial (by kernel_rfl) (OkP.leave (x' := unfV 3) hD [2, 3] (appl_some 3) [] (.tup [.agg nilW, I 3]) (by kernel_rfl) rfl (by kernel_rfl) (by kernel_rfl) (by kernel_rfl) (by kernel_rfl) (by kernel_rfl) trivial fun L W u h => wz_nil h)
 | true =>
 have hil := chI_lt hw (ch := ⟨1, oid, nm, sl⟩) hf
 have hok := hw.objs _ (getD_mem (p := chI w ⟨1, oid, nm, sl⟩) hil)
 refine M.callm [] (copiedF_spec w hw (chI w ⟨1, oid, nm, sl⟩) hil) (by kernel_rfl) ?_
 cases h1 : decide (((chO w ⟨1, oid, nm, sl⟩).sl.length : Int) < 40) with
 | false =>
  exact M.callP [] [5, 6, 7, 8, 9] (add_full w hw ⟨1, oid, nm, sl⟩ hf h1) (by kernel_rfl) trivial (by kernel_rfl) (OkP.leave (x' := unfV 2) hD [2, 3] (appl_some 2) [] (.tup [.agg nilW, I 2]) (by kernel_rfl) rfl (by kernel_rfl) (by kernel_rfl) (by kernel_rfl) (by kernel_rfl) (by kernel_rfl) trivial fun L W u h => wz_nil h)
 | true =>
 cases h2 : decide (atF (chO w ⟨1, oid, nm, sl⟩).sl sl.nm < 0) with
 | false =>
  exact M.callP [] [5, 6, 7, 8, 9] (add_twice w hw ⟨1, oid, nm, sl⟩ hf h1 h2) (by kernel_rfl) trivial (by kernel_rfl) (OkP.leave (x' := unfV 110) hD [2, 3] (appl_some 110) [] (.tup [.agg nilW, I 110]) (by kernel_rfl) rfl (by kernel_rfl) (by kernel_rfl) (by kernel_rfl) (by kernel_rfl) (by kernel_rfl) trivial fun L W u h => wz_nil h)
 | true =>
 have ho' : ({ chO w ⟨1, oid, nm, sl⟩ with sl := (chO w ⟨1, oid, nm, sl⟩).sl ++ [sl] } : Ob).Ok := ⟨fun s hs => by
  rcases List.mem_append.1 hs with h | h
  ·exact hok.sl s h
  ·rw [List.mem_singleton.1 h]; exact hch, hok.el, by have := of_decide_eq_true h1; simp only [List.length_append, List.length_cons, List.length_nil]; omega, hok.nel⟩
 refine M.callmp [] [5, 6, 7, 8, 9] (add_ok w hw ⟨1, oid, nm, sl⟩ hf h1 h2) (by kernel_rfl) trivial ?_
 refine M.clp [w.objs.length <= w.objs.length, ((chO w ⟨1, oid, nm, sl⟩).sl ++ [sl]).length <= ((chO w ⟨1, oid, nm, sl⟩).sl ++ [sl]).length, w.acts.length <= w.acts.length, w.cds.length <= w.cds.length] ⟨Nat.le_refl _, Nat.le_refl _, Nat.le_refl _, Nat.le_refl _, trivial⟩ (checkG hil (setW_ok hw _ ho')) ?_
 unfold finT
 cases hc : wcheckW (setW w (chI w ⟨1, oid, nm, sl⟩) { chO w ⟨1, oid, nm, sl⟩ with sl := (chO w ⟨1, oid, nm, sl⟩).sl ++ [sl] }) == 0 with
 | true =>
  refine M.cl (must_s hc 110) ?_
  exact M.leave hD [2, 3, 6, 7, 8, 10] (appl_none w (chI w ⟨1, oid, nm, sl⟩) { chO w ⟨1, oid, nm, sl⟩ with sl := (chO w ⟨1, oid, nm, sl⟩).sl ++ [sl] }) [] [w.objs.length <= w.objs.length, ((chO w ⟨1, oid, nm, sl⟩).sl ++ [sl]).length <= ((chO w ⟨1, oid, nm, sl⟩).sl ++ [sl]).length, w.acts.length <= w.acts.length, w.cds.length <= w.cds.length] (.tup [.agg (focW w (chI w ⟨1, oid, nm, sl⟩) { chO w ⟨1, oid, nm, sl⟩ with sl := (chO w ⟨1, oid, nm, sl⟩).sl ++ [sl] }), I 0]) (by kernel_rfl) trivial (by kernel_rfl) (by kernel_rfl) (by kernel_rfl) rfl (by kernel_rfl) (by kernel_rfl) (by kernel_rfl) (by kernel_rfl) ⟨Nat.le_refl _, Nat.le_refl _, Nat.le_refl _, Nat.le_refl _, trivial⟩ fun L W u h => tup_to h fun us h => by
   obtain ⟨u0, us, rfl, h0, h⟩ := h.uncons
   exact Rs.cons (focW_R hil h0) h
 | false =>
  exact M.callP [] [] (mustP_s hc 110) (by kernel_rfl) trivial (by kernel_rfl) (OkP.leave (x' := unfV 110) hD [2, 3] (appl_some 110) [] (.tup [.agg nilW, I 110]) (by kernel_rfl) rfl (by kernel_rfl) (by kernel_rfl) (by kernel_rfl) (by kernel_rfl) (by kernel_rfl) trivial fun L W u h => wz_nil h)
theorem Apply_spec (w : Wd) (hw : w.Ok) (ch : Ch) (a : Wd × Int) (ha : Spec Tryz.prog 101 [.agg w.pv, .agg ch.pv] (.tup [.agg a.1.pv, I a.2])) :
  Spec Tryz.prog 55 [.agg w.pv, .agg ch.pv] (.tup [.agg (bif wcheckW w != 0 then (wZ, wcheckW w) else a).1.pv, I (bif wcheckW w != 0 then (wZ, wcheckW w) else a).2]) := by
 refine Spec.startL (by kernel_rfl) Tryz.func55 rfl rfl fun w0 L hst => ?_
 refine M.cl (wcheck_spec w hw) ?_
 refine M.test (wcheckW w != 0) (by kernel_rfl) (fun h => ?_) (fun h => ?_)
 ·rw [h, cond_true]
  exact M.retw [] (.tup [.agg nilW, I (wcheckW w)]) (by kernel_rfl) trivial fun L W u h => wz_nil h
 ·rw [h, cond_false]
  refine M.cl ha ?_
  exact M.ret (.tup [.agg a.1.pv, I a.2]) (by kernel_rfl) rfl
def hitW (w : Wd) (x : Dp) (a : Wd × Int) : Bool × Int := bif a.2 != 0 then (false, a.2) else (ceasesT w a.1 x, 0)
theorem Hit_spec (w : Wd) (hw : w.Ok) (ch : Ch) (x : Dp) (a : Wd × Int) (ha : Spec Tryz.prog 55 [.agg w.pv, .agg ch.pv] (.tup [.agg a.1.pv, I a.2])) (hv : a.2 = 0 -> a.1.Ok) :
  Spec Tryz.prog 21 [.agg w.pv, .agg ch.pv, .agg x.pv] (.tup [.sb (hitW w x a).1, I (hitW w x a).2]) := by
 refine Spec.startL (by kernel_rfl) Tryz.func21 rfl rfl fun w0 L hst => ?_
 unfold hitW
 refine M.cl ha ?_
 refine M.test (a.2 != 0) (by kernel_rfl) (fun h => ?_) (fun h => ?_)
 ·rw [h, cond_true]
  exact M.ret (.tup [.sb false, I a.2]) (by kernel_rfl) rfl
 ·rw [h, cond_false]
  refine M.cl (ceases_spec w a.1 hw (hv (by simpa using h)) x) ?_
  exact M.ret (.tup [.sb (ceasesT w a.1 x), I 0]) (by kernel_rfl) rfl
def sumTo {α : Type} (b : Int) (f : α -> Int) : List α -> Int -> Int
 | [], n => n
 | x :: t, n => bif decide (n <= b) then sumTo b f t (n + f x) else n
theorem sumTo_stop {α : Type} {b : Int} {f : α -> Int} {n : Int} (h : ¬ n <= b) : ∀ l : List α, sumTo b f l n = n
 | [] => rfl
 | x :: t => by rw [sumTo, decide_eq_false h]; rfl
def obN (o : Ob) : Int := (o.sl.length : Int) + (o.el.length : Int)
def acN (a : Ac) : Int := (a.vars.length : Int)
def cdN (c : Cd) : Int := 1 + (c.names.length : Int) + (c.init.length : Int) + (c.lits.length : Int) + (c.sels.length : Int) + (c.ins.length : Int)
def smallN (w : Wd) : Int := sumTo 1200 cdN w.cds (sumTo 1200 acN w.acts (sumTo 1200 obN w.objs ((w.objs.length : Int) + (w.acts.length : Int))))
def smallT (w : Wd) : Bool := decide (smallN w <= 1200)
structure Bulk (w : Wd) : Prop where
 nobjs : w.objs.length <= 140737488355328
 nacts : w.acts.length <= 140737488355328
 ncds : w.cds.length <= 140737488355328
 objs : ∀ o ∈ w.objs, o.sl.length <= 140737488355328 /\ o.el.length <= 140737488355328
 acts : ∀ a ∈ w.acts, a.vars.length <= 140737488355328
 cds : ∀ c ∈ w.cds, c.names.length <= 140737488355328 /\ c.init.length <= 140737488355328 /\ c.lits.length <= 140737488355328 /\ c.sels.length <= 140737488355328 /\ c.ins.length <= 140737488355328
theorem small_spec (w : Wd) (hb : Bulk w) : Spec Tryz.prog 6 [.agg w.pv] (.sb (smallT w)) := by
 have hb1 := hb.nobjs
 have hb2 := hb.nacts
 have hb3 := hb.ncds
 unfold smallT smallN
 generalize hr1 : sumTo 1200 obN w.objs ((w.objs.length : Int) + (w.acts.length : Int)) = r1
 generalize hr2 : sumTo 1200 acN w.acts r1 = r2
 generalize hr3 : sumTo 1200 cdN w.cds r2 = r3
 refine Spec.startL (by kernel_rfl) Tryz.func6 rfl rfl fun w0 L hst => ?_
 refine M.loopL (ι := {q : Nat × Int // q.1 <= w.objs.length /\ 0 <= q.2 /\ q.2 <= 2000000000000000 /\ sumTo 1200 obN (w.objs.drop q.1) q.2 = r1}) (fun q => [(1, .ref 0 0), (3, I q.1.2), (4, I q.1.1)])
  (fun q => [w.pv]) (fun q => w.objs.length - q.1.1) ⟨(0, (w.objs.length : Int) + (w.acts.length : Int)), Nat.zero_le _, by simp only; omega, by simp only; omega, hr1⟩ [In64 ((w.objs.length : Int) + (w.acts.length : Int))] (by kernel_rfl) ⟨⟨by omega, by omega⟩, trivial⟩ (by kernel_rfl) (by kernel_rfl) fun ⟨(i, n), hi, h0, hn, hq⟩ L ih => ?_
 simp only at hi h0 hn hq
 refine M.test (decide ((i : Int) < (w.objs.length : Int))) (by kernel_rfl) (fun h1 => M.test (decide (n <= 1200)) (by kernel_rfl) (fun h2 => ?_) (fun h2 => ?_)) (fun h1 => ?_)
 ·
  have hlt : i < w.objs.length := by simpa using h1
  have h2' := of_decide_eq_true h2
  have hq' := hq
  rw [loop_cons hlt, sumTo, h2, cond_true] at hq'
  have hx := hb.objs _ (getD_mem (p := (i : Int).toNat) (l := w.objs) (by omega))
  refine M.ren [0 <= (i : Int) /\ (i : Int) < (w.objs.length : Int), 0 <= (i : Int) /\ (i : Int) < (w.objs.length : Int), In64 (((w.objs.getD (i : Int).toNat default).sl.length : Int) + ((w.objs.getD (i : Int).toNat default).el.length : Int)), In64 (n + (((w.objs.getD (i : Int).toNat default).sl.length : Int) + ((w.objs.getD (i : Int).toNat default).el.length : Int))), In64 ((i : Int) + 1)] [0] hst (by kernel_rfl) ⟨⟨by omega, by omega⟩, ⟨by omega, by omega⟩, ⟨by omega, by omega⟩, ⟨by omega, by omega⟩, ⟨by omega, by omega⟩, trivial⟩ (by kernel_rfl) (by kernel_rfl) rfl fun L' => ?_
  exact M.back [] (ih ⟨(i + 1, n + obN (w.objs.getD (i : Int).toNat default)), hlt, by unfold obN; simp only; omega, by unfold obN; simp only; omega, hq'⟩ L' (by show w.objs.length - (i + 1) < w.objs.length - i; omega)) (by kernel_rfl) trivial (by kernel_rfl) (by kernel_rfl) (by kernel_rfl) (by kernel_rfl)
 all_goals
  have e : n = r1 := by
   first
   | exact (by rw [<- hq, sumTo_stop (of_decide_eq_false h2)])
   | exact (by rw [<- hq, loop_nil (nlt_of_dec h1)]; rfl)
  subst e
  clear ih
  refine M.loopL (ι := {q : Nat × Int // q.1 <= w.acts.length /\ 0 <= q.2 /\ q.2 <= 2000000000000000 /\ sumTo 1200 acN (w.acts.drop q.1) q.2 = r2}) (fun q => [(1, .ref 0 0), (3, I q.1.2), (5, I q.1.1)])
   (fun q => [w.pv]) (fun q => w.acts.length - q.1.1) ⟨(0, n), Nat.zero_le _, by simp only; omega, by simp only; omega, hr2⟩ [] (by kernel_rfl) trivial (by kernel_rfl) (by kernel_rfl) fun ⟨(i, n), hi, h0, hn, hq⟩ L ih => ?_
  simp only at hi h0 hn hq
  refine M.test (decide ((i : Int) < (w.acts.length : Int))) (by kernel_rfl) (fun h1 => M.test (decide (n <= 1200)) (by kernel_rfl) (fun h2 => ?_) (fun h2 => ?_)) (fun h1 => ?_)
  ·
   have hlt : i < w.acts.length := by simpa using h1
   have h2' := of_decide_eq_true h2
   have hq' := hq
   rw [loop_cons hlt, sumTo, h2, cond_true] at hq'
   have hx := hb.acts _ (getD_mem (p := (i : Int).toNat) (l := w.acts) (by omega))
   refine M.ren [0 <= (i : Int) /\ (i : Int) < (w.acts.length : Int), In64 (n + ((w.acts.getD (i : Int).toNat default).vars.length : Int)), In64 ((i : Int) + 1)] [0] hst (by kernel_rfl) ⟨⟨by omega, by omega⟩, ⟨by omega, by omega⟩, ⟨by omega, by omega⟩, trivial⟩ (by kernel_rfl) (by kernel_rfl) rfl fun L' => ?_
   exact M.back [] (ih ⟨(i + 1, n + acN (w.acts.getD (i : Int).toNat default)), hlt, by unfold acN; simp only; omega, by unfold acN; simp only; omega, hq'⟩ L' (by show w.acts.length - (i + 1) < w.acts.length - i; omega)) (by kernel_rfl) trivial (by kernel_rfl) (by kernel_rfl) (by kernel_rfl) (by kernel_rfl)
  all_goals
   have e : n = r2 := by
    first
    | exact (by rw [<- hq, sumTo_stop (of_decide_eq_false h2)])
    | exact (by rw [<- hq, loop_nil (nlt_of_dec h1)]; rfl)
   subst e
   clear ih
   refine M.loopL (ι := {q : Nat × Int // q.1 <= w.cds.length /\ 0 <= q.2 /\ q.2 <= 2000000000000000 /\ sumTo 1200 cdN (w.cds.drop q.1) q.2 = r3}) (fun q => [(1, .ref 0 0), (3, I q.1.2), (6, I q.1.1)])
    (fun q => [w.pv]) (fun q => w.cds.length - q.1.1) ⟨(0, n), Nat.zero_le _, by simp only; omega, by simp only; omega, hr3⟩ [] (by kernel_rfl) trivial (by kernel_rfl) (by kernel_rfl) fun ⟨(i, n), hi, h0, hn, hq⟩ L ih => ?_
   simp only at hi h0 hn hq
   refine M.test (decide ((i : Int) < (w.cds.length : Int))) (by kernel_rfl) (fun h1 => M.test (decide (n <= 1200)) (by kernel_rfl) (fun h2 => ?_) (fun h2 => ?_)) (fun h1 => ?_)
   ·
    have hlt : i < w.cds.length := by simpa using h1
    have h2' := of_decide_eq_true h2
    have hq' := hq
    rw [loop_cons hlt, sumTo, h2, cond_true] at hq'
    have hx := hb.cds _ (getD_mem (p := (i : Int).toNat) (l := w.cds) (by omega))
    refine M.ren [0 <= (i : Int) /\ (i : Int) < (w.cds.length : Int), In64 (1 + ((w.cds.getD (i : Int).toNat default).names.length : Int)), In64 (1 + ((w.cds.getD (i : Int).toNat default).names.length : Int) + ((w.cds.getD (i : Int).toNat default).init.length : Int)), In64 (1 + ((w.cds.getD (i : Int).toNat default).names.length : Int) + ((w.cds.getD (i : Int).toNat default).init.length : Int) + ((w.cds.getD (i : Int).toNat default).lits.length : Int)), In64 (1 + ((w.cds.getD (i : Int).toNat default).names.length : Int) + ((w.cds.getD (i : Int).toNat default).init.length : Int) + ((w.cds.getD (i : Int).toNat default).lits.length : Int) + ((w.cds.getD (i : Int).toNat default).sels.length : Int)), In64 (1 + ((w.cds.getD (i : Int).toNat default).names.length : Int) + ((w.cds.getD (i : Int).toNat default).init.length : Int) + ((w.cds.getD (i : Int).toNat default).lits.length : Int) + ((w.cds.getD (i : Int).toNat default).sels.length : Int) + ((w.cds.getD (i : Int).toNat default).ins.length : Int)), In64 (n + (1 + ((w.cds.getD (i : Int).toNat default).names.length : Int) + ((w.cds.getD (i : Int).toNat default).init.length : Int) + ((w.cds.getD (i : Int).toNat default).lits.length : Int) + ((w.cds.getD (i : Int).toNat default).sels.length : Int) + ((w.cds.getD (i : Int).toNat default).ins.length : Int))), In64 ((i : Int) + 1)] [0] hst (by kernel_rfl) ⟨⟨by omega, by omega⟩, ⟨by omega, by omega⟩, ⟨by omega, by omega⟩, ⟨by omega, by omega⟩, ⟨by omega, by omega⟩, ⟨by omega, by omega⟩, ⟨by omega, by omega⟩, ⟨by omega, by omega⟩, trivial⟩ (by kernel_rfl) (by kernel_rfl) rfl fun L' => ?_
    exact M.back [] (ih ⟨(i + 1, n + cdN (w.cds.getD (i : Int).toNat default)), hlt, by unfold cdN; simp only; omega, by unfold cdN; simp only; omega, hq'⟩ L' (by show w.cds.length - (i + 1) < w.cds.length - i; omega)) (by kernel_rfl) trivial (by kernel_rfl) (by kernel_rfl) (by kernel_rfl) (by kernel_rfl)
   all_goals
    have e : n = r3 := by
     first
     | exact (by rw [<- hq, sumTo_stop (of_decide_eq_false h2)])
     | exact (by rw [<- hq, loop_nil (nlt_of_dec h1)]; rfl)
    subst e
    clear ih
    exact M.ret (.sb (decide (n <= 1200))) (by kernel_rfl) rfl
def mpN (m : Mp) : Int := (m.sl.length : Int)
def fewT (maps : List Mp) : Bool := decide (sumTo 1500 mpN maps (maps.length : Int) <= 1500)
theorem few_spec (maps : List Mp) (h1 : maps.length <= 140737488355328) (h2 : ∀ m ∈ maps, m.sl.length <= 140737488355328) : Spec Tryz.prog 7 [row 2 Mp.pv maps] (.sb (fewT maps)) := by
 unfold fewT
 generalize hr1 : sumTo 1500 mpN maps (maps.length : Int) = r1
 refine Spec.startL (by kernel_rfl) Tryz.func7 rfl rfl fun w0 L hst => ?_
 refine M.loopL (ι := {q : Nat × Int // q.1 <= maps.length /\ 0 <= q.2 /\ q.2 <= 2000000000000000 /\ sumTo 1500 mpN (maps.drop q.1) q.2 = r1}) (fun q => [(0, row 2 Mp.pv maps), (3, I q.1.2), (4, I q.1.1)])
  (fun q => []) (fun q => maps.length - q.1.1) ⟨(0, (maps.length : Int)), Nat.zero_le _, by simp only; omega, by simp only; omega, hr1⟩ [] (by kernel_rfl) trivial (by kernel_rfl) (by kernel_rfl) fun ⟨(i, n), hi, h0, hn, hq⟩ L ih => ?_
 simp only at hi h0 hn hq
 refine M.test (decide ((i : Int) < (maps.length : Int))) (by kernel_rfl) (fun h1 => M.test (decide (n <= 1500)) (by kernel_rfl) (fun h2 => ?_) (fun h2 => ?_)) (fun h1 => ?_)
 ·have hlt : i < maps.length := by simpa using h1
  have h2' := of_decide_eq_true h2
  have hq' := hq
  rw [loop_cons hlt, sumTo, h2, cond_true] at hq'
  have hx := ‹∀ m ∈ maps, m.sl.length <= 140737488355328› _ (getD_mem (p := (i : Int).toNat) (l := maps) (by omega))
  refine M.ren [0 <= (i : Int) /\ (i : Int) < (maps.length : Int), In64 (n + ((maps.getD (i : Int).toNat default).sl.length : Int)), In64 ((i : Int) + 1)] [] hst (by kernel_rfl) ⟨⟨by omega, by omega⟩, ⟨by omega, by omega⟩, ⟨by omega, by omega⟩, trivial⟩ (by kernel_rfl) (by kernel_rfl) rfl fun L' => ?_
  exact M.back [] (ih ⟨(i + 1, n + mpN (maps.getD (i : Int).toNat default)), hlt, by unfold mpN; simp only; omega, by unfold mpN; simp only; omega, hq'⟩ L' (by show maps.length - (i + 1) < maps.length - i; omega)) (by kernel_rfl) trivial (by kernel_rfl) (by kernel_rfl) (by kernel_rfl) (by kernel_rfl)
 all_goals
  have e : n = r1 := by
   first
   | exact (by rw [<- hq, sumTo_stop (of_decide_eq_false h2)])
   | exact (by rw [<- hq, loop_nil (nlt_of_dec h1)]; rfl)
  subst e
  clear ih
  exact M.ret (.sb (decide (n <= 1500))) (by kernel_rfl) rfl
def emptyOb (i : Nat) : Ob := ⟨(i : Int) + 1, bif (i : Int) + 1 == 7 then 2 else 1, [], [], 0, 0⟩
def emptyL (i : Nat) : List Ob := (List.range i).map emptyOb
theorem emptyL_succ (i : Nat) : emptyL (i + 1) = emptyL i ++ [emptyOb i] := by unfold emptyL; rw [List.range_succ, List.map_append]; rfl
theorem emptyL_len (i : Nat) : (emptyL i).length = i := by unfold emptyL; simp
abbrev empS (i : Nat) : Sig := [nilW, [.os 73 2 6 (emptyL i).length, nilS, nilS, I 11, I 1], [.rws 6 (emptyL i).length (fun j => Ob.pv ((emptyL i).getD j default))]]
abbrev wO (w : Wd) (i : Nat) : List PV := [.os 73 i 6 w.objs.length, .os 75 (i + 1) 9 w.acts.length, .os 79 (i + 2) 9 w.cds.length, I w.nO, I w.nA]
abbrev mpR (w : Wd) : List PV := [.mp (.int .i64) (.i .i64 (atN w.objs w.objs.length))]
abbrev opS' (w : Wd) : Sig := [wO w 1 ++ [.mr 4], objR w, actR w, cdR w, mpR w]
theorem indexedO (w : Wd) (hw : w.Ok) : SpecM Tryz.prog 43 3 [objR w, actR w, cdR w] [.agg (wO w 0)] [objR w, actR w, cdR w, wO w 0 ++ [.mr 4], mpR w] (.ref 3 0) := by
 have hl := hw.nobjs
 refine SpecM.start (by kernel_rfl) Tryz.func43 rfl rfl (Nat.le_of_ble_eq_true rfl) fun w0 L hst => ?_
 refine M.loopL (ι := {i : Nat // i <= w.objs.length}) (fun i => [(3, .ref 5 0), (14, .os 73 0 6 w.objs.length), (15, I w.objs.length), (16, I i.1)]) (fun i => [objR w, actR w, cdR w, wO w 0, [.mp (.int .i64) (.i .i64 (atN w.objs i.1))], wO w 0 ++ [.mr 4]]) (fun i => w.objs.length - i.1) ⟨0, Nat.zero_le _⟩ [] (by kernel_rfl) trivial (by kernel_rfl) (by kernel_rfl) fun ⟨i, hi⟩ L ih => ?_
 refine M.test (decide ((i : Int) < (w.objs.length : Int))) (by kernel_rfl) (fun h1 => ?_) (fun h1 => ?_)
 ·have hlt : i < w.objs.length := by simpa using h1
  refine M.ren [0 <= (i : Int) /\ (i : Int) < (w.objs.length : Int), (i : Int).toNat < w.objs.length, In64 ((i : Int) + 1)] [0, 1, 2, 3, 4, 5] hst (by kernel_rfl) ⟨⟨by omega, by omega⟩, by omega, ⟨by omega, by omega⟩, trivial⟩ (by kernel_rfl) (by kernel_rfl) rfl fun L' => ?_
  exact M.back [] (ih ⟨i + 1, hlt⟩ L' (by show w.objs.length - (i + 1) < w.objs.length - i; omega)) (by kernel_rfl) trivial (by kernel_rfl) (by kernel_rfl) (by kernel_rfl) (by kernel_rfl)
 ·have : i = w.objs.length := by have := of_decide_eq_false h1; omega
  subst this
  exact M.retm [] [0, 1, 2, 5, 4] hst rfl (by kernel_rfl) trivial rfl rfl
theorem open_ok (w : Wd) (hw : w.Ok) (h : wcheckW w = 0) : SpecM Tryz.prog 99 0 [] [.agg w.pv] (opS' w) (.tup [.ref 0 0, I 0]) := by
 have hv : validW w = true := by
  unfold wcheckW at h
  cases hx : validW w with
  | true => rfl
  | false => rw [hx] at h; cases h
 refine SpecM.start (by kernel_rfl) Tryz.func99 rfl rfl (Nat.zero_le _) fun w0 L hst => ?_
 refine M.callm [] (indexed_spec w) (by kernel_rfl) ?_
 refine M.cl (valid_spec w hw) ?_
 refine M.no (b := !validW w) (by rw [hv]; rfl) (by kernel_rfl) ?_
 refine M.callm [] (w_mapped_Obj w.objs 136 hw.nobjs fun x hx => wcopyObj x (hw.objs x hx).nsl (hw.objs x hx).nel) (by kernel_rfl) ?_
 refine M.callm [] (w_mapped_Act w.acts 138 hw.nacts fun x hx => wcopyAct x (hw.acts x hx).nvars) (by kernel_rfl) ?_
 refine M.callm [] (w_mapped_Code w.cds 140 hw.ncds fun x hx => wcopyCode x (hw.cds x hx).names (hw.cds x hx).ninit (hw.cds x hx).nlits (hw.cds x hx).sels (hw.cds x hx).nins) (by kernel_rfl) ?_
 refine M.callm [3, 4, 5] (indexedO w hw) (by kernel_rfl) ?_
 exact M.retm [] [6, 3, 4, 5, 7] hst rfl (by kernel_rfl) trivial rfl rfl
def addO (w : Wd) (o : Ob) : Ob := ⟨w.nO, o.kd, o.sl, o.el, o.code, o.up⟩
def addW (w : Wd) (o : Ob) : Wd := { w with objs := w.objs ++ [addO w o], nO := w.nO + 1 }
abbrev addSg (w : Wd) (o : Ob) : Sig := [[.os 73 1 6 (w.objs ++ [addO w o]).length, .os 75 2 9 w.acts.length, .os 79 3 9 w.cds.length, I (w.nO + 1), I w.nA, .mr 4], [.rws 6 (w.objs ++ [addO w o]).length (fun j => Ob.pv ((w.objs ++ [addO w o]).getD j default))], actR w, cdR w, mpR w]
theorem add_okW (w : Wd) (hw : w.Ok) (o : Ob) (ho : o.Ok) (h1 : objectW w (addO w o) = true) (h2 : decide ((w.objs.length : Int) >= 3000) = false) (h3 : decide (w.nO >= 1099511627776) = false) (h4 : 0 <= w.nO) :
  SpecM Tryz.prog 100 1 (opS' w) [.ref 0 0, .agg o.pv] (addSg w o) (.tup [.agg [.os 73 1 6 (w.objs ++ [addO w o]).length, .os 75 2 9 w.acts.length, .os 79 3 9 w.cds.length, I (w.nO + 1), I w.nA], I w.nO, I 0]) := by
 have h3' := of_decide_eq_false h3
 have h2' := of_decide_eq_false h2
 refine SpecM.start (by kernel_rfl) Tryz.func100 rfl rfl (Nat.le_of_ble_eq_true rfl) fun w0 L hst => ?_
 refine M.clp [w.objs.length <= w.objs.length, w.acts.length <= w.acts.length, w.cds.length <= w.cds.length] ⟨Nat.le_refl _, Nat.le_refl _, Nat.le_refl _, trivial⟩ (object_spec w (addO w o) ⟨ho.sl, ho.el, ho.nsl, ho.nel⟩ hw.nacts) ?_
 refine M.no (b := !objectW w (addO w o)) (by rw [h1]; rfl) (by kernel_rfl) ?_
 refine M.no (b := decide ((w.objs.length : Int) >= 3000)) h2 (by kernel_rfl) ?_
 refine M.no (b := decide (w.nO >= 1099511627776)) h3 (by kernel_rfl) ?_
 refine M.cl (wcopyObj (addO w o) ho.nsl ho.nel) ?_
 refine M.ren [w.objs.length = w.objs.length /\ 0 < 1 /\ w.objs.length + 1 <= 9223372036854775807 /\ (w.objs.length + 1) * 80 <= 140737488355328, In64 (w.nO + 1)] [0, 7, 2, 3, 4, 6] hst (by kernel_rfl) ⟨⟨rfl, by omega, by omega, by omega⟩, ⟨by omega, by omega⟩, trivial⟩ (by kernel_rfl) (by kernel_rfl) rfl fun L' => ?_
 refine M.sigT [] [[.os 73 1 6 (w.objs.length + 1), .os 75 2 9 w.acts.length, .os 79 3 9 w.cds.length, I (w.nO + 1), I w.nA, .mr 4], [.rws 6 (w.objs.length + 1) (fun j => (joinEl (fun j => Ob.pv (w.objs.getD j default)) w.objs.length (fun j => ((Ob.pv (addO w o)).drop (j * 6)).take 6) j).map (renP (invF [0, 7, 2, 3, 4, 6] 0) 7))], actR w, cdR w, mpR w, [.os 73 1 6 (w.objs.length + 1), .os 75 2 9 w.acts.length, .os 79 3 9 w.cds.length, I (w.nO + 1), I w.nA]]
  (addSg w o ++ [[.os 73 1 6 (w.objs ++ [addO w o]).length, .os 75 2 9 w.acts.length, .os 79 3 9 w.cds.length, I (w.nO + 1), I w.nA]]) (by kernel_rfl) trivial (by kernel_rfl) (by kernel_rfl) (.cons ?_ (.cons (app_snocT (k := 6) (f := Ob.pv) w.objs (addO w o) (ds := Ob.pv (addO w o)) (g := renP (invF [0, 7, 2, 3, 4, 6] 0) 7) rfl (fun x => rfl) fun β L W us h => h) (.cons (.refl _) (.cons (.refl _) (.cons (.refl _) (.cons ?_ .nil)))))) ?_
 ·rw [List.length_append]; exact .refl _
 ·rw [List.length_append]; exact .refl _
 ·exact M.retm [] [0, 1, 2, 3, 4] hst rfl (by kernel_rfl) trivial rfl rfl
def makeOb (kd : Int) (sl : List Sl) (el : List Vl) : Ob := ⟨0, kd, sl, el, 0, 0⟩
theorem Make_ok (w : Wd) (hw : w.Ok) (kd : Int) (sl : List Sl) (el : List Vl) (hc : wcheckW w = 0) (hk : (kd == 3) = false) (ho : (makeOb kd sl el).Ok) (h1 : objectW w (addO w (makeOb kd sl el)) = true) (h2 : decide ((w.objs.length : Int) >= 3000) = false) (h3 : decide (w.nO >= 1099511627776) = false) (h4 : 0 <= w.nO) :
  Spec Tryz.prog 52 [.agg w.pv, I kd, row 5 Sl.pv sl, row 3 Vl.pv el] (.tup [.agg (addW w (makeOb kd sl el)).pv, I w.nO, I 0]) := by
 refine Spec.startL (by kernel_rfl) Tryz.func52 rfl rfl fun w0 L hst => ?_
 refine M.callm [] (open_ok w hw hc) (by kernel_rfl) ?_
 refine M.no (b := (0 : Int) != 0) rfl (by kernel_rfl) ?_
 refine M.no (b := kd == 3) hk (by kernel_rfl) ?_
 refine M.callm [2, 3, 4, 5, 6] (add_okW w hw (makeOb kd sl el) ho h1 h2 h3 h4) (by kernel_rfl) ?_
 exact M.retp [(w.objs ++ [addO w (makeOb kd sl el)]).length <= (w.objs ++ [addO w (makeOb kd sl el)]).length, w.acts.length <= w.acts.length, w.cds.length <= w.cds.length] (.tup [.agg (addW w (makeOb kd sl el)).pv, I w.nO, I 0]) (by kernel_rfl) ⟨Nat.le_refl _, Nat.le_refl _, Nat.le_refl _, trivial⟩ rfl
def frzCfgN (P : Program) (fn : Func) (n : Nat) (c : Cfg) (is : List Nat) : Cfg :=
 let d := (runC P fn.ntmps n c).2
 ⟨frzEs is d.σ d.E, frzSs is d.σ, d.todo, none⟩
section
variable {P : Program} {fn : Func} {w0 : W0} {L : List Nat} {Q : Exit -> Act -> World -> Prop} {c : Cfg}
theorem M.frzN (n : Nat) (ps qs : List Prop) (is : List Nat) (hown : w0.own = []) (h : (runC P fn.ntmps n c).1 = ps) (hp : All ps) (hdr : (runC P fn.ntmps n c).2.dr = none) (hok : frzOks is (runC P fn.ntmps n c).2.σ = true) (hqs : joinC (fzkC (setF is) 8 (runC P fn.ntmps n c).2.σ) ((runC P fn.ntmps n c).2.E.map (·.2)) ++ frzCc is (runC P fn.ntmps n c).2.σ = qs) (hq : All qs) (k : M P fn w0 L Q (frzCfgN P fn n c is)) : M P fn w0 L Q c := by
 refine ⟨run_ok n c (by rw [h]; exact hp) ?_⟩
 have k := k.out
 unfold frzCfgN at k
 rw [<- hqs] at hq
 clear hqs h
 simp only at k
 generalize (runC P fn.ntmps n c).2 = d at hdr hok hq k
 obtain ⟨E, σ, todo, dr⟩ := d
 simp only at hdr
 subst hdr
 intro β a W hI
 simp only at hok k hq
 exact k _ a W (hI.frzs hown hok (All_app.1 hq).1 (All_app.1 hq).2)
theorem M.sigTN (n : Nat) (ps : List Prop) (σ0 σ' : Sig) (h : (runC P fn.ntmps n c).1 = ps) (hp : All ps) (hdr : (runC P fn.ntmps n c).2.dr = none) (h0 : (runC P fn.ntmps n c).2.σ = σ0) (he : STo σ0 σ') (k : M P fn w0 L Q ⟨(runC P fn.ntmps n c).2.E, σ', (runC P fn.ntmps n c).2.todo, none⟩) : M P fn w0 L Q c := by
 refine ⟨run_ok n c (by rw [h]; exact hp) ?_⟩
 have k := k.out
 rw [<- h0] at he
 clear h h0
 generalize (runC P fn.ntmps n c).2 = d at hdr he k
 obtain ⟨E, σ, todo, dr⟩ := d
 simp only at hdr
 subst hdr
 intro β a W hI
 exact k β a W { hI with bx := hI.bx.sto he }
end
theorem EmptyO : SpecM Tryz.prog 51 0 [] [] [[.rws 6 (emptyL 10).length (fun j => Ob.pv ((emptyL 10).getD j default))]] (.agg [.os 73 0 6 (emptyL 10).length, nilS, nilS, I 11, I 1]) := by
 refine SpecM.start (by kernel_rfl) Tryz.func51 rfl rfl (Nat.zero_le _) fun w0 L hst => ?_
 refine M.nilC [] 73 6 (fun j => Ob.pv ((emptyL 0).getD j default)) 1 0 (by kernel_rfl) trivial (by kernel_rfl) (by kernel_rfl) ?_
 refine M.loopL (ι := {i : Nat // i <= 10}) (fun i => [(0, .ref 0 0), (1, .ref 1 0), (2, I ((i.1 : Int) + 1))]) (fun i => empS i.1) (fun i => 10 - i.1) ⟨0, Nat.zero_le _⟩ [] (by kernel_rfl) trivial (by kernel_rfl) (by kernel_rfl) fun ⟨i, hi⟩ L ih => ?_
 have hlen := emptyL_len i
 refine M.test (decide ((i : Int) + 1 <= 10)) (by kernel_rfl) (fun h1 => ?_) (fun h1 => ?_)
 ·have h1' := of_decide_eq_true h1
  refine M.test ((i : Int) + 1 == 7) (by kernel_rfl) (fun h2 => ?_) (fun h2 => ?_)
  ·have hob : emptyOb i = ⟨(i : Int) + 1, 2, [], [], 0, 0⟩ := by unfold emptyOb; rw [h2]; rfl
   refine M.ren [(emptyL i).length = (emptyL i).length /\ 0 < 1 /\ (emptyL i).length + 1 <= 9223372036854775807 /\ ((emptyL i).length + 1) * 80 <= 140737488355328, In64 ((i : Int) + 1 + 1)] [0, 1, 4] hst (by kernel_rfl) ⟨⟨rfl, by omega, by omega, by omega⟩, ⟨by omega, by omega⟩, trivial⟩ (by kernel_rfl) (by kernel_rfl) rfl fun L' => ?_
   refine M.sigT [] [nilW, [.os 73 2 6 ((emptyL i).length + 1), nilS, nilS, I 11, I 1], [.rws 6 ((emptyL i).length + 1) (fun j => (joinEl (fun j => Ob.pv ((emptyL i).getD j default)) (emptyL i).length (fun j => (([I ((i : Int) + 1), I 2, nilS, nilS, I 0, I 0] : List PV).drop (j * 6)).take 6) j).map (renP (invF [0, 1, 4] 0) 7))]] (empS (i + 1)) (by kernel_rfl) trivial (by kernel_rfl) (by kernel_rfl) ?_ ?_
   ·unfold empS
    rw [emptyL_succ]
    refine .cons (.refl _) (.cons ?_ (.cons (app_snocT (k := 6) (f := Ob.pv) (emptyL i) (emptyOb i) (ds := [I ((i : Int) + 1), I 2, nilS, nilS, I 0, I 0]) (g := renP (invF [0, 1, 4] 0) 7) rfl (fun x => rfl) fun β L W us h => ?_) .nil))
    ·rw [List.length_append]; exact .refl _
    ·rw [hob]
     obtain ⟨u0, us, rfl, q0, h⟩ := h.uncons
     obtain ⟨u1, us, rfl, q1, h⟩ := h.uncons
     obtain ⟨u2, us, rfl, q2, h⟩ := h.uncons
     obtain ⟨u3, us, rfl, q3, h⟩ := h.uncons
     exact .cons q0 (.cons q1 (.cons (nil_rowB 5 Sl.pv q2) (.cons (nil_rowB 3 Vl.pv q3) h)))
   ·exact M.back [] (ih ⟨i + 1, by omega⟩ L' (by show 10 - (i + 1) < 10 - i; omega)) (by kernel_rfl) trivial (by kernel_rfl) (by kernel_rfl) (by kernel_rfl) (by kernel_rfl)
  ·have hob : emptyOb i = ⟨(i : Int) + 1, 1, [], [], 0, 0⟩ := by unfold emptyOb; rw [h2]; rfl
   refine M.ren [(emptyL i).length = (emptyL i).length /\ 0 < 1 /\ (emptyL i).length + 1 <= 9223372036854775807 /\ ((emptyL i).length + 1) * 80 <= 140737488355328, In64 ((i : Int) + 1 + 1)] [0, 1, 4] hst (by kernel_rfl) ⟨⟨rfl, by omega, by omega, by omega⟩, ⟨by omega, by omega⟩, trivial⟩ (by kernel_rfl) (by kernel_rfl) rfl fun L' => ?_
   refine M.sigT [] [nilW, [.os 73 2 6 ((emptyL i).length + 1), nilS, nilS, I 11, I 1], [.rws 6 ((emptyL i).length + 1) (fun j => (joinEl (fun j => Ob.pv ((emptyL i).getD j default)) (emptyL i).length (fun j => (([I ((i : Int) + 1), I 1, nilS, nilS, I 0, I 0] : List PV).drop (j * 6)).take 6) j).map (renP (invF [0, 1, 4] 0) 7))]] (empS (i + 1)) (by kernel_rfl) trivial (by kernel_rfl) (by kernel_rfl) ?_ ?_
   ·unfold empS
    rw [emptyL_succ]
    refine .cons (.refl _) (.cons ?_ (.cons (app_snocT (k := 6) (f := Ob.pv) (emptyL i) (emptyOb i) (ds := [I ((i : Int) + 1), I 1, nilS, nilS, I 0, I 0]) (g := renP (invF [0, 1, 4] 0) 7) rfl (fun x => rfl) fun β L W us h => ?_) .nil))
    ·rw [List.length_append]; exact .refl _
    ·rw [hob]
     obtain ⟨u0, us, rfl, q0, h⟩ := h.uncons
     obtain ⟨u1, us, rfl, q1, h⟩ := h.uncons
     obtain ⟨u2, us, rfl, q2, h⟩ := h.uncons
     obtain ⟨u3, us, rfl, q3, h⟩ := h.uncons
     exact .cons q0 (.cons q1 (.cons (nil_rowB 5 Sl.pv q2) (.cons (nil_rowB 3 Vl.pv q3) h)))
   ·exact M.back [] (ih ⟨i + 1, by omega⟩ L' (by show 10 - (i + 1) < 10 - i; omega)) (by kernel_rfl) trivial (by kernel_rfl) (by kernel_rfl) (by kernel_rfl) (by kernel_rfl)
 ·have : i = 10 := by have := of_decide_eq_false h1; omega
  subst this
  exact M.retm [] [2] hst rfl (by kernel_rfl) trivial rfl rfl
theorem num_spec (n : Int) : Spec Tryz.prog 20 [I n] (.agg (Vl.mk 1 n []).pv) := by
 refine Spec.start (by kernel_rfl) Tryz.func20 rfl rfl fun w0 L => ?_
 exact M.ret (.agg (Vl.mk 1 n []).pv) (by kernel_rfl) rfl
abbrev ySl : Sl := ⟨[121], 1, ⟨1, 3, []⟩⟩
def sampleL : List Ob := (emptyL 10).set 3 ⟨4, 1, [ySl], [], 0, 0⟩
def sampleW : Wd := ⟨sampleL, [], [], 11, 1⟩
theorem sample_row : CTo [.rws 6 10 (setEl (fun j => Ob.pv ((emptyL 10).getD j default)) 3 2 [lit1 5 (Sl.pv ySl)])] [.rws 6 10 (fun j => Ob.pv (sampleL.getD j default))] := by
 refine .rws rfl fun j hj β L W us h => ?_
 by_cases e : j = 3
 ·subst e
  unfold setEl at h
  rw [if_pos rfl] at h
  have h : Rs β L W [I 4, I 1, lit1 5 (Sl.pv ySl), row 3 Vl.pv [], I 0, I 0] us := h
  obtain ⟨u0, us, rfl, q0, h⟩ := h.uncons
  obtain ⟨u1, us, rfl, q1, h⟩ := h.uncons
  obtain ⟨u2, us, rfl, q2, h⟩ := h.uncons
  exact .cons q0 (.cons q1 (.cons (lit1_row (k := 5) (f := Sl.pv) ySl rfl q2) h))
 ·unfold setEl at h
  rw [if_neg e] at h
  have e2 : sampleL.getD j default = (emptyL 10).getD j default := by
   unfold sampleL
   simp only [List.getD_eq_getElem?_getD]; rw [List.getElem?_set_ne (fun h => e h.symm)]
  rw [e2]
  exact h
abbrev xSl : Sl := ⟨[120], 2, ⟨1, 1, []⟩⟩
abbrev pSl : Sl := ⟨[112], 3, ⟨4, 4, []⟩⟩
abbrev newOb : Ob := makeOb 1 [xSl, pSl] []
def awW : Wd := addW sampleW newOb
theorem okOb {o : Ob} (h : (∀ s ∈ o.sl, In64 s.v.n) /\ (∀ v ∈ o.el, In64 v.n) /\ o.sl.length <= 1000000 /\ o.el.length <= 1000000) : o.Ok := ⟨h.1, h.2.1, h.2.2.1, h.2.2.2⟩
theorem okW {w : Wd} (h : ∀ o ∈ w.objs, (∀ s ∈ o.sl, In64 s.v.n) /\ (∀ v ∈ o.el, In64 v.n) /\ o.sl.length <= 1000000 /\ o.el.length <= 1000000) (ha : w.acts = []) (hc : w.cds = []) (hl : w.objs.length <= 1000000000) : w.Ok :=
 ⟨fun o ho => okOb (h o ho), fun a h => (by rw [ha] at h; cases h), fun a h => (by rw [hc] at h; cases h), (by rw [ha]; exact Nat.zero_le _), hl, (by rw [hc]; exact Nat.zero_le _)⟩
theorem sampleW_ok : sampleW.Ok := okW (by decide +kernel) rfl rfl (by decide +kernel)
theorem awW_ok : awW.Ok := okW (by decide +kernel) rfl rfl (by decide +kernel)
theorem sampleW_check : wcheckW sampleW = 0 := by decide +kernel
abbrev lit2 (k : Nat) (cs ds : List PV) : PV := .sl k 2 (fun j => ((cs ++ ds).drop (j * k)).take k)
theorem lit2_row {α : Type} [Inhabited α] {k : Nat} {f : α -> List PV} (x y : α) (hx : (f x).length = k) (hy : (f y).length = k) {β : List (Option Nat)} {L : List Nat} {W : World} {u : Value} (h : R β L W (lit2 k (f x) (f y)) u) : R β L W (row k f [x, y]) u :=
 sl_eq (n := 2) (n' := [x, y].length) rfl (fun j hj => by
  have : j = 0 \/ j = 1 := by omega
  rcases this with rfl | rfl
  ·rw [Nat.zero_mul, List.drop_zero, List.take_append_of_le_length (by omega), List.take_of_length_le (by omega)]; rfl
  ·rw [Nat.one_mul, List.drop_append_of_le_length (by omega), List.drop_eq_nil_of_le (by omega), List.nil_append, List.take_of_length_le (by omega)]; rfl) h
theorem make_sample : Spec Tryz.prog 52 [.agg [row 6 Ob.pv sampleL, nilS, nilS, I 11, I 1], I 1, lit2 5 (Sl.pv xSl) (Sl.pv pSl), nilS] (.tup [.agg awW.pv, I 11, I 0]) :=
 (Make_ok sampleW sampleW_ok 1 [xSl, pSl] [] sampleW_check rfl (okOb (by decide +kernel)) (by decide +kernel) (by decide +kernel) (by decide +kernel) (by decide +kernel)).conv (fun L W vs h => by
  obtain ⟨u0, us, rfl, q0, h⟩ := h.uncons
  obtain ⟨u1, us, rfl, q1, h⟩ := h.uncons
  obtain ⟨u2, us, rfl, q2, h⟩ := h.uncons
  obtain ⟨u3, us, rfl, q3, h⟩ := h.uncons
  exact .cons (agg_to (qs := sampleW.pv) (.cons (fun _ h => h) (.cons (fun _ h => nil_row 9 Ac.pv h) (.cons (fun _ h => nil_row 9 Cd.pv h) (.cons (fun _ h => h) (.cons (fun _ h => h) .nil))))) q0) (.cons q1 (.cons (lit2_row (k := 5) (f := Sl.pv) xSl pSl rfl rfl q2) (.cons (nil_row 3 Vl.pv q3) h)))) fun _ _ _ h => h
theorem sample_spec : Spec Tryz.prog 18 [] (.agg awW.pv) := by
 refine Spec.startN (by kernel_rfl) Tryz.func18 rfl rfl fun w0 L hst hown => ?_
 refine M.callm [] EmptyO (by kernel_rfl) ?_
 refine M.cl (num_spec 3) ?_
 refine M.sigTN 6 [(0 : Int) <= 3 /\ (3 : Int) < (10 : Nat), (3 : Int).toNat < 10] [nilW, [.rws 6 10 (setEl (fun j => Ob.pv ((emptyL 10).getD j default)) 3 2 [lit1 5 (Sl.pv ySl)])], [.os 73 1 6 10, nilS, nilS, I 11, I 1]] [nilW, [.rws 6 10 (fun j => Ob.pv (sampleL.getD j default))], [.os 73 1 6 10, nilS, nilS, I 11, I 1]] (by kernel_rfl) ⟨by decide, by decide, trivial⟩ (by kernel_rfl) (by kernel_rfl) (.cons (.refl _) (.cons sample_row (.cons (.refl _) .nil))) ?_
 refine M.frzN 0 [] [10 <= 10, 10 <= 10, 10 <= 10] [1] hown (by kernel_rfl) trivial (by kernel_rfl) (by kernel_rfl) (by kernel_rfl) ⟨Nat.le_refl _, Nat.le_refl _, Nat.le_refl _, trivial⟩ ?_
 refine M.cl (num_spec 1) ?_
 refine M.cl (ref_spec 4) ?_
 refine M.cl make_sample ?_
 exact M.ret (.agg awW.pv) (by kernel_rfl) rfl
def mAw : Mp := ⟨1, [⟨[120], 2, ⟨0, 0, []⟩⟩, pSl]⟩
theorem mapOf_aw : mapOfW awW 11 = (mAw, 0) := by decide +kernel
theorem MapOf_aw : Spec Tryz.prog 19 [.agg awW.pv, I 11] (.tup [.agg mAw.pv, I 0]) := by
 have := MapOf_spec awW awW_ok 11
 rw [mapOf_aw] at this
 exact this
def cloD (w : Wd) (U : List Int) : Prop := (∀ n ∈ U, ∀ v ∈ parL (objT w n).1.sl, startF v ∈ U) /\ (∀ n ∈ U, ∀ s ∈ (objT w n).1.sl, s.nm.length <= 140737488355328) /\ U.length <= 1000000
instance (w : Wd) (U : List Int) : Decidable (cloD w U) := by unfold cloD; infer_instance
theorem clo_aw : Clo awW [4, 5, 6] := by
 have h : cloD awW [4, 5, 6] := by decide +kernel
 exact ⟨h.1, h.2.1, h.2.2⟩
theorem look_aw (y : Ty) (sel : List UInt8) (r : (Tg × List Dp) × Int) (hy : y.v = ⟨0, 0, []⟩) (h : lookD awW 10 [mAw] y sel = r) :
  Spec Tryz.prog 8 [.agg awW.pv, lit1 2 mAw.pv, .agg y.pv, S sel] (.tup [.agg r.1.1.pv, row 8 Dp.pv r.1.2, I r.2]) := by
 subst h
 have hm : ∀ m ∈ [mAw], m.sl.length <= 1000000 /\ (∀ s ∈ m.sl, s.nm.length <= 140737488355328) /\ (∀ v ∈ parL m.sl, startF v ∈ [4, 5, 6]) /\ ∀ x ∈ m.sl, In64 x.v.n := by decide +kernel
 refine (Look_spec awW_ok [mAw] y sel ⟨fun m h x hx => (hm m h).2.2.2 x hx, fun z hz => ?_⟩ (U := [4, 5, 6]) 10 (fun _ _ => ⟨⟨clo_aw, by simp, by simp, ?_, fun m h => ⟨(hm m h).1, (hm m h).2.1, (hm m h).2.2.1⟩⟩, by decide⟩)).conv (fun L W vs h => ?_) fun _ _ _ h => h
 ·rw [List.mem_singleton] at hz; subst hz; rw [hy]; exact ⟨by decide, by decide⟩
 ·rw [hy]; decide
 ·obtain ⟨u0, us, rfl, q0, h⟩ := h.uncons
  obtain ⟨u1, us, rfl, q1, h⟩ := h.uncons
  exact .cons q0 (.cons (lit1_row (k := 2) (f := Mp.pv) mAw rfl q1) h)
abbrev zVl : Vl := ⟨0, 0, []⟩
def lobM : Mp := ⟨1, [ySl]⟩
def lobD : Dp := ⟨4, true, lobM, 0, zVl⟩
theorem look_x : lookD awW 10 [mAw] (kTy 2) [120] = ((⟨4, 0, 0, true, 0, zVl⟩, []), 0) := by decide +kernel
theorem look_xc : lookD awW 10 [mAw] (kTy 2) [120, 58] = ((⟨5, 0, 0, true, 0, zVl⟩, []), 0) := by decide +kernel
theorem look_y : lookD awW 10 [mAw] (kTy 2) [121] = ((⟨3, 4, 0, false, 0, ⟨1, 3, []⟩⟩, [lobD]), 0) := by decide +kernel
theorem look_z : lookD awW 10 [mAw] (kTy 2) [122] = ((⟨1, 0, 0, false, 0, zVl⟩, [lobD]), 0) := by decide +kernel
theorem look_v : lookD awW 10 [mAw] (kTy 0) [121] = ((tgZ, []), 0) := by decide +kernel
def addC (oid : Int) : Ch := ⟨1, oid, [], ⟨[122], 2, ⟨1, 1, []⟩⟩⟩
def okD' (w : Wd) : Prop := ∀ o ∈ w.objs, (∀ s ∈ o.sl, In64 s.v.n) /\ (∀ v ∈ o.el, In64 v.n) /\ o.sl.length <= 1000000 /\ o.el.length <= 1000000
instance (w : Wd) : Decidable (okD' w) := by unfold okD'; infer_instance
theorem hit_aw (oid : Int) (r : Bool × Int) (hc : (app1 awW (addC oid)).2 = 0 /\ okD' (app1 awW (addC oid)).1 /\ (app1 awW (addC oid)).1.acts = [] /\ (app1 awW (addC oid)).1.cds = [] /\ (app1 awW (addC oid)).1.objs.length <= 1000000000) (hcw : wcheckW awW = 0) (h : hitW awW lobD (app1 awW (addC oid)) = r) :
  Spec Tryz.prog 21 [.agg awW.pv, .agg (addC oid).pv, .agg lobD.pv] (.tup [.sb r.1, I r.2]) := by
 subst h
 refine Hit_spec awW awW_ok (addC oid) lobD (app1 awW (addC oid)) ?_ fun _ => okW hc.2.1 hc.2.2.1 hc.2.2.2.1 hc.2.2.2.2
 have := Apply_spec awW awW_ok (addC oid) _ (applied1 awW awW_ok (addC oid) rfl ⟨(by show (-9223372036854775808 : Int) <= 1; decide), (by show (1 : Int) <= 9223372036854775807; decide)⟩)
 rw [hcw] at this
 exact this
theorem hit_lob : Spec Tryz.prog 21 [.agg awW.pv, .agg (addC 4).pv, .agg lobD.pv] (.tup [.sb true, I 0]) := hit_aw 4 (true, 0) (by decide +kernel) (by decide +kernel) (by decide +kernel)
theorem hit_nil : Spec Tryz.prog 21 [.agg awW.pv, .agg (addC 1).pv, .agg lobD.pv] (.tup [.sb false, I 0]) := hit_aw 1 (false, 0) (by decide +kernel) (by decide +kernel) (by decide +kernel)
theorem awake_spec : Spec Tryz.prog 5 [] (.sb true) := by
 refine Spec.startL (by kernel_rfl) Tryz.func5 rfl rfl fun w0 L hst => ?_
 refine M.cl sample_spec ?_
 refine M.cl MapOf_aw ?_
 refine M.cl (look_aw (kTy 2) [120] _ rfl look_x) ?_
 refine M.cl (look_aw (kTy 2) [120, 58] _ rfl look_xc) ?_
 refine M.cl (look_aw (kTy 2) [121] _ rfl look_y) ?_
 refine M.cl (look_aw (kTy 2) [122] _ rfl look_z) ?_
 refine M.cl (look_aw (kTy 0) [121] _ rfl look_v) ?_
 refine M.no (b := false) rfl (by kernel_rfl) ?_
 refine M.no (b := false) rfl (by kernel_rfl) ?_
 refine M.cl (num_spec 1) ?_
 refine M.clp [(0 : Int) <= 0 /\ (0 : Int) < (1 : Nat)] ⟨by decide, trivial⟩ hit_lob ?_
 refine M.clp [(0 : Int) <= 0 /\ (0 : Int) < (1 : Nat)] ⟨by decide, trivial⟩ hit_nil ?_
 refine M.cl (num_spec 3) ?_
 refine M.yes (b := true) rfl (by kernel_rfl) ?_
 refine M.yes (b := true) rfl (by kernel_rfl) ?_
 refine M.yes (b := true) rfl (by kernel_rfl) ?_
 refine M.yes (b := true) rfl (by kernel_rfl) ?_
 refine M.yes (b := true) rfl (by kernel_rfl) ?_
 refine M.yes (b := true) rfl (by kernel_rfl) ?_
 refine M.yes (b := true) rfl (by kernel_rfl) ?_
 refine M.yes (b := true) rfl (by kernel_rfl) ?_
 refine M.yes (b := true) rfl (by kernel_rfl) ?_
 refine M.yes (b := true) rfl (by kernel_rfl) ?_
 refine M.testp [(0 : Int) <= 0 /\ (0 : Int) < (1 : Nat)] true (by kernel_rfl) ⟨by decide, trivial⟩ (fun _ => ?_) (fun h => by cases h)
 refine M.testp [(0 : Int) <= 0 /\ (0 : Int) < (1 : Nat)] true (by kernel_rfl) ⟨by decide, trivial⟩ (fun _ => ?_) (fun h => by cases h)
 refine M.yes (b := true) rfl (by kernel_rfl) ?_
 refine M.yes (b := true) rfl (by kernel_rfl) ?_
 refine M.yes (b := true) rfl (by kernel_rfl) ?_
 refine M.yes (b := true) rfl (by kernel_rfl) ?_
 refine M.yes (b := true) rfl (by kernel_rfl) ?_
 exact M.ret (.sb true) (by kernel_rfl) rfl
end Go.Proofs.YtplpnfjccemdnaaGreatDoor
