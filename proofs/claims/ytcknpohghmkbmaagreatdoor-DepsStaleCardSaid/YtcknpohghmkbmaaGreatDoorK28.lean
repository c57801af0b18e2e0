import Derived.Test.YtcknpohghmkbmaaGreatDoorK26
import Derived.Test.YtcknpohghmkbmaaGreatDoorK27
set_option linter.unusedVariables false
set_option linter.unusedSimpArgs false
/- The texts V35 D19 D20 D21 D22 D23 D24 V36 of the proof, laid one behind the other. -/
namespace Go.Proofs.YtcknpohghmkbmaaGreatDoor
open Go.RowKit
section
variable {w0 : W0} {L : List Nat} {P : Program} {Q : Exit -> Act -> World -> Prop} {fn : Func} {c : Cfg}
def lookAt (P : Program) (N : Nat) (d : Cfg) : Option (TypeId × PV × PV × Bool) :=
 match d.dr with
 | some q => match q.all[q.i]? with
  | some o => if fitsD N o.dst then match guardP q.all d.E o with
   | some true => match o.op with
    | .lookup t x i ok => some (t, evA d.E x, evA d.E i, ok)
    | _ => none
   | _ => none
   else none
  | none => none
 | none => none
def lookC (P : Program) (fn : Func) (c : Cfg) (p : PV) : Cfg :=
 let d := (stop P fn.ntmps c).2
 match d.dr with
 | some q => match q.all[q.i]? with
  | some o => { d with E := putE d.E o.dst p, dr := some { q with i := q.i + 1, ds := (q.i, some 1000) :: q.ds } }
  | none => d
 | none => d
theorem M.look (p : PV) (S : AbsRel) (key : PV) (t : TypeId) (ok : Bool) (ps : List Prop) (h : (stop P fn.ntmps c).1 = ps) (hp : All ps) (hat : lookAt P fn.ntmps (stop P fn.ntmps c).2 = some (t, .abs S, key, ok))
  (hrun : ∀ (β : List (Option Nat)) (L : List Nat) (W : World) (u v : Value), S.rel (Fb β L) W u -> R β L W key v -> ∃ y, (Instr.lookup t u v ok).run P W = .ok y W /\ R β L W p y)
  (k : M P fn w0 L Q (lookC P fn c p)) : M P fn w0 L Q c := by
 refine ⟨run_ok 3000 c (by rw [show (runC P fn.ntmps 3000 c).1 = ps from h]; exact hp) ?_⟩
 have k := k.out
 unfold lookC at k
 show OkF P fn w0 L Q (stop P fn.ntmps c).2
 simp only at k
 generalize (stop P fn.ntmps c).2 = d at hat k
 obtain ⟨E, σ, todo, dr⟩ := d
 unfold lookAt at hat
 cases dr with
 | none => cases hat
 | some q =>
  simp only at hat k
  cases ho : q.all[q.i]? with
  | none => rw [ho] at hat; cases hat
  | some o =>
   rw [ho] at hat k
   simp only at hat k
   split at hat
   ·rename_i hd
    split at hat
    ·rename_i hg
     split at hat
     ·rename_i t' x i ok' hop
      simp only [Option.some.injEq, Prod.mk.injEq] at hat
      obtain ⟨e1, e2, e3, e4⟩ := hat
      subst e1; subst e4
      intro hnd hok hm hT β a W hI
      refine k hnd hok hm (.op hT ho hd (.h 1000 hg (fun N β L W E2 σ2 a hev _ hEv hBx => ?_) rfl) rfl rfl) β a W hI
      have hx := hev x (by rw [hop]; simp [Op.operands])
      have hi := hev i (by rw [hop]; simp [Op.operands])
      have r1 := evA_R hEv x
      have r2 := evA_R hEv i
      rw [hx, e2, R] at r1
      rw [hi, e3] at r2
      obtain ⟨y, hy, hr⟩ := hrun β L W _ _ r1 r2
      refine ⟨y, ?_, hr⟩
      unfold execOp
      rw [hop]
      simp only [Sem.run_bind, hy, Result.andThen_ok, Sem.run_pure]
     ·cases hat
    ·cases hat
   ·cases hat
end
def kindsM : Atom -> List PV := fun x => if x = .i 5 then [.fn 113 [.ref 0 0], .fn 114 []] else if x = .i 4 then [.fn 111 [.ref 0 0], .fn 112 []] else
 if x = .i 3 then [.fn 108 [], .fn 109 []] else if x = .i 2 then [.fn 106 [.ref 0 0], .fn 107 []] else if x = .i 1 then [.fn 104 [], .fn 105 []] else []
def kindsP : Atom -> List PV := fun x => if x = .i 5 then [.fn 113 [.ptr zSlot], .fn 114 []] else if x = .i 4 then [.fn 111 [.ptr zSlot], .fn 112 []] else
 if x = .i 3 then [.fn 108 [], .fn 109 []] else if x = .i 2 then [.fn 106 [.ptr zSlot], .fn 107 []] else if x = .i 1 then [.fn 104 [], .fn 105 []] else []
abbrev fV (g : Nat) (cs : List Value) : Value := .func (.func g) #[] cs.toArray
def kindsV (b : Nat) : Atom -> Option (List Value) := fun x => if x = .i 5 then some [fV 113 [pV b], fV 114 []] else if x = .i 4 then some [fV 111 [pV b], fV 112 []] else
 if x = .i 3 then some [fV 108 [], fV 109 []] else if x = .i 2 then some [fV 106 [pV b], fV 107 []] else if x = .i 1 then some [fV 104 [], fV 105 []] else none
theorem kindsO : SpecM Tryz.prog 60 0 [] [] [[.mps (.int .i64) (fun x => (kindsM x).map (renP (invF [1, 0] 0) 7))], zSlot] (.mr 0) := by
 refine SpecM.start (by kernel_rfl) Tryz.func60 rfl rfl (Nat.le_refl _) fun w0 L hst => ?_
 exact M.retm [] [1, 0] hst rfl (by kernel_rfl) trivial rfl rfl
abbrev zSlotV : List Value := [.string ⟨#[]⟩, .int .i64 0, .int .i64 0, .int .i64 0, .string ⟨#[]⟩]
def kindsRel : AbsRel where
 rel F W u := ∃ (m b : Nat) (es : Array MapEntry) (clock : Nat) (t : TypeId), u = .map (some m) /\ ¬ F m /\ m < W.heap.size /\ W.heap[m]? = some (.map es clock) /\ ¬ F b /\ b < W.heap.size /\ W.heap[b]? = some (.cells zSlotV.toArray t (0, 0)) /\ (∀ e ∈ es.toList, ∃ a, keyAt (.int .i64) e.key = some a) /\
  ∀ a, (es.toList.find? fun e => keyAt (.int .i64) e.key == some a).map (·.val) = (kindsV b a).map fun l => .agg l.toArray
 move {F F' W W' u} h hs hk hF := by
  obtain ⟨m, b, es, clock, t, e, h1, h2, h3, h4, h5, h6, h9, h10⟩ := h
  refine ⟨m, b, es, clock, t, e, fun h => ?_, Nat.lt_of_lt_of_le h2 hs, (hk m h1 h2).trans h3, fun h => ?_, Nat.lt_of_lt_of_le h5 hs, (hk b h4 h5).trans h6, h9, h10⟩
  ·rcases hF m h with h | h
   ·exact h1 h
   ·omega
  ·rcases hF b h with h | h
   ·exact h4 h
   ·omega
theorem fnR0 {β : List (Option Nat)} {L : List Nat} {W : World} {g : Nat} {u : Value} (h : R β L W (.fn g []) u) : u = fV g [] := by
 rw [R] at h
 obtain ⟨us, rfl, h⟩ := h
 rw [Rs] at h
 subst h; rfl
theorem fnR1 {β : List (Option Nat)} {L : List Nat} {W : World} {g b : Nat} {u : Value} (hb : β[1]? = some (some b)) (h : R β L W (.fn g [.ref 1 0]) u) : u = fV g [pV b] := by
 rw [R] at h
 obtain ⟨us, rfl, h⟩ := h
 obtain ⟨v, vs, rfl, hv, h⟩ := h.uncons
 rw [Rs] at h
 subst h
 rw [R] at hv
 obtain ⟨x, hx, rfl⟩ := hv
 rw [hb] at hx
 cases hx
 rfl
theorem kinds_spec : Spec Tryz.prog 60 [] (.abs kindsRel) := by
 refine ⟨kindsO.1, fun L W vs hL hG hR => ?_⟩
 refine (kindsO.2.2 L [] W vs (fun g hg => ⟨hL g hg, by simp⟩) hG ⟨rfl, fun i j g c d hi => by simp at hi, fun g hg => by simp at hg, fun i cs hi => by simp at hi⟩ hR).mono fun e W' ⟨u, γ, L1, he, hu, hb, hn, hg, hs, hl, hf⟩ => ?_
 refine ⟨u, he, ?_, hn.plain⟩
 rw [R] at hu
 obtain ⟨m, hm, rfl⟩ := hu
 obtain ⟨x1, hx1, hh1⟩ := hb.2.2.2 1 zSlot rfl
 cases x1 with
 | none =>
  rcases hh1 with ⟨k, el, e⟩ | e
  ·cases e
  ·cases e
 | some b =>
  obtain ⟨t, us, hheap, h1, h2⟩ := Hold.out hh1 rfl
  obtain ⟨es, clock, hmap, hms⟩ := mps_out (hb.hold (i := 0) rfl hm)
  have hus : us = zSlotV := by
   obtain ⟨u0, us, rfl, q0, h2⟩ := h2.uncons
   obtain ⟨u1, us, rfl, q1, h2⟩ := h2.uncons
   obtain ⟨u2, us, rfl, q2, h2⟩ := h2.uncons
   obtain ⟨u3, us, rfl, q3, h2⟩ := h2.uncons
   obtain ⟨u4, us, rfl, q4, h2⟩ := h2.uncons
   rw [Rs] at h2
   rw [R] at q0 q1 q2 q3 q4
   subst h2; subst q0; subst q1; subst q2; subst q3; subst q4; rfl
  subst hus
  have far : ∀ g, some g ∈ γ -> ¬ Fb [] L g := fun g hmem h => by
   rcases hg g hmem with h' | h'
   ·simp at h'
   ·rcases h with h | h
    ·simp at h
    ·have := hL g h; omega
  rw [R]
  refine ⟨m, b, es, clock, t, rfl, far m (List.mem_of_getElem? hm), hb.2.2.1 m (List.mem_of_getElem? hm), hmap, far b (List.mem_of_getElem? hx1), hb.2.2.1 b (List.mem_of_getElem? hx1), hheap, hms.1, fun a => ?_⟩
  have key : ∀ (p q : PV) (v w : Value), (kindsM a).map (renP (invF [1, 0] 0) 7) = [p, q] -> (∀ u, R γ L1 W' p u -> u = v) -> (∀ u, R γ L1 W' q u -> u = w) -> kindsV b a = some [v, w] -> (es.toList.find? fun e => keyAt (.int .i64) e.key == some a).map (·.val) = (kindsV b a).map fun l => .agg l.toArray := fun p q v w e1 hp hq e2 => by
   have e1' : (fun x => (kindsM x).map (renP (invF [1, 0] 0) 7)) a = [p, q] := e1
   rcases hms.2 a with ⟨h, _⟩ | ⟨us, q1, _, _, q4⟩
   ·rw [e1'] at h; cases h
   ·rw [e1'] at q4
    obtain ⟨u0, us, rfl, r0, q4⟩ := q4.uncons
    obtain ⟨u1, us, rfl, r1, q4⟩ := q4.uncons
    rw [Rs] at q4
    subst q4
    rw [q1, e2, hp _ r0, hq _ r1]; rfl
  by_cases a5 : a = .i 5
  ·subst a5; exact key _ _ _ _ rfl (fun u h => fnR1 hx1 h) (fun u h => fnR0 h) rfl
  by_cases a4 : a = .i 4
  ·subst a4; exact key _ _ _ _ rfl (fun u h => fnR1 hx1 h) (fun u h => fnR0 h) rfl
  by_cases a3 : a = .i 3
  ·subst a3; exact key _ _ _ _ rfl (fun u h => fnR0 h) (fun u h => fnR0 h) rfl
  by_cases a2 : a = .i 2
  ·subst a2; exact key _ _ _ _ rfl (fun u h => fnR1 hx1 h) (fun u h => fnR0 h) rfl
  by_cases a1 : a = .i 1
  ·subst a1; exact key _ _ _ _ rfl (fun u h => fnR0 h) (fun u h => fnR0 h) rfl
  have e1 : kindsM a = [] := by unfold kindsM; rw [if_neg a5, if_neg a4, if_neg a3, if_neg a2, if_neg a1]
  have e2 : kindsV b a = none := by unfold kindsV; rw [if_neg a5, if_neg a4, if_neg a3, if_neg a2, if_neg a1]
  rcases hms.2 a with ⟨_, h⟩ | ⟨us, _, _, h, _⟩
  ·rw [h, e2]; rfl
  ·exact absurd (show (fun x => (kindsM x).map (renP (invF [1, 0] 0) 7)) a = [] by show (kindsM a).map _ = []; rw [e1]; rfl) h
theorem kinds_look {k : Int} {β : List (Option Nat)} {L : List Nat} {W : World} {u v : Value} (h : kindsRel.rel (Fb β L) W u) (hv : R β L W (I k) v) {zs : List Value} (hz : zeroAgg Tryz.prog 128 = some zs) :
  ∃ y, (Instr.lookup 130 u v true).run Tryz.prog W = .ok y W /\ R β L W (.tup [cellsOr (zs.map .v) (kindsP (.i k)), .sb (!(kindsP (.i k)).isEmpty)]) y := by
 obtain ⟨m, b, es, clock, t, rfl, h1, h2, h3, h4, h5, h6, h9, h10⟩ := h
 have hbp : R β L W (.ptr zSlot) (pV b) := by
  rw [R]
  refine ⟨b, 0, zSlotV, rfl, h4, h5, fun x hx => ?_, ?_, fun i x hx => ?_⟩
  ·simp only [List.mem_cons, List.not_mem_nil, or_false] at hx
   rcases hx with rfl | rfl | rfl | rfl | rfl <;> rfl
  ·exact plain_Rs zSlotV
  ·simp only [World.cell?, h6]; simpa using hx
 have f0 : ∀ g, R β L W (.fn g []) (fV g []) := fun g => by rw [R]; exact ⟨[], rfl, Rs.nil⟩
 have f1 : ∀ g, R β L W (.fn g [.ptr zSlot]) (fV g [pV b]) := fun g => by rw [R]; exact ⟨[pV b], rfl, Rs.cons hbp Rs.nil⟩
 have one : ∀ g cs, (fV g cs).oneCell' = true := fun _ _ => rfl
 have hm : MapS β L W (.int .i64) es kindsP := by
  refine ⟨h9, fun a => ?_⟩
  have key : ∀ (p q : PV) (v w : Value), kindsP a = [p, q] -> R β L W p v -> R β L W q w -> kindsV b a = some [v, w] -> v.oneCell' = true -> w.oneCell' = true ->
   (kindsP a = [] /\ (es.toList.find? fun e => keyAt (.int .i64) e.key == some a).map (·.val) = none) \/ ∃ us : List Value, (es.toList.find? fun e => keyAt (.int .i64) e.key == some a).map (·.val) = some (.agg us.toArray) /\ (∀ x ∈ us, x.oneCell' = true) /\ kindsP a ≠ [] /\ Rs β L W (kindsP a) us := fun p q v w e1 hp hq e2 o1 o2 => by
   refine .inr ⟨[v, w], by rw [h10, e2]; rfl, fun x hx => ?_, by rw [e1]; simp, by rw [e1]; exact Rs.cons hp (Rs.cons hq Rs.nil)⟩
   simp only [List.mem_cons, List.not_mem_nil, or_false] at hx
   rcases hx with rfl | rfl
   ·exact o1
   ·exact o2
  by_cases a5 : a = .i 5
  ·subst a5; exact key _ _ _ _ rfl (f1 _) (f0 _) rfl rfl rfl
  by_cases a4 : a = .i 4
  ·subst a4; exact key _ _ _ _ rfl (f1 _) (f0 _) rfl rfl rfl
  by_cases a3 : a = .i 3
  ·subst a3; exact key _ _ _ _ rfl (f0 _) (f0 _) rfl rfl rfl
  by_cases a2 : a = .i 2
  ·subst a2; exact key _ _ _ _ rfl (f1 _) (f0 _) rfl rfl rfl
  by_cases a1 : a = .i 1
  ·subst a1; exact key _ _ _ _ rfl (f0 _) (f0 _) rfl rfl rfl
  refine .inl ⟨by unfold kindsP; rw [if_neg a5, if_neg a4, if_neg a3, if_neg a2, if_neg a1], ?_⟩
  rw [h10, show kindsV b a = none by unfold kindsV; rw [if_neg a5, if_neg a4, if_neg a3, if_neg a2, if_neg a1]]; rfl
 exact looks_at (ok := true) (kt := 3) (k := .i k) (by kernel_rfl) (by kernel_rfl) hz rfl h3 hm hv
abbrev nilW : List PV := [nilS, nilS, nilS, I 0, I 0]
abbrev wZ : Wd := ⟨[], [], [], 0, 0⟩
theorem wz_nil {β : List (Option Nat)} {L : List Nat} {W : World} {e : Int} {u : Value} (h : R β L W (.tup [.agg nilW, I e]) u) : R β L W (.tup [.agg wZ.pv, I e]) u := tup_toB h fun us h => by
 obtain ⟨u0, us, rfl, h0, h⟩ := h.uncons
 exact Rs.cons (agg_to (qs := wZ.pv) (.cons (fun _ h => nil_rowB 6 Ob.pv h) (.cons (fun _ h => nil_rowB 9 Ac.pv h) (.cons (fun _ h => nil_rowB 9 Cd.pv h) (.cons (fun _ h => h) (.cons (fun _ h => h) .nil))))) h0) h
abbrev doneS (w : Wd) (i : Nat) (o : Ob) : Sig := [[.os 76 2 6 w.objs.length, .os 78 3 9 w.acts.length, .os 82 4 9 w.cds.length, I w.nO, I w.nA], [I 0], [.rwf 6 w.objs.length (fun j => Ob.pv (w.objs.getD j default)) i (ObO 5 o)], actR w, cdR w, slotR o.sl]
theorem appl_none (w : Wd) (i : Nat) (o : Ob) : SpecD Tryz.prog 61 (doneS w i o) [.ref 0 0, .ref 1 0] none (doneS w i o) := by
 refine SpecD.start (by kernel_rfl) rfl Tryz.func61 rfl rfl rfl rfl rfl rfl fun w0 L hst => ?_
 exact M.dend [] (by kernel_rfl) trivial (by kernel_rfl) (by kernel_rfl) [0, 1, 2, 3, 4, 5] (n := 6) hst rfl (by kernel_rfl) (by kernel_rfl) rfl
theorem appl_some (x : Int) : SpecD Tryz.prog 61 [nilW, [I 0]] [.ref 0 0, .ref 1 0] (some (unfV x)) [nilW, [I x]] := by
 refine SpecD.start (by kernel_rfl) rfl Tryz.func61 rfl rfl rfl rfl rfl rfl fun w0 L hst => ?_
 exact M.dend [] (by kernel_rfl) trivial (by kernel_rfl) (by kernel_rfl) [0, 1] (n := 2) hst rfl (by kernel_rfl) (by kernel_rfl) rfl
def setW (w : Wd) (i : Nat) (o : Ob) : Wd := { w with objs := w.objs.set i o }
theorem setW_ok {w : Wd} (hw : w.Ok) (i : Nat) {o : Ob} (ho : o.Ok) : (setW w i o).Ok := ⟨fun x hx => by
 rcases List.mem_or_eq_of_mem_set hx with h | h
 ·exact hw.objs x h
 ·rw [h]; exact ho, hw.acts, hw.cds, hw.nacts, by show (w.objs.set i o).length <= _; rw [List.length_set]; exact hw.nobjs, hw.ncds⟩
abbrev focW (w : Wd) (i : Nat) (o : Ob) : List PV := [focV w i o, row 9 Ac.pv w.acts, row 9 Cd.pv w.cds, I w.nO, I w.nA]
theorem focW_R {w : Wd} {i : Nat} {o : Ob} (hi : i < w.objs.length) {β : List (Option Nat)} {L : List Nat} {W : World} {u : Value} (h : R β L W (.agg (focW w i o)) u) : R β L W (.agg (setW w i o).pv) u :=
 agg_to (.cons (fun _ h => foc_row hi h) (.cons (fun _ h => h) (.cons (fun _ h => h) (.cons (fun _ h => h) (.cons (fun _ h => h) .nil))))) h
theorem checkG {w : Wd} {i : Nat} {o : Ob} (hi : i < w.objs.length) (hw : (setW w i o).Ok) : Spec Tryz.prog 31 [.agg (focW w i o)] (I (wcheckW (setW w i o))) :=
 (wcheck_spec _ hw).conv (fun L W vs h => by
  obtain ⟨u0, us, rfl, q0, h⟩ := h.uncons
  exact .cons (focW_R hi q0) h) fun _ _ _ h => h
def finT (w : Wd) : Wd × Int := bif wcheckW w == 0 then (w, 0) else (wZ, 110)
def app1 (w : Wd) (ch : Ch) : Wd × Int := bif form1 ch then (bif objF w ch.oid then (bif decide (((chO w ch).sl.length : Int) < 40) then (bif decide (atF (chO w ch).sl ch.slot.nm < 0) then finT (setW w (chI w ch) { chO w ch with sl := (chO w ch).sl ++ [ch.slot] }) else (wZ, 110)) else (wZ, 2)) else (wZ, 3)) else (wZ, 110)
theorem applied1 (w : Wd) (hw : w.Ok) (ch : Ch) (hk : ch.kind = 1) (hch : In64 ch.slot.v.n) : Spec Tryz.prog 32 [.agg w.pv, .agg ch.pv] (.tup [.agg (app1 w ch).1.pv, I (app1 w ch).2]) := by
 unfold app1
 obtain ⟨kd, oid, nm, sl⟩ := ch
 simp only at hk
 subst hk
 refine Spec.startD (by kernel_rfl) Tryz.func32 rfl rfl fun w0 L hst hd0 hro hmk hgh => ?_
 refine M.cl kinds_spec ?_
 refine M.look (.tup [.agg [.fn 104 [], .fn 105 []], .sb true]) kindsRel (I 1) 130 true [] (by kernel_rfl) trivial (by kernel_rfl) (fun β L W u v h hv => kinds_look (k := 1) h hv (zs := [.nilFunc, .nilFunc]) (by kernel_rfl)) ?_
 refine M.no (b := !true) rfl (by kernel_rfl) ?_
 refine M.cl (form1_spec ⟨1, oid, nm, sl⟩) ?_
 cases hfm : form1 ⟨1, oid, nm, sl⟩ with
 | false =>
  refine M.yes (b := !false) rfl (by kernel_rfl) ?_
  exact M.retw [] (.tup [.agg nilW, I 110]) (by kernel_rfl) trivial fun L W u h => wz_nil h
 | true =>
 refine M.no (b := !true) rfl (by kernel_rfl) ?_
 refine M.defer (g := 61) (caps := [.ref 2 0, .ref 3 0]) 4 [] (by kernel_rfl) trivial hst (Nat.le_of_ble_eq_true (by kernel_rfl)) (by kernel_rfl) hd0 hro hmk hgh fun w1 L1 hD => ?_
 cases hf : objF w oid with
 | false =>
  refine M.callm [] (copied_spec w hw) (by kernel_rfl) ?_
  exact M.callP [] [5, 6, 7, 8] (add_none w hw ⟨1, oid, nm, sl⟩ hf) (by kernel_rfl) trivial (by kernel_rfl) (OkP.leave (x' := unfV 3) hD [2, 3] (appl_some 3) [] (.tup [.agg nilW, I 3]) (by kernel_rfl) rfl (by kernel_rfl) (by kernel_rfl) (by kernel_rfl) (by kernel_rfl) (by kernel_rfl) trivial fun L W u h => wz_nil h)
 | true =>
 have hil := chI_lt hw (ch := ⟨1, oid, nm, sl⟩) hf
 have hok := hw.objs _ (getD_mem (p := chI w ⟨1, oid, nm, sl⟩) hil)
 refine M.callm [] (copiedF_spec w hw (chI w ⟨1, oid, nm, sl⟩) hil) (by kernel_rfl) ?_
 cases h1 : decide (((chO w ⟨1, oid, nm, sl⟩).sl.length : Int) < 40) with
 | false =>
  exact M.callP [] [5, 6, 7, 8, 9] (add_full w hw ⟨1, oid, nm, sl⟩ hf h1) (by kernel_rfl) trivial (by kernel_rfl) (OkP.leave (x' := unfV 2) hD [2, 3] (appl_some 2) [] (.tup [.agg nilW, I 2]) (by kernel_rfl) rfl (by kernel_rfl) (by kernel_rfl) (by kernel_rfl) (by kernel_rfl) (by kernel_rfl) trivial fun L W u h => wz_nil h)
 | true =>
 cases h2 : decide (atF (chO w ⟨1, oid, nm, sl⟩).sl sl.nm < 0) with
 | false =>
  exact M.callP [] [5, 6, 7, 8, 9] (add_twice w hw ⟨1, oid, nm, sl⟩ hf h1 h2) (by kernel_rfl) trivial (by kernel_rfl) (OkP.leave (x' := unfV 110) hD [2, 3] (appl_some 110) [] (.tup [.agg nilW, I 110]) (by kernel_rfl) rfl (by kernel_rfl) (by kernel_rfl) (by kernel_rfl) (by kernel_rfl) (by kernel_rfl) trivial fun L W u h => wz_nil h)
 | true =>
 have ho' : ({ chO w ⟨1, oid, nm, sl⟩ with sl := (chO w ⟨1, oid, nm, sl⟩).sl ++ [sl] } : Ob).Ok := ⟨fun s hs => by
  rcases List.mem_append.1 hs with h | h
  ·exact hok.sl s h
  ·rw [List.mem_singleton.1 h]; exact hch, hok.el, by have := of_decide_eq_true h1; simp only [List.length_append, List.length_cons, List.length_nil]; omega, hok.nel⟩
 refine M.callmp [] [5, 6, 7, 8, 9] (add_ok w hw ⟨1, oid, nm, sl⟩ hf h1 h2) (by kernel_rfl) trivial ?_
 refine M.clp [w.objs.length <= w.objs.length, ((chO w ⟨1, oid, nm, sl⟩).sl ++ [sl]).length <= ((chO w ⟨1, oid, nm, sl⟩).sl ++ [sl]).length, w.acts.length <= w.acts.length, w.cds.length <= w.cds.length] ⟨Nat.le_refl _, Nat.le_refl _, Nat.le_refl _, Nat.le_refl _, trivial⟩ (checkG hil (setW_ok hw _ ho')) ?_
 unfold finT
 cases hc : wcheckW (setW w (chI w ⟨1, oid, nm, sl⟩) { chO w ⟨1, oid, nm, sl⟩ with sl := (chO w ⟨1, oid, nm, sl⟩).sl ++ [sl] }) == 0 with
 | true =>
  refine M.cl (must_s hc 110) ?_
  exact M.leave hD [2, 3, 6, 7, 8, 10] (appl_none w (chI w ⟨1, oid, nm, sl⟩) { chO w ⟨1, oid, nm, sl⟩ with sl := (chO w ⟨1, oid, nm, sl⟩).sl ++ [sl] }) [] [w.objs.length <= w.objs.length, ((chO w ⟨1, oid, nm, sl⟩).sl ++ [sl]).length <= ((chO w ⟨1, oid, nm, sl⟩).sl ++ [sl]).length, w.acts.length <= w.acts.length, w.cds.length <= w.cds.length] (.tup [.agg (focW w (chI w ⟨1, oid, nm, sl⟩) { chO w ⟨1, oid, nm, sl⟩ with sl := (chO w ⟨1, oid, nm, sl⟩).sl ++ [sl] }), I 0]) (by kernel_rfl) trivial (by kernel_rfl) (by kernel_rfl) (by kernel_rfl) rfl (by kernel_rfl) (by kernel_rfl) (by kernel_rfl) (by kernel_rfl) ⟨Nat.le_refl _, Nat.le_refl _, Nat.le_refl _, Nat.le_refl _, trivial⟩ fun L W u h => tup_to h fun us h => by
   obtain ⟨u0, us, rfl, h0, h⟩ := h.uncons
   exact Rs.cons (focW_R hil h0) h
 | false =>
  exact M.callP [] [] (mustP_s hc 110) (by kernel_rfl) trivial (by kernel_rfl) (OkP.leave (x' := unfV 110) hD [2, 3] (appl_some 110) [] (.tup [.agg nilW, I 110]) (by kernel_rfl) rfl (by kernel_rfl) (by kernel_rfl) (by kernel_rfl) (by kernel_rfl) (by kernel_rfl) trivial fun L W u h => wz_nil h)
theorem Apply_spec (w : Wd) (hw : w.Ok) (ch : Ch) (a : Wd × Int) (ha : Spec Tryz.prog 32 [.agg w.pv, .agg ch.pv] (.tup [.agg a.1.pv, I a.2])) :
  Spec Tryz.prog 15 [.agg w.pv, .agg ch.pv] (.tup [.agg (bif wcheckW w != 0 then (wZ, wcheckW w) else a).1.pv, I (bif wcheckW w != 0 then (wZ, wcheckW w) else a).2]) := by
 refine Spec.startL (by kernel_rfl) Tryz.func15 rfl rfl fun w0 L hst => ?_
 refine M.cl (wcheck_spec w hw) ?_
 refine M.test (wcheckW w != 0) (by kernel_rfl) (fun h => ?_) (fun h => ?_)
 ·rw [h, cond_true]
  exact M.retw [] (.tup [.agg nilW, I (wcheckW w)]) (by kernel_rfl) trivial fun L W u h => wz_nil h
 ·rw [h, cond_false]
  refine M.cl ha ?_
  exact M.ret (.tup [.agg a.1.pv, I a.2]) (by kernel_rfl) rfl
def hitW (w : Wd) (x : Dp) (a : Wd × Int) : Bool × Int := bif a.2 != 0 then (false, a.2) else (ceasesT w a.1 x, 0)
theorem Hit_spec (w : Wd) (hw : w.Ok) (ch : Ch) (x : Dp) (a : Wd × Int) (ha : Spec Tryz.prog 15 [.agg w.pv, .agg ch.pv] (.tup [.agg a.1.pv, I a.2])) (hv : a.2 = 0 -> a.1.Ok) :
  Spec Tryz.prog 10 [.agg w.pv, .agg ch.pv, .agg x.pv] (.tup [.sb (hitW w x a).1, I (hitW w x a).2]) := by
 refine Spec.startL (by kernel_rfl) Tryz.func10 rfl rfl fun w0 L hst => ?_
 unfold hitW
 refine M.cl ha ?_
 refine M.test (a.2 != 0) (by kernel_rfl) (fun h => ?_) (fun h => ?_)
 ·rw [h, cond_true]
  exact M.ret (.tup [.sb false, I a.2]) (by kernel_rfl) rfl
 ·rw [h, cond_false]
  refine M.cl (ceases_spec w a.1 hw (hv (by simpa using h)) x) ?_
  exact M.ret (.tup [.sb (ceasesT w a.1 x), I 0]) (by kernel_rfl) rfl
def sumTo {α : Type} (b : Int) (f : α -> Int) : List α -> Int -> Int
 | [], n => n
 | x :: t, n => bif decide (n <= b) then sumTo b f t (n + f x) else n
theorem sumTo_stop {α : Type} {b : Int} {f : α -> Int} {n : Int} (h : ¬ n <= b) : ∀ l : List α, sumTo b f l n = n
 | [] => rfl
 | x :: t => by rw [sumTo, decide_eq_false h]; rfl
def obN (o : Ob) : Int := (o.sl.length : Int) + (o.el.length : Int)
def acN (a : Ac) : Int := (a.vars.length : Int)
def cdN (c : Cd) : Int := 1 + (c.names.length : Int) + (c.init.length : Int) + (c.lits.length : Int) + (c.sels.length : Int) + (c.ins.length : Int)
def smallN (w : Wd) : Int := sumTo 1200 cdN w.cds (sumTo 1200 acN w.acts (sumTo 1200 obN w.objs ((w.objs.length : Int) + (w.acts.length : Int))))
def smallT (w : Wd) : Bool := decide (smallN w <= 1200)
structure Bulk (w : Wd) : Prop where
 nobjs : w.objs.length <= 140737488355328
 nacts : w.acts.length <= 140737488355328
 ncds : w.cds.length <= 140737488355328
 objs : ∀ o ∈ w.objs, o.sl.length <= 140737488355328 /\ o.el.length <= 140737488355328
 acts : ∀ a ∈ w.acts, a.vars.length <= 140737488355328
 cds : ∀ c ∈ w.cds, c.names.length <= 140737488355328 /\ c.init.length <= 140737488355328 /\ c.lits.length <= 140737488355328 /\ c.sels.length <= 140737488355328 /\ c.ins.length <= 140737488355328
theorem small_spec (w : Wd) (hb : Bulk w) : Spec Tryz.prog 9 [.agg w.pv] (.sb (smallT w)) := by
 have hb1 := hb.nobjs
 have hb2 := hb.nacts
 have hb3 := hb.ncds
 unfold smallT smallN
 generalize hr1 : sumTo 1200 obN w.objs ((w.objs.length : Int) + (w.acts.length : Int)) = r1
 generalize hr2 : sumTo 1200 acN w.acts r1 = r2
 generalize hr3 : sumTo 1200 cdN w.cds r2 = r3
 refine Spec.startL (by kernel_rfl) Tryz.func9 rfl rfl fun w0 L hst => ?_
 refine M.loopL (ι := {q : Nat × Int // q.1 <= w.objs.length /\ 0 <= q.2 /\ q.2 <= 2000000000000000 /\ sumTo 1200 obN (w.objs.drop q.1) q.2 = r1}) (fun q => [(1, .ref 0 0), (3, I q.1.2), (4, I q.1.1)])
  (fun q => [w.pv]) (fun q => w.objs.length - q.1.1) ⟨(0, (w.objs.length : Int) + (w.acts.length : Int)), Nat.zero_le _, by simp only; omega, by simp only; omega, hr1⟩ [In64 ((w.objs.length : Int) + (w.acts.length : Int))] (by kernel_rfl) ⟨⟨by omega, by omega⟩, trivial⟩ (by kernel_rfl) (by kernel_rfl) fun ⟨(i, n), hi, h0, hn, hq⟩ L ih => ?_
 simp only at hi h0 hn hq
 refine M.test (decide ((i : Int) < (w.objs.length : Int))) (by kernel_rfl) (fun h1 => M.test (decide (n <= 1200)) (by kernel_rfl) (fun h2 => ?_) (fun h2 => ?_)) (fun h1 => ?_)
 ·
  have hlt : i < w.objs.length := by simpa using h1
  have h2' := of_decide_eq_true h2
  have hq' := hq
  rw [loop_cons hlt, sumTo, h2, cond_true] at hq'
  have hx := hb.objs _ (getD_mem (p := (i : Int).toNat) (l := w.objs) (by omega))
  refine M.ren [0 <= (i : Int) /\ (i : Int) < (w.objs.length : Int), 0 <= (i : Int) /\ (i : Int) < (w.objs.length : Int), In64 (((w.objs.getD (i : Int).toNat default).sl.length : Int) + ((w.objs.getD (i : Int).toNat default).el.length : Int)), In64 (n + (((w.objs.getD (i : Int).toNat default).sl.length : Int) + ((w.objs.getD (i : Int).toNat default).el.length : Int))), In64 ((i : Int) + 1)] [0] hst (by kernel_rfl) ⟨⟨by omega, by omega⟩, ⟨by omega, by omega⟩, ⟨by omega, by omega⟩, ⟨by omega, by omega⟩, ⟨by omega, by omega⟩, trivial⟩ (by kernel_rfl) (by kernel_rfl) rfl fun L' => ?_
  exact M.back [] (ih ⟨(i + 1, n + obN (w.objs.getD (i : Int).toNat default)), hlt, by unfold obN; simp only; omega, by unfold obN; simp only; omega, hq'⟩ L' (by show w.objs.length - (i + 1) < w.objs.length - i; omega)) (by kernel_rfl) trivial (by kernel_rfl) (by kernel_rfl) (by kernel_rfl) (by kernel_rfl)
 all_goals
  have e : n = r1 := by
   first
   | exact (by rw [<- hq, sumTo_stop (of_decide_eq_false h2)])
   | exact (by rw [<- hq, loop_nil (nlt_of_dec h1)]; rfl)
  subst e
  clear ih
  refine M.loopL (ι := {q : Nat × Int // q.1 <= w.acts.length /\ 0 <= q.2 /\ q.2 <= 2000000000000000 /\ sumTo 1200 acN (w.acts.drop q.1) q.2 = r2}) (fun q => [(1, .ref 0 0), (3, I q.1.2), (5, I q.1.1)])
   (fun q => [w.pv]) (fun q => w.acts.length - q.1.1) ⟨(0, n), Nat.zero_le _, by simp only; omega, by simp only; omega, hr2⟩ [] (by kernel_rfl) trivial (by kernel_rfl) (by kernel_rfl) fun ⟨(i, n), hi, h0, hn, hq⟩ L ih => ?_
  simp only at hi h0 hn hq
  refine M.test (decide ((i : Int) < (w.acts.length : Int))) (by kernel_rfl) (fun h1 => M.test (decide (n <= 1200)) (by kernel_rfl) (fun h2 => ?_) (fun h2 => ?_)) (fun h1 => ?_)
  ·
   have hlt : i < w.acts.length := by simpa using h1
   have h2' := of_decide_eq_true h2
   have hq' := hq
   rw [loop_cons hlt, sumTo, h2, cond_true] at hq'
   have hx := hb.acts _ (getD_mem (p := (i : Int).toNat) (l := w.acts) (by omega))
   refine M.ren [0 <= (i : Int) /\ (i : Int) < (w.acts.length : Int), In64 (n + ((w.acts.getD (i : Int).toNat default).vars.length : Int)), In64 ((i : Int) + 1)] [0] hst (by kernel_rfl) ⟨⟨by omega, by omega⟩, ⟨by omega, by omega⟩, ⟨by omega, by omega⟩, trivial⟩ (by kernel_rfl) (by kernel_rfl) rfl fun L' => ?_
   exact M.back [] (ih ⟨(i + 1, n + acN (w.acts.getD (i : Int).toNat default)), hlt, by unfold acN; simp only; omega, by unfold acN; simp only; omega, hq'⟩ L' (by show w.acts.length - (i + 1) < w.acts.length - i; omega)) (by kernel_rfl) trivial (by kernel_rfl) (by kernel_rfl) (by kernel_rfl) (by kernel_rfl)
  all_goals
   have e : n = r2 := by
    first
    | exact (by rw [<- hq, sumTo_stop (of_decide_eq_false h2)])
    | exact (by rw [<- hq, loop_nil (nlt_of_dec h1)]; rfl)
   subst e
   clear ih
   refine M.loopL (ι := {q : Nat × Int // q.1 <= w.cds.length /\ 0 <= q.2 /\ q.2 <= 2000000000000000 /\ sumTo 1200 cdN (w.cds.drop q.1) q.2 = r3}) (fun q => [(1, .ref 0 0), (3, I q.1.2), (6, I q.1.1)])
    (fun q => [w.pv]) (fun q => w.cds.length - q.1.1) ⟨(0, n), Nat.zero_le _, by simp only; omega, by simp only; omega, hr3⟩ [] (by kernel_rfl) trivial (by kernel_rfl) (by kernel_rfl) fun ⟨(i, n), hi, h0, hn, hq⟩ L ih => ?_
   simp only at hi h0 hn hq
   refine M.test (decide ((i : Int) < (w.cds.length : Int))) (by kernel_rfl) (fun h1 => M.test (decide (n <= 1200)) (by kernel_rfl) (fun h2 => ?_) (fun h2 => ?_)) (fun h1 => ?_)
   ·
    have hlt : i < w.cds.length := by simpa using h1
    have h2' := of_decide_eq_true h2
    have hq' := hq
    rw [loop_cons hlt, sumTo, h2, cond_true] at hq'
    have hx := hb.cds _ (getD_mem (p := (i : Int).toNat) (l := w.cds) (by omega))
    refine M.ren [0 <= (i : Int) /\ (i : Int) < (w.cds.length : Int), In64 (1 + ((w.cds.getD (i : Int).toNat default).names.length : Int)), In64 (1 + ((w.cds.getD (i : Int).toNat default).names.length : Int) + ((w.cds.getD (i : Int).toNat default).init.length : Int)), In64 (1 + ((w.cds.getD (i : Int).toNat default).names.length : Int) + ((w.cds.getD (i : Int).toNat default).init.length : Int) + ((w.cds.getD (i : Int).toNat default).lits.length : Int)), In64 (1 + ((w.cds.getD (i : Int).toNat default).names.length : Int) + ((w.cds.getD (i : Int).toNat default).init.length : Int) + ((w.cds.getD (i : Int).toNat default).lits.length : Int) + ((w.cds.getD (i : Int).toNat default).sels.length : Int)), In64 (1 + ((w.cds.getD (i : Int).toNat default).names.length : Int) + ((w.cds.getD (i : Int).toNat default).init.length : Int) + ((w.cds.getD (i : Int).toNat default).lits.length : Int) + ((w.cds.getD (i : Int).toNat default).sels.length : Int) + ((w.cds.getD (i : Int).toNat default).ins.length : Int)), In64 (n + (1 + ((w.cds.getD (i : Int).toNat default).names.length : Int) + ((w.cds.getD (i : Int).toNat default).init.length : Int) + ((w.cds.getD (i : Int).toNat default).lits.length : Int) + ((w.cds.getD (i : Int).toNat default).sels.length : Int) + ((w.cds.getD (i : Int).toNat default).ins.length : Int))), In64 ((i : Int) + 1)] [0] hst (by kernel_rfl) ⟨⟨by omega, by omega⟩, ⟨by omega, by omega⟩, ⟨by omega, by omega⟩, ⟨by omega, by omega⟩, ⟨by omega, by omega⟩, ⟨by omega, by omega⟩, ⟨by omega, by omega⟩, ⟨by omega, by omega⟩, trivial⟩ (by kernel_rfl) (by kernel_rfl) rfl fun L' => ?_
    exact M.back [] (ih ⟨(i + 1, n + cdN (w.cds.getD (i : Int).toNat default)), hlt, by unfold cdN; simp only; omega, by unfold cdN; simp only; omega, hq'⟩ L' (by show w.cds.length - (i + 1) < w.cds.length - i; omega)) (by kernel_rfl) trivial (by kernel_rfl) (by kernel_rfl) (by kernel_rfl) (by kernel_rfl)
   all_goals
    have e : n = r3 := by
     first
     | exact (by rw [<- hq, sumTo_stop (of_decide_eq_false h2)])
     | exact (by rw [<- hq, loop_nil (nlt_of_dec h1)]; rfl)
    subst e
    clear ih
    exact M.ret (.sb (decide (n <= 1200))) (by kernel_rfl) rfl
def emptyOb (i : Nat) : Ob := ⟨(i : Int) + 1, bif (i : Int) + 1 == 7 then 2 else 1, [], [], 0, 0⟩
def emptyL (i : Nat) : List Ob := (List.range i).map emptyOb
theorem emptyL_succ (i : Nat) : emptyL (i + 1) = emptyL i ++ [emptyOb i] := by unfold emptyL; rw [List.range_succ, List.map_append]; rfl
theorem emptyL_len (i : Nat) : (emptyL i).length = i := by unfold emptyL; simp
abbrev empS (i : Nat) : Sig := [nilW, [.os 76 2 6 (emptyL i).length, nilS, nilS, I 11, I 1], [.rws 6 (emptyL i).length (fun j => Ob.pv ((emptyL i).getD j default))]]
abbrev wO (w : Wd) (i : Nat) : List PV := [.os 76 i 6 w.objs.length, .os 78 (i + 1) 9 w.acts.length, .os 82 (i + 2) 9 w.cds.length, I w.nO, I w.nA]
abbrev mpR (w : Wd) : List PV := [.mp (.int .i64) (.i .i64 (atN w.objs w.objs.length))]
abbrev opS' (w : Wd) : Sig := [wO w 1 ++ [.mr 4], objR w, actR w, cdR w, mpR w]
theorem indexedO (w : Wd) (hw : w.Ok) : SpecM Tryz.prog 58 3 [objR w, actR w, cdR w] [.agg (wO w 0)] [objR w, actR w, cdR w, wO w 0 ++ [.mr 4], mpR w] (.ref 3 0) := by
 have hl := hw.nobjs
 refine SpecM.start (by kernel_rfl) Tryz.func58 rfl rfl (Nat.le_of_ble_eq_true rfl) fun w0 L hst => ?_
 refine M.loopL (ι := {i : Nat // i <= w.objs.length}) (fun i => [(3, .ref 5 0), (14, .os 76 0 6 w.objs.length), (15, I w.objs.length), (16, I i.1)]) (fun i => [objR w, actR w, cdR w, wO w 0, [.mp (.int .i64) (.i .i64 (atN w.objs i.1))], wO w 0 ++ [.mr 4]]) (fun i => w.objs.length - i.1) ⟨0, Nat.zero_le _⟩ [] (by kernel_rfl) trivial (by kernel_rfl) (by kernel_rfl) fun ⟨i, hi⟩ L ih => ?_
 refine M.test (decide ((i : Int) < (w.objs.length : Int))) (by kernel_rfl) (fun h1 => ?_) (fun h1 => ?_)
 ·have hlt : i < w.objs.length := by simpa using h1
  refine M.ren [0 <= (i : Int) /\ (i : Int) < (w.objs.length : Int), (i : Int).toNat < w.objs.length, In64 ((i : Int) + 1)] [0, 1, 2, 3, 4, 5] hst (by kernel_rfl) ⟨⟨by omega, by omega⟩, by omega, ⟨by omega, by omega⟩, trivial⟩ (by kernel_rfl) (by kernel_rfl) rfl fun L' => ?_
  exact M.back [] (ih ⟨i + 1, hlt⟩ L' (by show w.objs.length - (i + 1) < w.objs.length - i; omega)) (by kernel_rfl) trivial (by kernel_rfl) (by kernel_rfl) (by kernel_rfl) (by kernel_rfl)
 ·have : i = w.objs.length := by have := of_decide_eq_false h1; omega
  subst this
  exact M.retm [] [0, 1, 2, 5, 4] hst rfl (by kernel_rfl) trivial rfl rfl
theorem open_ok (w : Wd) (hw : w.Ok) (h : wcheckW w = 0) : SpecM Tryz.prog 70 0 [] [.agg w.pv] (opS' w) (.tup [.ref 0 0, I 0]) := by
 have hv : validW w = true := by
  unfold wcheckW at h
  cases hx : validW w with
  | true => rfl
  | false => rw [hx] at h; cases h
 refine SpecM.start (by kernel_rfl) Tryz.func70 rfl rfl (Nat.zero_le _) fun w0 L hst => ?_
 refine M.callm [] (indexed_spec w) (by kernel_rfl) ?_
 refine M.cl (valid_spec w hw) ?_
 refine M.no (b := !validW w) (by rw [hv]; rfl) (by kernel_rfl) ?_
 refine M.callm [] (w_mapped_Obj w.objs 131 hw.nobjs fun x hx => wcopyObj x (hw.objs x hx).nsl (hw.objs x hx).nel) (by kernel_rfl) ?_
 refine M.callm [] (w_mapped_Act w.acts 133 hw.nacts fun x hx => wcopyAct x (hw.acts x hx).nvars) (by kernel_rfl) ?_
 refine M.callm [] (w_mapped_Code w.cds 135 hw.ncds fun x hx => wcopyCode x (hw.cds x hx).names (hw.cds x hx).ninit (hw.cds x hx).nlits (hw.cds x hx).sels (hw.cds x hx).nins) (by kernel_rfl) ?_
 refine M.callm [3, 4, 5] (indexedO w hw) (by kernel_rfl) ?_
 exact M.retm [] [6, 3, 4, 5, 7] hst rfl (by kernel_rfl) trivial rfl rfl
theorem open_no (w : Wd) (hw : w.Ok) (h : wcheckW w ≠ 0) : Spec Tryz.prog 70 [.agg w.pv] (.tup [nilP, I 50]) := by
 have hv : validW w = false := by
  unfold wcheckW at h
  cases hx : validW w with
  | true => rw [hx] at h; exact absurd rfl h
  | false => rfl
 refine Spec.startL (by kernel_rfl) Tryz.func70 rfl rfl fun w0 L hst => ?_
 refine M.callm [] (indexed_spec w) (by kernel_rfl) ?_
 refine M.cl (valid_spec w hw) ?_
 refine M.yes (b := !validW w) (by rw [hv]; rfl) (by kernel_rfl) ?_
 exact M.ret (.tup [nilP, I 50]) (by kernel_rfl) rfl
def addO (w : Wd) (o : Ob) : Ob := ⟨w.nO, o.kd, o.sl, o.el, o.code, o.up⟩
def addW (w : Wd) (o : Ob) : Wd := { w with objs := w.objs ++ [addO w o], nO := w.nO + 1 }
abbrev addSg (w : Wd) (o : Ob) : Sig := [[.os 76 1 6 (w.objs ++ [addO w o]).length, .os 78 2 9 w.acts.length, .os 82 3 9 w.cds.length, I (w.nO + 1), I w.nA, .mr 4], [.rws 6 (w.objs ++ [addO w o]).length (fun j => Ob.pv ((w.objs ++ [addO w o]).getD j default))], actR w, cdR w, mpR w]
theorem add_okW (w : Wd) (hw : w.Ok) (o : Ob) (ho : o.Ok) (h1 : objectW w (addO w o) = true) (h2 : decide ((w.objs.length : Int) >= 3000) = false) (h3 : decide (w.nO >= 1099511627776) = false) (h4 : 0 <= w.nO) :
  SpecM Tryz.prog 74 1 (opS' w) [.ref 0 0, .agg o.pv] (addSg w o) (.tup [.agg [.os 76 1 6 (w.objs ++ [addO w o]).length, .os 78 2 9 w.acts.length, .os 82 3 9 w.cds.length, I (w.nO + 1), I w.nA], I w.nO, I 0]) := by
 have h3' := of_decide_eq_false h3
 have h2' := of_decide_eq_false h2
 refine SpecM.start (by kernel_rfl) Tryz.func74 rfl rfl (Nat.le_of_ble_eq_true rfl) fun w0 L hst => ?_
 refine M.clp [w.objs.length <= w.objs.length, w.acts.length <= w.acts.length, w.cds.length <= w.cds.length] ⟨Nat.le_refl _, Nat.le_refl _, Nat.le_refl _, trivial⟩ (object_spec w (addO w o) ⟨ho.sl, ho.el, ho.nsl, ho.nel⟩ hw.nacts) ?_
 refine M.no (b := !objectW w (addO w o)) (by rw [h1]; rfl) (by kernel_rfl) ?_
 refine M.no (b := decide ((w.objs.length : Int) >= 3000)) h2 (by kernel_rfl) ?_
 refine M.no (b := decide (w.nO >= 1099511627776)) h3 (by kernel_rfl) ?_
 refine M.cl (wcopyObj (addO w o) ho.nsl ho.nel) ?_
 refine M.ren [w.objs.length = w.objs.length /\ 0 < 1 /\ w.objs.length + 1 <= 9223372036854775807 /\ (w.objs.length + 1) * 80 <= 140737488355328, In64 (w.nO + 1)] [0, 7, 2, 3, 4, 6] hst (by kernel_rfl) ⟨⟨rfl, by omega, by omega, by omega⟩, ⟨by omega, by omega⟩, trivial⟩ (by kernel_rfl) (by kernel_rfl) rfl fun L' => ?_
 refine M.sigT [] [[.os 76 1 6 (w.objs.length + 1), .os 78 2 9 w.acts.length, .os 82 3 9 w.cds.length, I (w.nO + 1), I w.nA, .mr 4], [.rws 6 (w.objs.length + 1) (fun j => (joinEl (fun j => Ob.pv (w.objs.getD j default)) w.objs.length (fun j => ((Ob.pv (addO w o)).drop (j * 6)).take 6) j).map (renP (invF [0, 7, 2, 3, 4, 6] 0) 7))], actR w, cdR w, mpR w, [.os 76 1 6 (w.objs.length + 1), .os 78 2 9 w.acts.length, .os 82 3 9 w.cds.length, I (w.nO + 1), I w.nA]]
  (addSg w o ++ [[.os 76 1 6 (w.objs ++ [addO w o]).length, .os 78 2 9 w.acts.length, .os 82 3 9 w.cds.length, I (w.nO + 1), I w.nA]]) (by kernel_rfl) trivial (by kernel_rfl) (by kernel_rfl) (.cons ?_ (.cons (app_snocT (k := 6) (f := Ob.pv) w.objs (addO w o) (ds := Ob.pv (addO w o)) (g := renP (invF [0, 7, 2, 3, 4, 6] 0) 7) rfl (fun x => rfl) fun β L W us h => h) (.cons (.refl _) (.cons (.refl _) (.cons (.refl _) (.cons ?_ .nil)))))) ?_
 ·rw [List.length_append]; exact .refl _
 ·rw [List.length_append]; exact .refl _
 ·exact M.retm [] [0, 1, 2, 3, 4] hst rfl (by kernel_rfl) trivial rfl rfl
def makeOb (kd : Int) (sl : List Sl) (el : List Vl) : Ob := ⟨0, kd, sl, el, 0, 0⟩
theorem Make_ok (w : Wd) (hw : w.Ok) (kd : Int) (sl : List Sl) (el : List Vl) (hc : wcheckW w = 0) (hk : (kd == 3) = false) (ho : (makeOb kd sl el).Ok) (h1 : objectW w (addO w (makeOb kd sl el)) = true) (h2 : decide ((w.objs.length : Int) >= 3000) = false) (h3 : decide (w.nO >= 1099511627776) = false) (h4 : 0 <= w.nO) :
  Spec Tryz.prog 45 [.agg w.pv, I kd, row 5 Sl.pv sl, row 3 Vl.pv el] (.tup [.agg (addW w (makeOb kd sl el)).pv, I w.nO, I 0]) := by
 refine Spec.startL (by kernel_rfl) Tryz.func45 rfl rfl fun w0 L hst => ?_
 refine M.callm [] (open_ok w hw hc) (by kernel_rfl) ?_
 refine M.no (b := (0 : Int) != 0) rfl (by kernel_rfl) ?_
 refine M.no (b := kd == 3) hk (by kernel_rfl) ?_
 refine M.callm [2, 3, 4, 5, 6] (add_okW w hw (makeOb kd sl el) ho h1 h2 h3 h4) (by kernel_rfl) ?_
 exact M.retp [(w.objs ++ [addO w (makeOb kd sl el)]).length <= (w.objs ++ [addO w (makeOb kd sl el)]).length, w.acts.length <= w.acts.length, w.cds.length <= w.cds.length] (.tup [.agg (addW w (makeOb kd sl el)).pv, I w.nO, I 0]) (by kernel_rfl) ⟨Nat.le_refl _, Nat.le_refl _, Nat.le_refl _, trivial⟩ rfl
def frzCfgN (P : Program) (fn : Func) (n : Nat) (c : Cfg) (is : List Nat) : Cfg :=
 let d := (runC P fn.ntmps n c).2
 ⟨frzEs is d.σ d.E, frzSs is d.σ, d.todo, none⟩
section
variable {P : Program} {fn : Func} {w0 : W0} {L : List Nat} {Q : Exit -> Act -> World -> Prop} {c : Cfg}
theorem M.frzN (n : Nat) (ps qs : List Prop) (is : List Nat) (hown : w0.own = []) (h : (runC P fn.ntmps n c).1 = ps) (hp : All ps) (hdr : (runC P fn.ntmps n c).2.dr = none) (hok : frzOks is (runC P fn.ntmps n c).2.σ = true) (hqs : joinC (fzkC (setF is) 8 (runC P fn.ntmps n c).2.σ) ((runC P fn.ntmps n c).2.E.map (·.2)) ++ frzCc is (runC P fn.ntmps n c).2.σ = qs) (hq : All qs) (k : M P fn w0 L Q (frzCfgN P fn n c is)) : M P fn w0 L Q c := by
 refine ⟨run_ok n c (by rw [h]; exact hp) ?_⟩
 have k := k.out
 unfold frzCfgN at k
 rw [<- hqs] at hq
 clear hqs h
 simp only at k
 generalize (runC P fn.ntmps n c).2 = d at hdr hok hq k
 obtain ⟨E, σ, todo, dr⟩ := d
 simp only at hdr
 subst hdr
 intro β a W hI
 simp only at hok k hq
 exact k _ a W (hI.frzs hown hok (All_app.1 hq).1 (All_app.1 hq).2)
theorem M.sigTN (n : Nat) (ps : List Prop) (σ0 σ' : Sig) (h : (runC P fn.ntmps n c).1 = ps) (hp : All ps) (hdr : (runC P fn.ntmps n c).2.dr = none) (h0 : (runC P fn.ntmps n c).2.σ = σ0) (he : STo σ0 σ') (k : M P fn w0 L Q ⟨(runC P fn.ntmps n c).2.E, σ', (runC P fn.ntmps n c).2.todo, none⟩) : M P fn w0 L Q c := by
 refine ⟨run_ok n c (by rw [h]; exact hp) ?_⟩
 have k := k.out
 rw [<- h0] at he
 clear h h0
 generalize (runC P fn.ntmps n c).2 = d at hdr he k
 obtain ⟨E, σ, todo, dr⟩ := d
 simp only at hdr
 subst hdr
 intro β a W hI
 exact k β a W { hI with bx := hI.bx.sto he }
end
end Go.Proofs.YtcknpohghmkbmaaGreatDoor
