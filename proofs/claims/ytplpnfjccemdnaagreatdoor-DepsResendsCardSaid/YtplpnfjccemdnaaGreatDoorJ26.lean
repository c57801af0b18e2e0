import Derived.Test.YtplpnfjccemdnaaGreatDoorJ25
import Derived.ProofKit
import Derived.ChangeArms
import Derived.Deep.Slices
import Derived.SizedLaws
set_option linter.unusedVariables false
set_option linter.unusedSimpArgs false
/- The texts D23 D24 V36 D25 D26 D27 R1 R2 of the proof, laid one behind the other. -/
namespace Go.Proofs.YtplpnfjccemdnaaGreatDoor
open Go.RowKit
def emptyOb (i : Nat) : Ob := ⟨(i : Int) + 1, bif (i : Int) + 1 == 7 then 2 else 1, [], [], 0, 0⟩
def emptyL (i : Nat) : List Ob := (List.range i).map emptyOb
theorem emptyL_succ (i : Nat) : emptyL (i + 1) = emptyL i ++ [emptyOb i] := by unfold emptyL; rw [List.range_succ, List.map_append]; rfl
theorem emptyL_len (i : Nat) : (emptyL i).length = i := by unfold emptyL; simp
abbrev empS (i : Nat) : Sig := [nilW, [.os 73 2 6 (emptyL i).length, nilS, nilS, I 11, I 1], [.rws 6 (emptyL i).length (fun j => Ob.pv ((emptyL i).getD j default))]]
abbrev wO (w : Wd) (i : Nat) : List PV := [.os 73 i 6 w.objs.length, .os 75 (i + 1) 9 w.acts.length, .os 79 (i + 2) 9 w.cds.length, I w.nO, I w.nA]
abbrev mpR (w : Wd) : List PV := [.mp (.int .i64) (.i .i64 (atN w.objs w.objs.length))]
abbrev opS' (w : Wd) : Sig := [wO w 1 ++ [.mr 4], objR w, actR w, cdR w, mpR w]
theorem indexedO (w : Wd) (hw : w.Ok) : SpecM Tryz.prog 43 3 [objR w, actR w, cdR w] [.agg (wO w 0)] [objR w, actR w, cdR w, wO w 0 ++ [.mr 4], mpR w] (.ref 3 0) := by
 have hl := hw.nobjs
 refine SpecM.start (by kernel_rfl) Tryz.func43 rfl rfl (Nat.le_of_ble_eq_true rfl) fun w0 L hst => ?_
 refine M.loopL (ι := {i : Nat // i <= w.objs.length}) (fun i => [(3, .ref 5 0), (14, .os 73 0 6 w.objs.length), (15, I w.objs.length), (16, I i.1)]) (fun i => [objR w, actR w, cdR w, wO w 0, [.mp (.int .i64) (.i .i64 (atN w.objs i.1))], wO w 0 ++ [.mr 4]]) (fun i => w.objs.length - i.1) ⟨0, Nat.zero_le _⟩ [] (by kernel_rfl) trivial (by kernel_rfl) (by kernel_rfl) fun ⟨i, hi⟩ L ih => ?_
 refine M.ts (decide ((i : Int) < (w.objs.length : Int))) (fun h1 => ?_) (fun h1 => ?_)
 ·have hlt : i < w.objs.length := by simpa using h1
  refine M.rn [0 <= (i : Int) /\ (i : Int) < (w.objs.length : Int), (i : Int).toNat < w.objs.length, In64 ((i : Int) + 1)] [0, 1, 2, 3, 4, 5] hst ⟨⟨by omega, by omega⟩, by omega, ⟨by omega, by omega⟩, trivial⟩ fun L' => ?_
  exact M.bk [] (ih ⟨i + 1, hlt⟩ L' (by show w.objs.length - (i + 1) < w.objs.length - i; omega)) trivial
 ·have : i = w.objs.length := by have := of_decide_eq_false h1; omega
  subst this
  exact M.retm [] [0, 1, 2, 5, 4] hst rfl (by kernel_rfl) trivial rfl rfl
theorem open_ok (w : Wd) (hw : w.Ok) (h : wcheckW w = 0) : SpecM Tryz.prog 99 0 [] [.agg w.pv] (opS' w) (.tup [.ref 0 0, I 0]) := by
 have hv : validW w = true := by
  unfold wcheckW at h
  cases hx : validW w with
  | true => rfl
  | false => rw [hx] at h; cases h
 refine SpecM.start (by kernel_rfl) Tryz.func99 rfl rfl (Nat.zero_le _) fun w0 L hst => ?_
 refine M.cm [] (indexed_spec w) ?_
 refine M.cl (valid_spec w hw) ?_
 refine M.n (b := !validW w) (by rw [hv]; rfl) ?_
 refine M.cm [] (w_mapped_Obj w.objs 136 hw.nobjs fun x hx => wcopyObj x (hw.objs x hx).nsl (hw.objs x hx).nel) ?_
 refine M.cm [] (w_mapped_Act w.acts 138 hw.nacts fun x hx => wcopyAct x (hw.acts x hx).nvars) ?_
 refine M.cm [] (w_mapped_Code w.cds 140 hw.ncds fun x hx => wcopyCode x (hw.cds x hx).names (hw.cds x hx).ninit (hw.cds x hx).nlits (hw.cds x hx).sels (hw.cds x hx).nins) ?_
 refine M.cm [3, 4, 5] (indexedO w hw) ?_
 exact M.retm [] [6, 3, 4, 5, 7] hst rfl (by kernel_rfl) trivial rfl rfl
def addO (w : Wd) (o : Ob) : Ob := ⟨w.nO, o.kd, o.sl, o.el, o.code, o.up⟩
def addW (w : Wd) (o : Ob) : Wd := { w with objs := w.objs ++ [addO w o], nO := w.nO + 1 }
abbrev addSg (w : Wd) (o : Ob) : Sig := [[.os 73 1 6 (w.objs ++ [addO w o]).length, .os 75 2 9 w.acts.length, .os 79 3 9 w.cds.length, I (w.nO + 1), I w.nA, .mr 4], [.rws 6 (w.objs ++ [addO w o]).length (fun j => Ob.pv ((w.objs ++ [addO w o]).getD j default))], actR w, cdR w, mpR w]
theorem add_okW (w : Wd) (hw : w.Ok) (o : Ob) (ho : o.Ok) (h1 : objectW w (addO w o) = true) (h2 : decide ((w.objs.length : Int) >= 3000) = false) (h3 : decide (w.nO >= 1099511627776) = false) (h4 : 0 <= w.nO) :
  SpecM Tryz.prog 100 1 (opS' w) [.ref 0 0, .agg o.pv] (addSg w o) (.tup [.agg [.os 73 1 6 (w.objs ++ [addO w o]).length, .os 75 2 9 w.acts.length, .os 79 3 9 w.cds.length, I (w.nO + 1), I w.nA], I w.nO, I 0]) := by
 have h3' := of_decide_eq_false h3
 have h2' := of_decide_eq_false h2
 refine SpecM.start (by kernel_rfl) Tryz.func100 rfl rfl (Nat.le_of_ble_eq_true rfl) fun w0 L hst => ?_
 refine M.clp [w.objs.length <= w.objs.length, w.acts.length <= w.acts.length, w.cds.length <= w.cds.length] ⟨Nat.le_refl _, Nat.le_refl _, Nat.le_refl _, trivial⟩ (object_spec w (addO w o) ⟨ho.sl, ho.el, ho.nsl, ho.nel⟩ hw.nacts) ?_
 refine M.n (b := !objectW w (addO w o)) (by rw [h1]; rfl) ?_
 refine M.n (b := decide ((w.objs.length : Int) >= 3000)) h2 ?_
 refine M.n (b := decide (w.nO >= 1099511627776)) h3 ?_
 refine M.cl (wcopyObj (addO w o) ho.nsl ho.nel) ?_
 refine M.rn [w.objs.length = w.objs.length /\ 0 < 1 /\ w.objs.length + 1 <= 9223372036854775807 /\ (w.objs.length + 1) * 80 <= 140737488355328, In64 (w.nO + 1)] [0, 7, 2, 3, 4, 6] hst ⟨⟨rfl, by omega, by omega, by omega⟩, ⟨by omega, by omega⟩, trivial⟩ fun L' => ?_
 refine M.sigT [] [[.os 73 1 6 (w.objs.length + 1), .os 75 2 9 w.acts.length, .os 79 3 9 w.cds.length, I (w.nO + 1), I w.nA, .mr 4], [.rws 6 (w.objs.length + 1) (fun j => (joinEl (fun j => Ob.pv (w.objs.getD j default)) w.objs.length (fun j => ((Ob.pv (addO w o)).drop (j * 6)).take 6) j).map (renP (invF [0, 7, 2, 3, 4, 6] 0) 7))], actR w, cdR w, mpR w, [.os 73 1 6 (w.objs.length + 1), .os 75 2 9 w.acts.length, .os 79 3 9 w.cds.length, I (w.nO + 1), I w.nA]]
  (addSg w o ++ [[.os 73 1 6 (w.objs ++ [addO w o]).length, .os 75 2 9 w.acts.length, .os 79 3 9 w.cds.length, I (w.nO + 1), I w.nA]]) (by kernel_rfl) trivial (by kernel_rfl) (by kernel_rfl) (.cons ?_ (.cons (app_snocT (k := 6) (f := Ob.pv) w.objs (addO w o) (ds := Ob.pv (addO w o)) (g := renP (invF [0, 7, 2, 3, 4, 6] 0) 7) rfl (fun x => rfl) fun β L W us h => h) (.cons (.refl _) (.cons (.refl _) (.cons (.refl _) (.cons ?_ .nil)))))) ?_
 ·rw [List.length_append]; exact .refl _
 ·rw [List.length_append]; exact .refl _
 ·exact M.retm [] [0, 1, 2, 3, 4] hst rfl (by kernel_rfl) trivial rfl rfl
def makeOb (kd : Int) (sl : List Sl) (el : List Vl) : Ob := ⟨0, kd, sl, el, 0, 0⟩
theorem Make_ok (w : Wd) (hw : w.Ok) (kd : Int) (sl : List Sl) (el : List Vl) (hc : wcheckW w = 0) (hk : (kd == 3) = false) (ho : (makeOb kd sl el).Ok) (h1 : objectW w (addO w (makeOb kd sl el)) = true) (h2 : decide ((w.objs.length : Int) >= 3000) = false) (h3 : decide (w.nO >= 1099511627776) = false) (h4 : 0 <= w.nO) :
  Spec Tryz.prog 52 [.agg w.pv, I kd, row 5 Sl.pv sl, row 3 Vl.pv el] (.tup [.agg (addW w (makeOb kd sl el)).pv, I w.nO, I 0]) := by
 refine Spec.startL (by kernel_rfl) Tryz.func52 rfl rfl fun w0 L hst => ?_
 refine M.cm [] (open_ok w hw hc) ?_
 refine M.n (b := (0 : Int) != 0) rfl ?_
 refine M.n (b := kd == 3) hk ?_
 refine M.cm [2, 3, 4, 5, 6] (add_okW w hw (makeOb kd sl el) ho h1 h2 h3 h4) ?_
 exact M.retp [(w.objs ++ [addO w (makeOb kd sl el)]).length <= (w.objs ++ [addO w (makeOb kd sl el)]).length, w.acts.length <= w.acts.length, w.cds.length <= w.cds.length] (.tup [.agg (addW w (makeOb kd sl el)).pv, I w.nO, I 0]) (by kernel_rfl) ⟨Nat.le_refl _, Nat.le_refl _, Nat.le_refl _, trivial⟩ rfl
def frzCfgN (P : Program) (fn : Func) (n : Nat) (c : Cfg) (is : List Nat) : Cfg :=
 let d := (runC P fn.ntmps n c).2
 ⟨frzEs is d.σ d.E, frzSs is d.σ, d.todo, none⟩
section
variable {P : Program} {fn : Func} {w0 : W0} {L : List Nat} {Q : Exit -> Act -> World -> Prop} {c : Cfg}
theorem M.frzN (n : Nat) (ps qs : List Prop) (is : List Nat) (hown : w0.own = []) (h : (runC P fn.ntmps n c).1 = ps) (hp : All ps) (hdr : (runC P fn.ntmps n c).2.dr = none) (hok : frzOks is (runC P fn.ntmps n c).2.σ = true) (hqs : joinC (fzkC (setF is) 8 (runC P fn.ntmps n c).2.σ) ((runC P fn.ntmps n c).2.E.map (·.2)) ++ frzCc is (runC P fn.ntmps n c).2.σ = qs) (hq : All qs) (k : M P fn w0 L Q (frzCfgN P fn n c is)) : M P fn w0 L Q c := by
 refine ⟨run_ok n c (by rw [h]; exact hp) ?_⟩
 have k := k.out
 unfold frzCfgN at k
 rw [<- hqs] at hq
 clear hqs h
 simp only at k
 generalize (runC P fn.ntmps n c).2 = d at hdr hok hq k
 obtain ⟨E, σ, todo, dr⟩ := d
 simp only at hdr
 subst hdr
 intro β a W hI
 simp only at hok k hq
 exact k _ a W (hI.frzs hown hok (All_app.1 hq).1 (All_app.1 hq).2)
theorem M.sigTN (n : Nat) (ps : List Prop) (σ0 σ' : Sig) (h : (runC P fn.ntmps n c).1 = ps) (hp : All ps) (hdr : (runC P fn.ntmps n c).2.dr = none) (h0 : (runC P fn.ntmps n c).2.σ = σ0) (he : STo σ0 σ') (k : M P fn w0 L Q ⟨(runC P fn.ntmps n c).2.E, σ', (runC P fn.ntmps n c).2.todo, none⟩) : M P fn w0 L Q c := by
 refine ⟨run_ok n c (by rw [h]; exact hp) ?_⟩
 have k := k.out
 rw [<- h0] at he
 clear h h0
 generalize (runC P fn.ntmps n c).2 = d at hdr he k
 obtain ⟨E, σ, todo, dr⟩ := d
 simp only at hdr
 subst hdr
 intro β a W hI
 exact k β a W { hI with bx := hI.bx.sto he }
end
theorem EmptyO : SpecM Tryz.prog 51 0 [] [] [[.rws 6 (emptyL 10).length (fun j => Ob.pv ((emptyL 10).getD j default))]] (.agg [.os 73 0 6 (emptyL 10).length, nilS, nilS, I 11, I 1]) := by
 refine SpecM.start (by kernel_rfl) Tryz.func51 rfl rfl (Nat.zero_le _) fun w0 L hst => ?_
 refine M.nilC [] 73 6 (fun j => Ob.pv ((emptyL 0).getD j default)) 1 0 (by kernel_rfl) trivial (by kernel_rfl) (by kernel_rfl) ?_
 refine M.loopL (ι := {i : Nat // i <= 10}) (fun i => [(0, .ref 0 0), (1, .ref 1 0), (2, I ((i.1 : Int) + 1))]) (fun i => empS i.1) (fun i => 10 - i.1) ⟨0, Nat.zero_le _⟩ [] (by kernel_rfl) trivial (by kernel_rfl) (by kernel_rfl) fun ⟨i, hi⟩ L ih => ?_
 have hlen := emptyL_len i
 refine M.ts (decide ((i : Int) + 1 <= 10)) (fun h1 => ?_) (fun h1 => ?_)
 ·have h1' := of_decide_eq_true h1
  refine M.ts ((i : Int) + 1 == 7) (fun h2 => ?_) (fun h2 => ?_)
  ·have hob : emptyOb i = ⟨(i : Int) + 1, 2, [], [], 0, 0⟩ := by unfold emptyOb; rw [h2]; rfl
   refine M.rn [(emptyL i).length = (emptyL i).length /\ 0 < 1 /\ (emptyL i).length + 1 <= 9223372036854775807 /\ ((emptyL i).length + 1) * 80 <= 140737488355328, In64 ((i : Int) + 1 + 1)] [0, 1, 4] hst ⟨⟨rfl, by omega, by omega, by omega⟩, ⟨by omega, by omega⟩, trivial⟩ fun L' => ?_
   refine M.sigT [] [nilW, [.os 73 2 6 ((emptyL i).length + 1), nilS, nilS, I 11, I 1], [.rws 6 ((emptyL i).length + 1) (fun j => (joinEl (fun j => Ob.pv ((emptyL i).getD j default)) (emptyL i).length (fun j => (([I ((i : Int) + 1), I 2, nilS, nilS, I 0, I 0] : List PV).drop (j * 6)).take 6) j).map (renP (invF [0, 1, 4] 0) 7))]] (empS (i + 1)) (by kernel_rfl) trivial (by kernel_rfl) (by kernel_rfl) ?_ ?_
   ·unfold empS
    rw [emptyL_succ]
    refine .cons (.refl _) (.cons ?_ (.cons (app_snocT (k := 6) (f := Ob.pv) (emptyL i) (emptyOb i) (ds := [I ((i : Int) + 1), I 2, nilS, nilS, I 0, I 0]) (g := renP (invF [0, 1, 4] 0) 7) rfl (fun x => rfl) fun β L W us h => ?_) .nil))
    ·rw [List.length_append]; exact .refl _
    ·rw [hob]
     obtain ⟨u0, us, rfl, q0, h⟩ := h.uncons
     obtain ⟨u1, us, rfl, q1, h⟩ := h.uncons
     obtain ⟨u2, us, rfl, q2, h⟩ := h.uncons
     obtain ⟨u3, us, rfl, q3, h⟩ := h.uncons
     exact .cons q0 (.cons q1 (.cons (nil_rowB 5 Sl.pv q2) (.cons (nil_rowB 3 Vl.pv q3) h)))
   ·exact M.bk [] (ih ⟨i + 1, by omega⟩ L' (by show 10 - (i + 1) < 10 - i; omega)) trivial
  ·have hob : emptyOb i = ⟨(i : Int) + 1, 1, [], [], 0, 0⟩ := by unfold emptyOb; rw [h2]; rfl
   refine M.rn [(emptyL i).length = (emptyL i).length /\ 0 < 1 /\ (emptyL i).length + 1 <= 9223372036854775807 /\ ((emptyL i).length + 1) * 80 <= 140737488355328, In64 ((i : Int) + 1 + 1)] [0, 1, 4] hst ⟨⟨rfl, by omega, by omega, by omega⟩, ⟨by omega, by omega⟩, trivial⟩ fun L' => ?_
   refine M.sigT [] [nilW, [.os 73 2 6 ((emptyL i).length + 1), nilS, nilS, I 11, I 1], [.rws 6 ((emptyL i).length + 1) (fun j => (joinEl (fun j => Ob.pv ((emptyL i).getD j default)) (emptyL i).length (fun j => (([I ((i : Int) + 1), I 1, nilS, nilS, I 0, I 0] : List PV).drop (j * 6)).take 6) j).map (renP (invF [0, 1, 4] 0) 7))]] (empS (i + 1)) (by kernel_rfl) trivial (by kernel_rfl) (by kernel_rfl) ?_ ?_
   ·unfold empS
    rw [emptyL_succ]
    refine .cons (.refl _) (.cons ?_ (.cons (app_snocT (k := 6) (f := Ob.pv) (emptyL i) (emptyOb i) (ds := [I ((i : Int) + 1), I 1, nilS, nilS, I 0, I 0]) (g := renP (invF [0, 1, 4] 0) 7) rfl (fun x => rfl) fun β L W us h => ?_) .nil))
    ·rw [List.length_append]; exact .refl _
    ·rw [hob]
     obtain ⟨u0, us, rfl, q0, h⟩ := h.uncons
     obtain ⟨u1, us, rfl, q1, h⟩ := h.uncons
     obtain ⟨u2, us, rfl, q2, h⟩ := h.uncons
     obtain ⟨u3, us, rfl, q3, h⟩ := h.uncons
     exact .cons q0 (.cons q1 (.cons (nil_rowB 5 Sl.pv q2) (.cons (nil_rowB 3 Vl.pv q3) h)))
   ·exact M.bk [] (ih ⟨i + 1, by omega⟩ L' (by show 10 - (i + 1) < 10 - i; omega)) trivial
 ·have : i = 10 := by have := of_decide_eq_false h1; omega
  subst this
  exact M.retm [] [2] hst rfl (by kernel_rfl) trivial rfl rfl
theorem num_spec (n : Int) : Spec Tryz.prog 20 [I n] (.agg (Vl.mk 1 n []).pv) := by
 refine Spec.start (by kernel_rfl) Tryz.func20 rfl rfl fun w0 L => ?_
 exact M.ret (.agg (Vl.mk 1 n []).pv) (by kernel_rfl) rfl
abbrev ySl : Sl := ⟨[121], 1, ⟨1, 3, []⟩⟩
def sampleL : List Ob := (emptyL 10).set 3 ⟨4, 1, [ySl], [], 0, 0⟩
def sampleW : Wd := ⟨sampleL, [], [], 11, 1⟩
theorem sample_row : CTo [.rws 6 10 (setEl (fun j => Ob.pv ((emptyL 10).getD j default)) 3 2 [lit1 5 (Sl.pv ySl)])] [.rws 6 10 (fun j => Ob.pv (sampleL.getD j default))] := by
 refine .rws rfl fun j hj β L W us h => ?_
 by_cases e : j = 3
 ·subst e
  unfold setEl at h
  rw [if_pos rfl] at h
  have h : Rs β L W [I 4, I 1, lit1 5 (Sl.pv ySl), row 3 Vl.pv [], I 0, I 0] us := h
  obtain ⟨u0, us, rfl, q0, h⟩ := h.uncons
  obtain ⟨u1, us, rfl, q1, h⟩ := h.uncons
  obtain ⟨u2, us, rfl, q2, h⟩ := h.uncons
  exact .cons q0 (.cons q1 (.cons (lit1_row (k := 5) (f := Sl.pv) ySl rfl q2) h))
 ·unfold setEl at h
  rw [if_neg e] at h
  have e2 : sampleL.getD j default = (emptyL 10).getD j default := by
   unfold sampleL
   simp only [List.getD_eq_getElem?_getD]; rw [List.getElem?_set_ne (fun h => e h.symm)]
  rw [e2]
  exact h
abbrev xSl : Sl := ⟨[120], 2, ⟨1, 1, []⟩⟩
abbrev pSl : Sl := ⟨[112], 3, ⟨4, 4, []⟩⟩
abbrev newOb : Ob := makeOb 1 [xSl, pSl] []
def awW : Wd := addW sampleW newOb
theorem okOb {o : Ob} (h : (∀ s ∈ o.sl, In64 s.v.n) /\ (∀ v ∈ o.el, In64 v.n) /\ o.sl.length <= 1000000 /\ o.el.length <= 1000000) : o.Ok := ⟨h.1, h.2.1, h.2.2.1, h.2.2.2⟩
theorem okW {w : Wd} (h : ∀ o ∈ w.objs, (∀ s ∈ o.sl, In64 s.v.n) /\ (∀ v ∈ o.el, In64 v.n) /\ o.sl.length <= 1000000 /\ o.el.length <= 1000000) (ha : w.acts = []) (hc : w.cds = []) (hl : w.objs.length <= 1000000000) : w.Ok :=
 ⟨fun o ho => okOb (h o ho), fun a h => (by rw [ha] at h; cases h), fun a h => (by rw [hc] at h; cases h), (by rw [ha]; exact Nat.zero_le _), hl, (by rw [hc]; exact Nat.zero_le _)⟩
theorem sampleW_ok : sampleW.Ok := okW (by decide +kernel) rfl rfl (by decide +kernel)
theorem awW_ok : awW.Ok := okW (by decide +kernel) rfl rfl (by decide +kernel)
theorem sampleW_check : wcheckW sampleW = 0 := by decide +kernel
abbrev lit2 (k : Nat) (cs ds : List PV) : PV := .sl k 2 (fun j => ((cs ++ ds).drop (j * k)).take k)
theorem lit2_row {α : Type} [Inhabited α] {k : Nat} {f : α -> List PV} (x y : α) (hx : (f x).length = k) (hy : (f y).length = k) {β : List (Option Nat)} {L : List Nat} {W : World} {u : Value} (h : R β L W (lit2 k (f x) (f y)) u) : R β L W (row k f [x, y]) u :=
 sl_eq (n := 2) (n' := [x, y].length) rfl (fun j hj => by
  have : j = 0 \/ j = 1 := by omega
  rcases this with rfl | rfl
  ·rw [Nat.zero_mul, List.drop_zero, List.take_append_of_le_length (by omega), List.take_of_length_le (by omega)]; rfl
  ·rw [Nat.one_mul, List.drop_append_of_le_length (by omega), List.drop_eq_nil_of_le (by omega), List.nil_append, List.take_of_length_le (by omega)]; rfl) h
theorem make_sample : Spec Tryz.prog 52 [.agg [row 6 Ob.pv sampleL, nilS, nilS, I 11, I 1], I 1, lit2 5 (Sl.pv xSl) (Sl.pv pSl), nilS] (.tup [.agg awW.pv, I 11, I 0]) :=
 (Make_ok sampleW sampleW_ok 1 [xSl, pSl] [] sampleW_check rfl (okOb (by decide +kernel)) (by decide +kernel) (by decide +kernel) (by decide +kernel) (by decide +kernel)).conv (fun L W vs h => by
  obtain ⟨u0, us, rfl, q0, h⟩ := h.uncons
  obtain ⟨u1, us, rfl, q1, h⟩ := h.uncons
  obtain ⟨u2, us, rfl, q2, h⟩ := h.uncons
  obtain ⟨u3, us, rfl, q3, h⟩ := h.uncons
  exact .cons (agg_to (qs := sampleW.pv) (.cons (fun _ h => h) (.cons (fun _ h => nil_row 9 Ac.pv h) (.cons (fun _ h => nil_row 9 Cd.pv h) (.cons (fun _ h => h) (.cons (fun _ h => h) .nil))))) q0) (.cons q1 (.cons (lit2_row (k := 5) (f := Sl.pv) xSl pSl rfl rfl q2) (.cons (nil_row 3 Vl.pv q3) h)))) fun _ _ _ h => h
theorem sample_spec : Spec Tryz.prog 18 [] (.agg awW.pv) := by
 refine Spec.startN (by kernel_rfl) Tryz.func18 rfl rfl fun w0 L hst hown => ?_
 refine M.cm [] EmptyO ?_
 refine M.cl (num_spec 3) ?_
 refine M.sigTN 6 [(0 : Int) <= 3 /\ (3 : Int) < (10 : Nat), (3 : Int).toNat < 10] [nilW, [.rws 6 10 (setEl (fun j => Ob.pv ((emptyL 10).getD j default)) 3 2 [lit1 5 (Sl.pv ySl)])], [.os 73 1 6 10, nilS, nilS, I 11, I 1]] [nilW, [.rws 6 10 (fun j => Ob.pv (sampleL.getD j default))], [.os 73 1 6 10, nilS, nilS, I 11, I 1]] (by kernel_rfl) ⟨by decide, by decide, trivial⟩ (by kernel_rfl) (by kernel_rfl) (.cons (.refl _) (.cons sample_row (.cons (.refl _) .nil))) ?_
 refine M.frzN 0 [] [10 <= 10, 10 <= 10, 10 <= 10] [1] hown (by kernel_rfl) trivial (by kernel_rfl) (by kernel_rfl) (by kernel_rfl) ⟨Nat.le_refl _, Nat.le_refl _, Nat.le_refl _, trivial⟩ ?_
 refine M.cl (num_spec 1) ?_
 refine M.cl (ref_spec 4) ?_
 refine M.cl make_sample ?_
 exact M.ret (.agg awW.pv) (by kernel_rfl) rfl
def mAw : Mp := ⟨1, [⟨[120], 2, ⟨0, 0, []⟩⟩, pSl]⟩
theorem mapOf_aw : mapOfW awW 11 = (mAw, 0) := by decide +kernel
theorem MapOf_aw : Spec Tryz.prog 19 [.agg awW.pv, I 11] (.tup [.agg mAw.pv, I 0]) := by
 have := MapOf_spec awW awW_ok 11
 rw [mapOf_aw] at this
 exact this
def cloD (w : Wd) (U : List Int) : Prop := (∀ n ∈ U, ∀ v ∈ parL (objT w n).1.sl, startF v ∈ U) /\ (∀ n ∈ U, ∀ s ∈ (objT w n).1.sl, s.nm.length <= 140737488355328) /\ U.length <= 1000000
instance (w : Wd) (U : List Int) : Decidable (cloD w U) := by unfold cloD; infer_instance
theorem clo_aw : Clo awW [4, 5, 6] := by
 have h : cloD awW [4, 5, 6] := by decide +kernel
 exact ⟨h.1, h.2.1, h.2.2⟩
theorem look_aw (y : Ty) (sel : List UInt8) (r : (Tg × List Dp) × Int) (hy : y.v = ⟨0, 0, []⟩) (h : lookD awW 10 [mAw] y sel = r) :
  Spec Tryz.prog 8 [.agg awW.pv, lit1 2 mAw.pv, .agg y.pv, S sel] (.tup [.agg r.1.1.pv, row 8 Dp.pv r.1.2, I r.2]) := by
 subst h
 have hm : ∀ m ∈ [mAw], m.sl.length <= 1000000 /\ (∀ s ∈ m.sl, s.nm.length <= 140737488355328) /\ (∀ v ∈ parL m.sl, startF v ∈ [4, 5, 6]) /\ ∀ x ∈ m.sl, In64 x.v.n := by decide +kernel
 refine (Look_spec awW_ok [mAw] y sel ⟨fun m h x hx => (hm m h).2.2.2 x hx, fun z hz => ?_⟩ (U := [4, 5, 6]) 10 (fun _ _ => ⟨⟨clo_aw, by simp, by simp, ?_, fun m h => ⟨(hm m h).1, (hm m h).2.1, (hm m h).2.2.1⟩⟩, by decide⟩)).conv (fun L W vs h => ?_) fun _ _ _ h => h
 ·rw [List.mem_singleton] at hz; subst hz; rw [hy]; exact ⟨by decide, by decide⟩
 ·rw [hy]; decide
 ·obtain ⟨u0, us, rfl, q0, h⟩ := h.uncons
  obtain ⟨u1, us, rfl, q1, h⟩ := h.uncons
  exact .cons q0 (.cons (lit1_row (k := 2) (f := Mp.pv) mAw rfl q1) h)
abbrev zVl : Vl := ⟨0, 0, []⟩
def lobM : Mp := ⟨1, [ySl]⟩
def lobD : Dp := ⟨4, true, lobM, 0, zVl⟩
theorem look_x : lookD awW 10 [mAw] (kTy 2) [120] = ((⟨4, 0, 0, true, 0, zVl⟩, []), 0) := by decide +kernel
theorem look_xc : lookD awW 10 [mAw] (kTy 2) [120, 58] = ((⟨5, 0, 0, true, 0, zVl⟩, []), 0) := by decide +kernel
theorem look_y : lookD awW 10 [mAw] (kTy 2) [121] = ((⟨3, 4, 0, false, 0, ⟨1, 3, []⟩⟩, [lobD]), 0) := by decide +kernel
theorem look_z : lookD awW 10 [mAw] (kTy 2) [122] = ((⟨1, 0, 0, false, 0, zVl⟩, [lobD]), 0) := by decide +kernel
theorem look_v : lookD awW 10 [mAw] (kTy 0) [121] = ((tgZ, []), 0) := by decide +kernel
def addC (oid : Int) : Ch := ⟨1, oid, [], ⟨[122], 2, ⟨1, 1, []⟩⟩⟩
def okD' (w : Wd) : Prop := ∀ o ∈ w.objs, (∀ s ∈ o.sl, In64 s.v.n) /\ (∀ v ∈ o.el, In64 v.n) /\ o.sl.length <= 1000000 /\ o.el.length <= 1000000
instance (w : Wd) : Decidable (okD' w) := by unfold okD'; infer_instance
theorem hit_aw (oid : Int) (r : Bool × Int) (hc : (app1 awW (addC oid)).2 = 0 /\ okD' (app1 awW (addC oid)).1 /\ (app1 awW (addC oid)).1.acts = [] /\ (app1 awW (addC oid)).1.cds = [] /\ (app1 awW (addC oid)).1.objs.length <= 1000000000) (hcw : wcheckW awW = 0) (h : hitW awW lobD (app1 awW (addC oid)) = r) :
  Spec Tryz.prog 21 [.agg awW.pv, .agg (addC oid).pv, .agg lobD.pv] (.tup [.sb r.1, I r.2]) := by
 subst h
 refine Hit_spec awW awW_ok (addC oid) lobD (app1 awW (addC oid)) ?_ fun _ => okW hc.2.1 hc.2.2.1 hc.2.2.2.1 hc.2.2.2.2
 have := Apply_spec awW awW_ok (addC oid) _ (applied1 awW awW_ok (addC oid) rfl ⟨(by show (-9223372036854775808 : Int) <= 1; decide), (by show (1 : Int) <= 9223372036854775807; decide)⟩)
 rw [hcw] at this
 exact this
theorem hit_lob : Spec Tryz.prog 21 [.agg awW.pv, .agg (addC 4).pv, .agg lobD.pv] (.tup [.sb true, I 0]) := hit_aw 4 (true, 0) (by decide +kernel) (by decide +kernel) (by decide +kernel)
theorem hit_nil : Spec Tryz.prog 21 [.agg awW.pv, .agg (addC 1).pv, .agg lobD.pv] (.tup [.sb false, I 0]) := hit_aw 1 (false, 0) (by decide +kernel) (by decide +kernel) (by decide +kernel)
theorem awake_spec : Spec Tryz.prog 5 [] (.sb true) := by
 refine Spec.startL (by kernel_rfl) Tryz.func5 rfl rfl fun w0 L hst => ?_
 refine M.cl sample_spec ?_
 refine M.cl MapOf_aw ?_
 refine M.cl (look_aw (kTy 2) [120] _ rfl look_x) ?_
 refine M.cl (look_aw (kTy 2) [120, 58] _ rfl look_xc) ?_
 refine M.cl (look_aw (kTy 2) [121] _ rfl look_y) ?_
 refine M.cl (look_aw (kTy 2) [122] _ rfl look_z) ?_
 refine M.cl (look_aw (kTy 0) [121] _ rfl look_v) ?_
 refine M.n (b := false) rfl ?_
 refine M.n (b := false) rfl ?_
 refine M.cl (num_spec 1) ?_
 refine M.clp [(0 : Int) <= 0 /\ (0 : Int) < (1 : Nat)] ⟨by decide, trivial⟩ hit_lob ?_
 refine M.clp [(0 : Int) <= 0 /\ (0 : Int) < (1 : Nat)] ⟨by decide, trivial⟩ hit_nil ?_
 refine M.cl (num_spec 3) ?_
 refine M.ys (b := true) rfl ?_
 refine M.ys (b := true) rfl ?_
 refine M.ys (b := true) rfl ?_
 refine M.ys (b := true) rfl ?_
 refine M.ys (b := true) rfl ?_
 refine M.ys (b := true) rfl ?_
 refine M.ys (b := true) rfl ?_
 refine M.ys (b := true) rfl ?_
 refine M.ys (b := true) rfl ?_
 refine M.ys (b := true) rfl ?_
 refine M.testp [(0 : Int) <= 0 /\ (0 : Int) < (1 : Nat)] true (by kernel_rfl) ⟨by decide, trivial⟩ (fun _ => ?_) (fun h => by cases h)
 refine M.testp [(0 : Int) <= 0 /\ (0 : Int) < (1 : Nat)] true (by kernel_rfl) ⟨by decide, trivial⟩ (fun _ => ?_) (fun h => by cases h)
 refine M.ys (b := true) rfl ?_
 refine M.ys (b := true) rfl ?_
 refine M.ys (b := true) rfl ?_
 refine M.ys (b := true) rfl ?_
 refine M.ys (b := true) rfl ?_
 exact M.ret (.sb true) (by kernel_rfl) rfl
end Go.Proofs.YtplpnfjccemdnaaGreatDoor
namespace Go.Proofs.YtplpnfjccemdnaaGreatDoor
open Go.RowKit Go.ChangeShapes Go.WideShapes
def OpenT (P : Program) (T : TypeId) {α : Type} (k : Nat) (f : α -> List PV) (B : α -> Prop) : Prop :=
 P.cellsOf T = k /\ ∀ (H : Type) (enc : TypeId × Value -> H) (W : World) (sp : Nat -> Bool) (held : Bool) (fuel : Nat) (cs : List Value) (x : DataW H × List MemPlace), DataW.trod enc P W 0 sp held fuel T cs = some x -> (x.1.weights P T).all (· <= reachBytes) = true ->
  ∃ a : α, cs.length = k /\ (∀ c ∈ cs, c.oneCell' = true) /\ Rs [] [] W (f a) cs /\ B a
section
variable {P : Program}
theorem open_int' {T : TypeId} (ht : P.underlying T = some (.int .i64)) (hc : P.cellsOf T = 1) : OpenT P T 1 (fun n : Int => [I n]) In64 :=
 ⟨hc, fun H enc W sp held fuel cs x h hw => by
  obtain ⟨n, rfl, rfl, wf⟩ := DataW.trod_int ht h
  exact ⟨n, rfl, fun c hc => by rw [List.mem_singleton] at hc; subst hc; rfl, Rs.cons (by rw [R]) Rs.nil, by unfold In64; simpa [Lit.wf, IntKind.min, IntKind.max, IntKind.signed, IntKind.bits] using wf⟩⟩
theorem open_str' {T : TypeId} (ht : P.underlying T = some .string) (hc : P.cellsOf T = 1) : OpenT P T 1 (fun s : List UInt8 => [S s]) (fun s => s.length <= 140737488355328) :=
 ⟨hc, fun H enc W sp held fuel cs x h hw => by
  obtain ⟨s, rfl, rfl, _⟩ := DataW.trod_string ht h
  refine ⟨s.data.toList, rfl, fun c hc => by rw [List.mem_singleton] at hc; subst hc; rfl, Rs.cons (by rw [R]) Rs.nil, ?_⟩
  simp only [DataW.weights, List.all_cons, List.all_nil, Bool.and_true, decide_eq_true_eq] at hw
  exact Nat.le_trans hw (by decide)⟩
theorem open_bool' {T : TypeId} (ht : P.underlying T = some .bool) (hc : P.cellsOf T = 1) : OpenT P T 1 (fun b : Bool => [.sb b]) (fun _ => True) :=
 ⟨hc, fun H enc W sp held fuel cs x h hw => by
  obtain ⟨b, rfl, rfl⟩ := DataW.trod_bool ht h
  exact ⟨b, rfl, fun c hc => by rw [List.mem_singleton] at hc; subst hc; rfl, Rs.cons (by rw [R]) Rs.nil, trivial⟩⟩
theorem OpenT.map {T : TypeId} {α β : Type} {k : Nat} {f : α -> List PV} {f' : β -> List PV} {B : α -> Prop} {B' : β -> Prop} (h : OpenT P T k f B) (g : α -> β) (hf : ∀ a, f' (g a) = f a) (hB : ∀ a, B a -> B' (g a)) : OpenT P T k f' B' :=
 ⟨h.1, fun H enc W sp held fuel cs x hx hw => by
  obtain ⟨a, h1, h2, h3, h4⟩ := h.2 H enc W sp held fuel cs x hx hw
  exact ⟨g a, h1, h2, by rw [hf]; exact h3, hB a h4⟩⟩
def OpenFs (P : Program) (fs : List Field) (off : Nat) {α : Type} (k : Nat) (f : α -> List PV) (B : α -> Prop) : Prop :=
 ∀ (H : Type) (enc : TypeId × Value -> H) (W : World) (sp : Nat -> Bool) (held : Bool) (n : Nat) (cs : List Value) (xs : List (DataW H × List MemPlace)), xs.length = fs.length ->
  (∀ (i : Nat) (fd : Field), fs[i]? = some fd -> DataW.trod enc P W 0 sp held n fd.type ((cs.drop fd.offset).take (P.cellsOf fd.type)) = xs[i]?) -> (DataW.weightsEach P (fs.map (·.type)) (xs.map (·.1))).all (· <= reachBytes) = true ->
  ∃ a : α, ((cs.drop off).take k).length = k /\ (∀ c ∈ (cs.drop off).take k, c.oneCell' = true) /\ Rs [] [] W (f a) ((cs.drop off).take k) /\ B a
theorem OpenFs.nil {off : Nat} : OpenFs P [] off 0 (fun _ : Unit => []) (fun _ => True) := fun H enc W sp held n cs xs _ _ _ => ⟨(), by simp, fun c hc => by simp at hc, by simpa using Rs.nil, trivial⟩
theorem OpenFs.cons {fd : Field} {fs : List Field} {off k1 k2 : Nat} {α β : Type} {f : α -> List PV} {g : β -> List PV} {B : α -> Prop} {B2 : β -> Prop} (hoff : fd.offset = off) (h1 : OpenT P fd.type k1 f B) (h2 : OpenFs P fs (off + k1) k2 g B2) :
  OpenFs P (fd :: fs) off (k1 + k2) (fun q : α × β => f q.1 ++ g q.2) (fun q => B q.1 /\ B2 q.2) := fun H enc W sp held n cs xs hl hx hw => by
 cases xs with
 | nil => simp at hl
 | cons x xs =>
  have e0 := hx 0 fd rfl
  rw [List.getElem?_cons_zero, hoff, h1.1] at e0
  simp only [List.map_cons, DataW.weightsEach, List.all_append, Bool.and_eq_true] at hw
  obtain ⟨a, a1, a2, a3, a4⟩ := h1.2 H enc W sp held n _ x e0 hw.1
  obtain ⟨b, b1, b2, b3, b4⟩ := h2 H enc W sp held n cs xs (by simpa using hl) (fun i fd' h => by simpa using hx (i + 1) fd' (by simpa using h)) hw.2
  have e : (cs.drop off).take (k1 + k2) = (cs.drop off).take k1 ++ (cs.drop (off + k1)).take k2 := by rw [List.take_add, List.drop_drop]
  refine ⟨(a, b), by rw [e, List.length_append, a1, b1], fun c hc => ?_, by rw [e]; exact a3.append b3, a4, b4⟩
  rw [e] at hc
  rcases List.mem_append.1 hc with h | h
  ·exact a2 c h
  ·exact b2 c h
theorem open_struct' {T : TypeId} {fs : List Field} {α : Type} {k : Nat} {f : α -> List PV} {B : α -> Prop} (ht : P.underlying T = some (.struct fs.toArray)) (hc : P.cellsOf T = k) (h : OpenFs P fs 0 k f B) : OpenT P T k f B :=
 ⟨hc, fun H enc W sp held fuel cs x hx hw => by
  obtain ⟨xs, n, rfl, rfl, hlen, hxl, hf⟩ := DataW.trod_struct ht hx
  simp only [DataW.weights, ht] at hw
  obtain ⟨a, h1, h2, h3, h4⟩ := h H enc W sp held n cs xs (by simpa using hxl) (fun i fd hfd => hf i fd (by simpa using hfd)) (by simpa using hw)
  rw [List.drop_zero, List.take_of_length_le (by rw [hlen, hc]; exact Nat.le_refl _)] at h1 h2 h3
  exact ⟨a, h1, h2, h3, h4⟩⟩
theorem weightsAll_each {H : Type} {e : TypeId} : ∀ {ds : List (DataW H)}, (DataW.weightsAll P e ds).all (· <= reachBytes) = true -> ∀ d ∈ ds, (d.weights P e).all (· <= reachBytes) = true
 | [], _, d, hd => by simp at hd
 | x :: ds, h, d, hd => by
  simp only [DataW.weightsAll, List.all_append, Bool.and_eq_true] at h
  rcases List.mem_cons.1 hd with rfl | hd
  ·exact h.1
  ·exact weightsAll_each h.2 d hd
theorem cells_get {w : World} {base n : Nat} {a : Addr} {cs : List Value} (h : w.cells? base a n = some cs) : cs.length = n /\ ∀ i, i < n -> w.cell? (a.add i) = cs[i]? := by
 unfold World.cells? at h
 split at h
 ·refine ⟨by simpa using mapM_some_length h, fun i hi => by have := mapM_some_get h i i (by simp [hi]); simpa using this⟩
 ·cases h
theorem plain_add (b off n : Nat) : (⟨b, off, none⟩ : Addr).add n = ⟨b, off + n, none⟩ := by
 unfold Addr.add
 split
 ·rename_i h; subst h; rfl
 ·rfl
theorem open_list' {T e : TypeId} {α : Type} [Inhabited α] {k : Nat} {f : α -> List PV} {B : α -> Prop} (ht : P.underlying T = some (.slice e)) (hc : P.cellsOf T = 1) (hk : 0 < k) (hb : 0 < P.bytesOf e) (h : OpenT P e k f B) :
  OpenT P T 1 (fun l : List α => [row k f l]) (fun l => l.length <= 140737488355328 /\ ∀ a ∈ l, B a) :=
 ⟨hc, fun H enc W sp held fuel cs x hx hw => by
  rcases Go.Deep.open_slice ht hx with ⟨rfl, rfl⟩ | ⟨a, len, cap, m, n, D, Pl, rfl, hba, hle, hcm, hm, rfl, hel⟩
  ·exact ⟨[], rfl, fun c hc => by rw [List.mem_singleton] at hc; subst hc; rfl, Rs.cons (nil_row k f (by rw [R])) Rs.nil, Nat.zero_le _, fun a h => by cases h⟩
  ·simp only [DataW.weights, ht, List.all_cons, List.all_append, Bool.and_eq_true, decide_eq_true_eq] at hw
   obtain ⟨hw1, hw2, _⟩ := hw
   have hlm : len <= m := by rw [hm]; split <;> omega
   have hlen : len <= 140737488355328 := by
    have h1 : len <= reachBytes := by
     refine Nat.le_trans ?_ hw1
     refine Nat.le_trans ?_ (Nat.le_mul_of_pos_right _ hb)
     simp
    exact Nat.le_trans h1 (by decide)
   have hex : ∀ i, ∃ q : α, i < len -> ∃ cs', W.cells? 0 (a.add (i * k)) k = some cs' /\ cs'.length = k /\ (∀ c ∈ cs', c.oneCell' = true) /\ Rs [] [] W (f q) cs' /\ B q := fun i => by
    by_cases hi : i < len
    ·obtain ⟨cs', h1, h2⟩ := hel i (by omega)
     rw [h.1] at h1
     obtain ⟨q, q1, q2, q3, q4⟩ := h.2 H enc W sp held n cs' (D i, Pl i) h2 (weightsAll_each hw2 (D i) (List.mem_map.2 ⟨i, List.mem_range.2 hi, rfl⟩))
     exact ⟨q, fun _ => ⟨cs', h1, q1, q2, q3, q4⟩⟩
    ·exact ⟨default, fun h => absurd h hi⟩
   have hg : ∀ i, i < len -> ∃ cs', W.cells? 0 (a.add (i * k)) k = some cs' /\ cs'.length = k /\ (∀ c ∈ cs', c.oneCell' = true) /\ Rs [] [] W (f (Classical.choose (hex i))) cs' /\ B (Classical.choose (hex i)) := fun i => Classical.choose_spec (hex i)
   have hget : ∀ j, j < len -> ((List.range len).map fun i => Classical.choose (hex i)).getD j default = Classical.choose (hex j) := fun j hj => by
    simp [List.getD_eq_getElem?_getD, hj]
   refine ⟨(List.range len).map fun i => Classical.choose (hex i), rfl, fun c hc => by rw [List.mem_singleton] at hc; subst hc; rfl, Rs.cons ?_ Rs.nil, by simpa using hlen, fun q hq => ?_⟩
   ·rw [R]
    refine ⟨some a, cap, by simp, by simpa using hle, hcm, fun h0 => ?_⟩
    have h0 : 0 < len := by simpa using h0
    obtain ⟨cs0, c1, c2, _⟩ := hg 0 h0
    have hspot : a.spot = none := by
     have h2 := (cells_get c1).2 0 hk
     rw [List.getElem?_eq_getElem (by omega)] at h2
     unfold World.cell? at h2
     split at h2
     ·split at h2
      ·cases h2
      ·rename_i hs
       simpa [Addr.add] using hs
     ·cases h2
    have hblk : a.block < W.heap.size := by
     have h2 := (cells_get c1).2 0 hk
     rw [List.getElem?_eq_getElem (by omega)] at h2
     unfold World.cell? at h2
     split at h2
     ·rename_i h3
      have := (Array.getElem?_eq_some_iff.1 h3).1
      simpa [Addr.add] using this
     ·cases h2
    obtain ⟨b, off, spot⟩ := a
    simp only at hspot hblk
    subst hspot
    refine ⟨b, off, rfl, fun h => by rcases h with h | h <;> simp at h, hblk, fun j hj => ?_⟩
    have hj : j < len := by simpa using hj
    obtain ⟨cs', q1, q2, q3, q4, _⟩ := hg j hj
    refine ⟨cs', q2, q3, ?_, fun i x hi => ?_⟩
    ·rw [hget j hj]; exact q4
    ·have hik : i < k := by have := (List.getElem?_eq_some_iff.1 hi).1; omega
     have := (cells_get q1).2 i hik
     rw [hi, plain_add, plain_add] at this
     exact this
   ·obtain ⟨i, hi, rfl⟩ := List.mem_map.1 hq
    exact (hg i (List.mem_range.1 hi)).choose_spec.2.2.2.2⟩
end
abbrev Big47 : Nat := 140737488355328
abbrev intO : OpenT Tryz.prog 3 1 (fun n : Int => [I n]) In64 := open_int' Tryz.underlying3 (by kernel_rfl)
abbrev strO : OpenT Tryz.prog 9 1 (fun s : List UInt8 => [S s]) (fun s => s.length <= Big47) := open_str' Tryz.underlying9 (by kernel_rfl)
abbrev boolO : OpenT Tryz.prog 4 1 (fun b : Bool => [.sb b]) (fun _ => True) := open_bool' Tryz.underlying4 (by kernel_rfl)
theorem open_s2 {P : Program} {T : TypeId} {f1 f2 : Field} {k1 k2 : Nat} {α1 α2 : Type} {g1 : α1 -> List PV} {B1 : α1 -> Prop} {g2 : α2 -> List PV} {B2 : α2 -> Prop} (ht : P.underlying T = some (.struct #[f1, f2])) (hc : P.cellsOf T = (k1 + (k2 + 0))) (o1 : f1.offset = 0) (h1 : OpenT P f1.type k1 g1 B1) (o2 : f2.offset = 0 + k1) (h2 : OpenT P f2.type k2 g2 B2) : OpenT P T (k1 + (k2 + 0)) (fun q : α1 × α2 × Unit => g1 q.1 ++ (g2 q.2.1 ++ ([]))) (fun q => B1 q.1 /\ B2 q.2.1 /\ True) :=
 open_struct' ht hc (OpenFs.cons o1 h1 (OpenFs.cons o2 h2 OpenFs.nil))
theorem open_s3 {P : Program} {T : TypeId} {f1 f2 f3 : Field} {k1 k2 k3 : Nat} {α1 α2 α3 : Type} {g1 : α1 -> List PV} {B1 : α1 -> Prop} {g2 : α2 -> List PV} {B2 : α2 -> Prop} {g3 : α3 -> List PV} {B3 : α3 -> Prop} (ht : P.underlying T = some (.struct #[f1, f2, f3])) (hc : P.cellsOf T = (k1 + (k2 + (k3 + 0)))) (o1 : f1.offset = 0) (h1 : OpenT P f1.type k1 g1 B1) (o2 : f2.offset = 0 + k1) (h2 : OpenT P f2.type k2 g2 B2) (o3 : f3.offset = 0 + k1 + k2) (h3 : OpenT P f3.type k3 g3 B3) : OpenT P T (k1 + (k2 + (k3 + 0))) (fun q : α1 × α2 × α3 × Unit => g1 q.1 ++ (g2 q.2.1 ++ (g3 q.2.2.1 ++ ([])))) (fun q => B1 q.1 /\ B2 q.2.1 /\ B3 q.2.2.1 /\ True) :=
 open_struct' ht hc (OpenFs.cons o1 h1 (OpenFs.cons o2 h2 (OpenFs.cons o3 h3 OpenFs.nil)))
theorem open_s4 {P : Program} {T : TypeId} {f1 f2 f3 f4 : Field} {k1 k2 k3 k4 : Nat} {α1 α2 α3 α4 : Type} {g1 : α1 -> List PV} {B1 : α1 -> Prop} {g2 : α2 -> List PV} {B2 : α2 -> Prop} {g3 : α3 -> List PV} {B3 : α3 -> Prop} {g4 : α4 -> List PV} {B4 : α4 -> Prop} (ht : P.underlying T = some (.struct #[f1, f2, f3, f4])) (hc : P.cellsOf T = (k1 + (k2 + (k3 + (k4 + 0))))) (o1 : f1.offset = 0) (h1 : OpenT P f1.type k1 g1 B1) (o2 : f2.offset = 0 + k1) (h2 : OpenT P f2.type k2 g2 B2) (o3 : f3.offset = 0 + k1 + k2) (h3 : OpenT P f3.type k3 g3 B3) (o4 : f4.offset = 0 + k1 + k2 + k3) (h4 : OpenT P f4.type k4 g4 B4) : OpenT P T (k1 + (k2 + (k3 + (k4 + 0)))) (fun q : α1 × α2 × α3 × α4 × Unit => g1 q.1 ++ (g2 q.2.1 ++ (g3 q.2.2.1 ++ (g4 q.2.2.2.1 ++ ([]))))) (fun q => B1 q.1 /\ B2 q.2.1 /\ B3 q.2.2.1 /\ B4 q.2.2.2.1 /\ True) :=
 open_struct' ht hc (OpenFs.cons o1 h1 (OpenFs.cons o2 h2 (OpenFs.cons o3 h3 (OpenFs.cons o4 h4 OpenFs.nil))))
theorem open_s5 {P : Program} {T : TypeId} {f1 f2 f3 f4 f5 : Field} {k1 k2 k3 k4 k5 : Nat} {α1 α2 α3 α4 α5 : Type} {g1 : α1 -> List PV} {B1 : α1 -> Prop} {g2 : α2 -> List PV} {B2 : α2 -> Prop} {g3 : α3 -> List PV} {B3 : α3 -> Prop} {g4 : α4 -> List PV} {B4 : α4 -> Prop} {g5 : α5 -> List PV} {B5 : α5 -> Prop} (ht : P.underlying T = some (.struct #[f1, f2, f3, f4, f5])) (hc : P.cellsOf T = (k1 + (k2 + (k3 + (k4 + (k5 + 0)))))) (o1 : f1.offset = 0) (h1 : OpenT P f1.type k1 g1 B1) (o2 : f2.offset = 0 + k1) (h2 : OpenT P f2.type k2 g2 B2) (o3 : f3.offset = 0 + k1 + k2) (h3 : OpenT P f3.type k3 g3 B3) (o4 : f4.offset = 0 + k1 + k2 + k3) (h4 : OpenT P f4.type k4 g4 B4) (o5 : f5.offset = 0 + k1 + k2 + k3 + k4) (h5 : OpenT P f5.type k5 g5 B5) : OpenT P T (k1 + (k2 + (k3 + (k4 + (k5 + 0))))) (fun q : α1 × α2 × α3 × α4 × α5 × Unit => g1 q.1 ++ (g2 q.2.1 ++ (g3 q.2.2.1 ++ (g4 q.2.2.2.1 ++ (g5 q.2.2.2.2.1 ++ ([])))))) (fun q => B1 q.1 /\ B2 q.2.1 /\ B3 q.2.2.1 /\ B4 q.2.2.2.1 /\ B5 q.2.2.2.2.1 /\ True) :=
 open_struct' ht hc (OpenFs.cons o1 h1 (OpenFs.cons o2 h2 (OpenFs.cons o3 h3 (OpenFs.cons o4 h4 (OpenFs.cons o5 h5 OpenFs.nil)))))
theorem open_s6 {P : Program} {T : TypeId} {f1 f2 f3 f4 f5 f6 : Field} {k1 k2 k3 k4 k5 k6 : Nat} {α1 α2 α3 α4 α5 α6 : Type} {g1 : α1 -> List PV} {B1 : α1 -> Prop} {g2 : α2 -> List PV} {B2 : α2 -> Prop} {g3 : α3 -> List PV} {B3 : α3 -> Prop} {g4 : α4 -> List PV} {B4 : α4 -> Prop} {g5 : α5 -> List PV} {B5 : α5 -> Prop} {g6 : α6 -> List PV} {B6 : α6 -> Prop} (ht : P.underlying T = some (.struct #[f1, f2, f3, f4, f5, f6])) (hc : P.cellsOf T = (k1 + (k2 + (k3 + (k4 + (k5 + (k6 + 0))))))) (o1 : f1.offset = 0) (h1 : OpenT P f1.type k1 g1 B1) (o2 : f2.offset = 0 + k1) (h2 : OpenT P f2.type k2 g2 B2) (o3 : f3.offset = 0 + k1 + k2) (h3 : OpenT P f3.type k3 g3 B3) (o4 : f4.offset = 0 + k1 + k2 + k3) (h4 : OpenT P f4.type k4 g4 B4) (o5 : f5.offset = 0 + k1 + k2 + k3 + k4) (h5 : OpenT P f5.type k5 g5 B5) (o6 : f6.offset = 0 + k1 + k2 + k3 + k4 + k5) (h6 : OpenT P f6.type k6 g6 B6) : OpenT P T (k1 + (k2 + (k3 + (k4 + (k5 + (k6 + 0)))))) (fun q : α1 × α2 × α3 × α4 × α5 × α6 × Unit => g1 q.1 ++ (g2 q.2.1 ++ (g3 q.2.2.1 ++ (g4 q.2.2.2.1 ++ (g5 q.2.2.2.2.1 ++ (g6 q.2.2.2.2.2.1 ++ ([]))))))) (fun q => B1 q.1 /\ B2 q.2.1 /\ B3 q.2.2.1 /\ B4 q.2.2.2.1 /\ B5 q.2.2.2.2.1 /\ B6 q.2.2.2.2.2.1 /\ True) :=
 open_struct' ht hc (OpenFs.cons o1 h1 (OpenFs.cons o2 h2 (OpenFs.cons o3 h3 (OpenFs.cons o4 h4 (OpenFs.cons o5 h5 (OpenFs.cons o6 h6 OpenFs.nil))))))
theorem open_s7 {P : Program} {T : TypeId} {f1 f2 f3 f4 f5 f6 f7 : Field} {k1 k2 k3 k4 k5 k6 k7 : Nat} {α1 α2 α3 α4 α5 α6 α7 : Type} {g1 : α1 -> List PV} {B1 : α1 -> Prop} {g2 : α2 -> List PV} {B2 : α2 -> Prop} {g3 : α3 -> List PV} {B3 : α3 -> Prop} {g4 : α4 -> List PV} {B4 : α4 -> Prop} {g5 : α5 -> List PV} {B5 : α5 -> Prop} {g6 : α6 -> List PV} {B6 : α6 -> Prop} {g7 : α7 -> List PV} {B7 : α7 -> Prop} (ht : P.underlying T = some (.struct #[f1, f2, f3, f4, f5, f6, f7])) (hc : P.cellsOf T = (k1 + (k2 + (k3 + (k4 + (k5 + (k6 + (k7 + 0)))))))) (o1 : f1.offset = 0) (h1 : OpenT P f1.type k1 g1 B1) (o2 : f2.offset = 0 + k1) (h2 : OpenT P f2.type k2 g2 B2) (o3 : f3.offset = 0 + k1 + k2) (h3 : OpenT P f3.type k3 g3 B3) (o4 : f4.offset = 0 + k1 + k2 + k3) (h4 : OpenT P f4.type k4 g4 B4) (o5 : f5.offset = 0 + k1 + k2 + k3 + k4) (h5 : OpenT P f5.type k5 g5 B5) (o6 : f6.offset = 0 + k1 + k2 + k3 + k4 + k5) (h6 : OpenT P f6.type k6 g6 B6) (o7 : f7.offset = 0 + k1 + k2 + k3 + k4 + k5 + k6) (h7 : OpenT P f7.type k7 g7 B7) : OpenT P T (k1 + (k2 + (k3 + (k4 + (k5 + (k6 + (k7 + 0))))))) (fun q : α1 × α2 × α3 × α4 × α5 × α6 × α7 × Unit => g1 q.1 ++ (g2 q.2.1 ++ (g3 q.2.2.1 ++ (g4 q.2.2.2.1 ++ (g5 q.2.2.2.2.1 ++ (g6 q.2.2.2.2.2.1 ++ (g7 q.2.2.2.2.2.2.1 ++ ([])))))))) (fun q => B1 q.1 /\ B2 q.2.1 /\ B3 q.2.2.1 /\ B4 q.2.2.2.1 /\ B5 q.2.2.2.2.1 /\ B6 q.2.2.2.2.2.1 /\ B7 q.2.2.2.2.2.2.1 /\ True) :=
 open_struct' ht hc (OpenFs.cons o1 h1 (OpenFs.cons o2 h2 (OpenFs.cons o3 h3 (OpenFs.cons o4 h4 (OpenFs.cons o5 h5 (OpenFs.cons o6 h6 (OpenFs.cons o7 h7 OpenFs.nil)))))))
theorem open_s9 {P : Program} {T : TypeId} {f1 f2 f3 f4 f5 f6 f7 f8 f9 : Field} {k1 k2 k3 k4 k5 k6 k7 k8 k9 : Nat} {α1 α2 α3 α4 α5 α6 α7 α8 α9 : Type} {g1 : α1 -> List PV} {B1 : α1 -> Prop} {g2 : α2 -> List PV} {B2 : α2 -> Prop} {g3 : α3 -> List PV} {B3 : α3 -> Prop} {g4 : α4 -> List PV} {B4 : α4 -> Prop} {g5 : α5 -> List PV} {B5 : α5 -> Prop} {g6 : α6 -> List PV} {B6 : α6 -> Prop} {g7 : α7 -> List PV} {B7 : α7 -> Prop} {g8 : α8 -> List PV} {B8 : α8 -> Prop} {g9 : α9 -> List PV} {B9 : α9 -> Prop} (ht : P.underlying T = some (.struct #[f1, f2, f3, f4, f5, f6, f7, f8, f9])) (hc : P.cellsOf T = (k1 + (k2 + (k3 + (k4 + (k5 + (k6 + (k7 + (k8 + (k9 + 0)))))))))) (o1 : f1.offset = 0) (h1 : OpenT P f1.type k1 g1 B1) (o2 : f2.offset = 0 + k1) (h2 : OpenT P f2.type k2 g2 B2) (o3 : f3.offset = 0 + k1 + k2) (h3 : OpenT P f3.type k3 g3 B3) (o4 : f4.offset = 0 + k1 + k2 + k3) (h4 : OpenT P f4.type k4 g4 B4) (o5 : f5.offset = 0 + k1 + k2 + k3 + k4) (h5 : OpenT P f5.type k5 g5 B5) (o6 : f6.offset = 0 + k1 + k2 + k3 + k4 + k5) (h6 : OpenT P f6.type k6 g6 B6) (o7 : f7.offset = 0 + k1 + k2 + k3 + k4 + k5 + k6) (h7 : OpenT P f7.type k7 g7 B7) (o8 : f8.offset = 0 + k1 + k2 + k3 + k4 + k5 + k6 + k7) (h8 : OpenT P f8.type k8 g8 B8) (o9 : f9.offset = 0 + k1 + k2 + k3 + k4 + k5 + k6 + k7 + k8) (h9 : OpenT P f9.type k9 g9 B9) : OpenT P T (k1 + (k2 + (k3 + (k4 + (k5 + (k6 + (k7 + (k8 + (k9 + 0))))))))) (fun q : α1 × α2 × α3 × α4 × α5 × α6 × α7 × α8 × α9 × Unit => g1 q.1 ++ (g2 q.2.1 ++ (g3 q.2.2.1 ++ (g4 q.2.2.2.1 ++ (g5 q.2.2.2.2.1 ++ (g6 q.2.2.2.2.2.1 ++ (g7 q.2.2.2.2.2.2.1 ++ (g8 q.2.2.2.2.2.2.2.1 ++ (g9 q.2.2.2.2.2.2.2.2.1 ++ ([])))))))))) (fun q => B1 q.1 /\ B2 q.2.1 /\ B3 q.2.2.1 /\ B4 q.2.2.2.1 /\ B5 q.2.2.2.2.1 /\ B6 q.2.2.2.2.2.1 /\ B7 q.2.2.2.2.2.2.1 /\ B8 q.2.2.2.2.2.2.2.1 /\ B9 q.2.2.2.2.2.2.2.2.1 /\ True) :=
 open_struct' ht hc (OpenFs.cons o1 h1 (OpenFs.cons o2 h2 (OpenFs.cons o3 h3 (OpenFs.cons o4 h4 (OpenFs.cons o5 h5 (OpenFs.cons o6 h6 (OpenFs.cons o7 h7 (OpenFs.cons o8 h8 (OpenFs.cons o9 h9 OpenFs.nil)))))))))
theorem strsO : OpenT Tryz.prog 76 1 (fun l : List (List UInt8) => [row 1 (fun s => [S s]) l]) (fun l => l.length <= Big47 /\ ∀ a ∈ l, a.length <= Big47) := open_list' Tryz.underlying76 (by kernel_rfl) (by decide) (of_decide_eq_true (by kernel_rfl)) strO
def Vl.B (x : Vl) : Prop := In64 x.k /\ In64 x.n /\ x.t.length <= Big47 /\ True
set_option maxRecDepth 100000 in
theorem Vl.O : OpenT Tryz.prog 29 3 Vl.pv Vl.B :=
 (open_s3 Tryz.underlying29 (by kernel_rfl) rfl intO rfl intO rfl strO).map (fun (q : Int × Int × List UInt8 × Unit) => ⟨q.1, q.2.1, q.2.2.1⟩) (fun q => rfl) (fun q h => h)
theorem Vl.lO : OpenT Tryz.prog 71 1 (fun l : List Vl => [row 3 Vl.pv l]) (fun l => l.length <= Big47 /\ ∀ a ∈ l, Vl.B a) := open_list' Tryz.underlying71 (by kernel_rfl) (by decide) (of_decide_eq_true (by kernel_rfl)) Vl.O
def Sl.B (x : Sl) : Prop := x.nm.length <= Big47 /\ In64 x.kd /\ Vl.B x.v /\ True
set_option maxRecDepth 100000 in
theorem Sl.O : OpenT Tryz.prog 65 5 Sl.pv Sl.B :=
 (open_s3 Tryz.underlying65 (by kernel_rfl) rfl strO rfl intO rfl Vl.O).map (fun (q : List UInt8 × Int × Vl × Unit) => ⟨q.1, q.2.1, q.2.2.1⟩) (fun q => rfl) (fun q h => h)
theorem Sl.lO : OpenT Tryz.prog 58 1 (fun l : List Sl => [row 5 Sl.pv l]) (fun l => l.length <= Big47 /\ ∀ a ∈ l, Sl.B a) := open_list' Tryz.underlying58 (by kernel_rfl) (by decide) (of_decide_eq_true (by kernel_rfl)) Sl.O
def Ob.B (x : Ob) : Prop := In64 x.oid /\ In64 x.kd /\ (x.sl.length <= Big47 /\ ∀ y ∈ x.sl, Sl.B y) /\ (x.el.length <= Big47 /\ ∀ y ∈ x.el, Vl.B y) /\ In64 x.code /\ In64 x.up /\ True
set_option maxRecDepth 100000 in
theorem Ob.O : OpenT Tryz.prog 73 6 Ob.pv Ob.B :=
 (open_s6 Tryz.underlying73 (by kernel_rfl) rfl intO rfl intO rfl Sl.lO rfl Vl.lO rfl intO rfl intO).map (fun (q : Int × Int × List Sl × List Vl × Int × Int × Unit) => ⟨q.1, q.2.1, q.2.2.1, q.2.2.2.1, q.2.2.2.2.1, q.2.2.2.2.2.1⟩) (fun q => rfl) (fun q h => h)
theorem Ob.lO : OpenT Tryz.prog 22 1 (fun l : List Ob => [row 6 Ob.pv l]) (fun l => l.length <= Big47 /\ ∀ a ∈ l, Ob.B a) := open_list' Tryz.underlying22 (by kernel_rfl) (by decide) (of_decide_eq_true (by kernel_rfl)) Ob.O
def Ac.B (x : Ac) : Prop := In64 x.aid /\ In64 x.code /\ Vl.B x.self /\ In64 x.holder /\ In64 x.up /\ (x.vars.length <= Big47 /\ ∀ y ∈ x.vars, Vl.B y) /\ True /\ True
set_option maxRecDepth 100000 in
theorem Ac.O : OpenT Tryz.prog 75 9 Ac.pv Ac.B :=
 (open_s7 Tryz.underlying75 (by kernel_rfl) rfl intO rfl intO rfl Vl.O rfl intO rfl intO rfl Vl.lO rfl boolO).map (fun (q : Int × Int × Vl × Int × Int × List Vl × Bool × Unit) => ⟨q.1, q.2.1, q.2.2.1, q.2.2.2.1, q.2.2.2.2.1, q.2.2.2.2.2.1, q.2.2.2.2.2.2.1⟩) (fun q => rfl) (fun q h => h)
theorem Ac.lO : OpenT Tryz.prog 23 1 (fun l : List Ac => [row 9 Ac.pv l]) (fun l => l.length <= Big47 /\ ∀ a ∈ l, Ac.B a) := open_list' Tryz.underlying23 (by kernel_rfl) (by decide) (of_decide_eq_true (by kernel_rfl)) Ac.O
def In.B (x : In) : Prop := In64 x.op /\ In64 x.a /\ In64 x.b /\ In64 x.c /\ True
set_option maxRecDepth 100000 in
theorem In.O : OpenT Tryz.prog 207 4 In.pv In.B :=
 (open_s4 Tryz.underlying207 (by kernel_rfl) rfl intO rfl intO rfl intO rfl intO).map (fun (q : Int × Int × Int × Int × Unit) => ⟨q.1, q.2.1, q.2.2.1, q.2.2.2.1⟩) (fun q => rfl) (fun q h => h)
theorem In.lO : OpenT Tryz.prog 77 1 (fun l : List In => [row 4 In.pv l]) (fun l => l.length <= Big47 /\ ∀ a ∈ l, In.B a) := open_list' Tryz.underlying77 (by kernel_rfl) (by decide) (of_decide_eq_true (by kernel_rfl)) In.O
def Cd.B (x : Cd) : Prop := x.nm.length <= Big47 /\ True /\ In64 x.outer /\ In64 x.args /\ (x.names.length <= Big47 /\ ∀ y ∈ x.names, y.length <= Big47) /\ (x.init.length <= Big47 /\ ∀ y ∈ x.init, Vl.B y) /\ (x.lits.length <= Big47 /\ ∀ y ∈ x.lits, Vl.B y) /\ (x.sels.length <= Big47 /\ ∀ y ∈ x.sels, y.length <= Big47) /\ (x.ins.length <= Big47 /\ ∀ y ∈ x.ins, In.B y) /\ True
set_option maxRecDepth 100000 in
theorem Cd.O : OpenT Tryz.prog 79 9 Cd.pv Cd.B :=
 (open_s9 Tryz.underlying79 (by kernel_rfl) rfl strO rfl boolO rfl intO rfl intO rfl strsO rfl Vl.lO rfl Vl.lO rfl strsO rfl In.lO).map (fun (q : List UInt8 × Bool × Int × Int × List (List UInt8) × List Vl × List Vl × List (List UInt8) × List In × Unit) => ⟨q.1, q.2.1, q.2.2.1, q.2.2.2.1, q.2.2.2.2.1, q.2.2.2.2.2.1, q.2.2.2.2.2.2.1, q.2.2.2.2.2.2.2.1, q.2.2.2.2.2.2.2.2.1⟩) (fun q => rfl) (fun q h => h)
theorem Cd.lO : OpenT Tryz.prog 24 1 (fun l : List Cd => [row 9 Cd.pv l]) (fun l => l.length <= Big47 /\ ∀ a ∈ l, Cd.B a) := open_list' Tryz.underlying24 (by kernel_rfl) (by decide) (of_decide_eq_true (by kernel_rfl)) Cd.O
def Wd.B (x : Wd) : Prop := (x.objs.length <= Big47 /\ ∀ y ∈ x.objs, Ob.B y) /\ (x.acts.length <= Big47 /\ ∀ y ∈ x.acts, Ac.B y) /\ (x.cds.length <= Big47 /\ ∀ y ∈ x.cds, Cd.B y) /\ In64 x.nO /\ In64 x.nA /\ True
set_option maxRecDepth 100000 in
theorem Wd.O : OpenT Tryz.prog 26 5 Wd.pv Wd.B :=
 (open_s5 Tryz.underlying26 (by kernel_rfl) rfl Ob.lO rfl Ac.lO rfl Cd.lO rfl intO rfl intO).map (fun (q : List Ob × List Ac × List Cd × Int × Int × Unit) => ⟨q.1, q.2.1, q.2.2.1, q.2.2.2.1, q.2.2.2.2.1⟩) (fun q => rfl) (fun q h => h)
def Mp.B (x : Mp) : Prop := In64 x.kd /\ (x.sl.length <= Big47 /\ ∀ y ∈ x.sl, Sl.B y) /\ True
set_option maxRecDepth 100000 in
theorem Mp.O : OpenT Tryz.prog 60 2 Mp.pv Mp.B :=
 (open_s2 Tryz.underlying60 (by kernel_rfl) rfl intO rfl Sl.lO).map (fun (q : Int × List Sl × Unit) => ⟨q.1, q.2.1⟩) (fun q => rfl) (fun q h => h)
theorem Mp.lO : OpenT Tryz.prog 27 1 (fun l : List Mp => [row 2 Mp.pv l]) (fun l => l.length <= Big47 /\ ∀ a ∈ l, Mp.B a) := open_list' Tryz.underlying27 (by kernel_rfl) (by decide) (of_decide_eq_true (by kernel_rfl)) Mp.O
def Ty.B (x : Ty) : Prop := In64 x.k /\ In64 x.n /\ Vl.B x.v /\ True
set_option maxRecDepth 100000 in
theorem Ty.O : OpenT Tryz.prog 31 5 Ty.pv Ty.B :=
 (open_s3 Tryz.underlying31 (by kernel_rfl) rfl intO rfl intO rfl Vl.O).map (fun (q : Int × Int × Vl × Unit) => ⟨q.1, q.2.1, q.2.2.1⟩) (fun q => rfl) (fun q h => h)
def Dp.B (x : Dp) : Prop := In64 x.oid /\ True /\ Mp.B x.map /\ In64 x.slot /\ Vl.B x.v /\ True
set_option maxRecDepth 100000 in
theorem Dp.O : OpenT Tryz.prog 70 8 Dp.pv Dp.B :=
 (open_s5 Tryz.underlying70 (by kernel_rfl) rfl intO rfl boolO rfl Mp.O rfl intO rfl Vl.O).map (fun (q : Int × Bool × Mp × Int × Vl × Unit) => ⟨q.1, q.2.1, q.2.2.1, q.2.2.2.1, q.2.2.2.2.1⟩) (fun q => rfl) (fun q h => h)
def Ch.B (x : Ch) : Prop := In64 x.kind /\ In64 x.oid /\ x.name.length <= Big47 /\ Sl.B x.slot /\ True
set_option maxRecDepth 100000 in
theorem Ch.O : OpenT Tryz.prog 67 8 Ch.pv Ch.B :=
 (open_s4 Tryz.underlying67 (by kernel_rfl) rfl intO rfl intO rfl strO rfl Sl.O).map (fun (q : Int × Int × List UInt8 × Sl × Unit) => ⟨q.1, q.2.1, q.2.2.1, q.2.2.2.1⟩) (fun q => rfl) (fun q h => h)
end Go.Proofs.YtplpnfjccemdnaaGreatDoor
