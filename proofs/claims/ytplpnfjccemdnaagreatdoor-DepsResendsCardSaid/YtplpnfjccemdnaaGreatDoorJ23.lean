import Derived.Test.YtplpnfjccemdnaaGreatDoorJ22
import Derived.Test.YtplpnfjccemdnaaGreatDoorJ14
import Derived.Test.YtplpnfjccemdnaaGreatDoorJ11
set_option linter.unusedVariables false
set_option linter.unusedSimpArgs false
/- The texts D4 V30 D5 D6 D7 D8 V31 D9 D10 V32 of the proof, laid one behind the other. -/
namespace Go.Proofs.YtplpnfjccemdnaaGreatDoor
open Go.RowKit
abbrev depS (D : List Dp) : List PV := [.rws 8 D.length (fun j => Dp.pv (D.getD j default))]
abbrev trc (w : Wd) (n : Nat) : List PV := [row 6 Ob.pv w.objs, row 9 Ac.pv w.acts, row 9 Cd.pv w.cds, I w.nO, I w.nA, .os 70 2 8 n, .mr 1]
abbrev trM (w : Wd) (sf : Atom -> Option Bool) (D : List Dp) : Sig := [trc w D.length, [.mp (.int .i64) (.b sf)], depS D]
theorem tobjM (w : Wd) (sf : Atom -> Option Bool) (D : List Dp) (n : Int) (hl : w.objs.length <= 1000000000) : SpecM Tryz.prog 26 3 (trM w sf D) [.ref 0 0, I n] (trM w sf D) (.tup [.agg (objT w n).1.pv, .sb (objT w n).2]) := by
 unfold objT
 have hin := objI_in w n hl
 cases hf : objF w n with
 | true =>
  have hlt : objI w n < w.objs.length := by
   unfold objF at hf
   simp only [Bool.and_eq_true, decide_eq_true_eq] at hf
   exact hf.1
  refine SpecM.start (by kernel_rfl) Tryz.func26 rfl rfl (Nat.le_refl _) fun w0 L hst => ?_
  refine M.cl (bsearch_Obj w.objs n 67 (fun o => haObF o n) hl fun x _ => haOb_spec x n) ?_
  refine M.n (b := !objF w n) (by rw [hf]; rfl) ?_
  exact M.retm [0 <= objI w n /\ objI w n < w.objs.length] [0, 1, 2] hst rfl (by kernel_rfl) ⟨⟨hin.1, hlt⟩, trivial⟩ rfl rfl
 | false =>
  refine SpecM.conv (r := .tup [.agg [I 0, I 0, .v (.slice none 0 0), .v (.slice none 0 0), I 0, I 0], .sb false]) (SpecM.start (by kernel_rfl) Tryz.func26 rfl rfl (Nat.le_refl _) fun w0 L hst => ?_) fun β L W u h => tup_toB h fun us h => ?_
  ·refine M.cl (bsearch_Obj w.objs n 67 (fun o => haObF o n) hl fun x _ => haOb_spec x n) ?_
   refine M.ys (b := !objF w n) (by rw [hf]; rfl) ?_
   exact M.retm [] [0, 1, 2] hst rfl (by kernel_rfl) trivial rfl rfl
  ·obtain ⟨u0, us, rfl, h0, h⟩ := h.uncons
   exact Rs.cons (agg_to (qs := (Ob.mk 0 0 [] [] 0 0).pv) (.cons (fun _ h => h) (.cons (fun _ h => h) (.cons (fun _ h => nil_rowB 5 Sl.pv h) (.cons (fun _ h => nil_rowB 3 Vl.pv h) (.cons (fun _ h => h) (.cons (fun _ h => h) .nil)))))) h0) h
def wholeD (o : Ob) : Dp := ⟨o.oid, true, mapOfF o, 0, ⟨0, 0, []⟩⟩
theorem app_snoc {α : Type} [Inhabited α] {k : Nat} {f : α -> List PV} (D : List α) (x : α) {ds : List PV} {g : PV -> PV} (hk : ds.length = k) (hg : ∀ x : α, ((f x).map g).map (nrm 4) = f x) (he : (ds.map g).map (nrm 4) = f x) :
  CellsEq [.rws k (D.length + 1) (fun j => (joinEl (fun j => f (D.getD j default)) D.length (fun j => (ds.drop (j * k)).take k) j).map g)] [.rws k (D ++ [x]).length (fun j => f ((D ++ [x]).getD j default))] := by
 refine .nrw (by simp) fun j hj => ?_
 unfold joinEl
 split
 ·rename_i hlt; rw [hg]; simp [List.getD_eq_getElem?_getD, List.getElem?_append_left hlt]
 ·have : j = D.length := by omega
  subst this
  rw [Nat.sub_self]
  show ((((ds.drop (0 * k)).take k).map g).map (nrm 4)) = _
  rw [Nat.zero_mul, List.drop_zero, List.take_of_length_le (by omega), he]
  simp [List.getD_eq_getElem?_getD]
abbrev wholeC (o : Ob) : List PV := [I o.oid, .v (.bool true), I o.kd, row 5 Sl.pv (o.sl.map mslot), I 0, I 0, I 0, S []]
theorem whole_spec (w : Wd) (sf : Atom -> Option Bool) (D : List Dp) (o : Ob) (ho : o.sl.length <= 1000000) (hD : (D.length + 1) * 88 <= 140737488355328) : SpecM Tryz.prog 35 2 (trM w sf D) [.ref 0 0, .agg o.pv] (trM w sf (D ++ [wholeD o])) (.tup []) := by
 refine SpecM.start (by kernel_rfl) Tryz.func35 rfl rfl (Nat.le_of_ble_eq_true rfl) fun w0 L hst => ?_
 refine M.cl (mapOf_spec o ho) ?_
 refine M.rn [D.length = D.length /\ 0 < 1 /\ D.length + 1 <= 9223372036854775807 /\ (D.length + 1) * 88 <= 140737488355328] [0, 1, 4] hst ⟨⟨rfl, by omega, by omega, hD⟩, trivial⟩ fun L' => ?_
 refine M.sig [] [trc w (D.length + 1), [.mp (.int .i64) (.b sf)], [.rws 8 (D.length + 1) (fun j => (joinEl (fun j => Dp.pv (D.getD j default)) D.length (fun j => ((wholeC o).drop (j * 8)).take 8) j).map (renP (invF [0, 1, 4] 0) 7))]] (trM w sf (D ++ [wholeD o])) (by kernel_rfl) trivial (by kernel_rfl) (by kernel_rfl)
  (.cons (by rw [List.length_append]; exact .refl _) (.cons (.refl _) (.cons (app_snoc D (wholeD o) rfl (fun x => rfl) rfl) .nil))) ?_
 exact M.retm [] [0, 1, 2] hst rfl (by kernel_rfl) trivial rfl rfl
def contL (o : Ob) : List Sl -> Nat -> List Dp
 | [], _ => []
 | s :: t, i => bif s.kd == 4 then ⟨o.oid, false, ⟨0, []⟩, i, s.v⟩ :: contL o t (i + 1) else contL o t (i + 1)
def CTo (c d : List PV) : Prop := isDd d = isDd c /\ ∀ β L W x, HoldO β L W x c -> HoldO β L W x d
theorem CellsEq.to {c d : List PV} (h : CellsEq c d) : CTo c d := ⟨h.dd, fun _ _ _ _ hh => h.holdO hh⟩
theorem CTo.refl (c : List PV) : CTo c c := ⟨rfl, fun _ _ _ _ h => h⟩
theorem CTo.trans {c d e : List PV} (h : CTo c d) (h' : CTo d e) : CTo c e := ⟨h'.1.trans h.1, fun β L W x hh => h'.2 β L W x (h.2 β L W x hh)⟩
theorem CTo.rws {k n n' : Nat} {el el' : Nat -> List PV} (hn : n' = n) (h : ∀ j, j < n -> ∀ β L W us, Rs β L W (el j) us -> Rs β L W (el' j) us) : CTo [.rws k n el] [.rws k n' el'] := by
 subst hn
 refine ⟨rfl, fun β L W x hh => ?_⟩
 cases x with
 | some g =>
  obtain ⟨t, us, h1, h2, h3, h4⟩ := rws_out hh
  exact .rws _ _ _ t us h1 h2 h3 fun j hj => h j hj β L W _ (h4 j hj)
 | none =>
  rcases hh with ⟨k, el, e⟩ | hh
  ·simp only [List.cons.injEq, PV.rws.injEq, and_true] at e
   obtain ⟨rfl, rfl, _⟩ := e
   exact .inl ⟨_, _, rfl⟩
  ·cases hh
theorem CTo.cells {c d : List PV} (hc : isCells c = true) (hd : isCells d = true) (h : ∀ β L W us, Rs β L W c us -> Rs β L W d us) : CTo c d := by
 refine ⟨by rw [isDd_cells hc, isDd_cells hd], fun β L W x hh => ?_⟩
 cases x with
 | some g =>
  obtain ⟨t, us, h1, h2, h3⟩ := Hold.out hh hc
  exact .cells _ t us h1 h2 (h β L W us h3)
 | none =>
  rcases hh with ⟨k, el, e⟩ | hh
  ·subst e; simp [isCells] at hc
  ·rw [isDd_cells hc] at hh; cases hh
inductive STo : Sig -> Sig -> Prop where
 | nil : STo [] []
 | cons {c d : List PV} {l m : Sig} (h : CTo c d) (t : STo l m) : STo (c :: l) (d :: m)
theorem STo.at' : ∀ {σ σ' : Sig}, STo σ σ' -> σ.length = σ'.length /\ ∀ (i : Nat) (d : List PV), σ'[i]? = some d -> ∃ c, σ[i]? = some c /\ CTo c d
 | _, _, .nil => ⟨rfl, fun i d h => by simp at h⟩
 | _, _, .cons h t => by
  obtain ⟨h1, h2⟩ := t.at'
  refine ⟨by simp [h1], fun i d hd => ?_⟩
  cases i with
  | zero => simp at hd; subst hd; exact ⟨_, rfl, h⟩
  | succ i => simp at hd; obtain ⟨c, hc, e⟩ := h2 i d hd; exact ⟨c, by simpa using hc, e⟩
theorem Bx.sto {β : List (Option Nat)} {L : List Nat} {W : World} {σ σ' : Sig} (h : Bx β L W σ) (e : STo σ σ') : Bx β L W σ' := by
 obtain ⟨e1, e2⟩ := e.at'
 refine ⟨h.1.trans e1, fun i j g c d hi hj hc hd lc ld => ?_, h.2.2.1, fun i cs hi => ?_⟩
 ·obtain ⟨c', hc', ec⟩ := e2 i c hc
  obtain ⟨d', hd', ed⟩ := e2 j d hd
  exact h.2.1 i j g c' d' hi hj hc' hd' (by rw [<- ec.1]; exact lc) (by rw [<- ed.1]; exact ld)
 ·obtain ⟨c', hc', ec⟩ := e2 i cs hi
  obtain ⟨g, hg, hh⟩ := h.2.2.2 i c' hc'
  exact ⟨g, hg, ec.2 _ _ _ _ hh⟩
section
variable {w0 : W0} {L : List Nat} {P : Program} {Q : Exit -> Act -> World -> Prop} {fn : Func}
theorem M.sigT {c : Cfg} (ps : List Prop) (σ0 σ' : Sig) (h : (stop P fn.ntmps c).1 = ps) (hp : All ps) (hdr : (stop P fn.ntmps c).2.dr = none) (h0 : (stop P fn.ntmps c).2.σ = σ0) (he : STo σ0 σ') (k : M P fn w0 L Q (sigC P fn c σ')) : M P fn w0 L Q c := by
 refine ⟨run_ok 3000 c (by rw [show (runC P fn.ntmps 3000 c).1 = ps from h]; exact hp) ?_⟩
 show OkF P fn w0 L Q (stop P fn.ntmps c).2
 have k := k.out
 unfold sigC at k
 rw [<- h0] at he
 clear h0 h
 generalize (stop P fn.ntmps c).2 = d at hdr he k
 obtain ⟨E, σ, todo, dr⟩ := d
 simp only at hdr
 subst hdr
 intro β a W hI
 exact k β a W { hI with bx := hI.bx.sto he }
end
theorem contL_snoc (o : Ob) (s : Sl) : ∀ (l : List Sl) (i : Nat), contL o (l ++ [s]) i = contL o l i ++ (bif s.kd == 4 then [⟨o.oid, false, ⟨0, []⟩, ((i + l.length : Nat) : Int), s.v⟩] else [])
 | [], i => by
  show contL o [s] i = _
  unfold contL
  cases s.kd == 4 <;> rfl
 | x :: l, i => by
  show contL o (x :: (l ++ [s])) i = _
  rw [contL, contL, contL_snoc o s l (i + 1)]
  have e : i + 1 + l.length = i + (x :: l).length := by simp; omega
  rw [e]
  cases x.kd == 4 <;> rfl
theorem contL_len (o : Ob) : ∀ (l : List Sl) (i : Nat), (contL o l i).length <= l.length
 | [], i => Nat.le_refl _
 | x :: l, i => by
  rw [contL]
  have := contL_len o l (i + 1)
  cases x.kd == 4 <;> simp <;> omega
theorem contL_take {o : Ob} {i : Nat} (h : i < o.sl.length) : contL o (o.sl.take (i + 1)) 0 = contL o (o.sl.take i) 0 ++ (bif (o.sl.getD (i : Int).toNat default).kd == 4 then [⟨o.oid, false, ⟨0, []⟩, (i : Int), (o.sl.getD (i : Int).toNat default).v⟩] else []) := by
 have e : (o.sl.getD (i : Int).toNat default) = o.sl[i] := by simp [List.getD_eq_getElem?_getD, h]
 rw [List.take_succ_eq_append_getElem h, contL_snoc, e, List.length_take, Nat.min_eq_left (Nat.le_of_lt h), Nat.zero_add]
theorem app_snocT {α : Type} [Inhabited α] {k : Nat} {f : α -> List PV} (D : List α) (x : α) {ds : List PV} {g : PV -> PV} (hk : ds.length = k) (hg : ∀ x : α, (f x).map g = f x) (he : ∀ β L W us, Rs β L W (ds.map g) us -> Rs β L W (f x) us) :
  CTo [.rws k (D.length + 1) (fun j => (joinEl (fun j => f (D.getD j default)) D.length (fun j => (ds.drop (j * k)).take k) j).map g)] [.rws k (D ++ [x]).length (fun j => f ((D ++ [x]).getD j default))] := by
 refine .rws (by simp) fun j hj β L W us h => ?_
 unfold joinEl at h
 split at h
 ·rename_i hlt
  rw [hg] at h
  simpa [List.getD_eq_getElem?_getD, List.getElem?_append_left hlt] using h
 ·have : j = D.length := by omega
  subst this
  rw [Nat.sub_self] at h
  have h : Rs β L W (((ds.drop (0 * k)).take k).map g) us := h
  rw [Nat.zero_mul, List.drop_zero, List.take_of_length_le (by omega)] at h
  simpa [List.getD_eq_getElem?_getD] using he β L W us h
abbrev cntC (o : Ob) (i : Nat) : List Dp := contL o (o.sl.take i) 0
theorem contents_spec (w : Wd) (sf : Atom -> Option Bool) (D : List Dp) (o : Ob) (ho : o.sl.length <= 1000000) (hD : (D.length + o.sl.length) * 88 <= 140737488355328) : SpecM Tryz.prog 36 2 (trM w sf D) [.ref 0 0, .agg o.pv] (trM w sf (D ++ contL o o.sl 0)) (.tup []) := by
 refine SpecM.start (by kernel_rfl) Tryz.func36 rfl rfl (Nat.le_of_ble_eq_true rfl) fun w0 L hst => ?_
 refine M.loopL (ι := {i : Nat // i <= o.sl.length}) (fun i => [(0, .ref 0 0), (3, .ref 3 0), (7, row 5 Sl.pv o.sl), (8, I o.sl.length), (9, I i.1)])
  (fun i => trM w sf (D ++ cntC o i.1) ++ [o.pv]) (fun i => o.sl.length - i.1) ⟨0, Nat.zero_le _⟩ [] (by kernel_rfl) trivial (by kernel_rfl) (by simp [cntC, contL]; kernel_rfl) fun ⟨i, hi⟩ L ih => ?_
 refine M.ts (decide ((i : Int) < (o.sl.length : Int))) (fun h1 => ?_) (fun h1 => ?_)
 ·have hlt : i < o.sl.length := by simpa using h1
  have hcl : (cntC o i).length <= i := Nat.le_trans (contL_len o (o.sl.take i) 0) (by rw [List.length_take]; omega)
  have htk := contL_take hlt
  refine M.testp [0 <= (i : Int) /\ (i : Int) < (o.sl.length : Int)] ((o.sl.getD (i : Int).toNat default).kd == 4) (by kernel_rfl) ⟨by omega, trivial⟩ (fun h2 => ?_) (fun h2 => ?_)
  ·rw [h2] at htk
   refine M.rn [(D ++ cntC o i).length = (D ++ cntC o i).length /\ 0 < 1 /\ (D ++ cntC o i).length + 1 <= 9223372036854775807 /\ ((D ++ cntC o i).length + 1) * 88 <= 140737488355328, In64 ((i : Int) + 1)] [0, 1, 5, 3] hst ⟨⟨rfl, by omega, by rw [List.length_append]; omega, by rw [List.length_append]; omega⟩, ⟨by omega, by omega⟩, trivial⟩ fun L' => ?_
   refine M.sigT [] [trc w ((D ++ cntC o i).length + 1), [.mp (.int .i64) (.b sf)], [.rws 8 ((D ++ cntC o i).length + 1) (fun j => (joinEl (fun j => Dp.pv ((D ++ cntC o i).getD j default)) (D ++ cntC o i).length (fun j => (([I o.oid, .v (.bool false), I 0, .v (.slice none 0 0), I i, I (o.sl.getD (i : Int).toNat default).v.k, I (o.sl.getD (i : Int).toNat default).v.n, S (o.sl.getD (i : Int).toNat default).v.t] : List PV).drop (j * 8)).take 8) j).map (renP (invF [0, 1, 5, 3] 0) 7))], o.pv] (trM w sf (D ++ cntC o (i + 1)) ++ [o.pv]) (by kernel_rfl) trivial (by kernel_rfl) (by kernel_rfl) ?_ ?_
   ·show STo _ (trM w sf (D ++ contL o (o.sl.take (i + 1)) 0) ++ [o.pv])
    rw [htk, <- List.append_assoc]
    refine .cons ?_ (.cons (.refl _) (.cons (app_snocT _ _ rfl (fun x => rfl) fun β L W us h => ?_) (.cons (.refl _) .nil)))
    ·simp only [List.length_append, cond_true, List.length_cons, List.length_nil]; exact .refl _
    ·obtain ⟨u0, us, rfl, h0, h⟩ := h.uncons
     obtain ⟨u1, us, rfl, h1, h⟩ := h.uncons
     obtain ⟨u2, us, rfl, h2, h⟩ := h.uncons
     obtain ⟨u3, us, rfl, h3, h⟩ := h.uncons
     exact .cons h0 (.cons (nrm_R 4 _ _ h1) (.cons h2 (.cons (nil_rowB 5 Sl.pv h3) h)))
   ·exact M.bk [] (ih ⟨i + 1, hlt⟩ L' (by show o.sl.length - (i + 1) < o.sl.length - i; omega)) trivial
  ·rw [h2] at htk
   refine M.rn [In64 ((i : Int) + 1)] [0, 1, 2, 3] hst ⟨⟨by omega, by omega⟩, trivial⟩ fun L' => ?_
   have e : cntC o (i + 1) = cntC o i := by unfold cntC; rw [htk]; simp
   have k := ih ⟨i + 1, hlt⟩ L' (by show o.sl.length - (i + 1) < o.sl.length - i; omega)
   simp only [e] at k
   exact M.bk [] k trivial
 ·have : i = o.sl.length := by have := of_decide_eq_false h1; omega
  subst this
  have e : cntC o o.sl.length = contL o o.sl 0 := by unfold cntC; rw [List.take_length]
  rw [<- e]
  exact M.retm [] [0, 1, 2] hst rfl (by kernel_rfl) trivial rfl rfl
def isPar (s : Sl) : Bool := s.kd == 3 || s.kd == 4
def parL (l : List Sl) : List Vl := (l.filter isPar).map Sl.v
theorem parL_app (l m : List Sl) : parL (l ++ m) = parL l ++ parL m := by simp [parL]
theorem parL_take {l : List Sl} {i : Nat} (h : i < l.length) : parL (l.take (i + 1)) = parL (l.take i) ++ (bif isPar (l.getD (i : Int).toNat default) then [(l.getD (i : Int).toNat default).v] else []) := by
 have e : (l.getD (i : Int).toNat default) = l[i] := by simp [List.getD_eq_getElem?_getD, h]
 rw [List.take_succ_eq_append_getElem h, parL_app, e]
 congr 1
 unfold parL
 cases hx : isPar l[i] <;> simp [hx]
theorem parL_at {l : List Sl} {i : Nat} (h : i < l.length) (hp : isPar (l.getD (i : Int).toNat default) = true) : (parL (l.take i)).length < (parL l).length /\ (parL l).getD (parL (l.take i)).length default = (l.getD (i : Int).toNat default).v /\ (parL (l.take (i + 1))).length = (parL (l.take i)).length + 1 := by
 have e1 := parL_take h
 rw [hp, cond_true] at e1
 have e2 : parL l = parL (l.take (i + 1)) ++ parL (l.drop (i + 1)) := by rw [<- parL_app, List.take_append_drop]
 rw [e1] at e2
 refine ⟨by rw [e2]; simp only [List.length_append, List.length_cons]; omega, ?_, by rw [e1]; simp⟩
 rw [e2]
 simp [List.getD_eq_getElem?_getD]
theorem parents_iter (l : List Sl) (hlen : l.length <= 1000000) : Iter Tryz.prog 120 [.ptr [row 5 Sl.pv l]] (parL l).length (fun i => [.agg ((parL l).getD i default).pv]) none := by
 refine Iter.start (by kernel_rfl) Tryz.func120 rfl rfl fun y J X w0 L hY hJ => ?_
 refine M.loopW (ι := {i : Nat // i <= l.length}) (fun i => [(0, yV y), (5, row 5 Sl.pv l), (6, I l.length), (7, I i.1)]) (fun i => []) (fun i => l.length - i.1) (fun i w0 L => Itb (J (parL (l.take i.1)).length) w0)
  ⟨0, Nat.zero_le _⟩ hJ [] (by kernel_rfl) trivial (by kernel_rfl) (by kernel_rfl) fun ⟨i, hi⟩ w0 L hJ ih => ?_
 simp only at hJ
 refine M.ts (decide ((i : Int) < (l.length : Int))) (fun h1 => ?_) (fun h1 => ?_)
 ·have hlt : i < l.length := by simpa using h1
  have htk := parL_take hlt
  have hat := parL_at hlt
  refine M.testp [0 <= (i : Int) /\ (i : Int) < (l.length : Int)] ((l.getD (i : Int).toNat default).kd == 3) (by kernel_rfl) ⟨by omega, trivial⟩ (fun h2 => ?_) (fun h2 => ?_)
  ·obtain ⟨a1, a2, a3⟩ := hat (by unfold isPar; rw [h2]; rfl)
   refine M.yield (i := (parL (l.take i)).length) [] hY a1 hJ (Eq.trans (b := some (y, [], [.agg ((l.getD (i : Int).toNat default).v).pv])) (by kernel_rfl) (by rw [a2])) trivial rfl (fun w1 L1 hJ1 => ?_) (fun w1 L1 hJ1 => ?_)
   ·refine M.rn [In64 ((i : Int) + 1)] [] hJ1.stay ⟨⟨by omega, by have := hlen; omega⟩, trivial⟩ fun L' => ?_
    rw [<- a3] at hJ1
    exact M.bk [] (ih ⟨i + 1, hlt⟩ w1 L' (by show l.length - (i + 1) < l.length - i; omega) hJ1) trivial
   ·exact M.retX (r := .tup []) [] hY hJ1 (by kernel_rfl) trivial
  refine M.ts ((l.getD (i : Int).toNat default).kd == 4) (fun h3 => ?_) (fun h3 => ?_)
  ·obtain ⟨a1, a2, a3⟩ := hat (by unfold isPar; rw [h3, Bool.or_true])
   refine M.yield (i := (parL (l.take i)).length) [] hY a1 hJ (Eq.trans (b := some (y, [], [.agg ((l.getD (i : Int).toNat default).v).pv])) (by kernel_rfl) (by rw [a2])) trivial rfl (fun w1 L1 hJ1 => ?_) (fun w1 L1 hJ1 => ?_)
   ·refine M.rn [In64 ((i : Int) + 1)] [] hJ1.stay ⟨⟨by omega, by have := hlen; omega⟩, trivial⟩ fun L' => ?_
    rw [<- a3] at hJ1
    exact M.bk [] (ih ⟨i + 1, hlt⟩ w1 L' (by show l.length - (i + 1) < l.length - i; omega) hJ1) trivial
   ·exact M.retX (r := .tup []) [] hY hJ1 (by kernel_rfl) trivial
  ·rw [show isPar (l.getD (i : Int).toNat default) = false by unfold isPar; rw [h2, h3]; rfl, cond_false, List.append_nil] at htk
   rw [<- htk] at hJ
   refine M.rn [In64 ((i : Int) + 1)] [] hJ.stay ⟨⟨by omega, by have := hlen; omega⟩, trivial⟩ fun L' => ?_
   exact M.bk [] (ih ⟨i + 1, hlt⟩ w0 L' (by show l.length - (i + 1) < l.length - i; omega) hJ) trivial
 ·have : i = l.length := by have := of_decide_eq_false h1; omega
  subst this
  rw [List.take_length] at hJ
  exact M.retJ (r := .tup []) [] hY hJ (by kernel_rfl) trivial
theorem parents_spec (l : List Sl) : Spec Tryz.prog 79 [row 5 Sl.pv l] (.fn 120 [.ptr [row 5 Sl.pv l]]) := by
 refine Spec.start (by kernel_rfl) Tryz.func79 rfl rfl fun w0 L => ?_
 exact M.ret (.fn 120 [.ptr [row 5 Sl.pv l]]) (by kernel_rfl) rfl
abbrev St := (Atom -> Option Bool) × List Dp × List Fo
def updS (sf : Atom -> Option Bool) (n : Int) : Atom -> Option Bool := fun x => if x = .i n then some true else sf x
def visT (w : Wd) (sel : List UInt8) : Nat -> St -> Int -> St
 | 0, s, _ => s
 | f + 1, s, n => bif (s.1 (.i n)).getD false then s else
  bif decide ((matchF (objT w n).1.sl sel).1 >= 0) then (updS s.1 n, s.2.1 ++ [wholeD (objT w n).1], s.2.2 ++ [⟨n, (matchF (objT w n).1.sl sel).1, (matchF (objT w n).1.sl sel).2⟩])
  else (parL (objT w n).1.sl).foldl (fun s v => visT w sel f s (startF v)) (updS s.1 n, s.2.1 ++ [wholeD (objT w n).1] ++ contL (objT w n).1 (objT w n).1.sl 0, s.2.2)
def upT (w : Wd) (sel : List UInt8) (f : Nat) (l : List Vl) (s : St) : St := l.foldl (fun s v => visT w sel f s (startF v)) s
def unseen (U : List Int) (sf : Atom -> Option Bool) : Nat := (U.filter fun n => !(sf (.i n)).getD false).length
theorem unseen_upd_le (U : List Int) (sf : Atom -> Option Bool) (n : Int) : unseen U (updS sf n) <= unseen U sf := by
 unfold unseen
 induction U with
 | nil => exact Nat.le_refl _
 | cons x U ih =>
  simp only [List.filter_cons]
  by_cases hx : x = n
  ·subst hx
   have e : (updS sf x (.i x)).getD false = true := by simp [updS]
   rw [e]
   simp only [Bool.not_true, Bool.false_eq_true, if_false]
   split
   ·simp only [List.length_cons]; omega
   ·exact ih
  ·have e : updS sf n (.i x) = sf (.i x) := by
    unfold updS; rw [if_neg]; intro h; exact hx (Atom.i.inj h)
   rw [e]
   split
   ·simp only [List.length_cons]; omega
   ·exact ih
theorem unseen_upd_lt {U : List Int} {sf : Atom -> Option Bool} {n : Int} (hn : n ∈ U) (hu : (sf (.i n)).getD false = false) : unseen U (updS sf n) < unseen U sf := by
 have hle := unseen_upd_le
 unfold unseen at hle ⊢
 induction U with
 | nil => cases hn
 | cons x U ih =>
  simp only [List.filter_cons]
  by_cases hx : x = n
  ·subst hx
   have e : (updS sf x (.i x)).getD false = true := by simp [updS]
   rw [e, hu]
   simp only [Bool.not_true, Bool.false_eq_true, if_false, Bool.not_false, if_true, List.length_cons]
   have := hle U sf x
   omega
  ·have e : updS sf n (.i x) = sf (.i x) := by
    unfold updS; rw [if_neg]; intro h; exact hx (Atom.i.inj h)
   rw [e]
   have hn' : n ∈ U := by
    rcases List.mem_cons.1 hn with h | h
    ·exact absurd h.symm hx
    ·exact h
   have := ih hn'
   split
   ·simp only [List.length_cons]; omega
   ·exact this
structure Clo (w : Wd) (U : List Int) : Prop where
 clo : ∀ n ∈ U, ∀ v ∈ parL (objT w n).1.sl, startF v ∈ U
 nm : ∀ n ∈ U, ∀ s ∈ (objT w n).1.sl, s.nm.length <= 140737488355328
 many : U.length <= 1000000
structure Room (U : List Int) (s : St) : Prop where
 deps : s.2.1.length + 1000001 * unseen U s.1 <= 1500000000000
 out : s.2.2.length + unseen U s.1 <= 1500000000000
structure Less (U : List Int) (s s' : St) : Prop where
 un : unseen U s'.1 <= unseen U s.1
 deps : s'.2.1.length + 1000001 * unseen U s'.1 <= s.2.1.length + 1000001 * unseen U s.1
 out : s'.2.2.length + unseen U s'.1 <= s.2.2.length + unseen U s.1
theorem Less.refl (U : List Int) (s : St) : Less U s s := ⟨Nat.le_refl _, Nat.le_refl _, Nat.le_refl _⟩
theorem Less.trans {U : List Int} {s s' s'' : St} (h : Less U s s') (h' : Less U s' s'') : Less U s s'' := ⟨Nat.le_trans h'.un h.un, Nat.le_trans h'.deps h.deps, Nat.le_trans h'.out h.out⟩
theorem Less.room {U : List Int} {s s' : St} (h : Less U s s') (r : Room U s) : Room U s' := ⟨Nat.le_trans h.deps r.deps, Nat.le_trans h.out r.out⟩
theorem upT_less {w : Wd} {sel : List UInt8} {f : Nat} {U : List Int} (hv : ∀ s n, n ∈ U -> Less U s (visT w sel f s n)) : ∀ (l : List Vl) (s : St), (∀ v ∈ l, startF v ∈ U) -> Less U s (upT w sel f l s)
 | [], s, _ => Less.refl U s
 | v :: l, s, h => (hv s (startF v) (h v (List.mem_cons_self ..))).trans (upT_less hv l _ fun x hx => h x (List.mem_cons_of_mem _ hx))
theorem visT_less {w : Wd} (hw : w.Ok) {sel : List UInt8} {U : List Int} (hU : Clo w U) : ∀ (f : Nat) (s : St) (n : Int), n ∈ U -> Less U s (visT w sel f s n)
 | 0, s, n, _ => Less.refl U s
 | f + 1, s, n, hn => by
  unfold visT
  cases hs : (s.1 (.i n)).getD false with
  | true => exact Less.refl U s
  | false =>
   have hlt := unseen_upd_lt (U := U) hn hs
   rw [cond_false]
   cases decide ((matchF (objT w n).1.sl sel).1 >= 0) with
   | true => exact ⟨by simp only [cond_true]; omega, by simp only [cond_true, List.length_append, List.length_cons, List.length_nil]; omega, by simp only [cond_true, List.length_append, List.length_cons, List.length_nil]; omega⟩
   | false =>
    rw [cond_false]
    refine Less.trans ?_ (upT_less (visT_less hw hU f) (parL (objT w n).1.sl) _ (hU.clo n hn))
    have h1 := contL_len (objT w n).1 (objT w n).1.sl 0
    have h2 := objT_len w hw n
    refine ⟨?_, ?_, ?_⟩
    ·show unseen U (updS s.1 n) <= _; omega
    ·show (s.2.1 ++ [wholeD (objT w n).1] ++ contL (objT w n).1 (objT w n).1.sl 0).length + 1000001 * unseen U (updS s.1 n) <= _
     simp only [List.length_append, List.length_cons, List.length_nil]
     omega
    ·show s.2.2.length + unseen U (updS s.1 n) <= _; omega
abbrev outS (O : List Fo) : List PV := [.rws 3 O.length (fun j => Fo.pv (O.getD j default))]
abbrev trO (w : Wd) (s : St) : Sig := trM w s.1 s.2.1 ++ [outS s.2.2]
def VisC (w : Wd) (sel : List UInt8) (U : List Int) (f : Nat) : Prop := ∀ (s : St) (n : Int), n ∈ U -> unseen U s.1 < f -> Room U s -> SpecM Tryz.prog 41 2 (trO w s) [.ref 0 0, I n, S sel, .os 159 3 3 s.2.2.length] (trO w (visT w sel f s n)) (.os 159 3 3 (visT w sel f s n).2.2.length)
def UpC (w : Wd) (sel : List UInt8) (U : List Int) (f : Nat) : Prop := ∀ (s : St) (l : List Sl), l.length <= 1000000 -> (∀ v ∈ parL l, startF v ∈ U) -> unseen U s.1 < f -> Room U s -> SpecM Tryz.prog 38 2 (trO w s) [.ref 0 0, row 5 Sl.pv l, S sel, .os 159 3 3 s.2.2.length] (trO w (upT w sel f (parL l) s)) (.os 159 3 3 (upT w sel f (parL l) s).2.2.length)
theorem vis_of_up {w : Wd} (hw : w.Ok) {sel : List UInt8} {U : List Int} (hU : Clo w U) (f : Nat) (hup : UpC w sel U f) : VisC w sel U (f + 1) := by
 intro s n hn hf hr
 obtain ⟨sf, D, O⟩ := s
 have hr1 := hr.deps
 have hr2 := hr.out
 simp only at hr1 hr2 hf
 unfold visT
 cases hs : (sf (.i n)).getD false with
 | true =>
  simp only [cond_true]
  refine SpecM.start (by kernel_rfl) Tryz.func41 rfl rfl (Nat.le_of_ble_eq_true rfl) fun w0 L hst => ?_
  refine M.ys (b := (sf (.i n)).getD false) hs ?_
  exact M.retm [] [0, 1, 2, 3] hst rfl (by kernel_rfl) trivial rfl rfl
 | false =>
  simp only [cond_false]
  have hlt := unseen_upd_lt hn hs
  have hol := objT_len w hw n
  refine SpecM.start (by kernel_rfl) Tryz.func41 rfl rfl (Nat.le_of_ble_eq_true rfl) fun w0 L hst => ?_
  refine M.n (b := (sf (.i n)).getD false) hs ?_
  refine M.cm [0, 1, 2] (tobjM w (updS sf n) D n hw.nobjs) ?_
  refine M.cm [0, 1, 2] (whole_spec w (updS sf n) D (objT w n).1 hol (by omega)) ?_
  refine M.cl (match_spec (objT w n).1.sl sel (hU.nm n hn)) ?_
  refine M.ts (decide ((matchF (objT w n).1.sl sel).1 >= 0)) (fun h1 => ?_) (fun h1 => ?_)
  ·rw [h1, cond_true]
   refine M.rn [O.length = O.length /\ 0 < 1 /\ O.length + 1 <= 9223372036854775807 /\ (O.length + 1) * 24 <= 140737488355328] [0, 1, 5, 6] hst ⟨⟨rfl, by omega, by omega, by omega⟩, trivial⟩ fun L' => ?_
   refine M.sigT [] [trc w (D ++ [wholeD (objT w n).1]).length, [.mp (.int .i64) (.b (updS sf n))], depS (D ++ [wholeD (objT w n).1]), [.rws 3 (O.length + 1) (fun j => (joinEl (fun j => Fo.pv (O.getD j default)) O.length (fun j => (([I n, I (matchF (objT w n).1.sl sel).1, .sb (matchF (objT w n).1.sl sel).2] : List PV).drop (j * 3)).take 3) j).map (renP (invF [0, 1, 5, 6] 0) 7))]] (trO w (updS sf n, D ++ [wholeD (objT w n).1], O ++ [⟨n, (matchF (objT w n).1.sl sel).1, (matchF (objT w n).1.sl sel).2⟩])) (by kernel_rfl) trivial (by kernel_rfl) (by kernel_rfl)
    (.cons (.refl _) (.cons (.refl _) (.cons (.refl _) (.cons (app_snocT (k := 3) (f := Fo.pv) O ⟨n, (matchF (objT w n).1.sl sel).1, (matchF (objT w n).1.sl sel).2⟩ (ds := [I n, I (matchF (objT w n).1.sl sel).1, .sb (matchF (objT w n).1.sl sel).2]) (g := renP (invF [0, 1, 5, 6] 0) 7) rfl (fun x => rfl) fun β L W us h => h) .nil)))) ?_
   exact M.retm [] [0, 1, 2, 3] hst rfl (by kernel_rfl) trivial rfl (by rw [List.length_append])
  ·rw [h1, cond_false]
   have hcl := contL_len (objT w n).1 (objT w n).1.sl 0
   refine M.cm [0, 1, 5] (contents_spec w (updS sf n) (D ++ [wholeD (objT w n).1]) (objT w n).1 hol (by rw [List.length_append]; simp only [List.length_cons, List.length_nil]; omega)) ?_
   refine M.cm [0, 1, 6, 3] (hup (updS sf n, D ++ [wholeD (objT w n).1] ++ contL (objT w n).1 (objT w n).1.sl 0, O) (objT w n).1.sl hol (hU.clo n hn) (by show unseen U (updS sf n) < f; omega) ⟨by simp only [List.length_append, List.length_cons, List.length_nil]; omega, by simp only; omega⟩) ?_
   exact M.retm [] [0, 1, 7, 8] hst rfl (by kernel_rfl) trivial rfl rfl
abbrev upS (w : Wd) (sel : List UInt8) (s : St) : Sig := [[row 6 Ob.pv w.objs, row 9 Ac.pv w.acts, row 9 Cd.pv w.cds, I w.nO, I w.nA, .os 70 5 8 s.2.1.length, .mr 1], [.mp (.int .i64) (.b s.1)], [.ref 0 0], [S sel], [.os 159 6 3 s.2.2.length], depS s.2.1, outS s.2.2]
theorem upT_take {w : Wd} {sel : List UInt8} {f : Nat} {l : List Vl} {s : St} {i : Nat} (h : i < l.length) : upT w sel f (l.take (i + 1)) s = visT w sel f (upT w sel f (l.take i) s) (startF (l.getD i default)) := by
 unfold upT
 rw [List.take_succ_eq_append_getElem h, List.foldl_append]
 simp [List.getD_eq_getElem?_getD, h]
theorem up_of_vis {w : Wd} (hw : w.Ok) {sel : List UInt8} {U : List Int} (hU : Clo w U) (f : Nat) (hv : VisC w sel U f) : UpC w sel U f := by
 intro s l hl hlU hf hr
 have hpl : (parL l).length <= l.length := by unfold parL; rw [List.length_map]; exact List.length_filter_le _ _
 refine SpecM.startR (by kernel_rfl) Tryz.func38 rfl rfl (Nat.le_of_ble_eq_true rfl) fun w0 L hst hro hmk => ?_
 refine M.cl (parents_spec l) ?_
 refine M.rn [] [0, 1, 4, 5, 6, 2, 3] hst trivial fun L' => ?_
 refine M.rangeF (ι := {i : Nat // i <= (parL l).length}) (ζ := Empty) (fun i => upS w sel (upT w sel f ((parL l).take i.1) s)) (fun i => i.1) ⟨0, Nat.zero_le _⟩ (fun z => nomatch z) (fun z => nomatch z) [(4, .ref 2 0), (6, .ref 3 0), (7, .ref 4 0)] 5 (parents_iter l hl) []
  (fun i => (9, .ref 7 0) :: (12, .agg ((parL l).getD i.1 default).pv) :: [(4, .ref 2 0), (6, .ref 3 0), (7, .ref 4 0)]) (fun i => upS w sel (upT w sel f ((parL l).take i.1) s) ++ [((parL l).getD i.1 default).pv])
  trivial rfl (by rw [hst]; exact Nat.le_of_ble_eq_true rfl) hro hmk (fun x hx => nomatch hx)
  (by kernel_rfl) (by kernel_rfl) (by kernel_rfl) (by kernel_rfl) rfl (by kernel_rfl) (by kernel_rfl) (by kernel_rfl) (fun _ => rfl) (fun _ => by kernel_rfl) (by kernel_rfl) (fun _ => by kernel_rfl)
  (fun ⟨i, hi⟩ w2 L2 hlt hst2 => ?_) (fun ⟨i, hi⟩ L' hf hn => ?_) (fun ⟨i, hi⟩ v hf hn => nomatch hf) (fun z => nomatch z)
 ·have hlt' : i < (parL l).length := hlt
  have hvl := visT_less hw (sel := sel) hU f
  have hmem : ∀ v ∈ (parL l).take i, startF v ∈ U := fun v h => hlU v (List.mem_of_mem_take h)
  have hless := upT_less hvl ((parL l).take i) s hmem
  have hn : startF ((parL l).getD i default) ∈ U := hlU _ (getD_mem hlt')
  refine M.cl (start_spec ((parL l).getD i default)) ?_
  refine M.cm [0, 1, 5, 6] (hv (upT w sel f ((parL l).take i) s) (startF ((parL l).getD i default)) hn (Nat.lt_of_le_of_lt hless.un hf) (hless.room hr)) ?_
  rw [<- upT_take hlt']
  refine M.rn [] [0, 1, 2, 3, 4, 8, 9] hst2 trivial fun L' => ?_
  exact M.next (ι := {i : Nat // i <= (parL l).length}) ⟨i + 1, hlt'⟩ rfl [] (by kernel_rfl) trivial (by kernel_rfl) (by kernel_rfl) (by kernel_rfl)
 ·have hn' : i = (parL l).length := hn
  subst hn'
  have e : (parL l).take (parL l).length = parL l := List.take_length
  simp only [e]
  exact M.retm [] [0, 1, 5, 6] hst rfl (by kernel_rfl) trivial rfl rfl
theorem visC {w : Wd} (hw : w.Ok) {sel : List UInt8} {U : List Int} (hU : Clo w U) : ∀ f, VisC w sel U f
 | 0 => fun s n hn hf => absurd hf (Nat.not_lt_zero _)
 | f + 1 => vis_of_up hw hU f (up_of_vis hw hU f (visC hw hU f))
theorem upC {w : Wd} (hw : w.Ok) {sel : List UInt8} {U : List Int} (hU : Clo w U) (f : Nat) : UpC w sel U f := up_of_vis hw hU f (visC hw hU f)
theorem Bx.nilRow {β : List (Option Nat)} {L : List Nat} {W : World} {σ : Sig} (h : Bx β L W σ) (k : Nat) (el : Nat -> List PV) : Bx (β ++ [none]) L W (σ ++ [[.rws k 0 el]]) := by
 have hsub : ∀ g, some g ∈ β ++ [none] -> some g ∈ β := fun g hg => by
  rcases List.mem_append.1 hg with hg | hg
  ·exact hg
  ·simp at hg
 have hβ : ∀ (i : Nat) (x : Option Nat), β[i]? = some x -> (β ++ [none])[i]? = some x /\ ∀ g', x = some g' -> W.shape? g' = W.shape? g' := fun i x hg' => ⟨by rw [List.getElem?_append_left (List.getElem?_eq_some_iff.1 hg').1]; exact hg', fun _ _ => rfl⟩
 have hF : ∀ g', Fb (β ++ [none]) L g' -> Fb β L g' \/ W.heap.size <= g' := fun g' hg' => .inl (hg'.imp (hsub g') id)
 have hback : ∀ (x g' : Nat) (ds : List PV), (β ++ [none])[x]? = some (some g') -> (σ ++ [[.rws k 0 el]])[x]? = some ds -> β[x]? = some (some g') /\ σ[x]? = some ds := fun x g' ds hx hd => by
  by_cases hxl : x < σ.length
  ·rw [List.getElem?_append_left hxl] at hd
   rw [List.getElem?_append_left (by rw [h.1]; exact hxl)] at hx
   exact ⟨hx, hd⟩
  ·have hx0 : x = σ.length := by
    have := (List.getElem?_eq_some_iff.1 hd).1
    simp at this; omega
   subst hx0
   rw [<- h.1] at hx
   simp at hx
 refine ⟨by simp [h.1], fun x y g' c d hx hy hc hd lc ld => h.2.1 x y g' c d (hback x g' c hx hc).1 (hback y g' d hy hd).1 (hback x g' c hx hc).2 (hback y g' d hy hd).2 lc ld, fun x hx => h.2.2.1 x (hsub _ hx), fun x ds hd => ?_⟩
 by_cases hxl : x < σ.length
 ·rw [List.getElem?_append_left hxl] at hd
  obtain ⟨g', hg', hh⟩ := h.2.2.2 x ds hd
  exact ⟨g', (hβ x g' hg').1, hh.move (Nat.le_refl _) (fun _ _ => rfl) (fun _ _ _ => rfl) hβ hF⟩
 ·have hx0 : x = σ.length := by
   have := (List.getElem?_eq_some_iff.1 hd).1
   simp at this; omega
  subst hx0
  simp at hd
  subst hd
  exact ⟨none, by rw [<- h.1]; simp, .inl ⟨_, _, rfl⟩⟩
theorem SpecM.nil {P : Program} {f : FuncId} {m k : Nat} {el : Nat -> List PV} {σ σ' : Sig} {args args' : List PV} {r : PV} (h : SpecM P f m (σ ++ [[.rws k 0 el]]) args σ' r) (hm : m <= σ.length)
  (ha : ∀ β L W vs, β[σ.length]? = some none -> Rs β L W args' vs -> Rs β L W args vs) : SpecM P f m σ args' σ' r := by
 refine ⟨h.1, hm, fun L β W vs hL hG hB hR => ?_⟩
 have hsub : ∀ g, some g ∈ β ++ [none] ↔ some g ∈ β := fun g => by simp
 have hbs : bs (β ++ [none]) = bs β := by simp [bs]
 have hβ : ∀ (i : Nat) (x : Option Nat), β[i]? = some x -> (β ++ [none])[i]? = some x /\ ∀ g', x = some g' -> W.shape? g' = W.shape? g' := fun i x hg' => ⟨by rw [List.getElem?_append_left (List.getElem?_eq_some_iff.1 hg').1]; exact hg', fun _ _ => rfl⟩
 have hF : ∀ g', Fb (β ++ [none]) L g' -> Fb β L g' \/ W.heap.size <= g' := fun g' hg' => .inl (hg'.imp (hsub g').1 id)
 have hml : m <= β.length := by rw [hB.1]; exact hm
 refine (h.2.2 L (β ++ [none]) W vs (fun g hg => ⟨(hL g hg).1, fun hc => (hL g hg).2 ((hsub g).1 hc)⟩) (by rw [hbs]; exact hG) (hB.nilRow k el) (ha _ _ _ _ (by rw [<- hB.1]; simp) (Rs.move (Nat.le_refl _) _ _ _ _ _ _ (fun _ _ _ => rfl) hβ hF hR))).mono fun e W' ⟨u, γ, L1, he, hu, hb, hn, hg, hs, hl, hf⟩ => ?_
 exact ⟨u, γ, L1, he, hu, hb, ⟨hn.os, hn.tape, hn.output, hn.size, fun k hk ho => hn.block k hk fun hc => ho ((hsub k).1 hc), hn.shape⟩, fun g h' => (hg g h').imp (hsub g).1 id, ⟨by rw [hs.1, List.take_append_of_le_length hml], hs.2⟩, hl, fun g h' => hf g ((hsub g).2 h')⟩
def OutOk (w : Wd) (O : List Fo) : Prop := ∀ x ∈ O, 0 <= x.slot /\ x.slot < ((objT w x.holder).1.sl.length : Int)
theorem fstI_lt {α : Type} (p : α -> Bool) (l : List α) : fstI p l < (l.length : Int) := by
 unfold fstI
 split
 ·rename_i i hi
  have := (List.findIdx?_eq_some_iff_findIdx_eq.1 hi).1
  omega
 ·omega
theorem matchF_lt (l : List Sl) (sel : List UInt8) : (matchF l sel).1 < (l.length : Int) := by
 unfold matchF
 cases decide (fstI (fun x => matchA x sel) l >= 0) <;> exact fstI_lt _ _
theorem upT_out {w : Wd} {sel : List UInt8} {f : Nat} (hv : ∀ s n, OutOk w s.2.2 -> OutOk w (visT w sel f s n).2.2) : ∀ (l : List Vl) (s : St), OutOk w s.2.2 -> OutOk w (upT w sel f l s).2.2
 | [], s, h => h
 | v :: l, s, h => upT_out hv l _ (hv s _ h)
theorem visT_out {w : Wd} {sel : List UInt8} : ∀ (f : Nat) (s : St) (n : Int), OutOk w s.2.2 -> OutOk w (visT w sel f s n).2.2
 | 0, s, n, h => h
 | f + 1, s, n, h => by
  unfold visT
  cases hs : (s.1 (.i n)).getD false with
  | true => exact h
  | false =>
   rw [cond_false]
   cases hd : decide ((matchF (objT w n).1.sl sel).1 >= 0) with
   | true =>
    intro x hx
    rcases List.mem_append.1 hx with hx | hx
    ·exact h x hx
    ·rw [List.mem_singleton] at hx
     subst hx
     exact ⟨of_decide_eq_true hd, matchF_lt _ _⟩
   | false => exact upT_out (visT_out f) _ _ h
def targT (w : Wd) : List Fo -> Tg
 | [] => ⟨1, 0, 0, false, 0, ⟨0, 0, []⟩⟩
 | [x] => ofF ((objT w x.holder).1.sl.getD x.slot.toNat default) x
 | _ => ⟨2, 0, 0, false, 0, ⟨0, 0, []⟩⟩
theorem target_spec {w : Wd} (hw : w.Ok) (s : St) (ho : OutOk w s.2.2) : SpecM Tryz.prog 37 4 (trO w s) [.ref 0 0, .os 159 3 3 s.2.2.length] (trO w s) (.agg (targT w s.2.2).pv) := by
 obtain ⟨sf, D, O⟩ := s
 simp only at ho
 refine SpecM.start (by kernel_rfl) Tryz.func37 rfl rfl (Nat.le_of_ble_eq_true rfl) fun w0 L hst => ?_
 cases O with
 | nil =>
  refine M.ys (b := decide ((([] : List Fo).length : Int) = 0)) rfl ?_
  exact M.retm [] [0, 1, 2, 3] hst rfl (by kernel_rfl) trivial rfl rfl
 | cons x O =>
  refine M.n (b := decide (((x :: O).length : Int) = 0)) (by simp; omega) ?_
  cases O with
  | nil =>
   refine M.ys (b := decide ((([x] : List Fo).length : Int) = 1)) rfl ?_
   refine M.callmp [(0 : Int) <= 0 /\ (0 : Int) < (([x] : List Fo).length : Int), (0 : Int).toNat < ([x] : List Fo).length] [0, 1, 2] (tobjM w sf D x.holder hw.nobjs) (by kernel_rfl) ⟨by simp, by simp, trivial⟩ ?_
   refine M.clp [(0 : Int) <= 0 /\ (0 : Int) < (([x] : List Fo).length : Int), (0 : Int).toNat < ([x] : List Fo).length, 0 <= x.slot /\ x.slot < ((objT w x.holder).1.sl.length : Int), (0 : Int) <= 0 /\ (0 : Int) < (([x] : List Fo).length : Int), (0 : Int).toNat < ([x] : List Fo).length] ⟨by simp, by simp, ho x (List.mem_singleton.2 rfl), by simp, by simp, trivial⟩ (of_spec ((objT w x.holder).1.sl.getD x.slot.toNat default) x) ?_
   exact M.retm [] [0, 1, 2, 3] hst rfl (by kernel_rfl) trivial rfl rfl
  | cons y O =>
   refine M.n (b := decide (((x :: y :: O).length : Int) = 1)) (by simp; omega) ?_
   exact M.retm [] [0, 1, 2, 3] hst rfl (by kernel_rfl) trivial rfl rfl
theorem visN {w : Wd} (hw : w.Ok) {sel : List UInt8} {U : List Int} (hU : Clo w U) (f : Nat) (sf : Atom -> Option Bool) (D : List Dp) (n : Int) (hn : n ∈ U) (hf : unseen U sf < f) (hr : Room U (sf, D, [])) :
  SpecM Tryz.prog 41 2 (trM w sf D) [.ref 0 0, I n, S sel, nilS] (trO w (visT w sel f (sf, D, []) n)) (.os 159 3 3 (visT w sel f (sf, D, []) n).2.2.length) :=
 SpecM.nil (k := 3) (el := fun j => Fo.pv (([] : List Fo).getD j default)) (σ := trM w sf D) (visC hw hU f (sf, D, []) n hn hf hr) (Nat.le_of_ble_eq_true rfl) fun β L W vs hb h => by
  obtain ⟨u0, us, rfl, q0, h⟩ := h.uncons
  obtain ⟨u1, us, rfl, q1, h⟩ := h.uncons
  obtain ⟨u2, us, rfl, q2, h⟩ := h.uncons
  obtain ⟨u3, us, rfl, q3, h⟩ := h.uncons
  exact .cons q0 (.cons q1 (.cons q2 (.cons (nil_os rfl hb _ _ q3) h)))
theorem upN {w : Wd} (hw : w.Ok) {sel : List UInt8} {U : List Int} (hU : Clo w U) (f : Nat) (sf : Atom -> Option Bool) (D : List Dp) (l : List Sl) (hl : l.length <= 1000000) (hlU : ∀ v ∈ parL l, startF v ∈ U) (hf : unseen U sf < f) (hr : Room U (sf, D, [])) :
  SpecM Tryz.prog 38 2 (trM w sf D) [.ref 0 0, row 5 Sl.pv l, S sel, nilS] (trO w (upT w sel f (parL l) (sf, D, []))) (.os 159 3 3 (upT w sel f (parL l) (sf, D, [])).2.2.length) :=
 SpecM.nil (k := 3) (el := fun j => Fo.pv (([] : List Fo).getD j default)) (σ := trM w sf D) (upC hw hU f (sf, D, []) l hl hlU hf hr) (Nat.le_of_ble_eq_true rfl) fun β L W vs hb h => by
  obtain ⟨u0, us, rfl, q0, h⟩ := h.uncons
  obtain ⟨u1, us, rfl, q1, h⟩ := h.uncons
  obtain ⟨u2, us, rfl, q2, h⟩ := h.uncons
  obtain ⟨u3, us, rfl, q3, h⟩ := h.uncons
  exact .cons q0 (.cons q1 (.cons q2 (.cons (nil_os rfl hb _ _ q3) h)))
abbrev tgZ : Tg := ⟨0, 0, 0, false, 0, ⟨0, 0, []⟩⟩
theorem from_spec (n : Int) : Spec Tryz.prog 64 [I n] (.agg [.fn 113 [.ptr [I n]]]) := by
 refine Spec.start (by kernel_rfl) Tryz.func64 rfl rfl fun w0 L => ?_
 exact M.ret (.agg [.fn 113 [.ptr [I n]]]) (by kernel_rfl) rfl
abbrev predPV : List PV := [.fn 60 [], .fn 61 [], .fn 62 [], .fn 113 [.ptr [I 5]], .fn 113 [.ptr [I 6]]]
theorem predictions_spec : Spec Tryz.prog 24 [] (.agg predPV) := by
 refine Spec.start (by kernel_rfl) Tryz.func24 rfl rfl fun w0 L => ?_
 refine M.cl (from_spec 5) ?_
 refine M.cl (from_spec 6) ?_
 exact M.ret (.agg predPV) (by kernel_rfl) rfl
def fromT (w : Wd) (sel : List UInt8) (f : Nat) (sf : Atom -> Option Bool) (D : List Dp) (n : Int) : Tg := targT w (visT w sel f (sf, D, []) n).2.2
theorem fromR_spec {w : Wd} (hw : w.Ok) {sel : List UInt8} {U : List Int} (hU : Clo w U) (f : Nat) (sf : Atom -> Option Bool) (D : List Dp) (maps : List Mp) (y : Ty) (n : Int) (hn : n ∈ U) (hf : unseen U sf < f) (hr : Room U (sf, D, [])) :
  SpecM Tryz.prog 113 2 (trM w sf D) [.ref 0 0, row 2 Mp.pv maps, .agg y.pv, S sel, .ptr [I n]] (trM w (visT w sel f (sf, D, []) n).1 (visT w sel f (sf, D, []) n).2.1) (.agg (fromT w sel f sf D n).pv) := by
 refine SpecM.start (by kernel_rfl) Tryz.func113 rfl rfl (Nat.le_of_ble_eq_true rfl) fun w0 L hst => ?_
 refine M.cm [0, 1, 2] (visN (sel := sel) hw hU f sf D n hn hf hr) ?_
 refine M.cm [0, 1, 5, 6] (target_spec hw (visT w sel f (sf, D, []) n) (visT_out f (sf, D, []) n (fun x hx => by cases hx))) ?_
 exact M.retm [] [0, 1, 5] hst rfl (by kernel_rfl) trivial rfl rfl
theorem pred1_spec {w : Wd} (sel : List UInt8) (sf : Atom -> Option Bool) (D : List Dp) (maps : List Mp) (y : Ty) :
  SpecM Tryz.prog 60 2 (trM w sf D) [.ref 0 0, row 2 Mp.pv maps, .agg y.pv, S sel] (trM w sf D) (.agg tgZ.pv) := by
 refine SpecM.start (by kernel_rfl) Tryz.func60 rfl rfl (Nat.le_of_ble_eq_true rfl) fun w0 L hst => ?_
 exact M.retm [] [0, 1, 2] hst rfl (by kernel_rfl) trivial rfl rfl
def isT (g : Tg) (v : Vl) : Tg := ⟨g.kind, g.holder, g.slot, bif decide (g.kind >= 3) then (bif v.k == 4 then g.holder == v.n else false) else false, g.code, g.v⟩
theorem pred2_spec {w : Wd} (hw : w.Ok) {sel : List UInt8} {U : List Int} (hU : Clo w U) (f : Nat) (sf : Atom -> Option Bool) (D : List Dp) (maps : List Mp) (y : Ty) (hn : startF y.v ∈ U) (hf : unseen U sf < f) (hr : Room U (sf, D, [])) :
  SpecM Tryz.prog 61 2 (trM w sf D) [.ref 0 0, row 2 Mp.pv maps, .agg y.pv, S sel] (trM w (visT w sel f (sf, D, []) (startF y.v)).1 (visT w sel f (sf, D, []) (startF y.v)).2.1) (.agg (isT (fromT w sel f sf D (startF y.v)) y.v).pv) := by
 refine SpecM.start (by kernel_rfl) Tryz.func61 rfl rfl (Nat.le_of_ble_eq_true rfl) fun w0 L hst => ?_
 refine M.cl (start_spec y.v) ?_
 refine M.cm [0, 1, 2] (visN (sel := sel) hw hU f sf D (startF y.v) hn hf hr) ?_
 refine M.cm [0, 1, 5, 6] (target_spec hw (visT w sel f (sf, D, []) (startF y.v)) (visT_out f (sf, D, []) (startF y.v) (fun x hx => by cases hx))) ?_
 unfold isT
 refine M.ts (decide ((fromT w sel f sf D (startF y.v)).kind >= 3)) (fun h1 => ?_) (fun h1 => ?_)
 ·rw [h1, cond_true]
  refine M.ts (y.v.k == 4) (fun h2 => ?_) (fun h2 => ?_)
  ·rw [h2, cond_true]
   exact M.retm [] [0, 1, 5] hst rfl (by kernel_rfl) trivial rfl rfl
  ·rw [h2, cond_false]
   exact M.retm [] [0, 1, 5] hst rfl (by kernel_rfl) trivial rfl rfl
 ·rw [h1, cond_false]
  exact M.retm [] [0, 1, 5] hst rfl (by kernel_rfl) trivial rfl rfl
def shapT (w : Wd) (sel : List UInt8) (f : Nat) (sf : Atom -> Option Bool) (D : List Dp) (m : Mp) : Tg × St :=
 bif decide ((matchF m.sl sel).1 >= 0) then
  (⟨(ofF (m.sl.getD (matchF m.sl sel).1.toNat default) ⟨0, (matchF m.sl sel).1, (matchF m.sl sel).2⟩).kind, (ofF (m.sl.getD (matchF m.sl sel).1.toNat default) ⟨0, (matchF m.sl sel).1, (matchF m.sl sel).2⟩).holder, (ofF (m.sl.getD (matchF m.sl sel).1.toNat default) ⟨0, (matchF m.sl sel).1, (matchF m.sl sel).2⟩).slot, true, (ofF (m.sl.getD (matchF m.sl sel).1.toNat default) ⟨0, (matchF m.sl sel).1, (matchF m.sl sel).2⟩).code, (ofF (m.sl.getD (matchF m.sl sel).1.toNat default) ⟨0, (matchF m.sl sel).1, (matchF m.sl sel).2⟩).v⟩, (sf, D, []))
 else bif m.sl.any shapA then (tgZ, (sf, D, []))
 else (targT w (upT w sel f (parL m.sl) (sf, D, [])).2.2, upT w sel f (parL m.sl) (sf, D, []))
theorem shap_spec {w : Wd} (hw : w.Ok) {sel : List UInt8} {U : List Int} (hU : Clo w U) (f : Nat) (sf : Atom -> Option Bool) (D : List Dp) (m : Mp) (hm : m.sl.length <= 1000000) (hnm : ∀ s ∈ m.sl, s.nm.length <= 140737488355328) (hmU : ∀ v ∈ parL m.sl, startF v ∈ U) (hf : unseen U sf < f) (hr : Room U (sf, D, [])) :
  SpecM Tryz.prog 63 2 (trM w sf D) [.ref 0 0, .agg m.pv, S sel] (trM w (shapT w sel f sf D m).2.1 (shapT w sel f sf D m).2.2.1) (.agg (shapT w sel f sf D m).1.pv) := by
 unfold shapT
 refine SpecM.start (by kernel_rfl) Tryz.func63 rfl rfl (Nat.le_of_ble_eq_true rfl) fun w0 L hst => ?_
 refine M.cl (match_spec m.sl sel hnm) ?_
 refine M.ts (decide ((matchF m.sl sel).1 >= 0)) (fun h1 => ?_) (fun h1 => ?_)
 ·rw [h1, cond_true]
  refine M.clp [0 <= (matchF m.sl sel).1 /\ (matchF m.sl sel).1 < (m.sl.length : Int)] ⟨⟨of_decide_eq_true h1, matchF_lt _ _⟩, trivial⟩ (of_spec (m.sl.getD (matchF m.sl sel).1.toNat default) ⟨0, (matchF m.sl sel).1, (matchF m.sl sel).2⟩) ?_
  exact M.retm [] [0, 1, 2] hst rfl (by kernel_rfl) trivial rfl rfl
 ·rw [h1, cond_false]
  refine M.cl (has_Slot_0 m.sl 112 shapA fun x _ => shapA_spec x) ?_
  refine M.ts (m.sl.any shapA) (fun h2 => ?_) (fun h2 => ?_)
  ·rw [h2, cond_true]
   exact M.retm [] [0, 1, 2] hst rfl (by kernel_rfl) trivial rfl rfl
  ·rw [h2, cond_false]
   refine M.cm [0, 1, 2] (upN (sel := sel) hw hU f sf D m.sl hm hmU hf hr) ?_
   refine M.cm [0, 1, 5, 6] (target_spec hw (upT w sel f (parL m.sl) (sf, D, [])) (upT_out (visT_out f) (parL m.sl) (sf, D, []) (fun x hx => by cases hx))) ?_
   exact M.retm [] [0, 1, 5] hst rfl (by kernel_rfl) trivial rfl rfl
theorem pred3_spec {w : Wd} (hw : w.Ok) {sel : List UInt8} {U : List Int} (hU : Clo w U) (f : Nat) (sf : Atom -> Option Bool) (D : List Dp) (maps : List Mp) (y : Ty) (hy : 0 <= y.n /\ y.n < (maps.length : Int)) (hm : (maps.getD y.n.toNat default).sl.length <= 1000000) (hnm : ∀ s ∈ (maps.getD y.n.toNat default).sl, s.nm.length <= 140737488355328) (hmU : ∀ v ∈ parL (maps.getD y.n.toNat default).sl, startF v ∈ U) (hf : unseen U sf < f) (hr : Room U (sf, D, [])) :
  SpecM Tryz.prog 62 2 (trM w sf D) [.ref 0 0, row 2 Mp.pv maps, .agg y.pv, S sel] (trM w (shapT w sel f sf D (maps.getD y.n.toNat default)).2.1 (shapT w sel f sf D (maps.getD y.n.toNat default)).2.2.1) (.agg (shapT w sel f sf D (maps.getD y.n.toNat default)).1.pv) := by
 refine SpecM.start (by kernel_rfl) Tryz.func62 rfl rfl (Nat.le_of_ble_eq_true rfl) fun w0 L hst => ?_
 refine M.callmp [0 <= y.n /\ y.n < (maps.length : Int)] [0, 1, 2] (shap_spec (sel := sel) hw hU f sf D (maps.getD y.n.toNat default) hm hnm hmU hf hr) (by kernel_rfl) ⟨hy, trivial⟩ ?_
 exact M.retm [] [0, 1, 5] hst rfl (by kernel_rfl) trivial rfl rfl
end Go.Proofs.YtplpnfjccemdnaaGreatDoor
