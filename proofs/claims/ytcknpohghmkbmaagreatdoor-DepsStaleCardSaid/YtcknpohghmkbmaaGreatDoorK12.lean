import Derived.Test.YtcknpohghmkbmaaGreatDoorK11
import Derived.Test.YtcknpohghmkbmaaGreatDoorK10
import Derived.Test.YtcknpohghmkbmaaGreatDoorProg
set_option linter.unusedVariables false
set_option linter.unusedSimpArgs false
/- The texts V22 D1 G1 W1 of the proof, laid one behind the other. -/
namespace Go.Proofs.YtcknpohghmkbmaaGreatDoor
open Go.RowKit
theorem bif_t {α : Type} {b : Bool} {t e r : α} (h : b = true) (hq : (bif b then t else e) = r) : t = r := by rw [h] at hq; exact hq
theorem bif_f {α : Type} {b : Bool} {t e r : α} (h : b = false) (hq : (bif b then t else e) = r) : e = r := by rw [h] at hq; exact hq
section
variable {P : Program} {fn : Func} {w0 : W0} {L : List Nat} {Q : Exit -> Act -> World -> Prop} {c : Cfg} {α β : Type}
theorem M.tq {b : Bool} {t e r : α} (hq : (bif b then t else e) = r) (h1 : b = true -> t = r -> M P fn w0 L Q (assumeC P fn c true)) (h2 : b = false -> e = r -> M P fn w0 L Q (assumeC P fn c false)) (h : viewOf P fn c = .test [] b := by kernel_rfl) : M P fn w0 L Q c :=
 M.test b h (fun e => h1 e (bif_t e hq)) (fun e => h2 e (bif_f e hq))
theorem M.tqp (ps : List Prop) (hp : All ps) {b : Bool} {t e r : α} (hq : (bif b then t else e) = r) (h1 : b = true -> t = r -> M P fn w0 L Q (assumeC P fn c true)) (h2 : b = false -> e = r -> M P fn w0 L Q (assumeC P fn c false)) (h : viewOf P fn c = .test ps b := by kernel_rfl) : M P fn w0 L Q c :=
 M.testp ps b h hp (fun e => h1 e (bif_t e hq)) (fun e => h2 e (bif_f e hq))
theorem M.rq {enc : α -> PV} {v r : α} (hq : v = r) (h : viewOf P fn c = .ret [] (enc v) := by kernel_rfl) : M P fn w0 L (Qf P fn w0 (enc r)) c := M.ret _ h (congrArg enc hq)
theorem M.rqp (ps : List Prop) (hp : All ps) {enc : α -> PV} {v r : α} (hq : v = r) (h : viewOf P fn c = .ret ps (enc v) := by kernel_rfl) : M P fn w0 L (Qf P fn w0 (enc r)) c := M.retp ps _ h hp (congrArg enc hq)
theorem M.cl {g : FuncId} {qs : List PV} {r : PV} (hs : Spec P g qs r) (k : M P fn w0 L Q (afterC P fn c r)) (h : viewOf P fn c = .call [] g qs := by kernel_rfl) (hr : resOk P fn c r = true := by kernel_rfl) : M P fn w0 L Q c := M.call hs h hr k
theorem M.clp (ps : List Prop) (hp : All ps) {g : FuncId} {qs : List PV} {r : PV} (hs : Spec P g qs r) (k : M P fn w0 L Q (afterC P fn c r)) (h : viewOf P fn c = .call ps g qs := by kernel_rfl) (hr : resOk P fn c r = true := by kernel_rfl) : M P fn w0 L Q c := M.callp ps hs h hp hr k
theorem M.len (t : Nat) {n : Nat} (k : n <= 9223372036854775807 -> M P fn w0 L Q (stop P fn.ntmps c).2) (h : (match lk (stop P fn.ntmps c).2.E t with | .sl _ m _ => some m | _ => none) = some n := by kernel_rfl) (h1 : (stop P fn.ntmps c).1 = [] := by kernel_rfl) (hdr : (stop P fn.ntmps c).2.dr = none := by kernel_rfl) : M P fn w0 L Q c := by
 refine ⟨run_ok 3000 c (by rw [show (runC P fn.ntmps 3000 c).1 = [] from h1]; trivial) ?_⟩
 show OkF P fn w0 L Q (stop P fn.ntmps c).2
 generalize (stop P fn.ntmps c).2 = d at h hdr k
 obtain ⟨E, σ, todo, dr⟩ := d
 simp only at h hdr
 subst hdr
 intro β a W hI
 split at h
 ·rename_i kk' m el he
  cases h
  have hr := hI.ev.2 t
  rw [he, R] at hr
  obtain ⟨x, cp, _, h2, h3, _⟩ := hr
  exact (k (by omega)).out β a W hI
 ·cases h
theorem loop_cons {α : Type} [Inhabited α] {l : List α} {i : Nat} (h : i < l.length) : l.drop i = l.getD (i : Int).toNat default :: l.drop (i + 1) := by
 rw [getD_nat h, List.drop_eq_getElem_cons h]
theorem loop_nil {α : Type} {l : List α} {i : Nat} (h : ¬ i < l.length) : l.drop i = [] := List.drop_eq_nil_of_le (by omega)
theorem nlt_of_dec {a b : Nat} (h : decide ((a : Int) < (b : Int)) = false) : ¬ a < b := by simpa using h
end
def oneP : PV -> Bool
 | .v x => x.oneCell'
 | .sb _ => true
 | .sl _ _ _ => true
 | .ptr _ => true
 | .fn _ _ => true
 | .fm _ _ => true
 | .o _ => true
 | _ => false
theorem oneP_R {L : List Nat} {W : World} {p : PV} {u : Value} (h : oneP p = true) (hr : R [] L W p u) : u.oneCell' = true := by
 cases p <;> simp only [oneP] at h <;> first | cases h | skip
 ·rw [R] at hr; rw [hr]; exact h
 ·rw [R] at hr; rw [hr]; rfl
 ·rw [R] at hr; obtain ⟨a, c, rfl, _⟩ := hr; rfl
 ·rw [R] at hr; obtain ⟨b, off, us, rfl, _⟩ := hr; rfl
 ·rw [R] at hr; obtain ⟨us, rfl, _⟩ := hr; rfl
 ·rw [R] at hr; exact hr.1
 ·rw [R] at hr; obtain ⟨_, _, _, rfl, _⟩ := hr; rfl
theorem caps_o {L : List Nat} {W : World} : ∀ {qs : List PV} {us : List Value}, qs.all oneP = true -> Rs [] L W qs us -> Rs [] L W (qs.map PV.o) us
 | [], us, _, h => by rw [Rs] at h; subst h; exact Rs.nil
 | q :: qs, us, h1, h => by
  obtain ⟨u, us', rfl, a, b⟩ := h.uncons
  simp only [List.all_cons, Bool.and_eq_true] at h1
  exact Rs.cons (by rw [R]; exact ⟨oneP_R h1.1 a, a⟩) (caps_o h1.2 b)
theorem caps_un {L : List Nat} {W : World} : ∀ {qs : List PV} {us : List Value}, Rs [] L W (qs.map PV.o) us -> Rs [] L W qs us
 | [], us, h => h
 | q :: qs, us, h => by
  obtain ⟨u, us', rfl, a, b⟩ := h.uncons
  rw [R] at a
  exact Rs.cons a.2 (caps_un b)
theorem Rs.un_app {L : List Nat} {W : World} : ∀ {ps qs : List PV} {us : List Value}, Rs [] L W (ps ++ qs) us -> ∃ vs ws, us = vs ++ ws /\ Rs [] L W ps vs /\ Rs [] L W qs ws
 | [], qs, us, h => ⟨[], us, rfl, Rs.nil, h⟩
 | p :: ps, qs, us, h => by
  obtain ⟨u, us', rfl, a, b⟩ := Rs.uncons h
  obtain ⟨vs, ws, rfl, c, d⟩ := Rs.un_app b
  exact ⟨u :: vs, ws, rfl, Rs.cons a c, d⟩
theorem Spec.capO {P : Program} {f : FuncId} {g : Nat} {ax qs bs : List PV} {r : PV} (h1 : qs.all oneP = true) (h : Spec P f (ax ++ (.fn g (qs.map PV.o) :: bs)) r) : Spec P f (ax ++ (.fn g qs :: bs)) r :=
 Spec.conv h (fun L W vs hv => by
  obtain ⟨us, ws, rfl, a, b⟩ := Rs.un_app hv
  obtain ⟨u, us', rfl, c, d⟩ := b.uncons
  refine a.append (Rs.cons ?_ d)
  rw [R] at c ⊢
  obtain ⟨cs, e, hc⟩ := c
  exact ⟨cs, e, caps_o h1 hc⟩) (fun L W u h => h)
theorem Spec.unO {P : Program} {f : FuncId} {ax qs : List PV} {r : PV} (h : Spec P f (ax ++ qs) r) : Spec P f (ax ++ qs.map PV.o) r :=
 Spec.conv h (fun L W vs hv => by
  obtain ⟨us, ws, rfl, a, b⟩ := Rs.un_app hv
  exact a.append (caps_un b)) (fun L W u h => h)
instance (x : Int) : Decidable (In64 x) := by unfold In64; infer_instance
section
variable {w0 : W0} {L : List Nat} {P : Program} {Q : Exit -> Act -> World -> Prop} {fn : Func} {c : Cfg}
def undrawOk (d : Cfg) : Bool :=
 match d.dr with
 | some q => okS q.all q.ss q.ds && (decide (q.i < q.all.size) && (cutOk q.all q.i && chainOk q.all q.i))
 | none => false
def undrawC (P : Program) (fn : Func) (c : Cfg) : Cfg :=
 let d := (stop P fn.ntmps c).2
 match d.dr with
 | some q => ⟨d.E, d.σ, .ops q.all (q.all.toList.drop q.i) :: d.todo, none⟩
 | none => d
theorem M.undrawp (ps : List Prop) (h : (stop P fn.ntmps c).1 = ps) (hp : All ps) (k : M P fn w0 L Q (undrawC P fn c)) (hok : undrawOk (stop P fn.ntmps c).2 = true := by kernel_rfl) : M P fn w0 L Q c := by
 refine ⟨run_ok 3000 c (by rw [show (runC P fn.ntmps 3000 c).1 = ps from h]; exact hp) ?_⟩
 have k := k.out
 unfold undrawC at k
 show OkF P fn w0 L Q (stop P fn.ntmps c).2
 simp only at k
 generalize (stop P fn.ntmps c).2 = d at hok k
 obtain ⟨E, σ, todo, dr⟩ := d
 unfold undrawOk at hok
 cases dr with
 | none => cases hok
 | some q =>
  simp only [Bool.and_eq_true, decide_eq_true_eq] at hok
  simp only at k
  intro hnd hokD hm hT β a W hI
  exact drawn_cut (.inr hok.2.2.1) hnd hm hokD hok.1 hT (fun h => absurd hok.2.1 (by omega)) (fun _ fuel l β a W hl hf hcl hd hnl hI => chain_list hok.2.2.2 hokD fuel q.i l a W (Nat.le_refl _) hl hf hcl (fun k hk _ => hd k hk) hnl (k β a W hI)) β a W hI
theorem M.undraw (k : M P fn w0 L Q (undrawC P fn c)) (h : (stop P fn.ntmps c).1 = [] := by kernel_rfl) (hok : undrawOk (stop P fn.ntmps c).2 = true := by kernel_rfl) : M P fn w0 L Q c := M.undrawp [] h trivial k hok
end
abbrev I (n : Int) : PV := .v (.int .i64 n)
abbrev S (l : List UInt8) : PV := .v (.string ⟨l.toArray⟩)
abbrev row {α : Type} [Inhabited α] (k : Nat) (f : α -> List PV) (l : List α) : PV := .sl k l.length (fun j => f (l.getD j default))
structure Vl where
 k : Int
 n : Int
 t : List UInt8
 deriving DecidableEq, Inhabited
abbrev Vl.pv (x : Vl) : List PV := [I x.k, I x.n, S x.t]
structure Sl where
 nm : List UInt8
 kd : Int
 v : Vl
 deriving DecidableEq, Inhabited
abbrev Sl.pv (x : Sl) : List PV := [S x.nm, I x.kd, I x.v.k, I x.v.n, S x.v.t]
structure Ob where
 oid : Int
 kd : Int
 sl : List (Sl)
 el : List (Vl)
 code : Int
 up : Int
 deriving DecidableEq, Inhabited
abbrev Ob.pv (x : Ob) : List PV := [I x.oid, I x.kd, row 5 Sl.pv x.sl, row 3 Vl.pv x.el, I x.code, I x.up]
structure In where
 op : Int
 a : Int
 b : Int
 c : Int
 deriving DecidableEq, Inhabited
abbrev In.pv (x : In) : List PV := [I x.op, I x.a, I x.b, I x.c]
structure Cd where
 nm : List UInt8
 blk : Bool
 outer : Int
 args : Int
 names : List (List UInt8)
 init : List (Vl)
 lits : List (Vl)
 sels : List (List UInt8)
 ins : List (In)
 deriving DecidableEq, Inhabited
abbrev Cd.pv (x : Cd) : List PV := [S x.nm, .sb x.blk, I x.outer, I x.args, row 1 (fun s => [S s]) x.names, row 3 Vl.pv x.init, row 3 Vl.pv x.lits, row 1 (fun s => [S s]) x.sels, row 4 In.pv x.ins]
structure Ac where
 aid : Int
 code : Int
 self : Vl
 holder : Int
 up : Int
 vars : List (Vl)
 done : Bool
 deriving DecidableEq, Inhabited
abbrev Ac.pv (x : Ac) : List PV := [I x.aid, I x.code, I x.self.k, I x.self.n, S x.self.t, I x.holder, I x.up, row 3 Vl.pv x.vars, .sb x.done]
structure Wd where
 objs : List (Ob)
 acts : List (Ac)
 cds : List (Cd)
 nO : Int
 nA : Int
 deriving DecidableEq, Inhabited
abbrev Wd.pv (x : Wd) : List PV := [row 6 Ob.pv x.objs, row 9 Ac.pv x.acts, row 9 Cd.pv x.cds, I x.nO, I x.nA]
structure Mp where
 kd : Int
 sl : List (Sl)
 deriving DecidableEq, Inhabited
abbrev Mp.pv (x : Mp) : List PV := [I x.kd, row 5 Sl.pv x.sl]
structure Ty where
 k : Int
 n : Int
 v : Vl
 deriving DecidableEq, Inhabited
abbrev Ty.pv (x : Ty) : List PV := [I x.k, I x.n, I x.v.k, I x.v.n, S x.v.t]
structure Tg where
 kind : Int
 holder : Int
 slot : Int
 own : Bool
 code : Int
 v : Vl
 deriving DecidableEq, Inhabited
abbrev Tg.pv (x : Tg) : List PV := [I x.kind, I x.holder, I x.slot, .sb x.own, I x.code, I x.v.k, I x.v.n, S x.v.t]
structure Dp where
 oid : Int
 whole : Bool
 map : Mp
 slot : Int
 v : Vl
 deriving DecidableEq, Inhabited
abbrev Dp.pv (x : Dp) : List PV := [I x.oid, .sb x.whole, I x.map.kd, row 5 Sl.pv x.map.sl, I x.slot, I x.v.k, I x.v.n, S x.v.t]
structure Ch where
 kind : Int
 oid : Int
 name : List UInt8
 slot : Sl
 deriving DecidableEq, Inhabited
abbrev Ch.pv (x : Ch) : List PV := [I x.kind, I x.oid, S x.name, S x.slot.nm, I x.slot.kd, I x.slot.v.k, I x.slot.v.n, S x.slot.v.t]
theorem idx_Slot_0 (l : List Sl) (g : Nat) (p : Sl -> Bool) (hg : ∀ x ∈ l, Spec Tryz.prog g [.agg x.pv] (.sb (p x))) :
  Spec Tryz.prog 72 [row 5 Sl.pv l, .fn g []] (I (fstI p l)) := by
 refine Spec.fact (by kernel_rfl) 0 rfl fun hf => ?_
 have hl : l.length <= 9223372036854775807 := hf.1
 refine Spec.start (by kernel_rfl) Tryz.func72 rfl rfl fun w0 L => ?_
 refine M.loop (ι := {i : Nat // i <= l.length /\ noneB p l i}) (fun i => [(0, row 5 Sl.pv l), (1, .fn g []), (7, I l.length), (8, I i.1)]) (fun _ => []) (fun i => l.length - i.1) ⟨0, Nat.zero_le _, noneB_zero p l⟩ [] (by kernel_rfl) trivial (by kernel_rfl) (by kernel_rfl) fun ⟨i, hi, hb⟩ ih => ?_
 refine M.test (decide ((i : Int) < (l.length : Int))) (by kernel_rfl) (fun h1 => ?_) (fun h1 => ?_)
 ·have hlt : i < l.length := by simpa using h1
  have hs := hg _ (List.getElem_mem hlt)
  rw [<- getD_nat hlt] at hs
  refine M.callp [0 <= (i : Int) /\ (i : Int) < (l.length : Int)] hs (by kernel_rfl) ⟨by omega, trivial⟩ (by kernel_rfl) ?_
  refine M.test (p (l.getD (i : Int).toNat default)) (by kernel_rfl) (fun h2 => ?_) (fun h2 => ?_)
  ·rw [getD_nat hlt] at h2
   exact M.ret (I i) (by kernel_rfl) (by rw [fstI_at hlt hb h2])
  ·rw [getD_nat hlt] at h2
   exact M.back [In64 ((i : Int) + 1)] (ih ⟨i + 1, hlt, noneB_step hlt hb h2⟩ (by show l.length - (i + 1) < l.length - i; omega)) (by kernel_rfl) ⟨⟨by omega, by omega⟩, trivial⟩ (by kernel_rfl) (by kernel_rfl) (by kernel_rfl) (by kernel_rfl)
 ·exact M.ret (I (-1)) (by kernel_rfl) (by rw [fstI_no (by simpa using h1) hb])
theorem has_Slot_0 (l : List Sl) (g : Nat) (p : Sl -> Bool) (hg : ∀ x ∈ l, Spec Tryz.prog g [.agg x.pv] (.sb (p x))) :
  Spec Tryz.prog 89 [row 5 Sl.pv l, .fn g []] (.sb (l.any p)) := by
 refine Spec.start (by kernel_rfl) Tryz.func89 rfl rfl fun w0 L => ?_
 refine M.call (idx_Slot_0 l g p hg) (by kernel_rfl) (by kernel_rfl) ?_
 exact M.retb (decide (fstI p l >= 0)) (by kernel_rfl) (fstI_any p l)
theorem idx_Slot_1 (l : List Sl) (g : Nat) (q0 : PV) (p : Sl -> Bool) (hg : ∀ x ∈ l, Spec Tryz.prog g [.agg x.pv, .o q0] (.sb (p x))) :
  Spec Tryz.prog 72 [row 5 Sl.pv l, .fn g [.o q0]] (I (fstI p l)) := by
 refine Spec.fact (by kernel_rfl) 0 rfl fun hf => ?_
 have hl : l.length <= 9223372036854775807 := hf.1
 refine Spec.start (by kernel_rfl) Tryz.func72 rfl rfl fun w0 L => ?_
 refine M.loop (ι := {i : Nat // i <= l.length /\ noneB p l i}) (fun i => [(0, row 5 Sl.pv l), (1, .fn g [.o q0]), (7, I l.length), (8, I i.1)]) (fun _ => []) (fun i => l.length - i.1) ⟨0, Nat.zero_le _, noneB_zero p l⟩ [] (by kernel_rfl) trivial (by kernel_rfl) (by kernel_rfl) fun ⟨i, hi, hb⟩ ih => ?_
 refine M.test (decide ((i : Int) < (l.length : Int))) (by kernel_rfl) (fun h1 => ?_) (fun h1 => ?_)
 ·have hlt : i < l.length := by simpa using h1
  have hs := hg _ (List.getElem_mem hlt)
  rw [<- getD_nat hlt] at hs
  refine M.callp [0 <= (i : Int) /\ (i : Int) < (l.length : Int)] hs (by kernel_rfl) ⟨by omega, trivial⟩ (by kernel_rfl) ?_
  refine M.test (p (l.getD (i : Int).toNat default)) (by kernel_rfl) (fun h2 => ?_) (fun h2 => ?_)
  ·rw [getD_nat hlt] at h2
   exact M.ret (I i) (by kernel_rfl) (by rw [fstI_at hlt hb h2])
  ·rw [getD_nat hlt] at h2
   exact M.back [In64 ((i : Int) + 1)] (ih ⟨i + 1, hlt, noneB_step hlt hb h2⟩ (by show l.length - (i + 1) < l.length - i; omega)) (by kernel_rfl) ⟨⟨by omega, by omega⟩, trivial⟩ (by kernel_rfl) (by kernel_rfl) (by kernel_rfl) (by kernel_rfl)
 ·exact M.ret (I (-1)) (by kernel_rfl) (by rw [fstI_no (by simpa using h1) hb])
theorem has_Slot_1 (l : List Sl) (g : Nat) (q0 : PV) (p : Sl -> Bool) (hg : ∀ x ∈ l, Spec Tryz.prog g [.agg x.pv, .o q0] (.sb (p x))) :
  Spec Tryz.prog 89 [row 5 Sl.pv l, .fn g [.o q0]] (.sb (l.any p)) := by
 refine Spec.start (by kernel_rfl) Tryz.func89 rfl rfl fun w0 L => ?_
 refine M.call (idx_Slot_1 l g q0 p hg) (by kernel_rfl) (by kernel_rfl) ?_
 exact M.retb (decide (fstI p l >= 0)) (by kernel_rfl) (fstI_any p l)
theorem idx_Slot_1' (l : List Sl) (g : Nat) (q0 : PV) (p : Sl -> Bool) (h0 : oneP q0 = true) (hg : ∀ x ∈ l, Spec Tryz.prog g [.agg x.pv, q0] (.sb (p x))) :
  Spec Tryz.prog 72 [row 5 Sl.pv l, .fn g [q0]] (I (fstI p l)) :=
 Spec.capO (ax := [row 5 Sl.pv l]) (qs := [q0]) (bs := []) (by simp [h0]) (idx_Slot_1 l g q0 p fun x hx => Spec.unO (ax := [.agg x.pv]) (qs := [q0]) (hg x hx))
theorem has_Slot_1' (l : List Sl) (g : Nat) (q0 : PV) (p : Sl -> Bool) (h0 : oneP q0 = true) (hg : ∀ x ∈ l, Spec Tryz.prog g [.agg x.pv, q0] (.sb (p x))) :
  Spec Tryz.prog 89 [row 5 Sl.pv l, .fn g [q0]] (.sb (l.any p)) :=
 Spec.capO (ax := [row 5 Sl.pv l]) (qs := [q0]) (bs := []) (by simp [h0]) (has_Slot_1 l g q0 p fun x hx => Spec.unO (ax := [.agg x.pv]) (qs := [q0]) (hg x hx))
theorem idx_Map_1 (l : List Mp) (g : Nat) (q0 : PV) (p : Mp -> Bool) (hg : ∀ x ∈ l, Spec Tryz.prog g [.agg x.pv, .o q0] (.sb (p x))) :
  Spec Tryz.prog 138 [row 2 Mp.pv l, .fn g [.o q0]] (I (fstI p l)) := by
 refine Spec.fact (by kernel_rfl) 0 rfl fun hf => ?_
 have hl : l.length <= 9223372036854775807 := hf.1
 refine Spec.start (by kernel_rfl) Tryz.func138 rfl rfl fun w0 L => ?_
 refine M.loop (ι := {i : Nat // i <= l.length /\ noneB p l i}) (fun i => [(0, row 2 Mp.pv l), (1, .fn g [.o q0]), (7, I l.length), (8, I i.1)]) (fun _ => []) (fun i => l.length - i.1) ⟨0, Nat.zero_le _, noneB_zero p l⟩ [] (by kernel_rfl) trivial (by kernel_rfl) (by kernel_rfl) fun ⟨i, hi, hb⟩ ih => ?_
 refine M.test (decide ((i : Int) < (l.length : Int))) (by kernel_rfl) (fun h1 => ?_) (fun h1 => ?_)
 ·have hlt : i < l.length := by simpa using h1
  have hs := hg _ (List.getElem_mem hlt)
  rw [<- getD_nat hlt] at hs
  refine M.callp [0 <= (i : Int) /\ (i : Int) < (l.length : Int)] hs (by kernel_rfl) ⟨by omega, trivial⟩ (by kernel_rfl) ?_
  refine M.test (p (l.getD (i : Int).toNat default)) (by kernel_rfl) (fun h2 => ?_) (fun h2 => ?_)
  ·rw [getD_nat hlt] at h2
   exact M.ret (I i) (by kernel_rfl) (by rw [fstI_at hlt hb h2])
  ·rw [getD_nat hlt] at h2
   exact M.back [In64 ((i : Int) + 1)] (ih ⟨i + 1, hlt, noneB_step hlt hb h2⟩ (by show l.length - (i + 1) < l.length - i; omega)) (by kernel_rfl) ⟨⟨by omega, by omega⟩, trivial⟩ (by kernel_rfl) (by kernel_rfl) (by kernel_rfl) (by kernel_rfl)
 ·exact M.ret (I (-1)) (by kernel_rfl) (by rw [fstI_no (by simpa using h1) hb])
theorem has_Map_1 (l : List Mp) (g : Nat) (q0 : PV) (p : Mp -> Bool) (hg : ∀ x ∈ l, Spec Tryz.prog g [.agg x.pv, .o q0] (.sb (p x))) :
  Spec Tryz.prog 76 [row 2 Mp.pv l, .fn g [.o q0]] (.sb (l.any p)) := by
 refine Spec.start (by kernel_rfl) Tryz.func76 rfl rfl fun w0 L => ?_
 refine M.call (idx_Map_1 l g q0 p hg) (by kernel_rfl) (by kernel_rfl) ?_
 exact M.retb (decide (fstI p l >= 0)) (by kernel_rfl) (fstI_any p l)
theorem has_Map_1' (l : List Mp) (g : Nat) (q0 : PV) (p : Mp -> Bool) (h0 : oneP q0 = true) (hg : ∀ x ∈ l, Spec Tryz.prog g [.agg x.pv, q0] (.sb (p x))) :
  Spec Tryz.prog 76 [row 2 Mp.pv l, .fn g [q0]] (.sb (l.any p)) :=
 Spec.capO (ax := [row 2 Mp.pv l]) (qs := [q0]) (bs := []) (by simp [h0]) (has_Map_1 l g q0 p fun x hx => Spec.unO (ax := [.agg x.pv]) (qs := [q0]) (hg x hx))
theorem idx_Ty_2 (l : List Ty) (g : Nat) (q0 q1 : PV) (p : Ty -> Bool) (hg : ∀ x ∈ l, Spec Tryz.prog g [.agg x.pv, .o q0, .o q1] (.sb (p x))) :
  Spec Tryz.prog 139 [row 5 Ty.pv l, .fn g [.o q0, .o q1]] (I (fstI p l)) := by
 refine Spec.fact (by kernel_rfl) 0 rfl fun hf => ?_
 have hl : l.length <= 9223372036854775807 := hf.1
 refine Spec.start (by kernel_rfl) Tryz.func139 rfl rfl fun w0 L => ?_
 refine M.loop (ι := {i : Nat // i <= l.length /\ noneB p l i}) (fun i => [(0, row 5 Ty.pv l), (1, .fn g [.o q0, .o q1]), (7, I l.length), (8, I i.1)]) (fun _ => []) (fun i => l.length - i.1) ⟨0, Nat.zero_le _, noneB_zero p l⟩ [] (by kernel_rfl) trivial (by kernel_rfl) (by kernel_rfl) fun ⟨i, hi, hb⟩ ih => ?_
 refine M.test (decide ((i : Int) < (l.length : Int))) (by kernel_rfl) (fun h1 => ?_) (fun h1 => ?_)
 ·have hlt : i < l.length := by simpa using h1
  have hs := hg _ (List.getElem_mem hlt)
  rw [<- getD_nat hlt] at hs
  refine M.callp [0 <= (i : Int) /\ (i : Int) < (l.length : Int)] hs (by kernel_rfl) ⟨by omega, trivial⟩ (by kernel_rfl) ?_
  refine M.test (p (l.getD (i : Int).toNat default)) (by kernel_rfl) (fun h2 => ?_) (fun h2 => ?_)
  ·rw [getD_nat hlt] at h2
   exact M.ret (I i) (by kernel_rfl) (by rw [fstI_at hlt hb h2])
  ·rw [getD_nat hlt] at h2
   exact M.back [In64 ((i : Int) + 1)] (ih ⟨i + 1, hlt, noneB_step hlt hb h2⟩ (by show l.length - (i + 1) < l.length - i; omega)) (by kernel_rfl) ⟨⟨by omega, by omega⟩, trivial⟩ (by kernel_rfl) (by kernel_rfl) (by kernel_rfl) (by kernel_rfl)
 ·exact M.ret (I (-1)) (by kernel_rfl) (by rw [fstI_no (by simpa using h1) hb])
theorem has_Ty_2 (l : List Ty) (g : Nat) (q0 q1 : PV) (p : Ty -> Bool) (hg : ∀ x ∈ l, Spec Tryz.prog g [.agg x.pv, .o q0, .o q1] (.sb (p x))) :
  Spec Tryz.prog 78 [row 5 Ty.pv l, .fn g [.o q0, .o q1]] (.sb (l.any p)) := by
 refine Spec.start (by kernel_rfl) Tryz.func78 rfl rfl fun w0 L => ?_
 refine M.call (idx_Ty_2 l g q0 q1 p hg) (by kernel_rfl) (by kernel_rfl) ?_
 exact M.retb (decide (fstI p l >= 0)) (by kernel_rfl) (fstI_any p l)
theorem has_Ty_2' (l : List Ty) (g : Nat) (q0 q1 : PV) (p : Ty -> Bool) (h0 : oneP q0 = true) (h1 : oneP q1 = true) (hg : ∀ x ∈ l, Spec Tryz.prog g [.agg x.pv, q0, q1] (.sb (p x))) :
  Spec Tryz.prog 78 [row 5 Ty.pv l, .fn g [q0, q1]] (.sb (l.any p)) :=
 Spec.capO (ax := [row 5 Ty.pv l]) (qs := [q0, q1]) (bs := []) (by simp [h0, h1]) (has_Ty_2 l g q0 q1 p fun x hx => Spec.unO (ax := [.agg x.pv]) (qs := [q0, q1]) (hg x hx))
theorem idx_Act_1 (l : List Ac) (g : Nat) (q0 : PV) (p : Ac -> Bool) (hg : ∀ x ∈ l, Spec Tryz.prog g [.agg x.pv, .o q0] (.sb (p x))) :
  Spec Tryz.prog 152 [row 9 Ac.pv l, .fn g [.o q0]] (I (fstI p l)) := by
 refine Spec.fact (by kernel_rfl) 0 rfl fun hf => ?_
 have hl : l.length <= 9223372036854775807 := hf.1
 refine Spec.start (by kernel_rfl) Tryz.func152 rfl rfl fun w0 L => ?_
 refine M.loop (ι := {i : Nat // i <= l.length /\ noneB p l i}) (fun i => [(0, row 9 Ac.pv l), (1, .fn g [.o q0]), (7, I l.length), (8, I i.1)]) (fun _ => []) (fun i => l.length - i.1) ⟨0, Nat.zero_le _, noneB_zero p l⟩ [] (by kernel_rfl) trivial (by kernel_rfl) (by kernel_rfl) fun ⟨i, hi, hb⟩ ih => ?_
 refine M.test (decide ((i : Int) < (l.length : Int))) (by kernel_rfl) (fun h1 => ?_) (fun h1 => ?_)
 ·have hlt : i < l.length := by simpa using h1
  have hs := hg _ (List.getElem_mem hlt)
  rw [<- getD_nat hlt] at hs
  refine M.callp [0 <= (i : Int) /\ (i : Int) < (l.length : Int)] hs (by kernel_rfl) ⟨by omega, trivial⟩ (by kernel_rfl) ?_
  refine M.test (p (l.getD (i : Int).toNat default)) (by kernel_rfl) (fun h2 => ?_) (fun h2 => ?_)
  ·rw [getD_nat hlt] at h2
   exact M.ret (I i) (by kernel_rfl) (by rw [fstI_at hlt hb h2])
  ·rw [getD_nat hlt] at h2
   exact M.back [In64 ((i : Int) + 1)] (ih ⟨i + 1, hlt, noneB_step hlt hb h2⟩ (by show l.length - (i + 1) < l.length - i; omega)) (by kernel_rfl) ⟨⟨by omega, by omega⟩, trivial⟩ (by kernel_rfl) (by kernel_rfl) (by kernel_rfl) (by kernel_rfl)
 ·exact M.ret (I (-1)) (by kernel_rfl) (by rw [fstI_no (by simpa using h1) hb])
theorem has_Act_1 (l : List Ac) (g : Nat) (q0 : PV) (p : Ac -> Bool) (hg : ∀ x ∈ l, Spec Tryz.prog g [.agg x.pv, .o q0] (.sb (p x))) :
  Spec Tryz.prog 98 [row 9 Ac.pv l, .fn g [.o q0]] (.sb (l.any p)) := by
 refine Spec.start (by kernel_rfl) Tryz.func98 rfl rfl fun w0 L => ?_
 refine M.call (idx_Act_1 l g q0 p hg) (by kernel_rfl) (by kernel_rfl) ?_
 exact M.retb (decide (fstI p l >= 0)) (by kernel_rfl) (fstI_any p l)
theorem has_Act_1' (l : List Ac) (g : Nat) (q0 : PV) (p : Ac -> Bool) (h0 : oneP q0 = true) (hg : ∀ x ∈ l, Spec Tryz.prog g [.agg x.pv, q0] (.sb (p x))) :
  Spec Tryz.prog 98 [row 9 Ac.pv l, .fn g [q0]] (.sb (l.any p)) :=
 Spec.capO (ax := [row 9 Ac.pv l]) (qs := [q0]) (bs := []) (by simp [h0]) (has_Act_1 l g q0 p fun x hx => Spec.unO (ax := [.agg x.pv]) (qs := [q0]) (hg x hx))
theorem idx_Obj_1 (l : List Ob) (g : Nat) (q0 : PV) (p : Ob -> Bool) (hg : ∀ x ∈ l, Spec Tryz.prog g [.agg x.pv, .o q0] (.sb (p x))) :
  Spec Tryz.prog 154 [row 6 Ob.pv l, .fn g [.o q0]] (I (fstI p l)) := by
 refine Spec.fact (by kernel_rfl) 0 rfl fun hf => ?_
 have hl : l.length <= 9223372036854775807 := hf.1
 refine Spec.start (by kernel_rfl) Tryz.func154 rfl rfl fun w0 L => ?_
 refine M.loop (ι := {i : Nat // i <= l.length /\ noneB p l i}) (fun i => [(0, row 6 Ob.pv l), (1, .fn g [.o q0]), (7, I l.length), (8, I i.1)]) (fun _ => []) (fun i => l.length - i.1) ⟨0, Nat.zero_le _, noneB_zero p l⟩ [] (by kernel_rfl) trivial (by kernel_rfl) (by kernel_rfl) fun ⟨i, hi, hb⟩ ih => ?_
 refine M.test (decide ((i : Int) < (l.length : Int))) (by kernel_rfl) (fun h1 => ?_) (fun h1 => ?_)
 ·have hlt : i < l.length := by simpa using h1
  have hs := hg _ (List.getElem_mem hlt)
  rw [<- getD_nat hlt] at hs
  refine M.callp [0 <= (i : Int) /\ (i : Int) < (l.length : Int)] hs (by kernel_rfl) ⟨by omega, trivial⟩ (by kernel_rfl) ?_
  refine M.test (p (l.getD (i : Int).toNat default)) (by kernel_rfl) (fun h2 => ?_) (fun h2 => ?_)
  ·rw [getD_nat hlt] at h2
   exact M.ret (I i) (by kernel_rfl) (by rw [fstI_at hlt hb h2])
  ·rw [getD_nat hlt] at h2
   exact M.back [In64 ((i : Int) + 1)] (ih ⟨i + 1, hlt, noneB_step hlt hb h2⟩ (by show l.length - (i + 1) < l.length - i; omega)) (by kernel_rfl) ⟨⟨by omega, by omega⟩, trivial⟩ (by kernel_rfl) (by kernel_rfl) (by kernel_rfl) (by kernel_rfl)
 ·exact M.ret (I (-1)) (by kernel_rfl) (by rw [fstI_no (by simpa using h1) hb])
theorem has_Obj_1 (l : List Ob) (g : Nat) (q0 : PV) (p : Ob -> Bool) (hg : ∀ x ∈ l, Spec Tryz.prog g [.agg x.pv, .o q0] (.sb (p x))) :
  Spec Tryz.prog 101 [row 6 Ob.pv l, .fn g [.o q0]] (.sb (l.any p)) := by
 refine Spec.start (by kernel_rfl) Tryz.func101 rfl rfl fun w0 L => ?_
 refine M.call (idx_Obj_1 l g q0 p hg) (by kernel_rfl) (by kernel_rfl) ?_
 exact M.retb (decide (fstI p l >= 0)) (by kernel_rfl) (fstI_any p l)
theorem has_Obj_1' (l : List Ob) (g : Nat) (q0 : PV) (p : Ob -> Bool) (h0 : oneP q0 = true) (hg : ∀ x ∈ l, Spec Tryz.prog g [.agg x.pv, q0] (.sb (p x))) :
  Spec Tryz.prog 101 [row 6 Ob.pv l, .fn g [q0]] (.sb (l.any p)) :=
 Spec.capO (ax := [row 6 Ob.pv l]) (qs := [q0]) (bs := []) (by simp [h0]) (has_Obj_1 l g q0 p fun x hx => Spec.unO (ax := [.agg x.pv]) (qs := [q0]) (hg x hx))
theorem idx_Val_0 (l : List Vl) (g : Nat) (p : Vl -> Bool) (hg : ∀ x ∈ l, Spec Tryz.prog g [.agg x.pv] (.sb (p x))) :
  Spec Tryz.prog 180 [row 3 Vl.pv l, .fn g []] (I (fstI p l)) := by
 refine Spec.fact (by kernel_rfl) 0 rfl fun hf => ?_
 have hl : l.length <= 9223372036854775807 := hf.1
 refine Spec.start (by kernel_rfl) Tryz.func180 rfl rfl fun w0 L => ?_
 refine M.loop (ι := {i : Nat // i <= l.length /\ noneB p l i}) (fun i => [(0, row 3 Vl.pv l), (1, .fn g []), (7, I l.length), (8, I i.1)]) (fun _ => []) (fun i => l.length - i.1) ⟨0, Nat.zero_le _, noneB_zero p l⟩ [] (by kernel_rfl) trivial (by kernel_rfl) (by kernel_rfl) fun ⟨i, hi, hb⟩ ih => ?_
 refine M.test (decide ((i : Int) < (l.length : Int))) (by kernel_rfl) (fun h1 => ?_) (fun h1 => ?_)
 ·have hlt : i < l.length := by simpa using h1
  have hs := hg _ (List.getElem_mem hlt)
  rw [<- getD_nat hlt] at hs
  refine M.callp [0 <= (i : Int) /\ (i : Int) < (l.length : Int)] hs (by kernel_rfl) ⟨by omega, trivial⟩ (by kernel_rfl) ?_
  refine M.test (p (l.getD (i : Int).toNat default)) (by kernel_rfl) (fun h2 => ?_) (fun h2 => ?_)
  ·rw [getD_nat hlt] at h2
   exact M.ret (I i) (by kernel_rfl) (by rw [fstI_at hlt hb h2])
  ·rw [getD_nat hlt] at h2
   exact M.back [In64 ((i : Int) + 1)] (ih ⟨i + 1, hlt, noneB_step hlt hb h2⟩ (by show l.length - (i + 1) < l.length - i; omega)) (by kernel_rfl) ⟨⟨by omega, by omega⟩, trivial⟩ (by kernel_rfl) (by kernel_rfl) (by kernel_rfl) (by kernel_rfl)
 ·exact M.ret (I (-1)) (by kernel_rfl) (by rw [fstI_no (by simpa using h1) hb])
theorem has_Val_0 (l : List Vl) (g : Nat) (p : Vl -> Bool) (hg : ∀ x ∈ l, Spec Tryz.prog g [.agg x.pv] (.sb (p x))) :
  Spec Tryz.prog 150 [row 3 Vl.pv l, .fn g []] (.sb (l.any p)) := by
 refine Spec.start (by kernel_rfl) Tryz.func150 rfl rfl fun w0 L => ?_
 refine M.call (idx_Val_0 l g p hg) (by kernel_rfl) (by kernel_rfl) ?_
 exact M.retb (decide (fstI p l >= 0)) (by kernel_rfl) (fstI_any p l)
theorem idx_Val_1 (l : List Vl) (g : Nat) (q0 : PV) (p : Vl -> Bool) (hg : ∀ x ∈ l, Spec Tryz.prog g [.agg x.pv, .o q0] (.sb (p x))) :
  Spec Tryz.prog 180 [row 3 Vl.pv l, .fn g [.o q0]] (I (fstI p l)) := by
 refine Spec.fact (by kernel_rfl) 0 rfl fun hf => ?_
 have hl : l.length <= 9223372036854775807 := hf.1
 refine Spec.start (by kernel_rfl) Tryz.func180 rfl rfl fun w0 L => ?_
 refine M.loop (ι := {i : Nat // i <= l.length /\ noneB p l i}) (fun i => [(0, row 3 Vl.pv l), (1, .fn g [.o q0]), (7, I l.length), (8, I i.1)]) (fun _ => []) (fun i => l.length - i.1) ⟨0, Nat.zero_le _, noneB_zero p l⟩ [] (by kernel_rfl) trivial (by kernel_rfl) (by kernel_rfl) fun ⟨i, hi, hb⟩ ih => ?_
 refine M.test (decide ((i : Int) < (l.length : Int))) (by kernel_rfl) (fun h1 => ?_) (fun h1 => ?_)
 ·have hlt : i < l.length := by simpa using h1
  have hs := hg _ (List.getElem_mem hlt)
  rw [<- getD_nat hlt] at hs
  refine M.callp [0 <= (i : Int) /\ (i : Int) < (l.length : Int)] hs (by kernel_rfl) ⟨by omega, trivial⟩ (by kernel_rfl) ?_
  refine M.test (p (l.getD (i : Int).toNat default)) (by kernel_rfl) (fun h2 => ?_) (fun h2 => ?_)
  ·rw [getD_nat hlt] at h2
   exact M.ret (I i) (by kernel_rfl) (by rw [fstI_at hlt hb h2])
  ·rw [getD_nat hlt] at h2
   exact M.back [In64 ((i : Int) + 1)] (ih ⟨i + 1, hlt, noneB_step hlt hb h2⟩ (by show l.length - (i + 1) < l.length - i; omega)) (by kernel_rfl) ⟨⟨by omega, by omega⟩, trivial⟩ (by kernel_rfl) (by kernel_rfl) (by kernel_rfl) (by kernel_rfl)
 ·exact M.ret (I (-1)) (by kernel_rfl) (by rw [fstI_no (by simpa using h1) hb])
theorem has_Val_1 (l : List Vl) (g : Nat) (q0 : PV) (p : Vl -> Bool) (hg : ∀ x ∈ l, Spec Tryz.prog g [.agg x.pv, .o q0] (.sb (p x))) :
  Spec Tryz.prog 150 [row 3 Vl.pv l, .fn g [.o q0]] (.sb (l.any p)) := by
 refine Spec.start (by kernel_rfl) Tryz.func150 rfl rfl fun w0 L => ?_
 refine M.call (idx_Val_1 l g q0 p hg) (by kernel_rfl) (by kernel_rfl) ?_
 exact M.retb (decide (fstI p l >= 0)) (by kernel_rfl) (fstI_any p l)
theorem has_Val_1' (l : List Vl) (g : Nat) (q0 : PV) (p : Vl -> Bool) (h0 : oneP q0 = true) (hg : ∀ x ∈ l, Spec Tryz.prog g [.agg x.pv, q0] (.sb (p x))) :
  Spec Tryz.prog 150 [row 3 Vl.pv l, .fn g [q0]] (.sb (l.any p)) :=
 Spec.capO (ax := [row 3 Vl.pv l]) (qs := [q0]) (bs := []) (by simp [h0]) (has_Val_1 l g q0 p fun x hx => Spec.unO (ax := [.agg x.pv]) (qs := [q0]) (hg x hx))
theorem idx_byte_0 (l : List UInt8) (g : Nat) (p : UInt8 -> Bool) (hg : ∀ x ∈ l, Spec Tryz.prog g [.v (.int .u8 x.toNat)] (.sb (p x))) :
  Spec Tryz.prog 163 [row 1 (fun b => [.v (.int .u8 b.toNat)]) l, .fn g []] (I (fstI p l)) := by
 refine Spec.fact (by kernel_rfl) 0 rfl fun hf => ?_
 have hl : l.length <= 9223372036854775807 := hf.1
 refine Spec.start (by kernel_rfl) Tryz.func163 rfl rfl fun w0 L => ?_
 refine M.loop (ι := {i : Nat // i <= l.length /\ noneB p l i}) (fun i => [(0, row 1 (fun b => [.v (.int .u8 b.toNat)]) l), (1, .fn g []), (7, I l.length), (8, I i.1)]) (fun _ => []) (fun i => l.length - i.1) ⟨0, Nat.zero_le _, noneB_zero p l⟩ [] (by kernel_rfl) trivial (by kernel_rfl) (by kernel_rfl) fun ⟨i, hi, hb⟩ ih => ?_
 refine M.test (decide ((i : Int) < (l.length : Int))) (by kernel_rfl) (fun h1 => ?_) (fun h1 => ?_)
 ·have hlt : i < l.length := by simpa using h1
  have hs := hg _ (List.getElem_mem hlt)
  rw [<- getD_nat hlt] at hs
  refine M.callp [0 <= (i : Int) /\ (i : Int) < (l.length : Int)] hs (by kernel_rfl) ⟨by omega, trivial⟩ (by kernel_rfl) ?_
  refine M.test (p (l.getD (i : Int).toNat default)) (by kernel_rfl) (fun h2 => ?_) (fun h2 => ?_)
  ·rw [getD_nat hlt] at h2
   exact M.ret (I i) (by kernel_rfl) (by rw [fstI_at hlt hb h2])
  ·rw [getD_nat hlt] at h2
   exact M.back [In64 ((i : Int) + 1)] (ih ⟨i + 1, hlt, noneB_step hlt hb h2⟩ (by show l.length - (i + 1) < l.length - i; omega)) (by kernel_rfl) ⟨⟨by omega, by omega⟩, trivial⟩ (by kernel_rfl) (by kernel_rfl) (by kernel_rfl) (by kernel_rfl)
 ·exact M.ret (I (-1)) (by kernel_rfl) (by rw [fstI_no (by simpa using h1) hb])
theorem has_byte_0 (l : List UInt8) (g : Nat) (p : UInt8 -> Bool) (hg : ∀ x ∈ l, Spec Tryz.prog g [.v (.int .u8 x.toNat)] (.sb (p x))) :
  Spec Tryz.prog 126 [row 1 (fun b => [.v (.int .u8 b.toNat)]) l, .fn g []] (.sb (l.any p)) := by
 refine Spec.start (by kernel_rfl) Tryz.func126 rfl rfl fun w0 L => ?_
 refine M.call (idx_byte_0 l g p hg) (by kernel_rfl) (by kernel_rfl) ?_
 exact M.retb (decide (fstI p l >= 0)) (by kernel_rfl) (fstI_any p l)
theorem idx_string_0 (l : List (List UInt8)) (g : Nat) (p : (List UInt8) -> Bool) (hg : ∀ x ∈ l, Spec Tryz.prog g [S x] (.sb (p x))) :
  Spec Tryz.prog 197 [row 1 (fun s => [S s]) l, .fn g []] (I (fstI p l)) := by
 refine Spec.fact (by kernel_rfl) 0 rfl fun hf => ?_
 have hl : l.length <= 9223372036854775807 := hf.1
 refine Spec.start (by kernel_rfl) Tryz.func197 rfl rfl fun w0 L => ?_
 refine M.loop (ι := {i : Nat // i <= l.length /\ noneB p l i}) (fun i => [(0, row 1 (fun s => [S s]) l), (1, .fn g []), (7, I l.length), (8, I i.1)]) (fun _ => []) (fun i => l.length - i.1) ⟨0, Nat.zero_le _, noneB_zero p l⟩ [] (by kernel_rfl) trivial (by kernel_rfl) (by kernel_rfl) fun ⟨i, hi, hb⟩ ih => ?_
 refine M.test (decide ((i : Int) < (l.length : Int))) (by kernel_rfl) (fun h1 => ?_) (fun h1 => ?_)
 ·have hlt : i < l.length := by simpa using h1
  have hs := hg _ (List.getElem_mem hlt)
  rw [<- getD_nat hlt] at hs
  refine M.callp [0 <= (i : Int) /\ (i : Int) < (l.length : Int)] hs (by kernel_rfl) ⟨by omega, trivial⟩ (by kernel_rfl) ?_
  refine M.test (p (l.getD (i : Int).toNat default)) (by kernel_rfl) (fun h2 => ?_) (fun h2 => ?_)
  ·rw [getD_nat hlt] at h2
   exact M.ret (I i) (by kernel_rfl) (by rw [fstI_at hlt hb h2])
  ·rw [getD_nat hlt] at h2
   exact M.back [In64 ((i : Int) + 1)] (ih ⟨i + 1, hlt, noneB_step hlt hb h2⟩ (by show l.length - (i + 1) < l.length - i; omega)) (by kernel_rfl) ⟨⟨by omega, by omega⟩, trivial⟩ (by kernel_rfl) (by kernel_rfl) (by kernel_rfl) (by kernel_rfl)
 ·exact M.ret (I (-1)) (by kernel_rfl) (by rw [fstI_no (by simpa using h1) hb])
theorem has_string_0 (l : List (List UInt8)) (g : Nat) (p : (List UInt8) -> Bool) (hg : ∀ x ∈ l, Spec Tryz.prog g [S x] (.sb (p x))) :
  Spec Tryz.prog 167 [row 1 (fun s => [S s]) l, .fn g []] (.sb (l.any p)) := by
 refine Spec.start (by kernel_rfl) Tryz.func167 rfl rfl fun w0 L => ?_
 refine M.call (idx_string_0 l g p hg) (by kernel_rfl) (by kernel_rfl) ?_
 exact M.retb (decide (fstI p l >= 0)) (by kernel_rfl) (fstI_any p l)
def atN (l : List Ob) : Nat -> Atom -> Option Int
 | 0, _ => none
 | i + 1, x => if x = .i (l.getD (i : Int).toNat default).oid then some i else atN l i x
abbrev chg (w : Wd) (i : Nat) : List PV := [row 6 Ob.pv w.objs, row 9 Ac.pv w.acts, row 9 Cd.pv w.cds, I w.nO, I w.nA, .mr i]
theorem indexed_spec (w : Wd) : SpecM Tryz.prog 58 0 [] [.agg w.pv] [chg w 1, [.mp (.int .i64) (.i .i64 (atN w.objs w.objs.length))]] (.ref 0 0) := by
 refine SpecM.fact (by kernel_rfl) 0 rfl fun hf => ?_
 have hl : w.objs.length <= 9223372036854775807 := (hf _ (List.mem_cons_self ..)).1
 refine SpecM.start (by kernel_rfl) Tryz.func58 rfl rfl (Nat.zero_le _) fun w0 L hst => ?_
 refine M.loopL (ι := {i : Nat // i <= w.objs.length}) (fun i => [(3, .ref 2 0), (14, row 6 Ob.pv w.objs), (15, I w.objs.length), (16, I i.1)]) (fun i => [w.pv, [.mp (.int .i64) (.i .i64 (atN w.objs i.1))], chg w 1]) (fun i => w.objs.length - i.1) ⟨0, Nat.zero_le _⟩ [] (by kernel_rfl) trivial (by kernel_rfl) (by kernel_rfl) fun ⟨i, hi⟩ L ih => ?_
 refine M.test (decide ((i : Int) < (w.objs.length : Int))) (by kernel_rfl) (fun h1 => ?_) (fun h1 => ?_)
 ·have hlt : i < w.objs.length := by simpa using h1
  refine M.ren [0 <= (i : Int) /\ (i : Int) < (w.objs.length : Int), In64 ((i : Int) + 1)] [0, 1, 2] hst (by kernel_rfl) ⟨by omega, ⟨by omega, by have := hl; omega⟩, trivial⟩ (by kernel_rfl) (by kernel_rfl) rfl fun L' => ?_
  exact M.back [] (ih ⟨i + 1, hlt⟩ L' (by show w.objs.length - (i + 1) < w.objs.length - i; omega)) (by kernel_rfl) trivial (by kernel_rfl) (by kernel_rfl) (by kernel_rfl) (by kernel_rfl)
 ·have : i = w.objs.length := by have := of_decide_eq_false h1; omega
  subst this
  exact M.retm [] [2, 1] hst rfl (by kernel_rfl) trivial rfl rfl
theorem atN_lt (l : List Ob) (x : Atom) : ∀ (k : Nat) (i : Int), atN l k x = some i -> 0 <= i /\ i < (k : Int)
 | 0, i, h => by cases h
 | k + 1, i, h => by
  unfold atN at h
  split at h
  ·cases h; omega
  ·have := atN_lt l x k i h; omega
abbrev optPV (o : Option (List PV)) : PV := match o with | some cs => .ptr cs | none => .v (.pointer none)
def objAt (w : Wd) (n : Int) : Option Ob := match atN w.objs w.objs.length (.i n) with | some i => some (w.objs.getD i.toNat default) | none => none
abbrev chgF (w : Wd) : List PV := [row 6 Ob.pv w.objs, row 9 Ac.pv w.acts, row 9 Cd.pv w.cds, I w.nO, I w.nA, .fm (.int .i64) (.i .i64 (atN w.objs w.objs.length))]
theorem obj_spec (w : Wd) (n : Int) : Spec Tryz.prog 71 [.ptr (chgF w), I n] (optPV ((objAt w n).map Ob.pv)) := by
 cases ha : atN w.objs w.objs.length (.i n) with
 | none =>
  have e : objAt w n = none := by unfold objAt; rw [ha]
  rw [e]
  refine Spec.start (by kernel_rfl) Tryz.func71 rfl rfl fun w0 L => ?_
  refine M.yes (b := !(atN w.objs w.objs.length (.i n)).isSome) (by rw [ha]; rfl) (by kernel_rfl) ?_
  exact M.ret (.v (.pointer none)) (by kernel_rfl) rfl
 | some i =>
  have e : objAt w n = some (w.objs.getD i.toNat default) := by unfold objAt; rw [ha]
  rw [e]
  have hi := atN_lt _ _ _ _ ha
  refine Spec.start (by kernel_rfl) Tryz.func71 rfl rfl fun w0 L => ?_
  refine M.no (b := !(atN w.objs w.objs.length (.i n)).isSome) (by rw [ha]; rfl) (by kernel_rfl) ?_
  have hv : (atN w.objs w.objs.length (.i n)).getD 0 = i := by rw [ha]; rfl
  exact M.retp [0 <= (atN w.objs w.objs.length (.i n)).getD 0 /\ (atN w.objs w.objs.length (.i n)).getD 0 < (w.objs.length : Int)] (.ptr (w.objs.getD ((atN w.objs w.objs.length (.i n)).getD 0).toNat default).pv) (by kernel_rfl) ⟨by rw [hv]; exact hi, trivial⟩ (by rw [hv]; rfl)
theorem oid_spec (o : Ob) : Spec Tryz.prog 93 [.agg o.pv] (I o.oid) := by
 refine Spec.start (by kernel_rfl) Tryz.func93 rfl rfl fun w0 L => ?_
 exact M.ret (I o.oid) (by kernel_rfl) rfl
theorem aid_spec (o : Ac) : Spec Tryz.prog 95 [.agg o.pv] (I o.aid) := by
 refine Spec.start (by kernel_rfl) Tryz.func95 rfl rfl fun w0 L => ?_
 exact M.ret (I o.aid) (by kernel_rfl) rfl
def incr (last : Int) : List Int -> Option Int
 | [] => some last
 | n :: l => if n <= last then none else incr n l
def numbB (l : List Int) (next : Int) : Bool := match incr 0 l with | some last => decide (last < next) && decide (next <= 1099511627776) | none => false
theorem numbered_Obj (l : List Ob) (next : Int) : Spec Tryz.prog 92 [row 6 Ob.pv l, .fn 93 [], I next] (.sb (numbB (l.map (·.oid)) next)) := by
 refine Spec.fact (by kernel_rfl) 0 rfl fun hf => ?_
 have hl : l.length <= 9223372036854775807 := hf.1
 refine Spec.startL (by kernel_rfl) Tryz.func92 rfl rfl fun w0 L hst => ?_
 refine M.loopL (ι := {q : Nat × Int // q.1 <= l.length /\ incr 0 (l.map (·.oid)) = incr q.2 ((l.map (·.oid)).drop q.1)}) (fun q => [(1, .fn 93 []), (2, I next), (7, I q.1.2), (11, row 6 Ob.pv l), (12, I l.length), (13, I q.1.1)]) (fun _ => []) (fun q => l.length - q.1.1) ⟨(0, 0), Nat.zero_le _, rfl⟩ [] (by kernel_rfl) trivial (by kernel_rfl) (by kernel_rfl) fun ⟨(i, last), hi, hq⟩ L ih => ?_
 refine M.test (decide ((i : Int) < (l.length : Int))) (by kernel_rfl) (fun h1 => ?_) (fun h1 => ?_)
 ·have hlt : i < l.length := by simpa using h1
  have hd : (l.map (·.oid)).drop i = (l.getD (i : Int).toNat default).oid :: (l.map (·.oid)).drop (i + 1) := by
   rw [getD_nat hlt, List.drop_eq_getElem_cons (by simpa using hlt)]; simp
  simp only [hd, incr] at hq
  refine M.callp [0 <= (i : Int) /\ (i : Int) < (l.length : Int)] (oid_spec (l.getD (i : Int).toNat default)) (by kernel_rfl) ⟨by omega, trivial⟩ (by kernel_rfl) ?_
  refine M.test (decide ((l.getD (i : Int).toNat default).oid <= last)) (by kernel_rfl) (fun h2 => ?_) (fun h2 => ?_)
  ·rw [if_pos (of_decide_eq_true h2)] at hq
   exact M.retb false (by kernel_rfl) (by simp only [numbB, hq])
  ·rw [if_neg (of_decide_eq_false h2)] at hq
   refine M.ren [In64 ((i : Int) + 1)] [] hst (by kernel_rfl) ⟨⟨by omega, by omega⟩, trivial⟩ (by kernel_rfl) (by kernel_rfl) rfl fun L' => ?_
   exact M.back [] (ih ⟨(i + 1, (l.getD (i : Int).toNat default).oid), hlt, hq⟩ L' (by show l.length - (i + 1) < l.length - i; omega)) (by kernel_rfl) trivial (by kernel_rfl) (by kernel_rfl) (by kernel_rfl) (by kernel_rfl)
 ·have hd : (l.map (·.oid)).drop i = [] := List.drop_eq_nil_of_le (by have := of_decide_eq_false h1; simp; omega)
  simp only [hd, incr] at hq
  refine M.test (decide (last < next)) (by kernel_rfl) (fun h2 => ?_) (fun h2 => ?_)
  ·exact M.retb (decide (next <= 1099511627776)) (by kernel_rfl) (by simp only [numbB, hq, h2, Bool.true_and])
  ·exact M.retb false (by kernel_rfl) (by simp only [numbB, hq, h2, Bool.false_and])
theorem numbered_Act (l : List Ac) (next : Int) : Spec Tryz.prog 94 [row 9 Ac.pv l, .fn 95 [], I next] (.sb (numbB (l.map (·.aid)) next)) := by
 refine Spec.fact (by kernel_rfl) 0 rfl fun hf => ?_
 have hl : l.length <= 9223372036854775807 := hf.1
 refine Spec.startL (by kernel_rfl) Tryz.func94 rfl rfl fun w0 L hst => ?_
 refine M.loopL (ι := {q : Nat × Int // q.1 <= l.length /\ incr 0 (l.map (·.aid)) = incr q.2 ((l.map (·.aid)).drop q.1)}) (fun q => [(1, .fn 95 []), (2, I next), (7, I q.1.2), (11, row 9 Ac.pv l), (12, I l.length), (13, I q.1.1)]) (fun _ => []) (fun q => l.length - q.1.1) ⟨(0, 0), Nat.zero_le _, rfl⟩ [] (by kernel_rfl) trivial (by kernel_rfl) (by kernel_rfl) fun ⟨(i, last), hi, hq⟩ L ih => ?_
 refine M.test (decide ((i : Int) < (l.length : Int))) (by kernel_rfl) (fun h1 => ?_) (fun h1 => ?_)
 ·have hlt : i < l.length := by simpa using h1
  have hd : (l.map (·.aid)).drop i = (l.getD (i : Int).toNat default).aid :: (l.map (·.aid)).drop (i + 1) := by
   rw [getD_nat hlt, List.drop_eq_getElem_cons (by simpa using hlt)]; simp
  simp only [hd, incr] at hq
  refine M.callp [0 <= (i : Int) /\ (i : Int) < (l.length : Int)] (aid_spec (l.getD (i : Int).toNat default)) (by kernel_rfl) ⟨by omega, trivial⟩ (by kernel_rfl) ?_
  refine M.test (decide ((l.getD (i : Int).toNat default).aid <= last)) (by kernel_rfl) (fun h2 => ?_) (fun h2 => ?_)
  ·rw [if_pos (of_decide_eq_true h2)] at hq
   exact M.retb false (by kernel_rfl) (by simp only [numbB, hq])
  ·rw [if_neg (of_decide_eq_false h2)] at hq
   refine M.ren [In64 ((i : Int) + 1)] [] hst (by kernel_rfl) ⟨⟨by omega, by omega⟩, trivial⟩ (by kernel_rfl) (by kernel_rfl) rfl fun L' => ?_
   exact M.back [] (ih ⟨(i + 1, (l.getD (i : Int).toNat default).aid), hlt, hq⟩ L' (by show l.length - (i + 1) < l.length - i; omega)) (by kernel_rfl) trivial (by kernel_rfl) (by kernel_rfl) (by kernel_rfl) (by kernel_rfl)
 ·have hd : (l.map (·.aid)).drop i = [] := List.drop_eq_nil_of_le (by have := of_decide_eq_false h1; simp; omega)
  simp only [hd, incr] at hq
  refine M.test (decide (last < next)) (by kernel_rfl) (fun h2 => ?_) (fun h2 => ?_)
  ·exact M.retb (decide (next <= 1099511627776)) (by kernel_rfl) (by simp only [numbB, hq, h2, Bool.true_and])
  ·exact M.retb false (by kernel_rfl) (by simp only [numbB, hq, h2, Bool.false_and])
end Go.Proofs.YtcknpohghmkbmaaGreatDoor
