import Derived.Test.YtplpnfjccemdnaaGreatDoorJ12
import Derived.Test.YtplpnfjccemdnaaGreatDoorJ11
import Derived.RecoverIn
set_option linter.unusedVariables false
set_option linter.unusedSimpArgs false
/- The texts P4 Q0 P5 V23 V24 V25 of the proof, laid one behind the other. -/
namespace Go.Proofs.YtplpnfjccemdnaaGreatDoor
open Go.RowKit
def half (i j : Int) : Int := IntKind.i64.wrap ((IntKind.u64.wrap (i + j)).fdiv (2 ^ (min (1 : Int).toNat IntKind.u64.bits)))
theorem half_eq {i j : Int} (h0 : 0 <= i + j) (h1 : i + j <= 9223372036854775807) : half i j = (i + j) / 2 := by
 unfold half
 have e1 : IntKind.u64.wrap (i + j) = i + j := IntWalk.u64_in _ ⟨h0, by omega⟩
 rw [e1]
 have e2 : (i + j).fdiv (2 ^ (min (1 : Int).toNat IntKind.u64.bits)) = (i + j) / 2 := by
  show (i + j).fdiv 2 = (i + j) / 2
  rw [Int.fdiv_eq_ediv_of_nonneg _ (by decide)]
 rw [e2]
 exact IntWalk.i64_in _ ⟨by omega, by omega⟩
theorem half_at {i j : Int} (h0 : 0 <= i) (h : i < j) (h1 : j <= 1000000000) : i <= half i j /\ half i j < j := by
 rw [half_eq (by omega) (by omega)]; omega
def bsch (c : Int -> Int) : Nat -> Int -> Int -> Int
 | 0, i, _ => i
 | n + 1, i, j => if i < j then (if c (half i j) < 0 then bsch c n (half i j + 1) j else bsch c n i (half i j)) else i
theorem bsch_end (c : Int -> Int) {i j : Int} (h : ¬ i < j) : ∀ n, bsch c n i j = i
 | 0 => rfl
 | n + 1 => by unfold bsch; rw [if_neg h]
def bsR (l : List Ob) (cf : Ob -> Int) : Int := bsch (fun h => cf (l.getD h.toNat default)) l.length 0 l.length
theorem bsearch_Obj (l : List Ob) (target : Int) (g : Nat) (cf : Ob -> Int) (hb : l.length <= 1000000000) (hg : ∀ x ∈ l, Spec Tryz.prog g [.agg x.pv, I target] (I (cf x))) :
  Spec Tryz.prog 66 [row 6 Ob.pv l, I target, .fn g []] (.tup [I (bsR l cf), .sb (decide (bsR l cf < l.length) && cf (l.getD (bsR l cf).toNat default) == 0)]) := by
 have hg' : ∀ h : Int, 0 <= h -> h < l.length -> Spec Tryz.prog g [.agg (l.getD h.toNat default).pv, I target] (I (cf (l.getD h.toNat default))) := fun h h0 h1 => by
  have hlt : h.toNat < l.length := by omega
  have := hg _ (List.getElem_mem hlt)
  rwa [show l[h.toNat] = l.getD h.toNat default by simp [List.getD_eq_getElem?_getD, hlt]] at this
 refine Spec.start (by kernel_rfl) Tryz.func66 rfl rfl fun w0 L => ?_
 refine M.loop (ι := {q : Int × Int × Nat // 0 <= q.1 /\ q.1 <= q.2.1 /\ q.2.1 <= l.length /\ (q.2.1 - q.1).toNat <= q.2.2 /\ bsR l cf = bsch (fun h => cf (l.getD h.toNat default)) q.2.2 q.1 q.2.1})
  (fun q => [(0, row 6 Ob.pv l), (1, I target), (2, .fn g []), (8, I l.length), (9, I q.1.1), (10, I q.1.2.1)]) (fun _ => []) (fun q => q.1.2.2) ⟨(0, l.length, l.length), by simp only; omega, by simp only; omega, by simp only; omega, by simp only; omega, rfl⟩ [] (by kernel_rfl) trivial (by kernel_rfl) (by kernel_rfl) fun ⟨(i, j, n), hi, hij, hj, hn, hq⟩ ih => ?_
 simp only at hi hij hj hn hq
 refine M.ts (decide (i < j)) (fun h1 => ?_) (fun h1 => ?_)
 ·have h1 := of_decide_eq_true h1
  obtain ⟨ha, hc⟩ := half_at hi h1 (by omega)
  obtain ⟨n, rfl⟩ : ∃ m, n = m + 1 := ⟨n - 1, by omega⟩
  unfold bsch at hq
  rw [if_pos h1] at hq
  refine M.callp [In64 (i + j), (0 : Int) <= 1, 0 <= half i j /\ half i j < l.length] (hg' (half i j) (by omega) (by omega)) (by kernel_rfl) ⟨⟨by omega, by omega⟩, by decide, by omega, trivial⟩ (by kernel_rfl) ?_
  refine M.ts (decide (cf (l.getD (half i j).toNat default) < 0)) (fun h2 => ?_) (fun h2 => ?_)
  ·rw [if_pos (of_decide_eq_true h2)] at hq
   exact M.bk [In64 (half i j + 1)] (ih ⟨(half i j + 1, j, n), by simp only; omega, by simp only; omega, hj, by simp only; omega, hq⟩ (Nat.lt_succ_self n)) ⟨⟨by omega, by omega⟩, trivial⟩
  ·rw [if_neg (of_decide_eq_false h2)] at hq
   exact M.bk [] (ih ⟨(i, half i j, n), hi, ha, by simp only; omega, by simp only; omega, hq⟩ (Nat.lt_succ_self n)) trivial
 ·have h1 := of_decide_eq_false h1
  rw [bsch_end _ h1] at hq
  refine M.ts (decide (i < (l.length : Int))) (fun h2 => ?_) (fun h2 => ?_)
  ·have h3 := of_decide_eq_true h2
   refine M.callp [0 <= i /\ i < (l.length : Int)] (hg' i hi h3) (by kernel_rfl) ⟨⟨hi, h3⟩, trivial⟩ (by kernel_rfl) ?_
   exact M.ret (.tup [I i, .sb (cf (l.getD i.toNat default) == 0)]) (by kernel_rfl) (by rw [hq, h2, Bool.true_and])
  ·exact M.ret (.tup [I i, .sb false]) (by kernel_rfl) (by rw [hq, h2, Bool.false_and])
structure Fo where
 holder : Int
 slot : Int
 set : Bool
 deriving DecidableEq, Inhabited
abbrev Fo.pv (x : Fo) : List PV := [I x.holder, I x.slot, .sb x.set]
def countF (v : Vl) : Bool := (bif v.k == 1 then (bif v.t == [] then (bif decide (v.n >= 0) then decide (v.n <= 1099511627776) else false) else false) else false)
theorem count_spec' (v : Vl) (r : Bool) (hq : countF v = r) : Spec Tryz.prog 177 [.agg v.pv] (.sb r) := by
 unfold countF at hq
 refine Spec.startL (by kernel_rfl) Tryz.func177 rfl rfl fun w0 L hst => ?_
 refine M.tq hq (fun h1 q2 => ?_) (fun h1 q2 => ?_)
 ·refine M.tq q2 (fun h3 q4 => ?_) (fun h3 q4 => ?_)
  ·refine M.tq q4 (fun h5 q6 => ?_) (fun h5 q6 => ?_)
   ·exact M.rq q6
   ·exact M.rq q6
  ·exact M.rq q4
 ·exact M.rq q2
theorem count_spec (v : Vl) : Spec Tryz.prog 177 [.agg v.pv] (.sb (countF v)) := count_spec' v _ rfl
def plainObF (o : Ob) : Bool := (bif o.code == 0 then o.up == 0 else false)
theorem plainOb_spec' (o : Ob) (r : Bool) (hq : plainObF o = r) : Spec Tryz.prog 172 [.agg o.pv] (.sb r) := by
 unfold plainObF at hq
 refine Spec.startL (by kernel_rfl) Tryz.func172 rfl rfl fun w0 L hst => ?_
 refine M.tq hq (fun h1 q2 => ?_) (fun h1 q2 => ?_)
 ·exact M.rq q2
 ·exact M.rq q2
theorem plainOb_spec (o : Ob) : Spec Tryz.prog 172 [.agg o.pv] (.sb (plainObF o)) := plainOb_spec' o _ rfl
def refF (n : Int) : Vl := Vl.mk 4 n []
theorem ref_spec' (n : Int) (r : Vl) (hq : refF n = r) : Spec Tryz.prog 53 [I n] (.agg r.pv) := by
 unfold refF at hq
 refine Spec.startL (by kernel_rfl) Tryz.func53 rfl rfl fun w0 L hst => ?_
 exact M.rq (enc := fun r : Vl => .agg r.pv) hq
theorem ref_spec (n : Int) : Spec Tryz.prog 53 [I n] (.agg (refF n).pv) := ref_spec' n _ rfl
def ofF (s : Sl) (x : Fo) : Tg := (bif x.set then Tg.mk 5 x.holder x.slot false 0 (Vl.mk 0 0 []) else (bif s.v.k == 5 then Tg.mk 6 x.holder x.slot false s.v.n (Vl.mk 0 0 []) else (bif assignB s then Tg.mk 4 x.holder x.slot false 0 (Vl.mk 0 0 []) else Tg.mk 3 x.holder x.slot false 0 s.v)))
theorem of_spec' (s : Sl) (x : Fo) (r : Tg) (hq : ofF s x = r) : Spec Tryz.prog 78 [.agg s.pv, .agg x.pv] (.agg r.pv) := by
 unfold ofF at hq
 refine Spec.startL (by kernel_rfl) Tryz.func78 rfl rfl fun w0 L hst => ?_
 refine M.tq hq (fun h1 q2 => ?_) (fun h1 q2 => ?_)
 ·exact M.rq (enc := fun r : Tg => .agg r.pv) q2
 ·refine M.tq q2 (fun h3 q4 => ?_) (fun h3 q4 => ?_)
  ·exact M.rq (enc := fun r : Tg => .agg r.pv) q4
  ·refine M.cl (assignable_spec s) ?_
   refine M.tq q4 (fun h5 q6 => ?_) (fun h5 q6 => ?_)
   ·exact M.rq (enc := fun r : Tg => .agg r.pv) q6
   ·exact M.rq (enc := fun r : Tg => .agg r.pv) q6
theorem of_spec (s : Sl) (x : Fo) : Spec Tryz.prog 78 [.agg s.pv, .agg x.pv] (.agg (ofF s x).pv) := of_spec' s x _ rfl
def haObF (o : Ob) (n : Int) : Int := cmpF o.oid n
theorem haOb_spec' (o : Ob) (n : Int) (r : Int) (hq : haObF o n = r) : Spec Tryz.prog 67 [.agg o.pv, I n] (I r) := by
 unfold haObF at hq
 refine Spec.startL (by kernel_rfl) Tryz.func67 rfl rfl fun w0 L hst => ?_
 refine M.cl (compare_spec o.oid n) ?_
 exact M.rq hq
theorem haOb_spec (o : Ob) (n : Int) : Spec Tryz.prog 67 [.agg o.pv, I n] (I (haObF o n)) := haOb_spec' o n _ rfl
def matchA (s : Sl) (sel : List UInt8) : Bool := s.nm == sel
theorem matchA_spec' (s : Sl) (sel : List UInt8) (r : Bool) (hq : matchA s sel = r) : Spec Tryz.prog 122 [.agg s.pv, .ptr [S sel]] (.sb r) := by
 unfold matchA at hq
 refine Spec.startL (by kernel_rfl) Tryz.func122 rfl rfl fun w0 L hst => ?_
 exact M.rq hq
theorem matchA_spec (s : Sl) (sel : List UInt8) : Spec Tryz.prog 122 [.agg s.pv, .ptr [S sel]] (.sb (matchA s sel)) := matchA_spec' s sel _ rfl
def matchB (s : Sl) (sel : List UInt8) : Bool := (bif assignB s then s.nm ++ [58] == sel else false)
theorem matchB_spec' (s : Sl) (sel : List UInt8) (hb : s.nm.length <= 140737488355328) (r : Bool) (hq : matchB s sel = r) : Spec Tryz.prog 123 [.agg s.pv, .ptr [S sel]] (.sb r) := by
 unfold matchB at hq
 refine Spec.startL (by kernel_rfl) Tryz.func123 rfl rfl fun w0 L hst => ?_
 refine M.cl (assignable_spec s) ?_
 refine M.tq hq (fun h1 q2 => ?_) (fun h1 q2 => ?_)
 ·exact M.rqp [(↑(s.nm.length + 1) : Int) <= 9223372036854775807] ⟨(by first | rfl | omega | (constructor <;> omega) | assumption | (exact hb _ ‹_›) | trivial | (simp_all; done) | (simp_all; omega) | (simp_all [In64]; omega)), trivial⟩ q2
 ·exact M.rq q2
theorem matchB_spec (s : Sl) (sel : List UInt8) (hb : s.nm.length <= 140737488355328) : Spec Tryz.prog 123 [.agg s.pv, .ptr [S sel]] (.sb (matchB s sel)) := matchB_spec' s sel hb _ rfl
def matchF (l : List Sl) (sel : List UInt8) : Int × Bool := (bif decide (fstI (fun x => matchA x sel) l >= 0) then (fstI (fun x => matchA x sel) l, false) else (fstI (fun x => matchB x sel) l, true))
theorem match_spec' (l : List Sl) (sel : List UInt8) (hb : ∀ s ∈ l, s.nm.length <= 140737488355328) (r : Int × Bool) (hq : matchF l sel = r) : Spec Tryz.prog 84 [row 5 Sl.pv l, S sel] (.tup [I r.1, .sb r.2]) := by
 unfold matchF at hq
 refine Spec.startL (by kernel_rfl) Tryz.func84 rfl rfl fun w0 L hst => ?_
 refine M.cl (idx_Slot_1' l 122 (PV.ptr [PV.v (Value.string (ByteArray.mk sel.toArray))]) (fun x => matchA x sel) ((by first | rfl | omega | (constructor <;> omega) | assumption | (exact hb _ ‹_›) | trivial | (simp_all; done) | (simp_all; omega) | (simp_all [In64]; omega))) (fun x hx1 => matchA_spec x sel)) ?_
 refine M.tq hq (fun h1 q2 => ?_) (fun h1 q2 => ?_)
 ·exact M.rq (enc := fun r : Int × Bool => .tup [I r.1, .sb r.2]) q2
 ·refine M.cl (idx_Slot_1' l 123 (PV.ptr [PV.v (Value.string (ByteArray.mk sel.toArray))]) (fun x => matchB x sel) ((by first | rfl | omega | (constructor <;> omega) | assumption | (exact hb _ ‹_›) | trivial | (simp_all; done) | (simp_all; omega) | (simp_all [In64]; omega))) (fun x hx1 => matchB_spec x sel (by first | rfl | omega | (constructor <;> omega) | assumption | (exact hb _ ‹_›) | trivial | (simp_all; done) | (simp_all; omega) | (simp_all [In64]; omega)))) ?_
  exact M.rq (enc := fun r : Int × Bool => .tup [I r.1, .sb r.2]) q2
theorem match_spec (l : List Sl) (sel : List UInt8) (hb : ∀ s ∈ l, s.nm.length <= 140737488355328) : Spec Tryz.prog 84 [row 5 Sl.pv l, S sel] (.tup [I (matchF l sel).1, .sb (matchF l sel).2]) := match_spec' l sel hb _ rfl
def shapA (s : Sl) : Bool := s.kd == 4
theorem shapA_spec' (s : Sl) (r : Bool) (hq : shapA s = r) : Spec Tryz.prog 112 [.agg s.pv] (.sb r) := by
 unfold shapA at hq
 refine Spec.startL (by kernel_rfl) Tryz.func112 rfl rfl fun w0 L hst => ?_
 exact M.rq hq
theorem shapA_spec (s : Sl) : Spec Tryz.prog 112 [.agg s.pv] (.sb (shapA s)) := shapA_spec' s _ rfl
def bsRA (l : List Ac) (cf : Ac -> Int) : Int := bsch (fun h => cf (l.getD h.toNat default)) l.length 0 l.length
theorem bsearch_Act (l : List Ac) (target : Int) (g : Nat) (cf : Ac -> Int) (hb : l.length <= 1000000000) (hg : ∀ x ∈ l, Spec Tryz.prog g [.agg x.pv, I target] (I (cf x))) :
  Spec Tryz.prog 227 [row 9 Ac.pv l, I target, .fn g []] (.tup [I (bsRA l cf), .sb (decide (bsRA l cf < l.length) && cf (l.getD (bsRA l cf).toNat default) == 0)]) := by
 have hg' : ∀ h : Int, 0 <= h -> h < l.length -> Spec Tryz.prog g [.agg (l.getD h.toNat default).pv, I target] (I (cf (l.getD h.toNat default))) := fun h h0 h1 => by
  have hlt : h.toNat < l.length := by omega
  have := hg _ (List.getElem_mem hlt)
  rwa [show l[h.toNat] = l.getD h.toNat default by simp [List.getD_eq_getElem?_getD, hlt]] at this
 refine Spec.start (by kernel_rfl) Tryz.func227 rfl rfl fun w0 L => ?_
 refine M.loop (ι := {q : Int × Int × Nat // 0 <= q.1 /\ q.1 <= q.2.1 /\ q.2.1 <= l.length /\ (q.2.1 - q.1).toNat <= q.2.2 /\ bsRA l cf = bsch (fun h => cf (l.getD h.toNat default)) q.2.2 q.1 q.2.1})
  (fun q => [(0, row 9 Ac.pv l), (1, I target), (2, .fn g []), (8, I l.length), (9, I q.1.1), (10, I q.1.2.1)]) (fun _ => []) (fun q => q.1.2.2) ⟨(0, l.length, l.length), by simp only; omega, by simp only; omega, by simp only; omega, by simp only; omega, rfl⟩ [] (by kernel_rfl) trivial (by kernel_rfl) (by kernel_rfl) fun ⟨(i, j, n), hi, hij, hj, hn, hq⟩ ih => ?_
 simp only at hi hij hj hn hq
 refine M.ts (decide (i < j)) (fun h1 => ?_) (fun h1 => ?_)
 ·have h1 := of_decide_eq_true h1
  obtain ⟨ha, hc⟩ := half_at hi h1 (by omega)
  obtain ⟨n, rfl⟩ : ∃ m, n = m + 1 := ⟨n - 1, by omega⟩
  unfold bsch at hq
  rw [if_pos h1] at hq
  refine M.callp [In64 (i + j), (0 : Int) <= 1, 0 <= half i j /\ half i j < l.length] (hg' (half i j) (by omega) (by omega)) (by kernel_rfl) ⟨⟨by omega, by omega⟩, by decide, by omega, trivial⟩ (by kernel_rfl) ?_
  refine M.ts (decide (cf (l.getD (half i j).toNat default) < 0)) (fun h2 => ?_) (fun h2 => ?_)
  ·rw [if_pos (of_decide_eq_true h2)] at hq
   exact M.bk [In64 (half i j + 1)] (ih ⟨(half i j + 1, j, n), by simp only; omega, by simp only; omega, hj, by simp only; omega, hq⟩ (Nat.lt_succ_self n)) ⟨⟨by omega, by omega⟩, trivial⟩
  ·rw [if_neg (of_decide_eq_false h2)] at hq
   exact M.bk [] (ih ⟨(i, half i j, n), hi, ha, by simp only; omega, by simp only; omega, hq⟩ (Nat.lt_succ_self n)) trivial
 ·have h1 := of_decide_eq_false h1
  rw [bsch_end _ h1] at hq
  refine M.ts (decide (i < (l.length : Int))) (fun h2 => ?_) (fun h2 => ?_)
  ·have h3 := of_decide_eq_true h2
   refine M.callp [0 <= i /\ i < (l.length : Int)] (hg' i hi h3) (by kernel_rfl) ⟨⟨hi, h3⟩, trivial⟩ (by kernel_rfl) ?_
   exact M.ret (.tup [I i, .sb (cf (l.getD i.toNat default) == 0)]) (by kernel_rfl) (by rw [hq, h2, Bool.true_and])
  ·exact M.ret (.tup [I i, .sb false]) (by kernel_rfl) (by rw [hq, h2, Bool.false_and])
def viewX (P : Program) (fn : Func) (c : Cfg) : Option (List Prop × PV) :=
 let s := stop P fn.ntmps c
 match s.2.dr, s.2.todo with
 | none, .ops all (o :: _) :: _ =>
  match guardP all s.2.E o with
  | some true => match o.op with
   | .panic x => match evA s.2.E x with
    | .v (.iface t y) => some (s.1, .v (.iface t y))
    | _ => none
   | _ => none
  | _ => none
 | _, _ => none
section
variable {w0 : W0} {W : World} {L : List Nat} {β : List (Option Nat)} {N : Nat} {P : Program} {Q : Exit -> Act -> World -> Prop} {fn : Func} {σ : Sig} {E : Env} {a : Act} {c : Cfg}
theorem Ok.pan {x : PV} {ps : List Prop} (h : viewX P fn c = some (ps, x)) (hp : All ps) (k : OkP fn w0 Q (stop P fn.ntmps c).2.σ (stop P fn.ntmps c).2.E x) : OkF P fn w0 L Q c := by
 unfold viewX at h
 simp only at h
 split at h
 ·rename_i all o r t hdr ht
  split at h
  ·rename_i hg
   split at h
   ·rename_i y ho
    split at h
    ·rename_i tt yy hv
     simp only [Option.some.injEq, Prod.mk.injEq] at h
     obtain ⟨h1, h2⟩ := h
     refine run_ok 3000 c (by rw [show (runC P fn.ntmps 3000 c).1 = ps from h1]; exact hp) ?_
     show OkF P fn w0 L Q (stop P fn.ntmps c).2
     clear h1
     generalize (stop P fn.ntmps c).2 = d at hdr ht hg hv k
     obtain ⟨E, σ, todo, dr⟩ := d
     simp only at hdr ht hg hv k
     subst hdr; subst ht; subst h2
     intro β a W hI
     have hev := evA_R hI.ev y
     rw [hv, R] at hev
     show wpListIn (Fr w0.ro) 0 P all _ (o :: r) a W
     refine list_wp (by rw [ho]; rfl) (guard_wanted hI.ev hg) ?_
     unfold Oper.wp execOp
     rw [ho]
     simp only [Sem.run_bind, hev, Instr.panic, goPanic, Sem.run, Result.andThen]
     exact wpK_panic (k L β a W _ hI (by rw [R]))
    ·cases h
   ·cases h
  ·cases h
 ·cases h
def panOk (c : Cfg) : Bool :=
 match c.dr with
 | none => true
 | some q => okS q.all q.ss q.ds && (decide (q.i < q.all.size) && cutOk q.all q.i)
theorem Ok.callP {g : FuncId} {m : Nat} {σ0 σ1 : Sig} {qs : List PV} {x : PV} {ps : List Prop} (is : List Nat) (hs : SpecP P g m σ0 qs σ1 x) (h : viewM P fn c is = some (ps, g, σ0, qs)) (hp : All ps) (hdr : panOk (stop P fn.ntmps c).2 = true)
  (k : OkP fn w0 Q (mergeS is m (stop P fn.ntmps c).2.σ σ1) (stop P fn.ntmps c).2.E (renP (outF is m (stop P fn.ntmps c).2.σ.length) 8 x)) : OkF P fn w0 L Q c := by
 unfold viewM at h
 simp only at h
 split at h
 ·rename_i g' rs hc
  split at h
  ·rename_i hρ
   simp only [Option.some.injEq, Prod.mk.injEq] at h
   obtain ⟨e1, e2, e3, e4⟩ := h
   subst e2
   refine run_ok 3000 c (by rw [show (runC P fn.ntmps 3000 c).1 = ps from e1]; exact hp) ?_
   show OkF P fn w0 L Q (stop P fn.ntmps c).2
   clear e1
   generalize (stop P fn.ntmps c).2 = d at hdr hc hρ e3 e4 k
   obtain ⟨E, σ, todo, dr⟩ := d
   simp only at hdr hc hρ e3 e4 k
   cases dr with
   | some q =>
    unfold panOk at hdr
    simp only [Bool.and_eq_true, decide_eq_true_eq] at hdr
    intro hnd hok hm hT
    unfold callC at hc
    simp only at hc hT ⊢
    split at hc
    ·rename_i o ho
     split at hc
     ·rename_i hd
      split at hc
      ·rename_i hg
       split at hc
       ·rename_i g1 rs1 hoc
        cases hc
        refine drawn_cut (.inr hdr.2.2) hnd hm hok hdr.1 hT (fun h => absurd hdr.2.1 (by omega)) fun _ fuel l β a W hl hf hcl hd1 hnl hI => cut_one hdr.2.2 hdr.2.1 (fun K => ?_) fuel l hl hf hcl hd1 hnl hok
        have hw := guard_wanted hI.ev hg
        unfold wpOpIn
        simp only [ho]
        rw [if_pos hw]
        exact op_in (noDef_at hnd ho) (callOpP hI hoc hs hρ e3 e4 _ _ fun γ u W' hi hr => wpK_panic (k L γ _ W' u hi hr))
       ·cases hc
      ·cases hc
     ·cases hc
    ·cases hc
   | none =>
   intro β a W hI
   unfold callC at hc
   simp only at hc hI ⊢
   split at hc
   ·rename_i all o l k'
    split at hc
    ·rename_i hd
     split at hc
     ·rename_i hg
      have hw := guard_wanted hI.ev hg
      split at hc
      ·exact list_wp (opC_nd hc) hw (callOpP hI hc hs hρ e3 e4 _ _ fun γ u W' hi hr => wpK_panic (k L γ _ W' u hi hr))
      ·cases hc
     ·cases hc
    ·cases hc
   ·cases hc
  ·cases h
 ·cases h
theorem M.pan {x : PV} (ps : List Prop) (h : viewX P fn c = some (ps, x)) (hp : All ps) (k : OkP fn w0 Q (stop P fn.ntmps c).2.σ (stop P fn.ntmps c).2.E x) : M P fn w0 L Q c := ⟨Ok.pan h hp k⟩
theorem M.callP {g : FuncId} {m : Nat} {σ0 σ1 : Sig} {qs : List PV} {x : PV} (ps : List Prop) (is : List Nat) (hs : SpecP P g m σ0 qs σ1 x) (h : viewM P fn c is = some (ps, g, σ0, qs)) (hp : All ps) (hdr : panOk (stop P fn.ntmps c).2 = true)
  (k : OkP fn w0 Q (mergeS is m (stop P fn.ntmps c).2.σ σ1) (stop P fn.ntmps c).2.E (renP (outF is m (stop P fn.ntmps c).2.σ.length) 8 x)) : M P fn w0 L Q c := ⟨Ok.callP is hs h hp hdr k⟩
def Ep (w0 : W0) (σ : Sig) (x : PV) (e : Ending) (W' : World) : Prop := ∃ u γ L1, e = .panicked [{ v := u, recovered := false }] /\ R γ L1 W' x u /\ Bx γ L1 W' σ /\ Near w0 W' /\ (∀ g, some g ∈ γ -> some g ∈ w0.own \/ w0.w.heap.size <= g) /\ (γ.take w0.stay = w0.own.take w0.stay /\ w0.stay <= γ.length) /\ (∀ g ∈ w0.lock, g ∈ L1) /\ ∀ g, some g ∈ w0.own -> Fb γ L1 g
def Qp (P : Program) (fn : Func) (w0 : W0) (σ : Sig) (x : PV) (e : Exit) (a : Act) (w : World) : Prop :=
 w0.dfs = [] -> bodyPostM Fence.wide 0 P fn (Ep w0 σ x) e a w
theorem leave_pan {RR : Ending -> World -> Prop} {ch : List PanicEntry} (hd : w0.dfs = []) (hI : Inv w0 L β σ N E a W) (fin : ∀ a' W', Inv w0 L β σ N E a' W' -> (∀ p u, R β L W p u -> R β L W' p u) -> RR (.panicked ch) W') :
  LeavesInM Fence.wide 0 P fn a.tmps RR a.defers (.panicking ch) W := by
 obtain ⟨Ds, e, -, nd, hD⟩ := hI.nod
 rw [hd, List.append_nil] at e
 have h0 : Inv w0 L β σ N E { a with defers := [] } W := { hI with ev := hI.ev, nod := Nod.nil hd.symm }
 rw [e]
 clear e hI
 revert h0 fin
 induction Ds generalizing W with
 | nil => exact fun fin h0 => fin { a with defers := [] } W h0 fun _ _ h => h
 | cons D Ds ih =>
  intro fin h0
  have hh := hD D (List.mem_cons_self ..)
  have ho : ∀ k, k ≠ D -> (W.putObj D (.deferred none)).heap[k]? = W.heap[k]? := fun k hk => World.putObj_heap_other hk
  have hsz : (W.putObj D (.deferred none)).heap.size = W.heap.size := World.putObj_size
  have mv : ∀ p u, R β L W p u -> R β L (W.putObj D (.deferred none)) p u := fun p u h =>
   R.move (by omega) p u β L β L (fun k hk _ => ho k (fun e => hk (.inr (by rw [e]; exact hh.1)))) (fun i x hx => ⟨hx, fun g e => shape_eq (ho g (fun e' => (h0.old D hh.1).2 (by rw [<- e', <- e]; exact List.mem_of_getElem? hx)))⟩) (fun _ h => .inl h) h
  refine ⟨by simp, .inl ⟨D, W.putObj D (.deferred none), rfl, run_takeDeferred hh.2.2, ?_⟩⟩
  refine ih (List.nodup_cons.1 nd).2 (fun D' hD' => ?_) (fun a' W' hi hm => fin a' W' hi fun p u h => hm p u (mv p u h)) (h0.turn hh.1 hh.2.1 _ rfl (Nod.nil hd.symm))
  have h1 := hD D' (List.mem_cons_of_mem _ hD')
  exact ⟨h1.1, h1.2.1, (World.putObj_heap_other (fun e => (List.nodup_cons.1 nd).1 (by rw [<- e]; exact hD'))).trans h1.2.2⟩
theorem OkP.done {σ1 : Sig} {x x1 : PV} {n : Nat} (ρ : List Nat) (hst : w0.stay = n) (hm : ρ.take n = List.range n) (hρ : renOk σ ρ = true) (hσ : renS ρ σ = σ1) (hx : renP (invF ρ 0) 8 x = x1) : OkP fn w0 (Qp P fn w0 σ1 x1) σ E x := by
 subst hst
 intro L β a W u hI hr hd
 refine leave_pan hd hI fun a' W' hi hmv => ?_
 have h2 := hi.ren hρ hm
 have hsub : ∀ g, some g ∈ renB ρ β -> some g ∈ β := fun g hg => renB_sub hi.bx.1 hρ hg
 have hF := fb_without (L := L) hsub
 refine ⟨u, renB ρ β, _, rfl, ?_, ?_, h2.bel, h2.new, h2.pre, h2.inc.1, h2.inc.2⟩
 ·rw [<- hx]; exact ren_R (renF hi.bx.1 hρ) (fun g hg => (hF g).1 hg) 8 _ _ (hmv _ _ hr)
 ·rw [<- hσ]; exact h2.bx
theorem SpecP.start {f : FuncId} {m : Nat} {σ σ' : Sig} {args : List PV} {x : PV} {cd : Code} (he : entersP P f = true) (hf : P.funcs[f]? = some fn) (hb : fn.body = some cd) (hn : Nat.ble args.length fn.ntmps = true) (hm : m <= σ.length)
  (k : ∀ w0 L, w0.stay = m -> M P fn w0 L (Qp P fn w0 σ' x) (startM args σ cd)) : SpecP P f m σ args σ' x := by
 refine ⟨he, hm, fun L β W vs hL hG hB hR => ?_⟩
 refine callsIn_wide.1 (callsIn_of_wp_marks (n := 0) hf hb trivial ?_ rfl)
 have h := (k ⟨W, β, m, L, [], none, ghosts, true⟩ L rfl).out β (startA fn vs.toArray) W ⟨Near.refl _ _ _ _ _ _ _ _, fun g hg => .inl hg, hL, ⟨fun _ h => h, fun g hg => .inl hg⟩, ⟨rfl, by rw [hB.1]; exact hm⟩, hB, args_Ev (Nat.le_of_ble_eq_true hn) hR, Nod.nil rfl, Gl.gho hG, fun g hg => .inl hg, fun q hq => hq⟩
 refine wpIn_mono h fun e a w hq => ?_
 have hq' : Qp P fn ⟨W, β, m, L, [], none, ghosts, true⟩ σ' x e a w := by unfold wpK at hq; exact hq
 exact hq' rfl
theorem OkP.iter {J : Nat -> List Nat -> List Nat -> World -> Prop} {X : List Nat -> List Nat -> World -> Prop} {n l : Nat} {xs : Nat -> List PV} {x : PV} (hY : Yl P l J X n xs) (hJ : Itb (J n) w0) (hf : flatP x = true) : OkP fn w0 (Qi P fn (some x) (J n) X) σ E x := by
 intro L β a W u hI hr
 refine leave_pan hJ.dfs hI fun a' W' hi hmv => ?_
 exact ⟨bs β, w0.lock, .inl ⟨u, rfl, R.flat x u hf (hmv _ _ hr), hY.jst n _ _ _ _ _ hJ.hold hi.istep⟩⟩
end
def isRecover : Op -> Bool
 | .call { callee := .builtin .recover, args, argTypes := _ } => args.toList.isEmpty
 | _ => false
theorem recover_run {o : Oper} {a : Act} {P : Program} {W : World} (h : isRecover o.op = true) : (execOp a.eval o).run P W = .ok .recover W := by
 unfold isRecover at h
 split at h
 ·rename_i args at_ e
  have : args = #[] := Array.toList_eq_nil_iff.1 (by simpa using h)
  subst this
  unfold execOp
  rw [e]
  simp [Sem.run_bind, resolve, Sem.run_pure, Result.andThen_ok, invoke, builtin]
 ·cases h
theorem wpSIn_recover {P : Program} {Q : Exit -> Act -> List Frame -> World -> Prop} {a : Act} {cs cs' : List Frame} {w : World} {id : Nat} {ops : Array Oper} {o : Oper} {l : List Oper} {v : Value} (hops : ops.toList = o :: l) (ho : isRecover o.op = true) (hg : o.guard = none)
  (hr : (recoverD cs = some (v, cs')) \/ (recoverD cs = none /\ v = .nilIface /\ cs' = cs)) (h : wpListIn (Fr none) 0 P ops (fun e a w => Q e a cs' w) l (a.put o.dst v) w) : (Code.region id ops false).wpSIn (Fr none) 0 P Q a cs w := by
 intro b k hb hro hF hroom
 have hlen : cs'.length = cs.length := by
  rcases hr with h | ⟨_, _, h⟩
  ·exact recoverD_length h
  ·rw [h]
 have ho0 : ops[0]? = some o := by rw [<- Array.getElem?_toList, hops]; rfl
 have hsz : List.range ops.size = 0 :: List.range' 1 l.length := by
  rw [List.range_eq_range', <- Array.length_toList, hops]; rfl
 have hw : Region.wanted o (yielded ops a.tmps) = true := by simp [Region.wanted, hg]
 have hl : wpOpsIn (Fr none) 0 P ops (fun e a w => Q e a cs' w) (List.range' 1 l.length) (a.put o.dst v) w := by
  rw [wpOpsIn_eq_wpListIn l 1 (fun j => by rw [<- Array.getElem?_toList, hops, Nat.add_comm]; rfl)]; exact h
 obtain ⟨e, a', w', hq, harr⟩ := wp_opsIn _ _ _ hl b k cs' hro hF (hlen ▸ hroom)
 refine ⟨e, a', cs', w', hlen, hq, .of_steps (.one (fenced_calm hF hroom rfl) stepR_region) (.of_steps (.one ?_ (step_lone_go ?_)) harr)⟩
 ·rw [hsz]; exact fenced_oper hF hroom ho0 fun _ _ => trivial
 ·rw [hsz]
  have hk : (b.atR a (.inRegion ops (0 :: List.range' 1 l.length) :: k)).kind = .deferred := hb
  have htr := tryRecover_deferred hk cs
  have hg := stepGR_op (P := P) (b := b) (k := k) (cs := cs) (w := w) (rest := List.range' 1 l.length) ho0 hw
  rw [hro, Oper.semAt_none] at hg
  have hfin : ∀ v, (b.atR a (.inRegion ops (0 :: List.range' 1 l.length) :: k)).finish v = b.atR (a.put o.dst v) (.inRegion ops (List.range' 1 l.length) :: k) := by
   intro v; rw [Frame.finish_atR, ho0]; rfl
  rw [hg, <- hfin]
  simp only [Frame.atR, hro] at htr ⊢
  rcases hr with h | ⟨h, rfl, rfl⟩ <;> simp [stepG.apply, recover_run ho, htr, h]
def recP : Option PV -> PV
 | none => .v .nilIface
 | some x => x
theorem listIn_mono {F : Fence} {n : Nat} {P : Program} {ops : Array Oper} {Q Q' : Exit -> Act -> World -> Prop} (hq : ∀ e a w, Q e a w -> Q' e a w) : ∀ (l : List Oper) (a : Act) (w : World), wpListIn F n P ops Q l a w -> wpListIn F n P ops Q' l a w
 | [], a, w, h => hq _ _ _ h
 | o :: l, a, w, h => by
  unfold wpListIn at h ⊢
  split
  ·rename_i hw
   rw [if_pos hw] at h
   refine ⟨h.1, ?_⟩
   have h2 := h.2
   generalize (o.semAt F.round a.eval).run P w = r at h2 ⊢
   cases r with
   | ok x w' =>
    cases x <;> simp only [Oper.uponIn] at h2 ⊢ <;>
     first
      | exact listIn_mono hq l _ _ h2
      | exact ⟨h2.1, CallsIn.mono h2.2 (fun e w'' he => by cases e <;> first | exact listIn_mono hq l _ _ he | exact hq _ _ _ he | (obtain ⟨a1, w1, hx⟩ := he; exact ⟨a1, w1, hq _ _ _ hx⟩))⟩
      | exact ⟨h2.1, RowsIn.mono h2.2 (fun _ _ he => listIn_mono hq l _ _ he)⟩
      | exact ⟨h2.1, RoundIn.mono h2.2 (fun e w'' he => by cases e <;> first | exact listIn_mono hq l _ _ he | exact hq _ _ _ he | (obtain ⟨a1, w1, hx⟩ := he; exact ⟨a1, w1, hq _ _ _ hx⟩))⟩
      | exact h2.elim
   | halt x w' => cases x <;> simp only [Oper.uponIn] at h2 ⊢ <;> first | exact hq _ _ _ h2 | exact h2.elim
  ·rename_i hw
   rw [if_neg hw] at h
   exact ⟨h.1, listIn_mono hq l _ _ h.2⟩
def inMode (β : List (Option Nat)) (L : List Nat) (W : World) (um : FrameMode) : Option PV -> Prop
 | none => um = .returning
 | some x => ∃ v, um = .panicking [{ v := v, recovered := false }] /\ R β L W x v
def SpecD (P : Program) (g : FuncId) (σ : Sig) (caps : List PV) (u : Option PV) (σ' : Sig) : Prop :=
 entersP P g = true /\ σ'.length = σ.length /\ ∀ (L : List Nat) (β : List (Option Nat)) (W : World) (vs : List Value) (um : FrameMode), (∀ g ∈ L, g < W.heap.size /\ some g ∉ β) -> Gl (bs β ++ L) W -> Bx β L W σ -> Rs β L W caps vs ->
  inMode β L W um u ->
  CallsDIn Fence.wide 0 P g vs.toArray um W fun e u' W' => ∃ v γ L1, e = .returned v /\ settle u' = .returning /\ Bx γ L1 W' σ' /\ Near ⟨W, β, σ.length, L, [], none, ghosts, true⟩ W' /\ (∀ g, some g ∈ γ -> some g ∈ β \/ W.heap.size <= g) /\ (γ.take σ.length = β.take σ.length /\ σ.length <= γ.length) /\ (∀ g ∈ L, g ∈ L1) /\ ∀ g, some g ∈ β -> Fb γ L1 g
def Qd (P : Program) (fn : Func) (w0 : W0) (σ : Sig) : Exit -> Act -> World -> Prop
 | .normal, a, W => (∃ v, (results fn a.tmps).run P W = .ok v W) /\ ∃ β L, Inv w0 L β σ fn.ntmps [] a W
 | .ret, a, W => (∃ v, (results fn a.tmps).run P W = .ok v W) /\ ∃ β L, Inv w0 L β σ fn.ntmps [] a W
 | _, _, _ => False
section
variable {w0 : W0} {W : World} {L : List Nat} {β : List (Option Nat)} {N : Nat} {P : Program} {Q : Exit -> Act -> World -> Prop} {fn : Func} {σ : Sig} {E : Env} {a : Act} {c : Cfg}
theorem SpecD.start {g : FuncId} {σ σ' : Sig} {caps : List PV} {u : Option PV} {id : Nat} {all : Array Oper} {o : Oper} {l : List Oper} {rest : Code} (he : entersP P g = true) (hlen : σ'.length = σ.length) (hf : P.funcs[g]? = some fn) (hb : fn.body = some (.seq (.region id all false) rest)) (hn : Nat.ble caps.length fn.ntmps = true)
  (hops : all.toList = o :: l) (ho : isRecover o.op = true) (hg : o.guard = none) (hd : fitsD fn.ntmps o.dst = true)
  (k : ∀ w0 L, w0.stay = σ.length -> M P fn w0 L (Qd P fn w0 σ') ⟨putE (envFrom 0 caps) o.dst (recP u), σ, [.ops all l, .code rest], none⟩) : SpecD P g σ caps u σ' := by
 refine ⟨he, hlen, fun L β W vs um hL hG hB hR hu => ?_⟩
 refine callsDIn_of_wpSIn hf hb trivial fun c₀ cs hc₀ => ?_
 have key : ∃ (v : Value) (c1 : Frame) (u' : FrameMode), c1 = { c₀ with mode := u' } /\ settle u' = .returning /\ (recoverD (c₀ :: cs) = some (v, c1 :: cs) \/ (recoverD (c₀ :: cs) = none /\ v = .nilIface /\ c1 :: cs = c₀ :: cs)) /\ R β L W (recP u) v := by
  cases u with
  | none =>
   have hu' : um = .returning := hu
   exact ⟨.nilIface, c₀, .returning, by rw [<- hu', <- hc₀], rfl, .inr ⟨by simp [recoverD, hc₀, hu'], rfl, rfl⟩, by rw [recP, R]⟩
  | some x =>
   obtain ⟨v, hv, hr⟩ := hu
   exact ⟨v, _, .panicking [{ v := v, recovered := true }], rfl, rfl, .inl (by simp [recoverD, hc₀, hv]), hr⟩
 obtain ⟨v, c1, u', hc1, hset, hrec, hrv⟩ := key
 obtain ⟨w1, hw1⟩ : ∃ w1 : W0, (⟨W, β, σ.length, L, [], none, ghosts, false⟩ : W0) = w1 := ⟨_, rfl⟩
 have hinv : Inv w1 L β σ fn.ntmps (putE (envFrom 0 caps) o.dst (recP u)) ((startA fn vs.toArray).put o.dst v) W := by
  rw [<- hw1]
  exact ⟨Near.refl _ _ _ _ _ _ _ _, fun g hg => .inl hg, hL, ⟨fun _ h => h, fun g hg => .inl hg⟩, ⟨rfl, by rw [hB.1]; exact Nat.le_refl _⟩, hB, (args_Ev (Nat.le_of_ble_eq_true hn) hR).put hrv hd, (Nod.nil rfl : Nod _ L (startA fn vs.toArray) W).put _ _, Gl.gho hG, fun g hg => .inl hg, fun q hq => hq⟩
 have hm := (k w1 L (by rw [<- hw1])).out β _ W hinv
 have hro : w1.ro = none := by rw [<- hw1]
 rw [hro] at hm
 -- the end
 have fin : ∀ e a W', Qd P fn w1 σ' e a W' -> bodyPostS P fn c₀ cs (fun e u' W' => ∃ v γ L1, e = .returned v /\ settle u' = .returning /\ Bx γ L1 W' σ' /\ Near ⟨W, β, σ.length, L, [], none, ghosts, true⟩ W' /\ (∀ g, some g ∈ γ -> some g ∈ β \/ W.heap.size <= g) /\ (γ.take σ.length = β.take σ.length /\ σ.length <= γ.length) /\ (∀ g ∈ L, g ∈ L1) /\ ∀ g, some g ∈ β -> Fb γ L1 g) e a (c1 :: cs) W' := by
  have core : ∀ a W', ((∃ v, (results fn a.tmps).run P W' = .ok v W') /\ ∃ β L, Inv w1 L β σ' fn.ntmps [] a W') -> a.defers = [] /\ ∃ u'', (c1 :: cs) = { c₀ with mode := u'' } :: cs /\ ∃ v, (results fn a.tmps).run P W' = .ok v W' /\ ∃ v' γ L1, Ending.returned v = .returned v' /\ settle u'' = .returning /\ Bx γ L1 W' σ' /\ Near ⟨W, β, σ.length, L, [], none, ghosts, true⟩ W' /\ (∀ g, some g ∈ γ -> some g ∈ β \/ W.heap.size <= g) /\ (γ.take σ.length = β.take σ.length /\ σ.length <= γ.length) /\ (∀ g ∈ L, g ∈ L1) /\ ∀ g, some g ∈ β -> Fb γ L1 g := by
   rintro a W' ⟨⟨v, hv⟩, γ, L1, hi⟩
   rw [<- hw1] at hi
   obtain ⟨Ds, d1, d0, _⟩ := hi.nod
   have : Ds = [] := d0 rfl
   subst this
   exact ⟨d1, u', by rw [hc1], v, hv, v, γ, L1, rfl, hset, hi.bx, ⟨hi.bel.os, hi.bel.tape, hi.bel.output, hi.bel.size, hi.bel.block, hi.bel.shape⟩, hi.new, hi.pre, hi.inc.1, hi.inc.2⟩
  intro e a W' hq
  cases e with
  | normal => exact core a W' hq
  | ret => exact core a W' hq
  | _ => exact hq.elim
 refine wpSIn_seq (wpSIn_recover (v := v) (cs' := c1 :: cs) hops ho hg hrec ?_)
 have hm' : wpListIn (Fr none) 0 P all (wpK P none (Qd P fn w1 σ') [.code rest]) l ((startA fn vs.toArray).put o.dst v) W := hm
 refine listIn_mono (fun e a w hq => ?_) l _ _ hm'
 cases e with
 | normal =>
  show rest.wpSIn (Fr none) 0 P _ a (c1 :: cs) w
  refine wpSIn_of_wpIn rfl (wpIn_mono (show rest.wpIn (Fr none) 0 P (wpK P none (Qd P fn w1 σ') []) a w from hq) fun e a w h => fin e a w (by unfold wpK at h; exact h))
 | ret => exact fin .ret a w (by unfold wpK at hq; unfold wpK at hq; exact hq)
 | exit id => exact fin (.exit id) a w (by unfold wpK at hq; unfold wpK at hq; exact hq)
 | goto id => exact fin (.goto id) a w (by unfold wpK at hq; unfold wpK at hq; exact hq)
 | panic ch => exact fin (.panic ch) a w (by unfold wpK at hq; unfold wpK at hq; exact hq)
 | outgrown => exact fin .outgrown a w (by unfold wpK at hq; unfold wpK at hq; exact hq)
end
structure Dfr (w0 w1 : W0) (g : FuncId) (caps : List PV) (s : Nat) : Prop where
 ex : ∃ us : List Value, w1.dfs = [{ target := .fn (.func g) us.toArray, args := #[] }] /\ us.length = caps.length /\ ∀ (i : Nat) (p : PV) (u : Value), caps[i]? = some p -> us[i]? = some u -> (p, u) ∈ w1.gh
 w : w1.w = w0.w
 lock : w1.lock = w0.lock
 ro : w1.ro = none
 stay : w1.stay = s
 le : w0.stay <= s
 dfs : w0.dfs = []
 new : ∀ b, some b ∈ w1.own -> some b ∈ w0.own \/ w0.w.heap.size <= b
 own : ∀ b, some b ∈ w0.own -> some b ∈ w1.own
 tk : w1.own.take w0.stay = w0.own.take w0.stay
 mrk : w1.mrk = true
def viewDf (P : Program) (fn : Func) (c : Cfg) : Option (List Prop × FuncId × List PV) :=
 let s := stop P fn.ntmps c
 match s.2.dr, s.2.todo with
 | none, .ops all (o :: _) :: _ =>
  if fitsD fn.ntmps o.dst then
   match guardP all s.2.E o with
   | some true => match o.op with
    | .defer { callee := .value f, args, argTypes := _ } => match args.toList, evA s.2.E f with
     | [], .fn g caps => some (s.1, g, caps)
     | _, _ => none
    | _ => none
   | _ => none
  else none
 | _, _ => none
def afterDf (P : Program) (fn : Func) (c : Cfg) : Cfg :=
 let d := (stop P fn.ntmps c).2
 match d.todo with
 | .ops all (o :: l) :: k => ⟨putE d.E o.dst (.v undef), d.σ, .ops all l :: k, none⟩
 | _ => d
section
variable {w0 w1 : W0} {W : World} {L : List Nat} {β : List (Option Nat)} {N : Nat} {P : Program} {Q : Exit -> Act -> World -> Prop} {fn : Func} {σ : Sig} {E : Env} {a : Act} {c : Cfg}
theorem refOks_at {s : Nat} : ∀ {ps : List PV}, refOk.refOks s ps = true -> ∀ {i : Nat} {p : PV}, ps[i]? = some p -> refOk s p = true
 | [], _, i, p, h => by simp at h
 | q :: ps, hr, 0, p, h => by simp only [refOk.refOks, Bool.and_eq_true] at hr; simp at h; subst h; exact hr.1
 | q :: ps, hr, i + 1, p, h => by simp only [refOk.refOks, Bool.and_eq_true] at hr; exact refOks_at hr.2 (by simpa using h)
theorem Ok.defer {g : FuncId} {caps : List PV} {ps : List Prop} (s : Nat) (h : viewDf P fn c = some (ps, g, caps)) (hp : All ps) (hst : w0.stay <= s) (hsl : s <= (stop P fn.ntmps c).2.σ.length) (hc : refOk.refOks s caps = true) (hd0 : w0.dfs = []) (hro : w0.ro = none) (hmk : w0.mrk = false) (hgh : w0.gh = ghosts)
  (k : ∀ w1 L1, Dfr w0 w1 g caps s -> OkF P fn w1 L1 Q (afterDf P fn c)) : OkF P fn w0 L Q c := by
 unfold viewDf at h
 simp only at h
 split at h
 case h_2 => cases h
 rename_i all o r t hdr ht
 split at h
 case isFalse => cases h
 rename_i hfd
 split at h
 case h_2 => cases h
 rename_i hg
 split at h
 case h_2 => cases h
 rename_i f args at_ ho
 split at h
 case h_2 => cases h
 rename_i g' caps' ha hv
 simp only [Option.some.injEq, Prod.mk.injEq] at h
 obtain ⟨h1, h2, h3⟩ := h
 subst h2; subst h3
 refine run_ok 3000 c (by rw [show (runC P fn.ntmps 3000 c).1 = ps from h1]; exact hp) ?_
 show OkF P fn w0 L Q (stop P fn.ntmps c).2
 clear h1
 unfold afterDf at k
 generalize (stop P fn.ntmps c).2 = d at hdr ht hg hv k hsl
 obtain ⟨E, σ, todo, dr⟩ := d
 simp only at hdr ht hg hv k hsl
 subst hdr; subst ht
 simp only at k
 intro β a W hI
 have hev := evA_R hI.ev f
 rw [hv, R] at hev
 obtain ⟨us, hfe, hus⟩ := hev
 show wpListIn (Fr w0.ro) 0 P all _ (o :: r) a W
 unfold wpListIn
 rw [if_pos (guard_wanted hI.ev hg)]
 refine ⟨fun _ _ => trivial, ?_⟩
 have e2 : o.semAt (Fr w0.ro).round a.eval = execOp a.eval o := by
  have : (Fr w0.ro).round = none := hro
  rw [this]; exact Oper.semAt_none _ _
 have harg : args = #[] := Array.toList_eq_nil_iff.1 ha
 subst harg
 have hrun : (execOp a.eval o).run P W = .ok (.defer { target := .fn (.func g') us.toArray, args := #[] }) W := by
  unfold execOp
  rw [ho]
  simp only [Sem.run_bind, resolve, hfe, Deferred.ofValue, Sem.run_pure, Result.andThen_ok]
  simp
 rw [e2, hrun]
 show wpListIn (Fr w0.ro) 0 P all _ r ({ a with defers := _ :: a.defers }.put o.dst undef) W
 have hsb : s <= β.length := by rw [hI.bx.1]; exact hsl
 obtain ⟨w1, hw1⟩ : ∃ w1 : W0, (⟨w0.w, β.take s ++ w0.own, s, w0.lock, [{ target := .fn (.func g') us.toArray, args := #[] }], none, caps'.zip us ++ ghosts, true⟩ : W0) = w1 := ⟨_, rfl⟩
 have hdef : a.defers = [] := by
  obtain ⟨Ds, d1, d0, _⟩ := hI.nod
  have : Ds = [] := d0 hmk
  subst this
  rw [hd0] at d1; exact d1
 have hmem : ∀ g, some g ∈ β.take s ++ w0.own -> some g ∈ β \/ some g ∈ w0.own := fun g hg => (List.mem_append.1 hg).imp List.mem_of_mem_take id
 have hin : Inv w1 L β σ fn.ntmps (putE E o.dst (.v undef)) ({ a with defers := { target := .fn (.func g') us.toArray, args := #[] } :: a.defers }.put o.dst undef) W := by
  rw [<- hw1]
  refine ⟨⟨hI.bel.os, hI.bel.tape, hI.bel.output, hI.bel.size, fun k hk hko => hI.bel.block k hk fun hc => hko (List.mem_append_right _ hc), hI.bel.shape⟩, fun g hg => (hI.new g hg).imp (List.mem_append_right _) id, hI.old, ⟨hI.inc.1, fun g hg => ?_⟩, ⟨?_, hsb⟩, hI.bx, ?_, ?_, fun q hq => ?_, fun g hg => ?_, fun q hq => List.mem_append_right _ hq⟩
  ·rcases hmem g hg with h | h
   ·exact .inl h
   ·exact hI.inc.2 g h
  ·show β.take s = (β.take s ++ w0.own).take s
   rw [List.take_append_of_le_length (by simp; omega), List.take_take, Nat.min_self]
  ·exact Ev.put (a := { a with defers := { target := .fn (.func g') us.toArray, args := #[] } :: a.defers }) ⟨hI.ev.1, hI.ev.2⟩ (by rw [R]) hfd
  ·exact (Nod.nil (show ({ a with defers := { target := .fn (.func g') us.toArray, args := #[] } :: a.defers } : Act).defers = _ by rw [hdef]) : Nod _ L _ W).put _ _
  ·rcases List.mem_append.1 hq with hq | hq
   case inr => exact ⟨refOk_bare (ghosts_bare q hq), (hI.gho q (hI.glo q hq)).2⟩
   obtain ⟨i, hi, e⟩ := List.mem_iff_getElem.1 hq
   have h1 : caps'[i]? = some q.1 := by
    have := congrArg Prod.fst e
    simp at this hi
    rw [<- this, List.getElem?_eq_getElem (by omega)]
   have h2 : us[i]? = some q.2 := by
    have := congrArg Prod.snd e
    simp at this hi
    rw [<- this, List.getElem?_eq_getElem (by omega)]
   obtain ⟨u, hu, hr⟩ := hus.get h1
   rw [h2] at hu; cases hu
   exact ⟨refOks_at hc h1, hr⟩
  ·rcases hI.lim g hg with h | h | h
   ·exact .inl h
   ·exact .inr (.inl (List.mem_append_right _ h))
   ·exact .inr (.inr h)
 have hro1 : w1.ro = w0.ro := by rw [<- hw1, hro]
 rw [<- hro1]
 refine k w1 L ?_ β _ W hin
 rw [<- hw1]
 refine ⟨⟨us, rfl, hus.length, fun i p u h1 h2 => ?_⟩, rfl, rfl, rfl, rfl, hst, hd0, fun b hb => ?_, fun b hb => List.mem_append_right _ hb, ?_, rfl⟩
 ·obtain ⟨e1, e1'⟩ := List.getElem?_eq_some_iff.1 h1
  obtain ⟨e2, e2'⟩ := List.getElem?_eq_some_iff.1 h2
  exact List.mem_append_left _ (List.mem_iff_getElem.2 ⟨i, by simp; omega, by simp [e1', e2']⟩)
 ·rcases hmem b hb with h | h
  ·exact hI.new b h
  ·exact .inl h
 ·show (β.take s ++ w0.own).take w0.stay = w0.own.take w0.stay
  rw [List.take_append_of_le_length (by simp; omega), List.take_take, Nat.min_eq_left hst]
  exact hI.pre.1
theorem leave_def {RR : Ending -> World -> Prop} {g : FuncId} {caps : List PV} {s : Nat} {is : List Nat} {σ2 : Sig} {u : Option PV} {um : FrameMode} (hD : Dfr w0 w1 g caps s) (hI : Inv w1 L β σ N E a W) (hρ : renOk σ is = true) (hil : is.length = σ2.length)
  (hs : SpecD P g (renS is σ) (caps.map (renP (invF is 0) 8)) u σ2) (hum : inMode (renB is β) (without β (renB is β) ++ L) W um u)
  (fin : ∀ L' β' a' W', Inv { w1 with dfs := [] } L' β' (mergeS is is.length σ σ2) N E a' W' -> a'.tmps = a.tmps -> ∃ v, (results fn a.tmps).run P W' = .ok v W' /\ RR (.returned v) W') :
  LeavesInM Fence.wide 0 P fn a.tmps RR a.defers um W := by
 have hrun : um ≠ .run := by
  cases u with
  | none => rw [show um = .returning from hum]; simp
  | some x => obtain ⟨v, h, _⟩ := hum; rw [h]; simp
 obtain ⟨us, hdfs, husl, hgh⟩ := hD.ex
 obtain ⟨Ds, e, -, nd, hDs⟩ := hI.nod
 obtain ⟨w2, hw2⟩ : ∃ w2 : W0, ({ w1 with dfs := [] } : W0) = w2 := ⟨_, rfl⟩
 have h0 : Inv w2 L β σ N E { a with defers := [] } W := by
  rw [<- hw2]
  exact ⟨⟨hI.bel.os, hI.bel.tape, hI.bel.output, hI.bel.size, hI.bel.block, hI.bel.shape⟩, hI.new, hI.old, hI.inc, hI.pre, hI.bx, hI.ev, Nod.nil rfl, hI.gho, hI.lim, hI.glo⟩
 replace hDs : ∀ D ∈ Ds, D ∈ L /\ w2.w.heap.size <= D /\ W.heap[D]? = some (.deferred (some [])) := by rw [<- hw2]; exact hDs
 have hdf2 : w2.dfs = [] := by rw [<- hw2]
 have hgh2 : w2.gh = w1.gh := by rw [<- hw2]
 rw [hw2] at fin
 rw [e, hdfs]
 clear e hI hw2
 revert h0 hum
 induction Ds generalizing W with
 | cons D Ds ih =>
  intro hum h0
  have hh := hDs D (List.mem_cons_self ..)
  have ho : ∀ k, k ≠ D -> (W.putObj D (.deferred none)).heap[k]? = W.heap[k]? := fun k hk => World.putObj_heap_other hk
  have hsz : (W.putObj D (.deferred none)).heap.size = W.heap.size := World.putObj_size
  refine ⟨hrun, .inl ⟨D, W.putObj D (.deferred none), rfl, run_takeDeferred hh.2.2, ?_⟩⟩
  refine ih (List.nodup_cons.1 nd).2 ?_ ?_ (h0.turn hh.1 hh.2.1 _ rfl (Nod.nil hdf2.symm))
  ·intro D' hD'
   have h1 := hDs D' (List.mem_cons_of_mem _ hD')
   exact ⟨h1.1, h1.2.1, (World.putObj_heap_other (fun e => (List.nodup_cons.1 nd).1 (by rw [<- e]; exact hD'))).trans h1.2.2⟩
  ·cases u with
   | none => exact hum
   | some x =>
    obtain ⟨v, hv, hr⟩ := hum
    have hDL : D ∈ without β (renB is β) ++ L := List.mem_append_right _ hh.1
    exact ⟨v, hv, R.move (by omega) _ _ _ _ _ _ (fun k hk _ => ho k (fun e => hk (.inr (by rw [e]; exact hDL)))) (fun i x hx => ⟨hx, fun g e => shape_eq (ho g (fun e' => (h0.old D hh.1).2 (by
     have := renB_sub h0.bx.1 hρ (List.mem_of_getElem? hx)
     rw [e, e'] at this; exact this)))⟩) (fun _ h => .inl h) hr⟩
 | nil =>
  intro hum h0
  have hsub : ∀ g, some g ∈ renB is β -> some g ∈ β := fun g hg => renB_sub h0.bx.1 hρ hg
  have hF := fb_without (L := L) hsub
  have hcaps : Rs β L W caps us := by
   have key : ∀ (cs : List PV) (vs : List Value), vs.length = cs.length -> (∀ (i : Nat) (p : PV) (u : Value), cs[i]? = some p -> vs[i]? = some u -> R β L W p u) -> Rs β L W cs vs := by
    intro cs
    induction cs with
    | nil => intro vs hl _; have := List.eq_nil_of_length_eq_zero hl; subst this; exact Rs.nil
    | cons p cs ih =>
     intro vs hl h
     cases vs with
     | nil => simp at hl
     | cons v vs => exact Rs.cons (h 0 p v rfl rfl) (ih vs (by simpa using hl) fun i p u h1 h2 => h (i + 1) p u (by simpa using h1) (by simpa using h2))
   exact key caps us husl fun i p u h1 h2 => (h0.gho (p, u) (by rw [hgh2]; exact hgh i p u h1 h2)).2
  refine ⟨hrun, .inr ⟨fun h => (by cases h), .func g, us.toArray, g, us.toArray, rfl, ?_, fun _ _ => trivial, ?_⟩⟩
  ·show (callFunc g (#[] ++ us.toArray)).run P W = _
   rw [show (#[] : Array Value) ++ us.toArray = us.toArray by simp]
   exact enters_run hs.1 _ _
  ·refine (hs.2.2 (without β (renB is β) ++ L) (renB is β) W us um (fun g hg => ?_) (h0.gl.ren fun g hg => (hF g).1 hg) (h0.bx.ren hρ fun g hg => (hF g).1 hg) (Rs.map (fun p u => ren_R (renF h0.bx.1 hρ) (fun g hg => (hF g).1 hg) 8 p u) hcaps) hum).mono fun e u' W' ⟨v, γ, L1, he, hset, hB1, hn, hnew, htk, hl1, hl2⟩ => ?_
   ·rcases List.mem_append.1 hg with hg | hg
    ·rw [mem_without] at hg
     exact ⟨h0.bx.2.2.1 g hg.1, hg.2⟩
    ·exact ⟨h0.oldW g hg, fun hc => (h0.old g hg).2 (hsub g hc)⟩
   ·subst he
    have hlr : (renS is σ).length = is.length := by simp [renS]
    rw [hlr] at hn htk
    obtain ⟨hi, _⟩ := mergeInv (r := .any) (u := .int .i64 0) h0 hρ rfl (by rw [hlr]; exact Nat.le_refl _) (by rw [R]; trivial) hB1 hn hnew htk hl1 hl2
    obtain ⟨v2, hv2, hR2⟩ := fin L _ _ W' hi rfl
    show LeavesInM Fence.wide 0 P fn a.tmps RR [] (settle u') W'
    rw [hset]
    exact ⟨v2, hv2, hR2⟩
theorem Dfr.near {g : FuncId} {caps : List PV} {s : Nat} (hD : Dfr w0 w1 g caps s) (h : Near { w1 with dfs := [] } W) : Near w0 W := by
 have hw := hD.w
 refine ⟨by rw [<- hw]; exact h.os, by rw [<- hw]; exact h.tape, by rw [<- hw]; exact h.output, by rw [<- hw]; exact h.size, fun k hk hko => ?_, fun k hk => ?_⟩
 ·rw [<- hw]
  refine h.block k (by show k < w1.w.heap.size; rw [hw]; exact hk) fun hc => ?_
  rcases hD.new k hc with h | h
  ·exact hko h
  ·omega
 ·rw [<- hw]; exact h.shape k (by show k < w1.w.heap.size; rw [hw]; exact hk)
def atRet : List It -> Bool
 | [] => true
 | .code .ret :: _ => true
 | _ => false
theorem atRet_wp {ro : Option Nat} {t : List It} {a : Act} {w : World} (h : atRet t = true) (h1 : Q .normal a w) (h2 : Q .ret a w) : wpK P ro Q t .normal a w := by
 unfold atRet at h
 split at h
 ·exact h1
 ·exact wpIn_ret (wpK_ret h2)
 ·cases h
theorem leave_fin {g : FuncId} {caps : List PV} {s : Nat} {is : List Nat} {σ2 : Sig} {u : Option PV} {um : FrameMode} {r r' : PV} {cs : List Prop} (hD : Dfr w0 w1 g caps s) (hI : Inv w1 L β σ fn.ntmps E a W) (hρ : renOk σ is = true) (hil : is.length = σ2.length)
  (hs : SpecD P g (renS is σ) (caps.map (renP (invF is 0) 8)) u σ2) (hum : inMode (renB is β) (without β (renB is β) ++ L) W um u)
  (hr : retP P fn E (mergeS is is.length σ σ2) = some r') (hc : retC P fn E (mergeS is is.length σ σ2) = cs) (hcp : All cs) (e : ∀ L W u, R [] L W r' u -> R [] L W r u) :
  LeavesInM Fence.wide 0 P fn a.tmps (fun e W' => ∃ u, e = .returned u /\ R [] w0.lock W' r u /\ Near w0 W') a.defers um W := by
 refine leave_def hD hI hρ hil hs hum fun L' β' a' W' hi ht => ?_
 obtain ⟨v, hv, hR⟩ := ret_run (P := P) (fn := fn) hi hr (by rw [hc]; exact hcp)
 rw [ht] at hv
 exact ⟨v, hv, v, rfl, by rw [<- hD.lock]; exact e _ _ _ hR, hD.near hi.bel⟩
theorem M.leave {g : FuncId} {caps qs : List PV} {s : Nat} {σ0 σ2 : Sig} {r : PV} (hD : Dfr w0 w1 g caps s) (is : List Nat) (hs : SpecD P g σ0 qs none σ2) (ps cs : List Prop) (r' : PV) (h : (stop P fn.ntmps c).1 = ps) (hp : All ps) (hdr : (stop P fn.ntmps c).2.dr = none) (ht : atRet (stop P fn.ntmps c).2.todo = true)
  (hρ : renOk (stop P fn.ntmps c).2.σ is = true) (hil : is.length = σ2.length) (hσ : renS is (stop P fn.ntmps c).2.σ = σ0) (hq : caps.map (renP (invF is 0) 8) = qs)
  (hr : retP P fn (stop P fn.ntmps c).2.E (mergeS is is.length (stop P fn.ntmps c).2.σ σ2) = some r') (hc : retC P fn (stop P fn.ntmps c).2.E (mergeS is is.length (stop P fn.ntmps c).2.σ σ2) = cs) (hcp : All cs) (e : ∀ L W u, R [] L W r' u -> R [] L W r u) : M P fn w1 L (Qf P fn w0 r) c := by
 refine ⟨run_ok 3000 c (by rw [show (runC P fn.ntmps 3000 c).1 = ps from h]; exact hp) ?_⟩
 show OkF P fn w1 L _ (stop P fn.ntmps c).2
 clear h
 subst hσ; subst hq
 generalize (stop P fn.ntmps c).2 = d at hdr ht hρ hr hc hs
 obtain ⟨E, σ, todo, dr⟩ := d
 simp only at hdr ht hρ hr hc hs
 subst hdr
 intro β a W hI
 have fin : LeavesInM Fence.wide 0 P fn a.tmps (fun e W' => ∃ u, e = .returned u /\ R [] w0.lock W' r u /\ Near w0 W') a.defers .returning W := leave_fin hD hI hρ hil hs rfl hr hc hcp e
 exact atRet_wp ht (fun _ => fin) (fun _ => fin)
theorem OkP.leave {g : FuncId} {caps qs : List PV} {s : Nat} {σ0 σ2 : Sig} {r x x' : PV} (hD : Dfr w0 w1 g caps s) (is : List Nat) (hs : SpecD P g σ0 qs (some x') σ2) (cs : List Prop) (r' : PV) (hρ : renOk σ is = true) (hil : is.length = σ2.length) (hσ : renS is σ = σ0) (hq : caps.map (renP (invF is 0) 8) = qs) (hx : renP (invF is 0) 8 x = x')
  (hr : retP P fn E (mergeS is is.length σ σ2) = some r') (hc : retC P fn E (mergeS is is.length σ σ2) = cs) (hcp : All cs) (e : ∀ L W u, R [] L W r' u -> R [] L W r u) : OkP fn w1 (Qf P fn w0 r) σ E x := by
 subst hσ; subst hq; subst hx
 intro L β a W u hI hu _
 have hsub : ∀ g, some g ∈ renB is β -> some g ∈ β := fun g hg => renB_sub hI.bx.1 hρ hg
 have hF := fb_without (L := L) hsub
 exact leave_fin hD hI hρ hil hs ⟨u, rfl, ren_R (renF hI.bx.1 hρ) (fun g hg => (hF g).1 hg) 8 _ _ hu⟩ hr hc hcp e
theorem M.defer {g : FuncId} {caps : List PV} (s : Nat) (ps : List Prop) (h : viewDf P fn c = some (ps, g, caps)) (hp : All ps) (hst : w0.stay = 0) (hsl : s <= (stop P fn.ntmps c).2.σ.length) (hc : refOk.refOks s caps = true) (hd0 : w0.dfs = []) (hro : w0.ro = none) (hmk : w0.mrk = false) (hgh : w0.gh = ghosts)
  (k : ∀ w1 L1, Dfr w0 w1 g caps s -> M P fn w1 L1 Q (afterDf P fn c)) : M P fn w0 L Q c := ⟨Ok.defer s h hp (by omega) hsl hc hd0 hro hmk hgh fun w1 L1 hD => (k w1 L1 hD).out⟩
theorem Spec.startD {f : FuncId} {args : List PV} {r : PV} {cd : Code} (he : entersP P f = true) (hf : P.funcs[f]? = some fn) (hb : fn.body = some cd) (hn : Nat.ble args.length fn.ntmps = true)
  (k : ∀ w0 L, w0.stay = 0 -> w0.dfs = [] -> w0.ro = none -> w0.mrk = false -> w0.gh = ghosts -> M P fn w0 L (Qf P fn w0 r) (startC args cd)) : Spec P f args r := by
 refine ⟨he, fun L W vs hL hG hR => ?_⟩
 refine (callsIn_wide.1 (callsIn_of_wp_marks (n := 0) (R := fun e W' => ∃ u, e = .returned u /\ R [] L W' r u /\ Near ⟨W, [], 0, L, [], none, ghosts, false⟩ W') hf hb trivial ?_ rfl)).mono fun e W' ⟨u, h1, h2, h3⟩ => ⟨u, h1, h2, h3.plain⟩
 have h := (k ⟨W, [], 0, L, [], none, ghosts, false⟩ L rfl rfl rfl rfl rfl).out [] (startA fn vs.toArray) W ⟨Near.refl _ _ _ _ _ _ _ _, fun g hg => by simp at hg, fun g hg => ⟨hL g hg, by simp⟩, ⟨fun _ h => h, fun g hg => by simp at hg⟩, ⟨rfl, Nat.zero_le _⟩, ⟨rfl, fun i j g c d hi => by simp at hi, fun g hg => by simp at hg, fun i cs hi => by simp [startC] at hi⟩, args_Ev (Nat.le_of_ble_eq_true hn) hR, Nod.nil rfl, Gl.gho hG, fun g hg => .inl hg, fun q hq => hq⟩
 refine wpIn_mono h fun e a w hq => ?_
 have hq' : Qf P fn ⟨W, [], 0, L, [], none, ghosts, false⟩ r e a w := by unfold wpK at hq; exact hq
 exact hq' rfl
theorem M.dend {σ' : Sig} (ps : List Prop) (h : (stop P fn.ntmps c).1 = ps) (hp : All ps) (hdr : (stop P fn.ntmps c).2.dr = none) (ht : atRet (stop P fn.ntmps c).2.todo = true) (ρ : List Nat) {n : Nat} (hst : w0.stay = n) (hm : ρ.take n = List.range n) (hρ : renOk (stop P fn.ntmps c).2.σ ρ = true) (hσ : renS ρ (stop P fn.ntmps c).2.σ = σ') (hres : fn.results.toList = []) : M P fn w0 L (Qd P fn w0 σ') c := by
 refine ⟨run_ok 3000 c (by rw [show (runC P fn.ntmps 3000 c).1 = ps from h]; exact hp) ?_⟩
 show OkF P fn w0 L _ (stop P fn.ntmps c).2
 clear h
 subst hσ; subst hst
 generalize (stop P fn.ntmps c).2 = d at hdr ht hρ
 obtain ⟨E, σ, todo, dr⟩ := d
 simp only at hdr ht hρ
 subst hdr
 intro β a W hI
 have hre : fn.results = #[] := Array.toList_eq_nil_iff.1 hres
 have hv : ∃ v, (results fn a.tmps).run P W = .ok v W := ⟨.tuple #[], by rw [results_eq, hre]; simp [Sem.run_bind, Sem.run_pure, Result.andThen]⟩
 exact atRet_wp ht ⟨hv, _, _, (hI.ren hρ hm).bare⟩ ⟨hv, _, _, (hI.ren hρ hm).bare⟩
end
end Go.Proofs.YtplpnfjccemdnaaGreatDoor
