import Derived.Test.YtplpnfjccemdnaaGreatDoorJ20
import Derived.Test.YtplpnfjccemdnaaGreatDoorJ13
set_option linter.unusedVariables false
set_option linter.unusedSimpArgs false
/- The texts E8 W2 W3 W4 of the proof, laid one behind the other. -/
namespace Go.Proofs.YtplpnfjccemdnaaGreatDoor
open Go.RowKit
theorem cnf {a b : Bool} (h : (bif a then false else b) = true) : a = false /\ b = true := by cases a <;> simp_all
theorem bodyL_right (j : Jd) : ∀ (l : List In) (i : Nat) (h lits sels : Int), bodyL j l i h lits sels = true -> ∀ x ∈ l, rightC j x = true /\ x.op ≠ 0
 | [], _, _, _, _, _, x, hx => by simp at hx
 | y :: t, i, h, lits, sels, hb, x, hx => by
  unfold bodyL at hb
  have h1 := cnf hb
  have h2 := cnf h1.2
  have h3 := cnf h2.2
  have h4 := cnf h3.2
  have h5 := cnf h4.2
  have h6 := cnf h5.2
  rcases List.mem_cons.1 hx with rfl | hx
  ·exact ⟨by simpa using h3.1, by simpa using h2.1⟩
  ·have h7 := h6.2
   split at h7
   ·cases h7
   ·have h8 := cnf h7
    have h9 := cnf h8.2
    have h10 := cnf h9.2
    exact bodyL_right j t _ _ _ _ h10.2 x hx
theorem body_block {j : Jd} (h : bodyC j = true) {x : In} (hx : x ∈ j.c.ins) (h7 : x.op = 7) : 0 <= x.a /\ x.a < j.l.length := by
 unfold bodyC at h
 have := (bodyL_right j _ _ _ _ _ (cnf (cnf h).2).2 x hx).1
 unfold rightC at this
 rw [h7] at this
 have : blocksC j x = true := this
 exact (insCC_iff _ _).1 (cif this).1
theorem body_len {j : Jd} (h : bodyC j = true) : j.c.ins.length <= 400 := by
 unfold bodyC at h
 have := of_decide_eq_false (cnf (cnf h).2).1
 omega
def addM (m : Nat -> Int) (x : In) : Nat -> Int := bif x.op == 7 then (fun j => if j = x.a.toNat then m x.a.toNat + 1 else m j) else m
def chk1 (l : List Cd) : List Cd -> Nat -> (Nat -> Int) -> Option (Nat -> Int)
 | [], _, m => some m
 | c :: t, i, m => bif !headC ⟨c, l, i⟩ then none else bif !bodyC ⟨c, l, i⟩ then none else chk1 l t (i + 1) (c.ins.foldl addM m)
def chk2 (m : Nat -> Int) : List Cd -> Nat -> Bool
 | [], _ => true
 | c :: t, i => bif c.blk then (bif m i != 1 then false else chk2 m t (i + 1)) else chk2 m t (i + 1)
def ccheckC (l : List Cd) : Int :=
 bif decide ((l.length : Int) > 800) then 2 else
 match chk1 l l 0 (fun _ => 0) with
 | none => 40
 | some m => bif chk2 m l 0 then 0 else 40
structure Cd.Ok (c : Cd) : Prop where
 init : ∀ x ∈ c.init, In64 x.n
 lits : ∀ x ∈ c.lits, In64 x.n
 names : c.names.length <= 1000000
 nlits : c.lits.length <= 1000000
 ninit : c.init.length <= 1000000
 sels : c.sels.length <= 1000000
 nins : c.ins.length <= 1000000
 ins : ∀ x ∈ c.ins, In64 x.a /\ In64 x.b /\ In64 x.c
abbrev madeS (n : Nat) (m : Nat -> Int) : List PV := [.rws 1 n (fun j => [I (m j)])]
theorem made_set {n a : Nat} {m : Nat -> Int} : CellsEq [.rws 1 n (fun j => (setEl (fun j => [I (m j)]) a 0 [I (m a + 1)] j).map (renP (invF [0] 0) 7))] (madeS n (fun j => if j = a then m a + 1 else m j)) := by
 refine .rws rfl fun j hj => ?_
 unfold setEl
 by_cases e : j = a
 ·subst e; simp [renP]
 ·simp [e, renP]
theorem addM_le {m : Nat -> Int} {B : Int} {x : In} (h : ∀ j, 0 <= m j /\ m j <= B) : ∀ j, 0 <= addM m x j /\ addM m x j <= B + 1 := by
 intro j
 unfold addM
 have h1 := h j
 have h2 := h x.a.toNat
 cases x.op == 7
 ·simp only [cond_false]; omega
 ·simp only [cond_true]; split <;> omega
theorem fold_snoc {l : List In} {k : Nat} (hk : k < l.length) (m : Nat -> Int) : (l.take (k + 1)).foldl addM m = addM ((l.take k).foldl addM m) (l.getD (k : Int).toNat default) := by
 rw [List.take_succ_eq_append_getElem hk, List.foldl_append, show (k : Int).toNat = k by omega, List.getD_eq_getElem?_getD, List.getElem?_eq_getElem hk]; rfl
theorem ccheck_spec (l : List Cd) (hok : ∀ c ∈ l, c.Ok) : Spec Tryz.prog 89 [row 9 Cd.pv l] (I (ccheckC l)) := by
 generalize hr : ccheckC l = r
 unfold ccheckC at hr
 refine Spec.startL (by kernel_rfl) Tryz.func89 rfl rfl fun w0 L hst => ?_
 refine M.tq hr (fun h1 q1 => M.rq q1) (fun h1 q1 => ?_)
 have hlen : l.length <= 800 := by have := of_decide_eq_false h1; omega
 clear h1 hr
 refine M.loopL (ι := {q : Nat × (Nat -> Int) // q.1 <= l.length /\ (∀ j, 0 <= q.2 j /\ q.2 j <= 400 * q.1) /\ (match chk1 l (l.drop q.1) q.1 q.2 with | none => 40 | some m => bif chk2 m l 0 then 0 else 40) = r}) (fun q => [(0, row 9 Cd.pv l), (3, .os 3 0 1 l.length), (17, row 9 Cd.pv l), (18, I l.length), (19, I q.1.1)]) (fun q => [madeS l.length q.1.2]) (fun q => l.length - q.1.1) ⟨(0, fun _ => 0), Nat.zero_le _, by simp, q1⟩
  [0 <= (l.length : Int) /\ (l.length : Int) <= l.length /\ (8 : Int) * l.length <= 281474976710656 /\ (l.length : Int) <= 9223372036854775807] (by kernel_rfl) ⟨by omega, trivial⟩ (by kernel_rfl) (by kernel_rfl) fun ⟨(i, m), hi, hm, hq⟩ L ih => ?_
 simp only at hi hm hq
 refine M.ts (decide ((i : Int) < (l.length : Int))) (fun h1 => ?_) (fun h1 => ?_)
 ·have hlt : i < l.length := by simpa using h1
  have hcok := hok _ (getD_mem (l := l) (p := (i : Int).toNat) (by omega))
  rw [loop_cons hlt, chk1] at hq
  have hj : (i : Int).toNat = i := by omega
  refine M.clp [0 <= (i : Int) /\ (i : Int) < (l.length : Int)] ⟨by omega, trivial⟩ (headC_spec ⟨l.getD (i : Int).toNat default, l, i⟩ hcok.init hcok.lits (by have := hcok.names; simp only; omega)) ?_
  refine M.ts (!headC ⟨l.getD (i : Int).toNat default, l, i⟩) (fun h2 => ?_) (fun h2 => ?_)
  ·rw [h2] at hq; exact M.rq hq
  rw [h2] at hq
  simp only [cond_false] at hq
  refine M.cl (body_spec ⟨l.getD (i : Int).toNat default, l, i⟩ hcok.ins (by have := hcok.nlits; simp only; omega) (by have := hcok.sels; simp only; omega)) ?_
  refine M.ts (!bodyC ⟨l.getD (i : Int).toNat default, l, i⟩) (fun h3 => ?_) (fun h3 => ?_)
  ·rw [h3] at hq; exact M.rq hq
  rw [h3] at hq
  simp only [cond_false] at hq
  have hbody : bodyC ⟨l.getD (i : Int).toNat default, l, i⟩ = true := by simpa using h3
  have hblen := body_len hbody
  have hblk := fun {x} => body_block hbody (x := x)
  simp only at hblen hblk
  clear h2 h3
  refine M.rn [] [0] hst trivial fun L1 => ?_
  refine M.loopL (ι := {k : Nat // k <= (l.getD (i : Int).toNat default).ins.length}) (fun k => [(0, row 9 Cd.pv l), (3, .os 3 0 1 l.length), (17, row 9 Cd.pv l), (18, I l.length), (19, I i), (38, row 4 In.pv (l.getD (i : Int).toNat default).ins), (39, I (l.getD (i : Int).toNat default).ins.length), (40, I k.1)])
   (fun k => [madeS l.length (((l.getD (i : Int).toNat default).ins.take k.1).foldl addM m)]) (fun k => (l.getD (i : Int).toNat default).ins.length - k.1) ⟨0, Nat.zero_le _⟩ [] (by kernel_rfl) trivial (by kernel_rfl) (by kernel_rfl) fun ⟨k, hk⟩ L2 ih2 => ?_
  have hbnd : ∀ k, k <= (l.getD (i : Int).toNat default).ins.length -> ∀ j, 0 <= (((l.getD (i : Int).toNat default).ins.take k).foldl addM m) j /\ (((l.getD (i : Int).toNat default).ins.take k).foldl addM m) j <= 400 * i + k := by
   intro k
   induction k with
   | zero => intro _ j; simpa using hm j
   | succ k ihk =>
    intro hk j
    rw [fold_snoc hk]
    have := addM_le (x := (l.getD (i : Int).toNat default).ins.getD (k : Int).toNat default) (ihk (by omega)) j
    omega
  refine M.ts (decide ((k : Int) < ((l.getD (i : Int).toNat default).ins.length : Int))) (fun h4 => ?_) (fun h4 => ?_)
  ·have hklt : k < (l.getD (i : Int).toNat default).ins.length := by simpa using h4
   have hb1 := hbnd k (by omega)
   have hsn := fold_snoc hklt m
   have hmem := getD_mem (l := (l.getD (i : Int).toNat default).ins) (p := (k : Int).toNat) (by omega)
   have ih3 := ih2 ⟨k + 1, hklt⟩
   simp only [hsn] at ih3
   generalize ((l.getD (i : Int).toNat default).ins.take k).foldl addM m = m1 at hb1 ih3 ⊢
   refine M.testp [0 <= (k : Int) /\ (k : Int) < ((l.getD (i : Int).toNat default).ins.length : Int)] (((l.getD (i : Int).toNat default).ins.getD (k : Int).toNat default).op == 7) (by kernel_rfl) ⟨by omega, trivial⟩ (fun h5 => ?_) (fun h5 => ?_)
   ·have ha := hblk hmem (by simpa using h5)
    unfold addM at ih3
    rw [h5] at ih3
    simp only [cond_true] at ih3
    have hb2 := hb1 ((l.getD (i : Int).toNat default).ins.getD (k : Int).toNat default).a.toNat
    refine M.rn [0 <= ((l.getD (i : Int).toNat default).ins.getD (k : Int).toNat default).a /\ ((l.getD (i : Int).toNat default).ins.getD (k : Int).toNat default).a < l.length, ((l.getD (i : Int).toNat default).ins.getD (k : Int).toNat default).a.toNat < l.length, In64 (m1 ((l.getD (i : Int).toNat default).ins.getD (k : Int).toNat default).a.toNat + 1), 0 <= ((l.getD (i : Int).toNat default).ins.getD (k : Int).toNat default).a /\ ((l.getD (i : Int).toNat default).ins.getD (k : Int).toNat default).a < l.length, ((l.getD (i : Int).toNat default).ins.getD (k : Int).toNat default).a.toNat < l.length, In64 ((k : Int) + 1)] [0] hst ⟨ha, by omega, ⟨by omega, by omega⟩, ha, by omega, ⟨by omega, by omega⟩, trivial⟩ fun L3 => ?_
    refine M.sig [] [[.rws 1 l.length (fun j => (setEl (fun j => [I (m1 j)]) ((l.getD (i : Int).toNat default).ins.getD (k : Int).toNat default).a.toNat 0 [I (m1 ((l.getD (i : Int).toNat default).ins.getD (k : Int).toNat default).a.toNat + 1)] j).map (renP (invF [0] 0) 7))]] [madeS l.length (fun j => if j = ((l.getD (i : Int).toNat default).ins.getD (k : Int).toNat default).a.toNat then m1 ((l.getD (i : Int).toNat default).ins.getD (k : Int).toNat default).a.toNat + 1 else m1 j)] (by kernel_rfl) trivial (by kernel_rfl) (by kernel_rfl) (.cons made_set .nil) ?_
    exact M.bk [] (ih3 L3 (by show (l.getD (i : Int).toNat default).ins.length - (k + 1) < (l.getD (i : Int).toNat default).ins.length - k; omega)) trivial
   ·unfold addM at ih3
    rw [h5] at ih3
    simp only [cond_false] at ih3
    refine M.rn [In64 ((k : Int) + 1)] [0] hst ⟨⟨by omega, by omega⟩, trivial⟩ fun L3 => ?_
    exact M.bk [] (ih3 L3 (by show (l.getD (i : Int).toNat default).ins.length - (k + 1) < (l.getD (i : Int).toNat default).ins.length - k; omega)) trivial
  ·have hkn : k = (l.getD (i : Int).toNat default).ins.length := by have := of_decide_eq_false h4; omega
   subst hkn
   have hb1 := hbnd _ (Nat.le_refl _)
   rw [List.take_length] at hb1 ⊢
   refine M.rn [In64 ((i : Int) + 1)] [0] hst ⟨⟨by omega, by omega⟩, trivial⟩ fun L3 => ?_
   exact M.bk [] (ih ⟨(i + 1, (l.getD (i : Int).toNat default).ins.foldl addM m), hlt, fun j => by have := hb1 j; simp only; omega, hq⟩ L3 (by show l.length - (i + 1) < l.length - i; omega)) trivial
 ·have : i = l.length := by have := of_decide_eq_false h1; omega
  rw [loop_nil (nlt_of_dec h1), chk1] at hq
  simp only at hq
  refine M.rn [] [0] hst trivial fun L1 => ?_
  refine M.loopL (ι := {k : Nat // k <= l.length /\ (bif chk2 m (l.drop k) k then 0 else 40) = r}) (fun k => [(0, row 9 Cd.pv l), (3, .os 3 0 1 l.length), (56, row 9 Cd.pv l), (57, I l.length), (58, I k.1)]) (fun _ => [madeS l.length m]) (fun k => l.length - k.1) ⟨0, Nat.zero_le _, hq⟩ [] (by kernel_rfl) trivial (by kernel_rfl) (by kernel_rfl) fun ⟨k, hk, hq2⟩ L2 ih2 => ?_
  refine M.ts (decide ((k : Int) < (l.length : Int))) (fun h4 => ?_) (fun h4 => ?_)
  ·have hklt : k < l.length := by simpa using h4
   rw [loop_cons hklt, chk2] at hq2
   refine M.testp [0 <= (k : Int) /\ (k : Int) < (l.length : Int)] (l.getD (k : Int).toNat default).blk (by kernel_rfl) ⟨by omega, trivial⟩ (fun h5 => ?_) (fun h5 => ?_)
   ·rw [h5] at hq2
    refine M.testp [0 <= (k : Int) /\ (k : Int) < (l.length : Int), (k : Int).toNat < l.length] (m k != 1) (by kernel_rfl) ⟨by omega, by omega, trivial⟩ (fun h6 => ?_) (fun h6 => ?_)
    ·rw [h6] at hq2; exact M.rq hq2
    ·rw [h6] at hq2
     refine M.rn [In64 ((k : Int) + 1)] [0] hst ⟨⟨by omega, by omega⟩, trivial⟩ fun L3 => ?_
     exact M.bk [] (ih2 ⟨k + 1, hklt, hq2⟩ L3 (by show l.length - (k + 1) < l.length - k; omega)) trivial
   ·rw [h5] at hq2
    refine M.rn [In64 ((k : Int) + 1)] [0] hst ⟨⟨by omega, by omega⟩, trivial⟩ fun L3 => ?_
    exact M.bk [] (ih2 ⟨k + 1, hklt, hq2⟩ L3 (by show l.length - (k + 1) < l.length - k; omega)) trivial
  ·rw [loop_nil (nlt_of_dec h4), chk2] at hq2
   exact M.rq hq2
theorem obj_some {w : Wd} {n : Int} {o : Ob} (h : objAt w n = some o) : Spec Tryz.prog 90 [.ptr (chgF w), I n] (.ptr o.pv) := by
 have := obj_spec w n; rw [h] at this; exact this
theorem obj_none {w : Wd} {n : Int} (h : objAt w n = none) : Spec Tryz.prog 90 [.ptr (chgF w), I n] (.v (.pointer none)) := by
 have := obj_spec w n; rw [h] at this; exact this
def hasW (w : Wd) (v : Vl) : Bool := bif valueC v != 0 then false else bif v.k != 4 then true else (objAt w v.n).isSome
theorem hasW_spec (w : Wd) (v : Vl) (hn : In64 v.n) : Spec Tryz.prog 128 [.ptr (chgF w), .agg v.pv] (.sb (hasW w v)) := by
 refine Spec.startL (by kernel_rfl) Tryz.func128 rfl rfl fun w0 L hst => ?_
 refine M.cl (value_spec v hn) ?_
 refine M.tq (r := hasW w v) rfl (fun h1 q1 => M.rq q1) (fun h1 q1 => ?_)
 refine M.tq q1 (fun h2 q2 => M.rq q2) (fun h2 q2 => ?_)
 cases ho : objAt w v.n with
 | none => rw [ho] at q2; refine M.cl (obj_none ho) ?_; exact M.rq q2
 | some o => rw [ho] at q2; refine M.cl (obj_some ho) ?_; exact M.rq q2
def nhasW (w : Wd) (v : Vl) : Bool := !hasW w v
theorem nhasW_spec' (w : Wd) (v : Vl) (hn : In64 v.n) (r : Bool) (hq : nhasW w v = r) : Spec Tryz.prog 127 [.agg v.pv, .ptr [.ptr (chgF w)]] (.sb r) := by
 unfold nhasW at hq
 refine Spec.startL (by kernel_rfl) Tryz.func127 rfl rfl fun w0 L hst => ?_
 refine M.cl (hasW_spec w v ((by first | rfl | omega | (constructor <;> omega) | assumption | (exact hb _ ‹_›) | trivial | (simp_all; done) | (simp_all; omega) | (simp_all [In64]; omega)))) ?_
 exact M.rq hq
theorem nhasW_spec (w : Wd) (v : Vl) (hn : In64 v.n) : Spec Tryz.prog 127 [.agg v.pv, .ptr [.ptr (chgF w)]] (.sb (nhasW w v)) := nhasW_spec' w v hn _ rfl
def allW (w : Wd) (l : List Vl) : Bool := !l.any (nhasW w)
theorem allW_spec' (w : Wd) (l : List Vl) (hb : ∀ v ∈ l, In64 v.n) (r : Bool) (hq : allW w l = r) : Spec Tryz.prog 91 [.ptr (chgF w), row 3 Vl.pv l] (.sb r) := by
 unfold allW at hq
 refine Spec.startL (by kernel_rfl) Tryz.func91 rfl rfl fun w0 L hst => ?_
 refine M.cl (has_Val_1' l 127 (PV.ptr [PV.ptr [PV.sl 6 w.objs.length fun j => (w.objs.getD j default).pv, PV.sl 9 w.acts.length fun j => (w.acts.getD j default).pv, PV.sl 9 w.cds.length fun j => (w.cds.getD j default).pv, PV.v (Value.int IntKind.i64 w.nO), PV.v (Value.int IntKind.i64 w.nA), PV.fm (KK.int IntKind.i64) (MF.i IntKind.i64 (atN w.objs w.objs.length))]]) (nhasW w) ((by first | rfl | omega | (constructor <;> omega) | assumption | (exact hb _ ‹_›) | trivial | (simp_all; done) | (simp_all; omega) | (simp_all [In64]; omega))) (fun x hx1 => nhasW_spec w x (by first | rfl | omega | (constructor <;> omega) | assumption | (exact hb _ ‹_›) | trivial | (simp_all; done) | (simp_all; omega) | (simp_all [In64]; omega)))) ?_
 exact M.rq hq
theorem allW_spec (w : Wd) (l : List Vl) (hb : ∀ v ∈ l, In64 v.n) : Spec Tryz.prog 91 [.ptr (chgF w), row 3 Vl.pv l] (.sb (allW w l)) := allW_spec' w l hb _ rfl
theorem actcmp_spec (a : Ac) (n : Int) : Spec Tryz.prog 228 [.agg a.pv, I n] (I (cmpF a.aid n)) := by
 refine Spec.startL (by kernel_rfl) Tryz.func228 rfl rfl fun w0 L hst => ?_
 refine M.cl (compare_spec a.aid n) ?_
 exact M.rq (r := cmpF a.aid n) rfl
def actAt (w : Wd) (n : Int) : Option Ac :=
 bif decide (bsRA w.acts (fun a => cmpF a.aid n) < w.acts.length) && cmpF (w.acts.getD (bsRA w.acts (fun a => cmpF a.aid n)).toNat default).aid n == 0 then some (w.acts.getD (bsRA w.acts (fun a => cmpF a.aid n)).toNat default) else none
theorem bsch_in (c : Int -> Int) : ∀ (n : Nat) (i j : Int), 0 <= i -> i <= j -> j <= 1000000000 -> i <= bsch c n i j /\ bsch c n i j <= j
 | 0, i, j, _, h, _ => ⟨Int.le_refl _, h⟩
 | n + 1, i, j, h0, h, h1 => by
  unfold bsch
  split
  ·rename_i hlt
   obtain ⟨ha, hb⟩ := half_at h0 hlt h1
   split
   ·have := bsch_in c n (half i j + 1) j (by omega) (by omega) h1
    omega
   ·have := bsch_in c n i (half i j) h0 ha (by omega)
    omega
  ·omega
theorem act_some {w : Wd} {n : Int} {a : Ac} (hb : w.acts.length <= 1000000000) (h : actAt w n = some a) : Spec Tryz.prog 170 [.ptr (chgF w), I n] (.ptr a.pv) := by
 unfold actAt at h
 cases hf : (decide (bsRA w.acts (fun a => cmpF a.aid n) < w.acts.length) && cmpF (w.acts.getD (bsRA w.acts (fun a => cmpF a.aid n)).toNat default).aid n == 0) with
 | false => rw [hf] at h; cases h
 | true =>
  rw [hf] at h
  simp only [cond_true, Option.some.injEq] at h
  have h0 := bsch_in (fun h => cmpF (w.acts.getD h.toNat default).aid n) w.acts.length 0 w.acts.length (by omega) (by omega) (by omega)
  have hlt : bsRA w.acts (fun a => cmpF a.aid n) < w.acts.length := by
   simp only [Bool.and_eq_true, decide_eq_true_eq] at hf
   exact hf.1
  rw [<- h]
  refine Spec.startL (by kernel_rfl) Tryz.func170 rfl rfl fun w0 L hst => ?_
  refine M.cl (bsearch_Act w.acts n 228 (fun a => cmpF a.aid n) hb fun x _ => actcmp_spec x n) ?_
  refine M.n (b := !(decide (bsRA w.acts (fun a => cmpF a.aid n) < w.acts.length) && cmpF (w.acts.getD (bsRA w.acts (fun a => cmpF a.aid n)).toNat default).aid n == 0)) (by rw [hf]; rfl) ?_
  exact M.retp [0 <= bsRA w.acts (fun a => cmpF a.aid n) /\ bsRA w.acts (fun a => cmpF a.aid n) < w.acts.length] (.ptr (w.acts.getD (bsRA w.acts (fun a => cmpF a.aid n)).toNat default).pv) (by kernel_rfl) ⟨⟨h0.1, hlt⟩, trivial⟩ rfl
theorem act_none {w : Wd} {n : Int} (hb : w.acts.length <= 1000000000) (h : actAt w n = none) : Spec Tryz.prog 170 [.ptr (chgF w), I n] (.v (.pointer none)) := by
 unfold actAt at h
 cases hf : (decide (bsRA w.acts (fun a => cmpF a.aid n) < w.acts.length) && cmpF (w.acts.getD (bsRA w.acts (fun a => cmpF a.aid n)).toNat default).aid n == 0) with
 | true => rw [hf] at h; cases h
 | false =>
  refine Spec.startL (by kernel_rfl) Tryz.func170 rfl rfl fun w0 L hst => ?_
  refine M.cl (bsearch_Act w.acts n 228 (fun a => cmpF a.aid n) hb fun x _ => actcmp_spec x n) ?_
  refine M.ys (b := !(decide (bsRA w.acts (fun a => cmpF a.aid n) < w.acts.length) && cmpF (w.acts.getD (bsRA w.acts (fun a => cmpF a.aid n)).toNat default).aid n == 0)) (by rw [hf]; rfl) ?_
  exact M.ret (.v (.pointer none)) (by kernel_rfl) rfl
def upOKW (w : Wd) (piece up : Int) : Bool :=
 bif !(w.cds.getD piece.toNat default).blk then up == 0 else match actAt w up with | none => false | some a => a.code == (w.cds.getD piece.toNat default).outer
theorem upOK_spec (w : Wd) (piece up : Int) (ha : w.acts.length <= 1000000000) (hp : 0 <= piece /\ piece < w.cds.length) : Spec Tryz.prog 130 [.ptr (chgF w), I piece, I up] (.sb (upOKW w piece up)) := by
 refine Spec.startL (by kernel_rfl) Tryz.func130 rfl rfl fun w0 L hst => ?_
 refine M.tqp [0 <= piece /\ piece < (w.cds.length : Int)] ⟨hp, trivial⟩ (r := upOKW w piece up) rfl (fun h1 q1 => M.rq q1) (fun h1 q1 => ?_)
 cases ho : actAt w up with
 | none =>
  rw [ho] at q1
  refine M.cl (act_none ha ho) ?_
  exact M.rq q1
 | some a =>
  rw [ho] at q1
  refine M.cl (act_some ha ho) ?_
  exact M.rqp [0 <= piece /\ piece < (w.cds.length : Int)] ⟨hp, trivial⟩ q1
def rule1W (w : Wd) (o : Ob) : Bool := (bif plainObF o then (↑o.el.length : Int) == 0 else false)
theorem rule1W_spec' (w : Wd) (o : Ob) (r : Bool) (hq : rule1W w o = r) : Spec Tryz.prog 171 [.ptr (chgF w), .agg o.pv] (.sb r) := by
 unfold rule1W at hq
 refine Spec.startL (by kernel_rfl) Tryz.func171 rfl rfl fun w0 L hst => ?_
 refine M.cl (plainOb_spec o) ?_
 refine M.tq hq (fun h1 q2 => ?_) (fun h1 q2 => ?_)
 ·exact M.rq q2
 ·exact M.rq q2
theorem rule1W_spec (w : Wd) (o : Ob) : Spec Tryz.prog 171 [.ptr (chgF w), .agg o.pv] (.sb (rule1W w o)) := rule1W_spec' w o _ rfl
def rule2W (w : Wd) (o : Ob) : Bool := (bif plainObF o then (bif decide ((↑o.el.length : Int) <= 400) then allW w o.el else false) else false)
theorem rule2W_spec' (w : Wd) (o : Ob) (hb : ∀ v ∈ o.el, In64 v.n) (r : Bool) (hq : rule2W w o = r) : Spec Tryz.prog 173 [.ptr (chgF w), .agg o.pv] (.sb r) := by
 unfold rule2W at hq
 refine Spec.startL (by kernel_rfl) Tryz.func173 rfl rfl fun w0 L hst => ?_
 refine M.cl (plainOb_spec o) ?_
 refine M.tq hq (fun h1 q2 => ?_) (fun h1 q2 => ?_)
 ·refine M.tq q2 (fun h3 q4 => ?_) (fun h3 q4 => ?_)
  ·refine M.cl (allW_spec w o.el ((by first | rfl | omega | (constructor <;> omega) | assumption | (exact hb _ ‹_›) | trivial | (simp_all; done) | (simp_all; omega) | (simp_all [In64]; omega)))) ?_
   exact M.rq q4
  ·exact M.rq q4
 ·exact M.rq q2
theorem rule2W_spec (w : Wd) (o : Ob) (hb : ∀ v ∈ o.el, In64 v.n) : Spec Tryz.prog 173 [.ptr (chgF w), .agg o.pv] (.sb (rule2W w o)) := rule2W_spec' w o hb _ rfl
def rule4W (w : Wd) (o : Ob) : Bool := (bif plainObF o then (bif (↑o.el.length : Int) == 1 then allW w o.el else false) else false)
theorem rule4W_spec' (w : Wd) (o : Ob) (hb : ∀ v ∈ o.el, In64 v.n) (r : Bool) (hq : rule4W w o = r) : Spec Tryz.prog 175 [.ptr (chgF w), .agg o.pv] (.sb r) := by
 unfold rule4W at hq
 refine Spec.startL (by kernel_rfl) Tryz.func175 rfl rfl fun w0 L hst => ?_
 refine M.cl (plainOb_spec o) ?_
 refine M.tq hq (fun h1 q2 => ?_) (fun h1 q2 => ?_)
 ·refine M.tq q2 (fun h3 q4 => ?_) (fun h3 q4 => ?_)
  ·refine M.cl (allW_spec w o.el ((by first | rfl | omega | (constructor <;> omega) | assumption | (exact hb _ ‹_›) | trivial | (simp_all; done) | (simp_all; omega) | (simp_all [In64]; omega)))) ?_
   exact M.rq q4
  ·exact M.rq q4
 ·exact M.rq q2
theorem rule4W_spec (w : Wd) (o : Ob) (hb : ∀ v ∈ o.el, In64 v.n) : Spec Tryz.prog 175 [.ptr (chgF w), .agg o.pv] (.sb (rule4W w o)) := rule4W_spec' w o hb _ rfl
def rule5W (w : Wd) (o : Ob) : Bool := bif plainObF o then (bif (o.el.length : Int) == 1 then countF (o.el.getD (0 : Int).toNat default) else false) else false
theorem rule5W_spec (w : Wd) (o : Ob) : Spec Tryz.prog 176 [.ptr (chgF w), .agg o.pv] (.sb (rule5W w o)) := by
 refine Spec.startL (by kernel_rfl) Tryz.func176 rfl rfl fun w0 L hst => ?_
 refine M.cl (plainOb_spec o) ?_
 refine M.tq (r := rule5W w o) rfl (fun h1 q1 => ?_) (fun h1 q1 => M.rq q1)
 refine M.tq q1 (fun h2 q2 => ?_) (fun h2 q2 => M.rq q2)
 have h2' : (o.el.length : Int) = 1 := by simpa using h2
 refine M.clp [(0 : Int) <= 0 /\ (0 : Int) < o.el.length] ⟨by omega, trivial⟩ (count_spec (o.el.getD (0 : Int).toNat default)) ?_
 exact M.rq q2
def rule3W (w : Wd) (o : Ob) : Bool :=
 bif decide ((o.el.length : Int) > 0) then false else bif decide (o.code < 0) then false else bif decide (o.code >= (w.cds.length : Int)) then false else bif !(w.cds.getD o.code.toNat default).blk then false else
 match actAt w o.up with | none => false | some a => a.code == (w.cds.getD o.code.toNat default).outer
theorem rule3_spec (w : Wd) (o : Ob) (ha : w.acts.length <= 1000000000) : Spec Tryz.prog 174 [.ptr (chgF w), .agg o.pv] (.sb (rule3W w o)) := by
 refine Spec.startL (by kernel_rfl) Tryz.func174 rfl rfl fun w0 L hst => ?_
 refine M.tq (r := rule3W w o) rfl (fun h1 q1 => M.rq q1) (fun h1 q1 => ?_)
 refine M.tq q1 (fun h2 q2 => M.rq q2) (fun h2 q2 => ?_)
 refine M.tq q2 (fun h3 q3 => M.rq q3) (fun h3 q3 => ?_)
 have h2' := of_decide_eq_false h2
 have h3' := of_decide_eq_false h3
 refine M.tqp [0 <= o.code /\ o.code < (w.cds.length : Int)] ⟨by omega, trivial⟩ q3 (fun h4 q4 => M.rq q4) (fun h4 q4 => ?_)
 cases ho : actAt w o.up with
 | none =>
  rw [ho] at q4
  refine M.cl (act_none ha ho) ?_
  exact M.rq q4
 | some a =>
  rw [ho] at q4
  refine M.cl (act_some ha ho) ?_
  exact M.rqp [0 <= o.code /\ o.code < (w.cds.length : Int)] ⟨by omega, trivial⟩ q4
def slotW (w : Wd) (o : Ob) (s : Sl) : Bool :=
 bif s.v.k != 5 then (bif decide (s.kd >= 1) then (bif decide (s.kd <= 4) then (bif carityP s.nm == 0 then hasW w s.v else false) else false) else false)
 else bif s.kd != 1 then false else bif !(s.v.t == []) then false else bif decide (s.v.n < 0) then false else bif decide (s.v.n >= (w.cds.length : Int)) then false
 else bif !(w.cds.getD s.v.n.toNat default).blk then carityP s.nm == (w.cds.getD s.v.n.toNat default).args
 else bif (bnL (w.cds.getD s.v.n.toNat default).args).2 == 0 then (bif o.kd == 3 then (bif o.code == s.v.n then s.nm == (bnL (w.cds.getD s.v.n.toNat default).args).1 else false) else false) else false
theorem slotW_spec (w : Wd) (o : Ob) (s : Sl) (hn : In64 s.v.n) : Spec Tryz.prog 133 [.ptr (chgF w), .agg o.pv, .agg s.pv] (.sb (slotW w o s)) := by
 refine Spec.startL (by kernel_rfl) Tryz.func133 rfl rfl fun w0 L hst => ?_
 refine M.tq (r := slotW w o s) rfl (fun h1 q1 => ?_) (fun h1 q1 => ?_)
 ·refine M.tq q1 (fun h2 q2 => ?_) (fun h2 q2 => M.rq q2)
  refine M.tq q2 (fun h3 q3 => ?_) (fun h3 q3 => M.rq q3)
  refine M.cl (carity_spec s.nm) ?_
  refine M.tq q3 (fun h4 q4 => ?_) (fun h4 q4 => M.rq q4)
  refine M.cl (hasW_spec w s.v hn) ?_
  exact M.rq q4
 refine M.tq q1 (fun h2 q2 => M.rq q2) (fun h2 q2 => ?_)
 refine M.tq q2 (fun h3 q3 => M.rq q3) (fun h3 q3 => ?_)
 refine M.tq q3 (fun h4 q4 => M.rq q4) (fun h4 q4 => ?_)
 refine M.tq q4 (fun h5 q5 => M.rq q5) (fun h5 q5 => ?_)
 have h4' := of_decide_eq_false h4
 have h5' := of_decide_eq_false h5
 have hp : 0 <= s.v.n /\ s.v.n < (w.cds.length : Int) := by omega
 refine M.tqp [0 <= s.v.n /\ s.v.n < (w.cds.length : Int)] ⟨hp, trivial⟩ q5 (fun h6 q6 => ?_) (fun h6 q6 => ?_)
 ·refine M.cl (carity_spec s.nm) ?_
  exact M.rqp [0 <= s.v.n /\ s.v.n < (w.cds.length : Int)] ⟨hp, trivial⟩ q6
 refine M.clp [0 <= s.v.n /\ s.v.n < (w.cds.length : Int)] ⟨hp, trivial⟩ (blockName_spec (w.cds.getD s.v.n.toNat default).args) ?_
 refine M.tq q6 (fun h7 q7 => ?_) (fun h7 q7 => M.rq q7)
 refine M.tq q7 (fun h8 q8 => ?_) (fun h8 q8 => M.rq q8)
 refine M.tq q8 (fun h9 q9 => ?_) (fun h9 q9 => M.rq q9)
 exact M.rq q9
def sameNm (t : Sl) (s : Sl) : Bool := t.nm == s.nm
theorem sameNm_spec' (t s : Sl) (r : Bool) (hq : sameNm t s = r) : Spec Tryz.prog 134 [.agg t.pv, .ptr s.pv] (.sb r) := by
 unfold sameNm at hq
 refine Spec.startL (by kernel_rfl) Tryz.func134 rfl rfl fun w0 L hst => ?_
 exact M.rq hq
theorem sameNm_spec (t s : Sl) : Spec Tryz.prog 134 [.agg t.pv, .ptr s.pv] (.sb (sameNm t s)) := sameNm_spec' t s _ rfl
theorem wrules_spec : Spec Tryz.prog 132 [] (.agg [.v .nilFunc, fnP 171, fnP 173, fnP 174, fnP 175, fnP 176]) := by
 refine Spec.start (by kernel_rfl) Tryz.func132 rfl rfl fun w0 L => ?_
 exact M.ret _ (by kernel_rfl) rfl
def kindW (w : Wd) (o : Ob) : Bool := bif o.kd == 1 then rule1W w o else bif o.kd == 2 then rule2W w o else bif o.kd == 3 then rule3W w o else bif o.kd == 4 then rule4W w o else rule5W w o
def slotsW (w : Wd) (o : Ob) : List Sl -> Nat -> Bool
 | [], _ => true
 | s :: t, i => bif !slotW w o s then false else bif (o.sl.take i).any (fun t => sameNm t s) then false else slotsW w o t (i + 1)
def objectW (w : Wd) (o : Ob) : Bool :=
 bif decide (o.kd < 1) then false else bif decide (o.kd > 5) then false else bif decide ((o.sl.length : Int) > 40) then false else bif !kindW w o then false else slotsW w o o.sl 0
structure Ob.Ok (o : Ob) : Prop where
 sl : ∀ s ∈ o.sl, In64 s.v.n
 el : ∀ v ∈ o.el, In64 v.n
 nsl : o.sl.length <= 1000000
 nel : o.el.length <= 1000000
theorem row_take {α : Type} [Inhabited α] (k : Nat) (f : α -> List PV) (l : List α) {i : Nat} (hi : i <= l.length) {L : List Nat} {W : World} {u : Value} (h : R [] L W (.sl k i (fun j => f (l.getD (0 + j) default))) u) : R [] L W (row k f (l.take i)) u := by
 refine sl_eq (by rw [List.length_take]; omega) (fun j hj => ?_) h
 rw [Nat.zero_add, List.getD_eq_getElem?_getD, List.getD_eq_getElem?_getD, List.getElem?_take, if_pos hj]
theorem firsts_spec (l : List Sl) (s : Sl) (i : Nat) (hi : i <= l.length) : Spec Tryz.prog 111 [.sl 5 i (fun j => Sl.pv (l.getD (0 + j) default)), .fn 134 [.ptr s.pv]] (.sb ((l.take i).any (fun t => sameNm t s))) := by
 have := has_Slot_1' (l.take i) 134 (.ptr s.pv) (fun t => sameNm t s) rfl fun t _ => sameNm_spec t s
 refine this.conv (fun L W vs h => ?_) (fun _ _ _ h => h)
 obtain ⟨u, us, rfl, h1, h2⟩ := h.uncons
 exact Rs.cons (row_take 5 Sl.pv l hi (by simpa using h1)) h2
set_option maxHeartbeats 1000000 in
theorem object_spec (w : Wd) (o : Ob) (ho : o.Ok) (ha : w.acts.length <= 1000000000) : Spec Tryz.prog 97 [.ptr (chgF w), .agg o.pv] (.sb (objectW w o)) := by
 obtain ⟨oid, kd, sl, el, code, up⟩ := o
 obtain ⟨hsl, hel, _, _⟩ := ho
 simp only at hsl hel
 have hr : ∀ r, objectW w ⟨oid, kd, sl, el, code, up⟩ = r -> Spec Tryz.prog 97 [.ptr (chgF w), .agg (Ob.mk oid kd sl el code up).pv] (.sb r) := fun r hr => by
  unfold objectW at hr
  by_cases hk : kd = 1 \/ kd = 2 \/ kd = 3 \/ kd = 4 \/ kd = 5
  ·rcases hk with rfl | rfl | rfl | rfl | rfl
   ·replace hr : (bif decide ((sl.length : Int) > 40) then false else bif !rule1W w ⟨oid, 1, sl, el, code, up⟩ then false else slotsW w ⟨oid, 1, sl, el, code, up⟩ sl 0) = r := hr
    refine Spec.startL (by kernel_rfl) Tryz.func97 rfl rfl fun w0 L hst => ?_
    refine M.n (b := decide ((1 : Int) < 1)) rfl ?_
    refine M.n (b := decide ((1 : Int) > 5)) rfl ?_
    refine M.tq hr (fun h3 q3 => M.rq q3) (fun h3 q3 => ?_)
    have hlen : sl.length <= 40 := by have := of_decide_eq_false h3; omega
    refine M.cl wrules_spec ?_
    refine M.clp [0 <= (1 : Int) /\ (1 : Int) < 6] ⟨by decide, trivial⟩ (rule1W_spec w ⟨oid, 1, sl, el, code, up⟩) ?_
    refine M.tq q3 (fun h4 q4 => M.rq q4) (fun h4 q4 => ?_)
    refine M.loopL (ι := {i : Nat // i <= sl.length /\ slotsW w ⟨oid, 1, sl, el, code, up⟩ (sl.drop i) i = r}) (fun i => [(0, .ptr (chgF w)), (3, .ref 0 0), (33, row 5 Sl.pv sl), (34, I sl.length), (35, I i.1)]) (fun _ => [Ob.pv ⟨oid, 1, sl, el, code, up⟩]) (fun i => sl.length - i.1) ⟨0, Nat.zero_le _, q4⟩ [] (by kernel_rfl) trivial (by kernel_rfl) (by kernel_rfl) fun ⟨i, hi, hq⟩ L ih => ?_
    refine M.ts (decide ((i : Int) < (sl.length : Int))) (fun h1 => ?_) (fun h1 => ?_)
    ·have hlt : i < sl.length := by simpa using h1
     rw [loop_cons hlt, slotsW] at hq
     refine M.clp [0 <= (i : Int) /\ (i : Int) < (sl.length : Int)] ⟨by omega, trivial⟩ (slotW_spec w ⟨oid, 1, sl, el, code, up⟩ (sl.getD (i : Int).toNat default) (hsl _ (getD_mem (by omega)))) ?_
     refine M.tq hq (fun h5 q5 => M.rq q5) (fun h5 q5 => ?_)
     refine M.clp [(0 : Int) <= 0 /\ (0 : Int) <= i /\ (i : Int) <= sl.length] ⟨by omega, trivial⟩ (firsts_spec sl (sl.getD (i : Int).toNat default) i hi) ?_
     refine M.tq q5 (fun h6 q6 => M.rq q6) (fun h6 q6 => ?_)
     refine M.rn [In64 ((i : Int) + 1)] [0] hst ⟨⟨by omega, by omega⟩, trivial⟩ fun L3 => ?_
     exact M.bk [] (ih ⟨i + 1, hlt, q6⟩ L3 (by show sl.length - (i + 1) < sl.length - i; omega)) trivial
    ·rw [loop_nil (nlt_of_dec h1), slotsW] at hq
     exact M.rq hq
   ·replace hr : (bif decide ((sl.length : Int) > 40) then false else bif !rule2W w ⟨oid, 2, sl, el, code, up⟩ then false else slotsW w ⟨oid, 2, sl, el, code, up⟩ sl 0) = r := hr
    refine Spec.startL (by kernel_rfl) Tryz.func97 rfl rfl fun w0 L hst => ?_
    refine M.n (b := decide ((2 : Int) < 1)) rfl ?_
    refine M.n (b := decide ((2 : Int) > 5)) rfl ?_
    refine M.tq hr (fun h3 q3 => M.rq q3) (fun h3 q3 => ?_)
    have hlen : sl.length <= 40 := by have := of_decide_eq_false h3; omega
    refine M.cl wrules_spec ?_
    refine M.clp [0 <= (2 : Int) /\ (2 : Int) < 6] ⟨by decide, trivial⟩ (rule2W_spec w ⟨oid, 2, sl, el, code, up⟩ hel) ?_
    refine M.tq q3 (fun h4 q4 => M.rq q4) (fun h4 q4 => ?_)
    refine M.loopL (ι := {i : Nat // i <= sl.length /\ slotsW w ⟨oid, 2, sl, el, code, up⟩ (sl.drop i) i = r}) (fun i => [(0, .ptr (chgF w)), (3, .ref 0 0), (33, row 5 Sl.pv sl), (34, I sl.length), (35, I i.1)]) (fun _ => [Ob.pv ⟨oid, 2, sl, el, code, up⟩]) (fun i => sl.length - i.1) ⟨0, Nat.zero_le _, q4⟩ [] (by kernel_rfl) trivial (by kernel_rfl) (by kernel_rfl) fun ⟨i, hi, hq⟩ L ih => ?_
    refine M.ts (decide ((i : Int) < (sl.length : Int))) (fun h1 => ?_) (fun h1 => ?_)
    ·have hlt : i < sl.length := by simpa using h1
     rw [loop_cons hlt, slotsW] at hq
     refine M.clp [0 <= (i : Int) /\ (i : Int) < (sl.length : Int)] ⟨by omega, trivial⟩ (slotW_spec w ⟨oid, 2, sl, el, code, up⟩ (sl.getD (i : Int).toNat default) (hsl _ (getD_mem (by omega)))) ?_
     refine M.tq hq (fun h5 q5 => M.rq q5) (fun h5 q5 => ?_)
     refine M.clp [(0 : Int) <= 0 /\ (0 : Int) <= i /\ (i : Int) <= sl.length] ⟨by omega, trivial⟩ (firsts_spec sl (sl.getD (i : Int).toNat default) i hi) ?_
     refine M.tq q5 (fun h6 q6 => M.rq q6) (fun h6 q6 => ?_)
     refine M.rn [In64 ((i : Int) + 1)] [0] hst ⟨⟨by omega, by omega⟩, trivial⟩ fun L3 => ?_
     exact M.bk [] (ih ⟨i + 1, hlt, q6⟩ L3 (by show sl.length - (i + 1) < sl.length - i; omega)) trivial
    ·rw [loop_nil (nlt_of_dec h1), slotsW] at hq
     exact M.rq hq
   ·replace hr : (bif decide ((sl.length : Int) > 40) then false else bif !rule3W w ⟨oid, 3, sl, el, code, up⟩ then false else slotsW w ⟨oid, 3, sl, el, code, up⟩ sl 0) = r := hr
    refine Spec.startL (by kernel_rfl) Tryz.func97 rfl rfl fun w0 L hst => ?_
    refine M.n (b := decide ((3 : Int) < 1)) rfl ?_
    refine M.n (b := decide ((3 : Int) > 5)) rfl ?_
    refine M.tq hr (fun h3 q3 => M.rq q3) (fun h3 q3 => ?_)
    have hlen : sl.length <= 40 := by have := of_decide_eq_false h3; omega
    refine M.cl wrules_spec ?_
    refine M.clp [0 <= (3 : Int) /\ (3 : Int) < 6] ⟨by decide, trivial⟩ (rule3_spec w ⟨oid, 3, sl, el, code, up⟩ ha) ?_
    refine M.tq q3 (fun h4 q4 => M.rq q4) (fun h4 q4 => ?_)
    refine M.loopL (ι := {i : Nat // i <= sl.length /\ slotsW w ⟨oid, 3, sl, el, code, up⟩ (sl.drop i) i = r}) (fun i => [(0, .ptr (chgF w)), (3, .ref 0 0), (33, row 5 Sl.pv sl), (34, I sl.length), (35, I i.1)]) (fun _ => [Ob.pv ⟨oid, 3, sl, el, code, up⟩]) (fun i => sl.length - i.1) ⟨0, Nat.zero_le _, q4⟩ [] (by kernel_rfl) trivial (by kernel_rfl) (by kernel_rfl) fun ⟨i, hi, hq⟩ L ih => ?_
    refine M.ts (decide ((i : Int) < (sl.length : Int))) (fun h1 => ?_) (fun h1 => ?_)
    ·have hlt : i < sl.length := by simpa using h1
     rw [loop_cons hlt, slotsW] at hq
     refine M.clp [0 <= (i : Int) /\ (i : Int) < (sl.length : Int)] ⟨by omega, trivial⟩ (slotW_spec w ⟨oid, 3, sl, el, code, up⟩ (sl.getD (i : Int).toNat default) (hsl _ (getD_mem (by omega)))) ?_
     refine M.tq hq (fun h5 q5 => M.rq q5) (fun h5 q5 => ?_)
     refine M.clp [(0 : Int) <= 0 /\ (0 : Int) <= i /\ (i : Int) <= sl.length] ⟨by omega, trivial⟩ (firsts_spec sl (sl.getD (i : Int).toNat default) i hi) ?_
     refine M.tq q5 (fun h6 q6 => M.rq q6) (fun h6 q6 => ?_)
     refine M.rn [In64 ((i : Int) + 1)] [0] hst ⟨⟨by omega, by omega⟩, trivial⟩ fun L3 => ?_
     exact M.bk [] (ih ⟨i + 1, hlt, q6⟩ L3 (by show sl.length - (i + 1) < sl.length - i; omega)) trivial
    ·rw [loop_nil (nlt_of_dec h1), slotsW] at hq
     exact M.rq hq
   ·replace hr : (bif decide ((sl.length : Int) > 40) then false else bif !rule4W w ⟨oid, 4, sl, el, code, up⟩ then false else slotsW w ⟨oid, 4, sl, el, code, up⟩ sl 0) = r := hr
    refine Spec.startL (by kernel_rfl) Tryz.func97 rfl rfl fun w0 L hst => ?_
    refine M.n (b := decide ((4 : Int) < 1)) rfl ?_
    refine M.n (b := decide ((4 : Int) > 5)) rfl ?_
    refine M.tq hr (fun h3 q3 => M.rq q3) (fun h3 q3 => ?_)
    have hlen : sl.length <= 40 := by have := of_decide_eq_false h3; omega
    refine M.cl wrules_spec ?_
    refine M.clp [0 <= (4 : Int) /\ (4 : Int) < 6] ⟨by decide, trivial⟩ (rule4W_spec w ⟨oid, 4, sl, el, code, up⟩ hel) ?_
    refine M.tq q3 (fun h4 q4 => M.rq q4) (fun h4 q4 => ?_)
    refine M.loopL (ι := {i : Nat // i <= sl.length /\ slotsW w ⟨oid, 4, sl, el, code, up⟩ (sl.drop i) i = r}) (fun i => [(0, .ptr (chgF w)), (3, .ref 0 0), (33, row 5 Sl.pv sl), (34, I sl.length), (35, I i.1)]) (fun _ => [Ob.pv ⟨oid, 4, sl, el, code, up⟩]) (fun i => sl.length - i.1) ⟨0, Nat.zero_le _, q4⟩ [] (by kernel_rfl) trivial (by kernel_rfl) (by kernel_rfl) fun ⟨i, hi, hq⟩ L ih => ?_
    refine M.ts (decide ((i : Int) < (sl.length : Int))) (fun h1 => ?_) (fun h1 => ?_)
    ·have hlt : i < sl.length := by simpa using h1
     rw [loop_cons hlt, slotsW] at hq
     refine M.clp [0 <= (i : Int) /\ (i : Int) < (sl.length : Int)] ⟨by omega, trivial⟩ (slotW_spec w ⟨oid, 4, sl, el, code, up⟩ (sl.getD (i : Int).toNat default) (hsl _ (getD_mem (by omega)))) ?_
     refine M.tq hq (fun h5 q5 => M.rq q5) (fun h5 q5 => ?_)
     refine M.clp [(0 : Int) <= 0 /\ (0 : Int) <= i /\ (i : Int) <= sl.length] ⟨by omega, trivial⟩ (firsts_spec sl (sl.getD (i : Int).toNat default) i hi) ?_
     refine M.tq q5 (fun h6 q6 => M.rq q6) (fun h6 q6 => ?_)
     refine M.rn [In64 ((i : Int) + 1)] [0] hst ⟨⟨by omega, by omega⟩, trivial⟩ fun L3 => ?_
     exact M.bk [] (ih ⟨i + 1, hlt, q6⟩ L3 (by show sl.length - (i + 1) < sl.length - i; omega)) trivial
    ·rw [loop_nil (nlt_of_dec h1), slotsW] at hq
     exact M.rq hq
   ·replace hr : (bif decide ((sl.length : Int) > 40) then false else bif !rule5W w ⟨oid, 5, sl, el, code, up⟩ then false else slotsW w ⟨oid, 5, sl, el, code, up⟩ sl 0) = r := hr
    refine Spec.startL (by kernel_rfl) Tryz.func97 rfl rfl fun w0 L hst => ?_
    refine M.n (b := decide ((5 : Int) < 1)) rfl ?_
    refine M.n (b := decide ((5 : Int) > 5)) rfl ?_
    refine M.tq hr (fun h3 q3 => M.rq q3) (fun h3 q3 => ?_)
    have hlen : sl.length <= 40 := by have := of_decide_eq_false h3; omega
    refine M.cl wrules_spec ?_
    refine M.clp [0 <= (5 : Int) /\ (5 : Int) < 6] ⟨by decide, trivial⟩ (rule5W_spec w ⟨oid, 5, sl, el, code, up⟩) ?_
    refine M.tq q3 (fun h4 q4 => M.rq q4) (fun h4 q4 => ?_)
    refine M.loopL (ι := {i : Nat // i <= sl.length /\ slotsW w ⟨oid, 5, sl, el, code, up⟩ (sl.drop i) i = r}) (fun i => [(0, .ptr (chgF w)), (3, .ref 0 0), (33, row 5 Sl.pv sl), (34, I sl.length), (35, I i.1)]) (fun _ => [Ob.pv ⟨oid, 5, sl, el, code, up⟩]) (fun i => sl.length - i.1) ⟨0, Nat.zero_le _, q4⟩ [] (by kernel_rfl) trivial (by kernel_rfl) (by kernel_rfl) fun ⟨i, hi, hq⟩ L ih => ?_
    refine M.ts (decide ((i : Int) < (sl.length : Int))) (fun h1 => ?_) (fun h1 => ?_)
    ·have hlt : i < sl.length := by simpa using h1
     rw [loop_cons hlt, slotsW] at hq
     refine M.clp [0 <= (i : Int) /\ (i : Int) < (sl.length : Int)] ⟨by omega, trivial⟩ (slotW_spec w ⟨oid, 5, sl, el, code, up⟩ (sl.getD (i : Int).toNat default) (hsl _ (getD_mem (by omega)))) ?_
     refine M.tq hq (fun h5 q5 => M.rq q5) (fun h5 q5 => ?_)
     refine M.clp [(0 : Int) <= 0 /\ (0 : Int) <= i /\ (i : Int) <= sl.length] ⟨by omega, trivial⟩ (firsts_spec sl (sl.getD (i : Int).toNat default) i hi) ?_
     refine M.tq q5 (fun h6 q6 => M.rq q6) (fun h6 q6 => ?_)
     refine M.rn [In64 ((i : Int) + 1)] [0] hst ⟨⟨by omega, by omega⟩, trivial⟩ fun L3 => ?_
     exact M.bk [] (ih ⟨i + 1, hlt, q6⟩ L3 (by show sl.length - (i + 1) < sl.length - i; omega)) trivial
    ·rw [loop_nil (nlt_of_dec h1), slotsW] at hq
     exact M.rq hq
  ·refine Spec.startL (by kernel_rfl) Tryz.func97 rfl rfl fun w0 L hst => ?_
   refine M.tq hr (fun h1 q1 => M.rq q1) (fun h1 q1 => ?_)
   refine M.tq q1 (fun h2 q2 => M.rq q2) (fun h2 q2 => ?_)
   have h1' := of_decide_eq_false h1
   have h2' := of_decide_eq_false h2
   simp only at h1' h2'
   omega
 exact hr _ rfl
structure Ac.Ok (a : Ac) : Prop where
 self : In64 a.self.n
 vars : ∀ v ∈ a.vars, In64 v.n
 nvars : a.vars.length <= 1000000
structure Wd.Ok (w : Wd) : Prop where
 objs : ∀ o ∈ w.objs, o.Ok
 acts : ∀ a ∈ w.acts, a.Ok
 cds : ∀ c ∈ w.cds, c.Ok
 nacts : w.acts.length <= 1000000000
 nobjs : w.objs.length <= 1000000000
 ncds : w.cds.length <= 1000000000
def activW (w : Wd) (a : Ac) : Bool :=
 bif decide (a.code < 0) then false else bif decide (a.code >= (w.cds.length : Int)) then false else bif !hasW w a.self then false else
 match objAt w a.holder with
 | none => false
 | some _ => bif (a.vars.length : Int) == ((w.cds.getD a.code.toNat default).names.length : Int) then (bif allW w a.vars then upOKW w a.code a.up else false) else false
theorem activ_spec (w : Wd) (a : Ac) (hok : a.Ok) (ha : w.acts.length <= 1000000000) : Spec Tryz.prog 94 [.ptr (chgF w), .agg a.pv] (.sb (activW w a)) := by
 refine Spec.startL (by kernel_rfl) Tryz.func94 rfl rfl fun w0 L hst => ?_
 refine M.tq (r := activW w a) rfl (fun h1 q1 => M.rq q1) (fun h1 q1 => ?_)
 refine M.tq q1 (fun h2 q2 => M.rq q2) (fun h2 q2 => ?_)
 have h1' := of_decide_eq_false h1
 have h2' := of_decide_eq_false h2
 have hp : 0 <= a.code /\ a.code < (w.cds.length : Int) := by omega
 refine M.cl (hasW_spec w a.self hok.self) ?_
 refine M.tq q2 (fun h3 q3 => M.rq q3) (fun h3 q3 => ?_)
 cases ho : objAt w a.holder with
 | none => rw [ho] at q3; refine M.cl (obj_none ho) ?_; exact M.rq q3
 | some o =>
  rw [ho] at q3
  refine M.cl (obj_some ho) ?_
  refine M.tqp [0 <= a.code /\ a.code < (w.cds.length : Int)] ⟨hp, trivial⟩ q3 (fun h4 q4 => ?_) (fun h4 q4 => M.rq q4)
  refine M.cl (allW_spec w a.vars hok.vars) ?_
  refine M.tq q4 (fun h5 q5 => ?_) (fun h5 q5 => M.rq q5)
  refine M.cl (upOK_spec w a.code a.up ha hp) ?_
  exact M.rq q5
def nactivW (w : Wd) (a : Ac) : Bool := !activW w a
theorem nactiv_spec (w : Wd) (a : Ac) (hok : a.Ok) (ha : w.acts.length <= 1000000000) : Spec Tryz.prog 93 [.agg a.pv, .ptr [.ptr (chgF w)]] (.sb (nactivW w a)) := by
 refine Spec.startL (by kernel_rfl) Tryz.func93 rfl rfl fun w0 L hst => ?_
 refine M.cl (activ_spec w a hok ha) ?_
 exact M.rq (r := nactivW w a) rfl
def nobjectW (w : Wd) (o : Ob) : Bool := !objectW w o
theorem nobject_spec (w : Wd) (o : Ob) (hok : o.Ok) (ha : w.acts.length <= 1000000000) : Spec Tryz.prog 96 [.agg o.pv, .ptr [.ptr (chgF w)]] (.sb (nobjectW w o)) := by
 refine Spec.startL (by kernel_rfl) Tryz.func96 rfl rfl fun w0 L hst => ?_
 refine M.cl (object_spec w o hok ha) ?_
 exact M.rq (r := nobjectW w o) rfl
def rootsW (w : Wd) : Nat -> Int -> Bool
 | 0, _ => true
 | n + 1, k => bif !(objAt w k).isSome then false else rootsW w n (k + 1)
def codesW (w : Wd) : List Cd -> Bool
 | [] => true
 | c :: t => bif !allW w c.lits then false else bif !allW w c.init then false else codesW w t
def validW (w : Wd) : Bool :=
 bif decide ((w.objs.length : Int) > 3000) then false else bif decide ((w.acts.length : Int) > 4000) then false else
 bif !numbB (w.objs.map (·.oid)) w.nO then false else bif !numbB (w.acts.map (·.aid)) w.nA then false else bif ccheckC w.cds != 0 then false else
 bif !rootsW w 10 1 then false else bif !codesW w w.cds then false else bif w.acts.any (nactivW w) then false else !w.objs.any (nobjectW w)
set_option maxHeartbeats 1000000 in
theorem valid_spec (w : Wd) (hw : w.Ok) : Spec Tryz.prog 44 [.ptr (chgF w)] (.sb (validW w)) := by
 generalize hr : validW w = r
 unfold validW at hr
 refine Spec.startL (by kernel_rfl) Tryz.func44 rfl rfl fun w0 L hst => ?_
 refine M.tq hr (fun h1 q1 => M.rq q1) (fun h1 q1 => ?_)
 refine M.tq q1 (fun h2 q2 => M.rq q2) (fun h2 q2 => ?_)
 refine M.cl (numbered_Obj w.objs w.nO) ?_
 refine M.tq q2 (fun h3 q3 => M.rq q3) (fun h3 q3 => ?_)
 refine M.cl (numbered_Act w.acts w.nA) ?_
 refine M.tq q3 (fun h4 q4 => M.rq q4) (fun h4 q4 => ?_)
 refine M.cl (ccheck_spec w.cds hw.cds) ?_
 refine M.tq q4 (fun h5 q5 => M.rq q5) (fun h5 q5 => ?_)
 clear hr q1 q2 q3 q4
 refine M.loopL (ι := {k : Nat // k <= 10 /\ rootsW w 10 1 = rootsW w (10 - k) (k + 1)}) (fun k => [(1, .ref 0 0), (3, I ((k.1 : Int) + 1))]) (fun _ => [[.ptr (chgF w)]]) (fun k => 10 - k.1) ⟨0, Nat.zero_le _, rfl⟩ [] (by kernel_rfl) trivial (by kernel_rfl) (by kernel_rfl) fun ⟨k, hk, hq⟩ L1 ih => ?_
 refine M.ts (decide ((k : Int) + 1 <= 10)) (fun h6 => ?_) (fun h6 => ?_)
 ·have h6' := of_decide_eq_true h6
  obtain ⟨n, hn⟩ : ∃ n, 10 - k = n + 1 := ⟨9 - k, by omega⟩
  rw [hn, show rootsW w (n + 1) ((k : Int) + 1) = (bif !(objAt w ((k : Int) + 1)).isSome then false else rootsW w n ((k : Int) + 1 + 1)) from rfl] at hq
  cases ho : objAt w ((k : Int) + 1) with
  | none =>
   rw [ho] at hq
   rw [hq] at q5
   refine M.cl (obj_none ho) ?_
   exact M.rq q5
  | some o =>
   rw [ho] at hq
   refine M.cl (obj_some ho) ?_
   refine M.rn [In64 ((k : Int) + 1 + 1)] [0] hst ⟨⟨by omega, by omega⟩, trivial⟩ fun L3 => ?_
   exact M.bk [] (ih ⟨k + 1, by omega, by rw [show 10 - (k + 1) = n by omega]; exact hq⟩ L3 (by show 10 - (k + 1) < 10 - k; omega)) trivial
 ·have h6' := of_decide_eq_false h6
  have : k = 10 := by omega
  subst this
  have hq' : rootsW w 10 1 = true := hq
  rw [hq'] at q5
  replace q5 : (bif !codesW w w.cds then false else bif w.acts.any (nactivW w) then false else !w.objs.any (nobjectW w)) = r := q5
  refine M.loopL (ι := {k : Nat // k <= w.cds.length /\ codesW w w.cds = codesW w (w.cds.drop k)}) (fun k => [(1, .ref 0 0), (71, row 9 Cd.pv w.cds), (72, I w.cds.length), (73, I k.1)]) (fun _ => [[.ptr (chgF w)]]) (fun k => w.cds.length - k.1) ⟨0, Nat.zero_le _, rfl⟩ [] (by kernel_rfl) trivial (by kernel_rfl) (by kernel_rfl) fun ⟨k, hk, hq⟩ L2 ih => ?_
  have hnc := hw.ncds
  refine M.ts (decide ((k : Int) < (w.cds.length : Int))) (fun h7 => ?_) (fun h7 => ?_)
  ·have hlt : k < w.cds.length := by simpa using h7
   have hcok := hw.cds _ (getD_mem (l := w.cds) (p := (k : Int).toNat) (by omega))
   rw [loop_cons hlt, show codesW w (w.cds.getD (k : Int).toNat default :: w.cds.drop (k + 1)) = (bif !allW w (w.cds.getD (k : Int).toNat default).lits then false else bif !allW w (w.cds.getD (k : Int).toNat default).init then false else codesW w (w.cds.drop (k + 1))) from rfl] at hq
   refine M.clp [0 <= (k : Int) /\ (k : Int) < (w.cds.length : Int)] ⟨by omega, trivial⟩ (allW_spec w (w.cds.getD (k : Int).toNat default).lits hcok.lits) ?_
   refine M.ts (!allW w (w.cds.getD (k : Int).toNat default).lits) (fun h8 => ?_) (fun h8 => ?_)
   ·rw [h8] at hq; rw [hq] at q5; exact M.rq q5
   rw [h8] at hq
   refine M.cl (allW_spec w (w.cds.getD (k : Int).toNat default).init hcok.init) ?_
   refine M.ts (!allW w (w.cds.getD (k : Int).toNat default).init) (fun h9 => ?_) (fun h9 => ?_)
   ·rw [h9] at hq; rw [hq] at q5; exact M.rq q5
   rw [h9] at hq
   refine M.rn [In64 ((k : Int) + 1)] [0] hst ⟨⟨by omega, by omega⟩, trivial⟩ fun L3 => ?_
   exact M.bk [] (ih ⟨k + 1, hlt, hq⟩ L3 (by show w.cds.length - (k + 1) < w.cds.length - k; omega)) trivial
  ·rw [loop_nil (nlt_of_dec h7)] at hq
   rw [hq] at q5
   replace q5 : (bif w.acts.any (nactivW w) then false else !w.objs.any (nobjectW w)) = r := q5
   refine M.cl (has_Act_1' w.acts 93 (.ptr [.ptr (chgF w)]) (nactivW w) rfl fun a h => nactiv_spec w a (hw.acts a h) hw.nacts) ?_
   refine M.tq q5 (fun h8 q6 => M.rq q6) (fun h8 q6 => ?_)
   refine M.cl (has_Obj_1' w.objs 96 (.ptr [.ptr (chgF w)]) (nobjectW w) rfl fun a h => nobject_spec w a (hw.objs a h) hw.nacts) ?_
   exact M.rq q6
def wcheckW (w : Wd) : Int := bif !validW w then 50 else 0
theorem wcheck_spec (w : Wd) (hw : w.Ok) : Spec Tryz.prog 15 [.agg w.pv] (I (wcheckW w)) := by
 refine Spec.startL (by kernel_rfl) Tryz.func15 rfl rfl fun w0 L hst => ?_
 refine M.cm [] (indexed_spec w) ?_
 refine M.cl (valid_spec w hw) ?_
 refine M.tq (r := wcheckW w) rfl (fun h1 q1 => M.rq q1) (fun h1 q1 => M.rq q1)
end Go.Proofs.YtplpnfjccemdnaaGreatDoor
