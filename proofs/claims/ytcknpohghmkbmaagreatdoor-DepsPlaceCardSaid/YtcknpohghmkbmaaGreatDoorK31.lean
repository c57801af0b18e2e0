import Derived.Test.YtcknpohghmkbmaaGreatDoorK30
set_option linter.unusedVariables false
set_option linter.unusedSimpArgs false
/- The texts D34 D35 of the proof, laid one behind the other. -/
namespace Go.Proofs.YtcknpohghmkbmaaGreatDoor
open Go.RowKit
theorem rsameSlots (l m : List Sl) : Spec Tryz.prog 43 [row 5 Sl.pv l, row 5 Sl.pv m] (.sb (eqFrom slEq l m)) := by
 refine Spec.fact (by kernel_rfl) 0 rfl fun hf => ?_
 have hl : l.length <= 9223372036854775807 := hf.1
 refine Spec.startL (by kernel_rfl) Tryz.func43 rfl rfl fun w0 L hst => ?_
 refine M.test ((l.length : Int) != (m.length : Int)) (by kernel_rfl) (fun h0 => M.retb false (by kernel_rfl) (eqFrom_len (by simp at h0; omega)).symm) (fun h0 => ?_)
 have hlm : l.length = m.length := by simp at h0; omega
 refine M.loopL (ι := {i : Nat // i <= l.length /\ eqFrom slEq l m = eqFrom slEq (l.drop i) (m.drop i)}) (fun i => [(0, row 5 Sl.pv l), (1, row 5 Sl.pv m), (5, I i.1)]) (fun _ => []) (fun i => l.length - i.1) ⟨0, Nat.zero_le _, rfl⟩ [] (by kernel_rfl) trivial (by kernel_rfl) (by kernel_rfl) fun ⟨i, hi, hq⟩ L ih => ?_
 refine M.test (decide ((i : Int) < (l.length : Int))) (by kernel_rfl) (fun h1 => ?_) (fun h1 => ?_)
 ·have hlt : i < l.length := by simpa using h1
  have hlt' : i < m.length := by omega
  rw [List.drop_eq_getElem_cons hlt, List.drop_eq_getElem_cons hlt', eqFrom] at hq
  refine M.testp [0 <= (i : Int) /\ (i : Int) < (l.length : Int), 0 <= (i : Int) /\ (i : Int) < (m.length : Int)] (!slEq (l.getD (i : Int).toNat default) (m.getD (i : Int).toNat default)) (by kernel_rfl) ⟨by omega, by omega, trivial⟩ (fun h2 => ?_) (fun h2 => ?_)
  ·rw [getD_nat hlt, getD_nat hlt'] at h2
   simp only [Bool.not_eq_true'] at h2
   exact M.retb false (by kernel_rfl) (by rw [hq, h2]; rfl)
  ·rw [getD_nat hlt, getD_nat hlt'] at h2
   simp only [Bool.not_eq_false'] at h2
   exact M.back [In64 ((i : Int) + 1)] (ih ⟨i + 1, hlt, by rw [hq, h2]; rfl⟩ L (by show l.length - (i + 1) < l.length - i; omega)) (by kernel_rfl) ⟨⟨by omega, by omega⟩, trivial⟩ (by kernel_rfl) (by kernel_rfl) (by kernel_rfl) (by kernel_rfl)
 ·have hd : l.drop i = [] := List.drop_eq_nil_of_le (by have := of_decide_eq_false h1; omega)
  have hd' : m.drop i = [] := List.drop_eq_nil_of_le (by have := of_decide_eq_false h1; omega)
  rw [hd, hd'] at hq
  exact M.retb true (by kernel_rfl) (by rw [hq]; rfl)
def rmpEq (a b : Mp) : Bool := bif a.kd == b.kd then eqFrom slEq a.sl b.sl else false
theorem rsameMap (a b : Mp) : Spec Tryz.prog 24 [.agg a.pv, .agg b.pv] (.sb (rmpEq a b)) := by
 refine Spec.startL (by kernel_rfl) Tryz.func24 rfl rfl fun w0 L hst => ?_
 refine M.tq (r := rmpEq a b) rfl (fun h1 q1 => ?_) (fun h1 q1 => M.rq q1)
 refine M.cl (rsameSlots a.sl b.sl) ?_
 exact M.rq q1
def dpEq (a b : Dp) : Bool := bif a.oid == b.oid then (bif a.whole == b.whole then (bif a.slot == b.slot then (bif vlEq a.v b.v then rmpEq a.map b.map else false) else false) else false) else false
theorem rsameDep (a b : Dp) : Spec Tryz.prog 35 [.agg a.pv, .agg b.pv] (.sb (dpEq a b)) := by
 refine Spec.startL (by kernel_rfl) Tryz.func35 rfl rfl fun w0 L hst => ?_
 refine M.tq (r := dpEq a b) rfl (fun h1 q1 => ?_) (fun h1 q1 => M.rq q1)
 refine M.tq q1 (fun h2 q2 => ?_) (fun h2 q2 => M.rq q2)
 refine M.tq q2 (fun h3 q3 => ?_) (fun h3 q3 => M.rq q3)
 refine M.tq q3 (fun h4 q4 => ?_) (fun h4 q4 => M.rq q4)
 refine M.cl (rsameMap a.map b.map) ?_
 exact M.rq q4
theorem dpEq_self (a : Dp) : dpEq a a = true := by
 unfold dpEq rmpEq
 simp [vlEq_iff.2 rfl, (eqFrom_iff slEq_iff (l := a.map.sl) (m := a.map.sl)).2 rfl]
theorem rsameDeps (l : List Dp) : Spec Tryz.prog 17 [row 8 Dp.pv l, row 8 Dp.pv l] (.sb true) := by
 refine Spec.fact (by kernel_rfl) 0 rfl fun hf => ?_
 have hl : l.length <= 9223372036854775807 := hf.1
 refine Spec.startL (by kernel_rfl) Tryz.func17 rfl rfl fun w0 L hst => ?_
 refine M.no (b := (l.length : Int) != (l.length : Int)) (by simp) (by kernel_rfl) ?_
 refine M.loopL (ι := {i : Nat // i <= l.length}) (fun i => [(0, row 8 Dp.pv l), (1, row 8 Dp.pv l), (5, I i.1)]) (fun _ => []) (fun i => l.length - i.1) ⟨0, Nat.zero_le _⟩ [] (by kernel_rfl) trivial (by kernel_rfl) (by kernel_rfl) fun ⟨i, hi⟩ L ih => ?_
 refine M.test (decide ((i : Int) < (l.length : Int))) (by kernel_rfl) (fun h1 => ?_) (fun h1 => ?_)
 ·have hlt : i < l.length := by simpa using h1
  refine M.clp [0 <= (i : Int) /\ (i : Int) < (l.length : Int), 0 <= (i : Int) /\ (i : Int) < (l.length : Int)] ⟨by omega, by omega, trivial⟩ (rsameDep (l.getD (i : Int).toNat default) (l.getD (i : Int).toNat default)) ?_
  rw [dpEq_self]
  refine M.no (b := !true) rfl (by kernel_rfl) ?_
  exact M.back [In64 ((i : Int) + 1)] (ih ⟨i + 1, hlt⟩ L (by show l.length - (i + 1) < l.length - i; omega)) (by kernel_rfl) ⟨⟨by omega, by omega⟩, trivial⟩ (by kernel_rfl) (by kernel_rfl) (by kernel_rfl) (by kernel_rfl)
 ·exact M.retb true (by kernel_rfl) rfl
theorem allHold_spec (w : Wd) (hw : w.Ok) (l : List Dp) (h0 : wcheckW w = 0) (hh : ∀ d ∈ l, holdsT w d = true) : Spec Tryz.prog 14 [.agg w.pv, row 8 Dp.pv l] (.sb true) := by
 refine Spec.fact (by kernel_rfl) 1 rfl fun hf => ?_
 have hl : l.length <= 9223372036854775807 := hf.1
 refine Spec.startL (by kernel_rfl) Tryz.func14 rfl rfl fun w0 L hst => ?_
 refine M.loopL (ι := {i : Nat // i <= l.length}) (fun i => [(1, row 8 Dp.pv l), (2, .ref 0 0), (5, I i.1)]) (fun _ => [w.pv]) (fun i => l.length - i.1) ⟨0, Nat.zero_le _⟩ [] (by kernel_rfl) trivial (by kernel_rfl) (by kernel_rfl) fun ⟨i, hi⟩ L ih => ?_
 refine M.test (decide ((i : Int) < (l.length : Int))) (by kernel_rfl) (fun h1 => ?_) (fun h1 => ?_)
 ·have hlt : i < l.length := by simpa using h1
  have hd := hh (l.getD (i : Int).toNat default) (getD_mem (by omega))
  refine M.clp [0 <= (i : Int) /\ (i : Int) < (l.length : Int)] ⟨by omega, trivial⟩ (Holds_spec w hw (l.getD (i : Int).toNat default)) ?_
  have e : HoldsW w (l.getD (i : Int).toNat default) = (true, 0) := by
   unfold HoldsW; rw [h0, hd]; rfl
  rw [e]
  refine M.no (b := (0 : Int) != 0) rfl (by kernel_rfl) ?_
  refine M.no (b := !true) rfl (by kernel_rfl) ?_
  refine M.ren [In64 ((i : Int) + 1)] [0] hst (by kernel_rfl) ⟨⟨by omega, by omega⟩, trivial⟩ (by kernel_rfl) (by kernel_rfl) rfl fun L' => ?_
  exact M.back [] (ih ⟨i + 1, hlt⟩ L' (by show l.length - (i + 1) < l.length - i; omega)) (by kernel_rfl) trivial (by kernel_rfl) (by kernel_rfl) (by kernel_rfl) (by kernel_rfl)
 ·exact M.retb true (by kernel_rfl) rfl
theorem look_parts {w : Wd} {f : Nat} {maps : List Mp} {y : Ty} {sel : List UInt8} (h : (lookD w f maps y sel).2 = 0) : wcheckW w = 0 /\ factsT w nilS noSeen maps [y] = true /\ decide (carityP sel < 0) = false /\ lookD w f maps y sel = (runT w f maps y sel, 0) := by
 unfold lookD at h ⊢
 rcases knownE_or w maps [y] with ⟨h0, h1, h2⟩ | h1
 ·rw [show (knownE w maps [y] != 0) = false by rw [h0]; rfl, cond_false] at h ⊢
  cases h3 : decide (carityP sel < 0) with
  | true => rw [h3] at h; exact absurd (show (1 : Int) = 0 from h) (by decide)
  | false => exact ⟨h1, h2, rfl, rfl⟩
 ·rw [show (knownE w maps [y] != 0) = true by simp [h1], cond_true] at h
  exact absurd h h1
theorem look_of {w : Wd} {f : Nat} {maps : List Mp} {y : Ty} {sel : List UInt8} (h1 : wcheckW w = 0) (h2 : factsT w nilS noSeen maps [y] = true) (h3 : decide (carityP sel < 0) = false) : lookD w f maps y sel = (runT w f maps y sel, 0) := by
 unfold lookD knownE
 rw [h1, h2, h3]; rfl
theorem unseen_le (U : List Int) (sf : Atom -> Option Bool) : unseen U sf <= U.length := List.length_filter_le _ _
theorem runT_len {w : Wd} (hw : w.Ok) {maps : List Mp} {y : Ty} {sel : List UInt8} {U : List Int} (hk : LkOk w maps y U) (f : Nat) : (runT w f maps y sel).2.length <= 1100000000000 := by
 have hU := hk.clo.many
 have h0 := unseen_le U sf0
 have vis : ∀ n ∈ U, (visT w sel f (sf0, [], []) n).2.1.length <= 1100000000000 := fun n hn => by
  have := (visT_less hw hk.clo (sel := sel) f (sf0, [], []) n hn).deps
  simp only [List.length_nil] at this
  omega
 unfold runT
 cases y.k == 0 with
 | true => exact Nat.zero_le _
 | false =>
 cases y.k == 1 with
 | true => exact vis _ hk.st
 | false =>
 cases y.k == 2 with
 | true =>
  have hm : ∀ v ∈ parL (maps.getD y.n.toNat default).sl, startF v ∈ U := fun v hv => by
   by_cases h : y.n.toNat < maps.length
   ·exact (hk.mp _ (getD_mem h)).2.2 v hv
   ·rw [List.getD_eq_getElem?_getD, List.getElem?_eq_none (by omega)] at hv; cases hv
  simp only [cond_false, cond_true]
  generalize maps.getD y.n.toNat default = m at hm
  unfold shapT
  cases decide ((matchF m.sl sel).1 >= 0) with
  | true => exact Nat.zero_le _
  | false =>
   cases m.sl.any shapA with
   | true => exact Nat.zero_le _
   | false =>
    have := (upT_less (fun s n hn => visT_less hw hk.clo (sel := sel) f s n hn) (parL m.sl) (sf0, [], []) hm).deps
    simp only [List.length_nil] at this
    show (upT w sel f (parL m.sl) (sf0, [], [])).2.1.length <= _
    omega
 | false =>
 cases y.k == 3 with
 | true => exact vis _ hk.i5
 | false => exact vis _ hk.i6
theorem DepsPlace_spec (w : Wd) (maps : List Mp) (y : Ty) (sel : List UInt8) (ch : Ch) (hb : Bulk w) (hw : smallT w = true -> w.Ok) (hno : In64 w.nO) (hm1 : maps.length <= 140737488355328) (hm2 : ∀ m ∈ maps, m.sl.length <= 140737488355328) (hf : FactsOk maps [y]) (hn : ∀ o ∈ w.objs, ∀ s ∈ o.sl, s.nm.length <= 140737488355328) (hm : ∀ m ∈ maps, ∀ s ∈ m.sl, s.nm.length <= 140737488355328)
  (hch : In64 ch.slot.v.n) (hcn : ch.slot.nm.length <= 140737488355328) :
  Spec Tryz.prog 5 [.agg w.pv, row 2 Mp.pv maps, .agg y.pv, S sel, .agg ch.pv] (.sb true) := by
 refine Spec.startL (by kernel_rfl) Tryz.func5 rfl rfl fun w0 L hst => ?_
 refine M.cl awake_spec ?_
 refine M.cl (small_spec w hb) ?_
 refine M.test (!smallT w) (by kernel_rfl) (fun hs => M.ret (.sb true) (by kernel_rfl) rfl) (fun hs => ?_)
 have hs : smallT w = true := by simpa using hs
 have hok := hw hs
 refine M.cl (few_spec maps hm1 hm2) ?_
 refine M.test (!fewT maps) (by kernel_rfl) (fun hs2 => M.ret (.sb true) (by kernel_rfl) rfl) (fun hs2 => ?_)
 have hs2 : fewT maps = true := by simpa using hs2
 refine M.test (decide ((sel.length : Int) > 300)) (by kernel_rfl) (fun hs3 => M.ret (.sb true) (by kernel_rfl) rfl) (fun hs3 => ?_)
 refine M.cl (Look_spec hok maps y sel hf 4000 fun _ _ => ⟨more_ok y hs hs2 hn hm, moreU_len y hs hs2⟩) ?_
 have hlp := look_parts (w := w) (f := 4000) (maps := maps) (y := y) (sel := sel)
 generalize lookD w 4000 maps y sel = A at hlp ⊢
 refine M.test (A.2 != 0) (by kernel_rfl) (fun h1 => M.ret (.sb true) (by kernel_rfl) rfl) (fun h1 => ?_)
 obtain ⟨q1, q2, q3, q4⟩ := hlp (by simpa using h1)
 have hso := (valid_sorted hok q1).1
 have hpa := valid_parts q1
 have hbe := facts_begin hpa hok.nobjs q2
 have hall : ∀ d ∈ A.1.2, holdsT w d = true := by rw [q4]; exact runT_holds hso hpa hbe
 refine M.cl (allHold_spec w hok A.1.2 q1 hall) ?_
 refine M.no (b := !true) rfl (by kernel_rfl) ?_
 refine M.cl (applyW_spec w hok hno ch hch) ?_
 have haw := applyW_ok (w := w) hok (ch := ch) hch
 have hhit : ∀ x, Spec Tryz.prog 10 [.agg w.pv, .agg ch.pv, .agg x.pv] (.tup [.sb (hitW w x (applyW w ch)).1, I (hitW w x (applyW w ch)).2]) := fun x => Hit_spec w hok ch x (applyW w ch) (applyW_spec w hok hno ch hch) fun h => (applyW_ok hok hch h).2.ok
 generalize applyW w ch = B at haw hhit ⊢
 refine M.test (B.2 != 0) (by kernel_rfl) (fun h2 => M.ret (.sb true) (by kernel_rfl) rfl) (fun h2 => ?_)
 have hB : B.2 = 0 := by simpa using h2
 obtain ⟨-, hap⟩ := haw hB
 have hl : A.1.2.length <= 1100000000000 := by rw [q4]; exact runT_len hok (more_ok y hs hs2 hn hm) 4000
 refine M.loopL (ι := {i : Nat // i <= A.1.2.length /\ ∀ d ∈ A.1.2.take i, holdsT B.1 d = true}) (fun i => [(1, row 2 Mp.pv maps), (3, S sel), (5, .ref 0 0), (7, .ref 1 0), (9, .ref 2 0), (11, .sb true), (12, .ref 3 0), (13, row 8 Dp.pv A.1.2), (15, .ref 4 0), (17, I i.1)]) (fun _ => [w.pv, y.pv, ch.pv, A.1.1.pv, B.1.pv]) (fun i => A.1.2.length - i.1) ⟨0, Nat.zero_le _, fun d hd => by cases hd⟩ [] (by kernel_rfl) trivial (by kernel_rfl) (by kernel_rfl) fun ⟨i, hi, hq⟩ L ih => ?_
 refine M.test (decide ((i : Int) < (A.1.2.length : Int))) (by kernel_rfl) (fun h3 => ?_) (fun h3 => ?_)
 ·have hlt : i < A.1.2.length := by simpa using h3
  refine M.clp [0 <= (i : Int) /\ (i : Int) < (A.1.2.length : Int)] ⟨by omega, trivial⟩ (hhit (A.1.2.getD (i : Int).toNat default)) ?_
  have hx := hall (A.1.2.getD (i : Int).toNat default) (getD_mem (by omega))
  have e1 : hitW w (A.1.2.getD (i : Int).toNat default) B = (!holdsT B.1 (A.1.2.getD (i : Int).toNat default), 0) := by
   unfold hitW ceasesT; rw [hB, hx]; rfl
  rw [e1]
  refine M.clp [0 <= (i : Int) /\ (i : Int) < (A.1.2.length : Int)] ⟨by omega, trivial⟩ (Holds_spec B.1 hap.ok (A.1.2.getD (i : Int).toNat default)) ?_
  have e2 : HoldsW B.1 (A.1.2.getD (i : Int).toNat default) = (holdsT B.1 (A.1.2.getD (i : Int).toNat default), 0) := by
   unfold HoldsW; rw [hap.valid]; rfl
  rw [e2]
  refine M.no (b := (0 : Int) != 0) rfl (by kernel_rfl) ?_
  refine M.no (b := (0 : Int) != 0) rfl (by kernel_rfl) ?_
  have nb : ∀ b : Bool, ((!b) == b) = false := fun b => by cases b <;> rfl
  refine M.no (b := (!holdsT B.1 (A.1.2.getD (i : Int).toNat default)) == holdsT B.1 (A.1.2.getD (i : Int).toNat default)) (nb _) (by kernel_rfl) ?_
  refine M.test (!holdsT B.1 (A.1.2.getD (i : Int).toNat default)) (by kernel_rfl) (fun h4 => M.ret (.sb true) (by kernel_rfl) rfl) (fun h4 => ?_)
  refine M.ren [In64 ((i : Int) + 1)] [0, 1, 2, 3, 4] hst (by kernel_rfl) ⟨⟨by omega, by omega⟩, trivial⟩ (by kernel_rfl) (by kernel_rfl) rfl fun L' => ?_
  exact M.back [] (ih ⟨i + 1, hlt, fun d hd => by
   rw [List.take_succ_eq_append_getElem hlt] at hd
   rcases List.mem_append.1 hd with hd | hd
   ·exact hq d hd
   ·rw [List.mem_singleton.1 hd]
    rw [List.getD_eq_getElem?_getD, Int.toNat_natCast, List.getElem?_eq_getElem hlt] at h4
    simpa using h4⟩ L' (by show A.1.2.length - (i + 1) < A.1.2.length - i; omega)) (by kernel_rfl) trivial (by kernel_rfl) (by kernel_rfl) (by kernel_rfl) (by kernel_rfl)
 ·have hil : i = A.1.2.length := by have := of_decide_eq_false h3; omega
  subst hil
  rw [List.take_length] at hq
  have hsu := (valid_sorted hap.ok hap.valid).1
  have hru : runT B.1 4000 maps y sel = runT w 4000 maps y sel := runT_same hso hsu hpa (valid_parts hap.valid) hbe (by rw [q4] at hq; exact hq)
  have hlu : lookD B.1 4000 maps y sel = A := by
   rw [look_of hap.valid ((hap.grows hso).factsT q2) q3, hru, q4]
  have hlk := Look_spec hap.ok maps y sel hf 4000 fun _ _ => ⟨hap.more_ok y hs hs2 hn hcn hm, hap.more_len y hs hs2⟩
  rw [hlu] at hlk
  refine M.cl hlk ?_
  refine M.yes (b := true) rfl (by kernel_rfl) ?_
  refine M.yes (b := A.2 == 0) (by rw [q4]; rfl) (by kernel_rfl) ?_
  refine M.yes (b := (A.1.1.kind == A.1.1.kind && (A.1.1.holder == A.1.1.holder && (A.1.1.slot == A.1.1.slot && (A.1.1.own == A.1.1.own && (A.1.1.code == A.1.1.code && (vlEq A.1.1.v A.1.1.v && true))))))) (by simp [vlEq_iff.2 rfl]) (by kernel_rfl) ?_
  refine M.cl (rsameDeps A.1.2) ?_
  exact M.ret (.sb true) (by kernel_rfl) rfl
end Go.Proofs.YtcknpohghmkbmaaGreatDoor
