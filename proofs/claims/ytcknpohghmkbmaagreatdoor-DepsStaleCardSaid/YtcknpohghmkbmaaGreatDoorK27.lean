import Derived.Test.YtcknpohghmkbmaaGreatDoorK26
set_option linter.unusedVariables false
set_option linter.unusedSimpArgs false
/- The texts D13 D14 D15 D16 D17 D18 of the proof, laid one behind the other. -/
namespace Go.Proofs.YtcknpohghmkbmaaGreatDoor
open Go.RowKit
theorem Spec.slNil {P : Program} {f : FuncId} {k : Nat} {el : Nat -> List PV} {r : PV} (h : ∀ a c, Spec P f [.v (.slice a 0 c)] r) : Spec P f [.sl k 0 el] r :=
 ⟨(h none 0).1, fun L W vs hL hG hR => by
  obtain ⟨u, us, rfl, h1, h2⟩ := hR.uncons
  rw [R] at h1
  obtain ⟨a, c, rfl, _⟩ := h1
  exact (h a c).2 L W _ hL hG (Rs.cons (by rw [R]) h2)⟩
theorem SpecM.slNil {P : Program} {f : FuncId} {m k : Nat} {el : Nat -> List PV} {σ σ' : Sig} {r : PV} (h : ∀ a c, SpecM P f m σ [.v (.slice a 0 c)] σ' r) : SpecM P f m σ [.sl k 0 el] σ' r :=
 ⟨(h none 0).1, (h none 0).2.1, fun L β W vs hL hG hB hR => by
  obtain ⟨u, us, rfl, h1, h2⟩ := hR.uncons
  rw [R] at h1
  obtain ⟨a, c, rfl, _⟩ := h1
  exact (h a c).2.2 L β W _ hL hG hB (Rs.cons (by rw [R]) h2)⟩
theorem clone_Slot (l : List Sl) (hl : l.length <= 1000000) : Spec Tryz.prog 117 [row 5 Sl.pv l] (row 5 Sl.pv l) := by
 by_cases h0 : l = []
 ·subst h0
  refine Spec.slNil fun a c => ?_
  cases a with
  | none =>
   refine Spec.startL (by kernel_rfl) Tryz.func117 rfl rfl fun w0 L hst => ?_
   exact M.retw [] (.v (.slice none 0 0)) (by kernel_rfl) trivial fun L W u h => nil_row 5 Sl.pv h
  | some a =>
   refine Spec.startL (by kernel_rfl) Tryz.func117 rfl rfl fun w0 L hst => ?_
   exact M.retw [(0 : Nat) <= 0] (.sl 5 0 (fun j => ((([] : List PV).drop (j * 5)).take 5).map unr)) (by kernel_rfl) ⟨Nat.le_refl _, trivial⟩ fun L W u h => sl_eq (n := 0) (n' := 0) rfl (fun j hj => absurd hj (Nat.not_lt_zero _)) h
 ·have hn : 0 < l.length := List.length_pos_iff.2 h0
  refine Spec.startL (by kernel_rfl) Tryz.func117 rfl rfl fun w0 L hst => ?_
  exact M.retw [0 < l.length, (0 : Nat) = 0 /\ 0 < l.length /\ 0 + l.length <= 9223372036854775807 /\ (0 + l.length) * 56 <= 140737488355328, 0 + l.length <= 0 + l.length] (.sl 5 (0 + l.length) (fun j => (joinEl (fun j => (([] : List PV).drop (j * 5)).take 5) 0 (fun j => Sl.pv (l.getD j default)) j).map unr)) (by kernel_rfl) ⟨hn, ⟨rfl, hn, by omega, by omega⟩, Nat.le_refl _, trivial⟩ fun L W u h => sl_eq (n := 0 + l.length) (n' := l.length) (Nat.zero_add _).symm (fun j hj => by unfold joinEl; rw [if_neg (Nat.not_lt_zero _), Nat.sub_zero]; rfl) h
theorem cloneO_Slot (l : List Sl) (hl : l.length <= 1000000) : SpecM Tryz.prog 117 0 [] [row 5 Sl.pv l] [[.rws 5 l.length (fun j => Sl.pv (l.getD j default))]] (.os 30 0 5 l.length) := by
 by_cases h0 : l = []
 ·subst h0
  refine SpecM.slNil fun a c => ?_
  cases a with
  | none =>
   refine SpecM.start (by kernel_rfl) Tryz.func117 rfl rfl (Nat.le_refl _) fun w0 L hst => ?_
   refine M.nilT [] 30 5 (fun j => Sl.pv (([] : List Sl).getD j default)) 2 (by kernel_rfl) trivial (by kernel_rfl) (by kernel_rfl) ?_
   exact M.retm [] [0] hst rfl (by kernel_rfl) trivial rfl rfl
  | some a =>
   refine SpecM.start (by kernel_rfl) Tryz.func117 rfl rfl (Nat.le_refl _) fun w0 L hst => ?_
   refine M.sigT [] [[.rws 5 0 (fun j => (([] : List PV).drop (j * 5)).take 5)]] [[.rws 5 0 (fun j => Sl.pv (([] : List Sl).getD j default))]] (by kernel_rfl) trivial (by kernel_rfl) (by kernel_rfl) (.cons (.rws rfl fun j hj => absurd hj (Nat.not_lt_zero _)) .nil) ?_
   exact M.retm [] [0] hst rfl (by kernel_rfl) trivial rfl rfl
 ·have hn : 0 < l.length := List.length_pos_iff.2 h0
  refine SpecM.start (by kernel_rfl) Tryz.func117 rfl rfl (Nat.le_refl _) fun w0 L hst => ?_
  refine M.ren [0 < l.length, (0 : Nat) = 0 /\ 0 < l.length /\ 0 + l.length <= 9223372036854775807 /\ (0 + l.length) * 56 <= 140737488355328] [1] hst (by kernel_rfl) ⟨hn, ⟨rfl, hn, by omega, by omega⟩, trivial⟩ (by kernel_rfl) (by kernel_rfl) rfl fun L' => ?_
  refine M.sigT [] [[.rws 5 (0 + l.length) (fun j => (joinEl (fun j => (([] : List PV).drop (j * 5)).take 5) 0 (fun j => Sl.pv (l.getD j default)) j).map (renP (invF [1] 0) 7))]] [[.rws 5 l.length (fun j => Sl.pv (l.getD j default))]] (by kernel_rfl) trivial (by kernel_rfl) (by kernel_rfl) (.cons (.rws (Nat.zero_add _).symm fun j hj β L W us h => by
   unfold joinEl at h; rw [if_neg (Nat.not_lt_zero _), Nat.sub_zero] at h; exact h) .nil) ?_
  have e : 0 + l.length = l.length := Nat.zero_add _
  exact M.retm (r' := .os 30 0 5 (0 + l.length)) [] [0] hst rfl (by kernel_rfl) trivial rfl (by rw [e])
theorem clone_Val (l : List Vl) (hl : l.length <= 1000000) : Spec Tryz.prog 118 [row 3 Vl.pv l] (row 3 Vl.pv l) := by
 by_cases h0 : l = []
 ·subst h0
  refine Spec.slNil fun a c => ?_
  cases a with
  | none =>
   refine Spec.startL (by kernel_rfl) Tryz.func118 rfl rfl fun w0 L hst => ?_
   exact M.retw [] (.v (.slice none 0 0)) (by kernel_rfl) trivial fun L W u h => nil_row 3 Vl.pv h
  | some a =>
   refine Spec.startL (by kernel_rfl) Tryz.func118 rfl rfl fun w0 L hst => ?_
   exact M.retw [(0 : Nat) <= 0] (.sl 3 0 (fun j => ((([] : List PV).drop (j * 3)).take 3).map unr)) (by kernel_rfl) ⟨Nat.le_refl _, trivial⟩ fun L W u h => sl_eq (n := 0) (n' := 0) rfl (fun j hj => absurd hj (Nat.not_lt_zero _)) h
 ·have hn : 0 < l.length := List.length_pos_iff.2 h0
  refine Spec.startL (by kernel_rfl) Tryz.func118 rfl rfl fun w0 L hst => ?_
  exact M.retw [0 < l.length, (0 : Nat) = 0 /\ 0 < l.length /\ 0 + l.length <= 9223372036854775807 /\ (0 + l.length) * 32 <= 140737488355328, 0 + l.length <= 0 + l.length] (.sl 3 (0 + l.length) (fun j => (joinEl (fun j => (([] : List PV).drop (j * 3)).take 3) 0 (fun j => Vl.pv (l.getD j default)) j).map unr)) (by kernel_rfl) ⟨hn, ⟨rfl, hn, by omega, by omega⟩, Nat.le_refl _, trivial⟩ fun L W u h => sl_eq (n := 0 + l.length) (n' := l.length) (Nat.zero_add _).symm (fun j hj => by unfold joinEl; rw [if_neg (Nat.not_lt_zero _), Nat.sub_zero]; rfl) h
theorem clone_Str (l : List (List UInt8)) (hl : l.length <= 1000000) : Spec Tryz.prog 123 [row 1 (fun s => [S s]) l] (row 1 (fun s => [S s]) l) := by
 by_cases h0 : l = []
 ·subst h0
  refine Spec.slNil fun a c => ?_
  cases a with
  | none =>
   refine Spec.startL (by kernel_rfl) Tryz.func123 rfl rfl fun w0 L hst => ?_
   exact M.retw [] (.v (.slice none 0 0)) (by kernel_rfl) trivial fun L W u h => nil_row 1 (fun s => [S s]) h
  | some a =>
   refine Spec.startL (by kernel_rfl) Tryz.func123 rfl rfl fun w0 L hst => ?_
   exact M.retw [(0 : Nat) <= 0] (.sl 1 0 (fun j => ((([] : List PV).drop (j * 1)).take 1).map unr)) (by kernel_rfl) ⟨Nat.le_refl _, trivial⟩ fun L W u h => sl_eq (n := 0) (n' := 0) rfl (fun j hj => absurd hj (Nat.not_lt_zero _)) h
 ·have hn : 0 < l.length := List.length_pos_iff.2 h0
  refine Spec.startL (by kernel_rfl) Tryz.func123 rfl rfl fun w0 L hst => ?_
  exact M.retw [0 < l.length, (0 : Nat) = 0 /\ 0 < l.length /\ 0 + l.length <= 9223372036854775807 /\ (0 + l.length) * 16 <= 140737488355328, 0 + l.length <= 0 + l.length] (.sl 1 (0 + l.length) (fun j => (joinEl (fun j => (([] : List PV).drop (j * 1)).take 1) 0 (fun j => (fun s => [S s]) (l.getD j default)) j).map unr)) (by kernel_rfl) ⟨hn, ⟨rfl, hn, by omega, by omega⟩, Nat.le_refl _, trivial⟩ fun L W u h => sl_eq (n := 0 + l.length) (n' := l.length) (Nat.zero_add _).symm (fun j hj => by unfold joinEl; rw [if_neg (Nat.not_lt_zero _), Nat.sub_zero]; rfl) h
theorem clone_Instr (l : List In) (hl : l.length <= 1000000) : Spec Tryz.prog 124 [row 4 In.pv l] (row 4 In.pv l) := by
 by_cases h0 : l = []
 ·subst h0
  refine Spec.slNil fun a c => ?_
  cases a with
  | none =>
   refine Spec.startL (by kernel_rfl) Tryz.func124 rfl rfl fun w0 L hst => ?_
   exact M.retw [] (.v (.slice none 0 0)) (by kernel_rfl) trivial fun L W u h => nil_row 4 In.pv h
  | some a =>
   refine Spec.startL (by kernel_rfl) Tryz.func124 rfl rfl fun w0 L hst => ?_
   exact M.retw [(0 : Nat) <= 0] (.sl 4 0 (fun j => ((([] : List PV).drop (j * 4)).take 4).map unr)) (by kernel_rfl) ⟨Nat.le_refl _, trivial⟩ fun L W u h => sl_eq (n := 0) (n' := 0) rfl (fun j hj => absurd hj (Nat.not_lt_zero _)) h
 ·have hn : 0 < l.length := List.length_pos_iff.2 h0
  refine Spec.startL (by kernel_rfl) Tryz.func124 rfl rfl fun w0 L hst => ?_
  exact M.retw [0 < l.length, (0 : Nat) = 0 /\ 0 < l.length /\ 0 + l.length <= 9223372036854775807 /\ (0 + l.length) * 32 <= 140737488355328, 0 + l.length <= 0 + l.length] (.sl 4 (0 + l.length) (fun j => (joinEl (fun j => (([] : List PV).drop (j * 4)).take 4) 0 (fun j => In.pv (l.getD j default)) j).map unr)) (by kernel_rfl) ⟨hn, ⟨rfl, hn, by omega, by omega⟩, Nat.le_refl _, trivial⟩ fun L W u h => sl_eq (n := 0 + l.length) (n' := l.length) (Nat.zero_add _).symm (fun j hj => by unfold joinEl; rw [if_neg (Nat.not_lt_zero _), Nat.sub_zero]; rfl) h
theorem wcopyObj (o : Ob) (h0 : o.sl.length <= 1000000) (h1 : o.el.length <= 1000000) : Spec Tryz.prog 131 [.agg o.pv] (.agg o.pv) := by
 refine Spec.startL (by kernel_rfl) Tryz.func131 rfl rfl fun w0 L hst => ?_
 refine M.cl (clone_Slot o.sl h0) ?_
 refine M.cl (clone_Val o.el h1) ?_
 exact M.ret (.agg o.pv) (by kernel_rfl) rfl
theorem wcopyAct (o : Ac) (h0 : o.vars.length <= 1000000) : Spec Tryz.prog 133 [.agg o.pv] (.agg o.pv) := by
 refine Spec.startL (by kernel_rfl) Tryz.func133 rfl rfl fun w0 L hst => ?_
 refine M.cl (clone_Val o.vars h0) ?_
 exact M.ret (.agg o.pv) (by kernel_rfl) rfl
theorem wcopyCode (o : Cd) (h0 : o.names.length <= 1000000) (h1 : o.init.length <= 1000000) (h2 : o.lits.length <= 1000000) (h3 : o.sels.length <= 1000000) (h4 : o.ins.length <= 1000000) : Spec Tryz.prog 135 [.agg o.pv] (.agg o.pv) := by
 refine Spec.startL (by kernel_rfl) Tryz.func135 rfl rfl fun w0 L hst => ?_
 refine M.cl (clone_Str o.names h0) ?_
 refine M.cl (clone_Val o.init h1) ?_
 refine M.cl (clone_Val o.lits h2) ?_
 refine M.cl (clone_Str o.sels h3) ?_
 refine M.cl (clone_Instr o.ins h4) ?_
 exact M.ret (.agg o.pv) (by kernel_rfl) rfl
theorem ccopyObj (o : Ob) (h0 : o.sl.length <= 1000000) (h1 : o.el.length <= 1000000) : Spec Tryz.prog 116 [.agg o.pv] (.agg o.pv) := by
 refine Spec.startL (by kernel_rfl) Tryz.func116 rfl rfl fun w0 L hst => ?_
 refine M.cl (clone_Slot o.sl h0) ?_
 refine M.cl (clone_Val o.el h1) ?_
 exact M.ret (.agg o.pv) (by kernel_rfl) rfl
theorem ccopyAct (o : Ac) (h0 : o.vars.length <= 1000000) : Spec Tryz.prog 120 [.agg o.pv] (.agg o.pv) := by
 refine Spec.startL (by kernel_rfl) Tryz.func120 rfl rfl fun w0 L hst => ?_
 refine M.cl (clone_Val o.vars h0) ?_
 exact M.ret (.agg o.pv) (by kernel_rfl) rfl
theorem ccopyCode (o : Cd) (h0 : o.names.length <= 1000000) (h1 : o.init.length <= 1000000) (h2 : o.lits.length <= 1000000) (h3 : o.sels.length <= 1000000) (h4 : o.ins.length <= 1000000) : Spec Tryz.prog 122 [.agg o.pv] (.agg o.pv) := by
 refine Spec.startL (by kernel_rfl) Tryz.func122 rfl rfl fun w0 L hst => ?_
 refine M.cl (clone_Str o.names h0) ?_
 refine M.cl (clone_Val o.init h1) ?_
 refine M.cl (clone_Val o.lits h2) ?_
 refine M.cl (clone_Str o.sels h3) ?_
 refine M.cl (clone_Instr o.ins h4) ?_
 exact M.ret (.agg o.pv) (by kernel_rfl) rfl
theorem w_mapped_Obj (l : List Ob) (g : Nat) (hl : l.length <= 1000000000) (hg : ∀ x ∈ l, Spec Tryz.prog g [.agg x.pv] (.agg x.pv)) : SpecM Tryz.prog 130 0 [] [row 6 Ob.pv l, .fn g []] [[.rws 6 l.length (fun j => Ob.pv (l.getD j default))]] (.os 76 0 6 l.length) := by
 refine SpecM.start (by kernel_rfl) Tryz.func130 rfl rfl (Nat.le_refl _) fun w0 L hst => ?_
 refine M.nilT [] 76 6 (fun j => Ob.pv (l.getD j default)) 5 (by kernel_rfl) trivial (by kernel_rfl) (by kernel_rfl) ?_
 refine M.loopL (ι := {i : Nat // i <= l.length}) (fun i => [(1, .fn g []), (5, .os 76 0 6 i.1), (8, row 6 Ob.pv l), (9, I l.length), (10, I i.1)])
  (fun i => [[.rws 6 i.1 (fun j => Ob.pv (l.getD j default))]]) (fun i => l.length - i.1) ⟨0, Nat.zero_le _⟩ [] (by kernel_rfl) trivial (by kernel_rfl) (by kernel_rfl) fun ⟨i, hi⟩ L ih => ?_
 refine M.test (decide ((i : Int) < (l.length : Int))) (by kernel_rfl) (fun h1 => ?_) (fun h1 => ?_)
 ·have hlt : i < l.length := by simpa using h1
  refine M.clp [0 <= (i : Int) /\ (i : Int) < (l.length : Int)] ⟨by omega, trivial⟩ (hg _ (getD_mem (p := (i : Int).toNat) (by omega))) ?_
  refine M.ren [i = i /\ 0 < 1 /\ i + 1 <= 9223372036854775807 /\ (i + 1) * 80 <= 140737488355328, In64 ((i : Int) + 1)] [2] hst (by kernel_rfl) ⟨⟨rfl, by omega, by omega, by omega⟩, ⟨by omega, by omega⟩, trivial⟩ (by kernel_rfl) (by kernel_rfl) rfl fun L' => ?_
  refine M.sig [] [[.rws 6 (i + 1) (fun j => (joinEl (fun j => Ob.pv (l.getD j default)) i (fun j => ((Ob.pv (l.getD (i : Int).toNat default)).drop (j * 6)).take 6) j).map (renP (invF [2] 0) 7))]]
   [[.rws 6 (i + 1) (fun j => Ob.pv (l.getD j default))]] (by kernel_rfl) trivial (by kernel_rfl) (by kernel_rfl) (.cons (app_cells rfl rfl fun j => rfl) .nil) ?_
  exact M.back [] (ih ⟨i + 1, hlt⟩ L' (by show l.length - (i + 1) < l.length - i; omega)) (by kernel_rfl) trivial (by kernel_rfl) (by kernel_rfl) (by kernel_rfl) (by kernel_rfl)
 ·have : i = l.length := by have := of_decide_eq_false h1; omega
  subst this
  exact M.retm [] [0] hst rfl (by kernel_rfl) trivial rfl rfl
theorem w_mapped_Act (l : List Ac) (g : Nat) (hl : l.length <= 1000000000) (hg : ∀ x ∈ l, Spec Tryz.prog g [.agg x.pv] (.agg x.pv)) : SpecM Tryz.prog 132 0 [] [row 9 Ac.pv l, .fn g []] [[.rws 9 l.length (fun j => Ac.pv (l.getD j default))]] (.os 78 0 9 l.length) := by
 refine SpecM.start (by kernel_rfl) Tryz.func132 rfl rfl (Nat.le_refl _) fun w0 L hst => ?_
 refine M.nilT [] 78 9 (fun j => Ac.pv (l.getD j default)) 5 (by kernel_rfl) trivial (by kernel_rfl) (by kernel_rfl) ?_
 refine M.loopL (ι := {i : Nat // i <= l.length}) (fun i => [(1, .fn g []), (5, .os 78 0 9 i.1), (8, row 9 Ac.pv l), (9, I l.length), (10, I i.1)])
  (fun i => [[.rws 9 i.1 (fun j => Ac.pv (l.getD j default))]]) (fun i => l.length - i.1) ⟨0, Nat.zero_le _⟩ [] (by kernel_rfl) trivial (by kernel_rfl) (by kernel_rfl) fun ⟨i, hi⟩ L ih => ?_
 refine M.test (decide ((i : Int) < (l.length : Int))) (by kernel_rfl) (fun h1 => ?_) (fun h1 => ?_)
 ·have hlt : i < l.length := by simpa using h1
  refine M.clp [0 <= (i : Int) /\ (i : Int) < (l.length : Int)] ⟨by omega, trivial⟩ (hg _ (getD_mem (p := (i : Int).toNat) (by omega))) ?_
  refine M.ren [i = i /\ 0 < 1 /\ i + 1 <= 9223372036854775807 /\ (i + 1) * 96 <= 140737488355328, In64 ((i : Int) + 1)] [2] hst (by kernel_rfl) ⟨⟨rfl, by omega, by omega, by omega⟩, ⟨by omega, by omega⟩, trivial⟩ (by kernel_rfl) (by kernel_rfl) rfl fun L' => ?_
  refine M.sig [] [[.rws 9 (i + 1) (fun j => (joinEl (fun j => Ac.pv (l.getD j default)) i (fun j => ((Ac.pv (l.getD (i : Int).toNat default)).drop (j * 9)).take 9) j).map (renP (invF [2] 0) 7))]]
   [[.rws 9 (i + 1) (fun j => Ac.pv (l.getD j default))]] (by kernel_rfl) trivial (by kernel_rfl) (by kernel_rfl) (.cons (app_cells rfl rfl fun j => rfl) .nil) ?_
  exact M.back [] (ih ⟨i + 1, hlt⟩ L' (by show l.length - (i + 1) < l.length - i; omega)) (by kernel_rfl) trivial (by kernel_rfl) (by kernel_rfl) (by kernel_rfl) (by kernel_rfl)
 ·have : i = l.length := by have := of_decide_eq_false h1; omega
  subst this
  exact M.retm [] [0] hst rfl (by kernel_rfl) trivial rfl rfl
theorem w_mapped_Code (l : List Cd) (g : Nat) (hl : l.length <= 1000000000) (hg : ∀ x ∈ l, Spec Tryz.prog g [.agg x.pv] (.agg x.pv)) : SpecM Tryz.prog 134 0 [] [row 9 Cd.pv l, .fn g []] [[.rws 9 l.length (fun j => Cd.pv (l.getD j default))]] (.os 82 0 9 l.length) := by
 refine SpecM.start (by kernel_rfl) Tryz.func134 rfl rfl (Nat.le_refl _) fun w0 L hst => ?_
 refine M.nilT [] 82 9 (fun j => Cd.pv (l.getD j default)) 5 (by kernel_rfl) trivial (by kernel_rfl) (by kernel_rfl) ?_
 refine M.loopL (ι := {i : Nat // i <= l.length}) (fun i => [(1, .fn g []), (5, .os 82 0 9 i.1), (8, row 9 Cd.pv l), (9, I l.length), (10, I i.1)])
  (fun i => [[.rws 9 i.1 (fun j => Cd.pv (l.getD j default))]]) (fun i => l.length - i.1) ⟨0, Nat.zero_le _⟩ [] (by kernel_rfl) trivial (by kernel_rfl) (by kernel_rfl) fun ⟨i, hi⟩ L ih => ?_
 refine M.test (decide ((i : Int) < (l.length : Int))) (by kernel_rfl) (fun h1 => ?_) (fun h1 => ?_)
 ·have hlt : i < l.length := by simpa using h1
  refine M.clp [0 <= (i : Int) /\ (i : Int) < (l.length : Int)] ⟨by omega, trivial⟩ (hg _ (getD_mem (p := (i : Int).toNat) (by omega))) ?_
  refine M.ren [i = i /\ 0 < 1 /\ i + 1 <= 9223372036854775807 /\ (i + 1) * 160 <= 140737488355328, In64 ((i : Int) + 1)] [2] hst (by kernel_rfl) ⟨⟨rfl, by omega, by omega, by omega⟩, ⟨by omega, by omega⟩, trivial⟩ (by kernel_rfl) (by kernel_rfl) rfl fun L' => ?_
  refine M.sig [] [[.rws 9 (i + 1) (fun j => (joinEl (fun j => Cd.pv (l.getD j default)) i (fun j => ((Cd.pv (l.getD (i : Int).toNat default)).drop (j * 9)).take 9) j).map (renP (invF [2] 0) 7))]]
   [[.rws 9 (i + 1) (fun j => Cd.pv (l.getD j default))]] (by kernel_rfl) trivial (by kernel_rfl) (by kernel_rfl) (.cons (app_cells rfl rfl fun j => rfl) .nil) ?_
  exact M.back [] (ih ⟨i + 1, hlt⟩ L' (by show l.length - (i + 1) < l.length - i; omega)) (by kernel_rfl) trivial (by kernel_rfl) (by kernel_rfl) (by kernel_rfl) (by kernel_rfl)
 ·have : i = l.length := by have := of_decide_eq_false h1; omega
  subst this
  exact M.retm [] [0] hst rfl (by kernel_rfl) trivial rfl rfl
theorem c_mapped_Obj (l : List Ob) (g : Nat) (hl : l.length <= 1000000000) (hg : ∀ x ∈ l, Spec Tryz.prog g [.agg x.pv] (.agg x.pv)) : SpecM Tryz.prog 115 0 [] [row 6 Ob.pv l, .fn g []] [[.rws 6 l.length (fun j => Ob.pv (l.getD j default))]] (.os 76 0 6 l.length) := by
 refine SpecM.start (by kernel_rfl) Tryz.func115 rfl rfl (Nat.le_refl _) fun w0 L hst => ?_
 refine M.nilT [] 76 6 (fun j => Ob.pv (l.getD j default)) 5 (by kernel_rfl) trivial (by kernel_rfl) (by kernel_rfl) ?_
 refine M.loopL (ι := {i : Nat // i <= l.length}) (fun i => [(1, .fn g []), (5, .os 76 0 6 i.1), (8, row 6 Ob.pv l), (9, I l.length), (10, I i.1)])
  (fun i => [[.rws 6 i.1 (fun j => Ob.pv (l.getD j default))]]) (fun i => l.length - i.1) ⟨0, Nat.zero_le _⟩ [] (by kernel_rfl) trivial (by kernel_rfl) (by kernel_rfl) fun ⟨i, hi⟩ L ih => ?_
 refine M.test (decide ((i : Int) < (l.length : Int))) (by kernel_rfl) (fun h1 => ?_) (fun h1 => ?_)
 ·have hlt : i < l.length := by simpa using h1
  refine M.clp [0 <= (i : Int) /\ (i : Int) < (l.length : Int)] ⟨by omega, trivial⟩ (hg _ (getD_mem (p := (i : Int).toNat) (by omega))) ?_
  refine M.ren [i = i /\ 0 < 1 /\ i + 1 <= 9223372036854775807 /\ (i + 1) * 80 <= 140737488355328, In64 ((i : Int) + 1)] [2] hst (by kernel_rfl) ⟨⟨rfl, by omega, by omega, by omega⟩, ⟨by omega, by omega⟩, trivial⟩ (by kernel_rfl) (by kernel_rfl) rfl fun L' => ?_
  refine M.sig [] [[.rws 6 (i + 1) (fun j => (joinEl (fun j => Ob.pv (l.getD j default)) i (fun j => ((Ob.pv (l.getD (i : Int).toNat default)).drop (j * 6)).take 6) j).map (renP (invF [2] 0) 7))]]
   [[.rws 6 (i + 1) (fun j => Ob.pv (l.getD j default))]] (by kernel_rfl) trivial (by kernel_rfl) (by kernel_rfl) (.cons (app_cells rfl rfl fun j => rfl) .nil) ?_
  exact M.back [] (ih ⟨i + 1, hlt⟩ L' (by show l.length - (i + 1) < l.length - i; omega)) (by kernel_rfl) trivial (by kernel_rfl) (by kernel_rfl) (by kernel_rfl) (by kernel_rfl)
 ·have : i = l.length := by have := of_decide_eq_false h1; omega
  subst this
  exact M.retm [] [0] hst rfl (by kernel_rfl) trivial rfl rfl
theorem c_mapped_Act (l : List Ac) (g : Nat) (hl : l.length <= 1000000000) (hg : ∀ x ∈ l, Spec Tryz.prog g [.agg x.pv] (.agg x.pv)) : SpecM Tryz.prog 119 0 [] [row 9 Ac.pv l, .fn g []] [[.rws 9 l.length (fun j => Ac.pv (l.getD j default))]] (.os 78 0 9 l.length) := by
 refine SpecM.start (by kernel_rfl) Tryz.func119 rfl rfl (Nat.le_refl _) fun w0 L hst => ?_
 refine M.nilT [] 78 9 (fun j => Ac.pv (l.getD j default)) 5 (by kernel_rfl) trivial (by kernel_rfl) (by kernel_rfl) ?_
 refine M.loopL (ι := {i : Nat // i <= l.length}) (fun i => [(1, .fn g []), (5, .os 78 0 9 i.1), (8, row 9 Ac.pv l), (9, I l.length), (10, I i.1)])
  (fun i => [[.rws 9 i.1 (fun j => Ac.pv (l.getD j default))]]) (fun i => l.length - i.1) ⟨0, Nat.zero_le _⟩ [] (by kernel_rfl) trivial (by kernel_rfl) (by kernel_rfl) fun ⟨i, hi⟩ L ih => ?_
 refine M.test (decide ((i : Int) < (l.length : Int))) (by kernel_rfl) (fun h1 => ?_) (fun h1 => ?_)
 ·have hlt : i < l.length := by simpa using h1
  refine M.clp [0 <= (i : Int) /\ (i : Int) < (l.length : Int)] ⟨by omega, trivial⟩ (hg _ (getD_mem (p := (i : Int).toNat) (by omega))) ?_
  refine M.ren [i = i /\ 0 < 1 /\ i + 1 <= 9223372036854775807 /\ (i + 1) * 96 <= 140737488355328, In64 ((i : Int) + 1)] [2] hst (by kernel_rfl) ⟨⟨rfl, by omega, by omega, by omega⟩, ⟨by omega, by omega⟩, trivial⟩ (by kernel_rfl) (by kernel_rfl) rfl fun L' => ?_
  refine M.sig [] [[.rws 9 (i + 1) (fun j => (joinEl (fun j => Ac.pv (l.getD j default)) i (fun j => ((Ac.pv (l.getD (i : Int).toNat default)).drop (j * 9)).take 9) j).map (renP (invF [2] 0) 7))]]
   [[.rws 9 (i + 1) (fun j => Ac.pv (l.getD j default))]] (by kernel_rfl) trivial (by kernel_rfl) (by kernel_rfl) (.cons (app_cells rfl rfl fun j => rfl) .nil) ?_
  exact M.back [] (ih ⟨i + 1, hlt⟩ L' (by show l.length - (i + 1) < l.length - i; omega)) (by kernel_rfl) trivial (by kernel_rfl) (by kernel_rfl) (by kernel_rfl) (by kernel_rfl)
 ·have : i = l.length := by have := of_decide_eq_false h1; omega
  subst this
  exact M.retm [] [0] hst rfl (by kernel_rfl) trivial rfl rfl
theorem c_mapped_Code (l : List Cd) (g : Nat) (hl : l.length <= 1000000000) (hg : ∀ x ∈ l, Spec Tryz.prog g [.agg x.pv] (.agg x.pv)) : SpecM Tryz.prog 121 0 [] [row 9 Cd.pv l, .fn g []] [[.rws 9 l.length (fun j => Cd.pv (l.getD j default))]] (.os 82 0 9 l.length) := by
 refine SpecM.start (by kernel_rfl) Tryz.func121 rfl rfl (Nat.le_refl _) fun w0 L hst => ?_
 refine M.nilT [] 82 9 (fun j => Cd.pv (l.getD j default)) 5 (by kernel_rfl) trivial (by kernel_rfl) (by kernel_rfl) ?_
 refine M.loopL (ι := {i : Nat // i <= l.length}) (fun i => [(1, .fn g []), (5, .os 82 0 9 i.1), (8, row 9 Cd.pv l), (9, I l.length), (10, I i.1)])
  (fun i => [[.rws 9 i.1 (fun j => Cd.pv (l.getD j default))]]) (fun i => l.length - i.1) ⟨0, Nat.zero_le _⟩ [] (by kernel_rfl) trivial (by kernel_rfl) (by kernel_rfl) fun ⟨i, hi⟩ L ih => ?_
 refine M.test (decide ((i : Int) < (l.length : Int))) (by kernel_rfl) (fun h1 => ?_) (fun h1 => ?_)
 ·have hlt : i < l.length := by simpa using h1
  refine M.clp [0 <= (i : Int) /\ (i : Int) < (l.length : Int)] ⟨by omega, trivial⟩ (hg _ (getD_mem (p := (i : Int).toNat) (by omega))) ?_
  refine M.ren [i = i /\ 0 < 1 /\ i + 1 <= 9223372036854775807 /\ (i + 1) * 160 <= 140737488355328, In64 ((i : Int) + 1)] [2] hst (by kernel_rfl) ⟨⟨rfl, by omega, by omega, by omega⟩, ⟨by omega, by omega⟩, trivial⟩ (by kernel_rfl) (by kernel_rfl) rfl fun L' => ?_
  refine M.sig [] [[.rws 9 (i + 1) (fun j => (joinEl (fun j => Cd.pv (l.getD j default)) i (fun j => ((Cd.pv (l.getD (i : Int).toNat default)).drop (j * 9)).take 9) j).map (renP (invF [2] 0) 7))]]
   [[.rws 9 (i + 1) (fun j => Cd.pv (l.getD j default))]] (by kernel_rfl) trivial (by kernel_rfl) (by kernel_rfl) (.cons (app_cells rfl rfl fun j => rfl) .nil) ?_
  exact M.back [] (ih ⟨i + 1, hlt⟩ L' (by show l.length - (i + 1) < l.length - i; omega)) (by kernel_rfl) trivial (by kernel_rfl) (by kernel_rfl) (by kernel_rfl) (by kernel_rfl)
 ·have : i = l.length := by have := of_decide_eq_false h1; omega
  subst this
  exact M.retm [] [0] hst rfl (by kernel_rfl) trivial rfl rfl
abbrev slotR (l : List Sl) : List PV := [.rws 5 l.length (fun j => Sl.pv (l.getD j default))]
abbrev ObO (i : Nat) (o : Ob) : List PV := [I o.oid, I o.kd, .os 30 i 5 o.sl.length, row 3 Vl.pv o.el, I o.code, I o.up]
theorem ccopyO (o : Ob) (h : o.sl.length <= 1000000) (h2 : o.el.length <= 1000000) : SpecM Tryz.prog 116 0 [] [.agg o.pv] [slotR o.sl] (.agg (ObO 0 o)) := by
 refine SpecM.start (by kernel_rfl) Tryz.func116 rfl rfl (Nat.le_refl _) fun w0 L hst => ?_
 refine M.callm [] (cloneO_Slot o.sl h) (by kernel_rfl) ?_
 refine M.cl (clone_Val o.el h2) ?_
 exact M.retm [] [2] hst rfl (by kernel_rfl) trivial rfl rfl
def focE (l : List Ob) (i0 : Nat) (cs : List PV) (j : Nat) : List PV := if j = i0 then cs else Ob.pv (l.getD j default)
theorem cmapO (l : List Ob) (g : Nat) (i0 : Nat) (hl : l.length <= 1000000000) (hi0 : i0 < l.length) (hg : ∀ x ∈ l, Spec Tryz.prog g [.agg x.pv] (.agg x.pv))
  (hgo : SpecM Tryz.prog g 0 [] [.agg (l.getD i0 default).pv] [slotR (l.getD i0 default).sl] (.agg (ObO 0 (l.getD i0 default)))) :
  SpecM Tryz.prog 115 0 [] [row 6 Ob.pv l, .fn g []] [[.rwf 6 l.length (fun j => Ob.pv (l.getD j default)) i0 (ObO 1 (l.getD i0 default))], slotR (l.getD i0 default).sl] (.os 76 0 6 l.length) := by
 refine SpecM.start (by kernel_rfl) Tryz.func115 rfl rfl (Nat.le_refl _) fun w0 L hst => ?_
 refine M.nilT [] 76 6 (fun j => Ob.pv (l.getD j default)) 5 (by kernel_rfl) trivial (by kernel_rfl) (by kernel_rfl) ?_
 refine M.loopL (ι := {i : Nat // i <= i0} ⊕ {i : Nat // i0 < i /\ i <= l.length})
  (fun | .inl i => [(1, .fn g []), (5, .os 76 0 6 i.1), (8, row 6 Ob.pv l), (9, I l.length), (10, I i.1)] | .inr i => [(1, .fn g []), (5, .os 76 0 6 i.1), (8, row 6 Ob.pv l), (9, I l.length), (10, I i.1)])
  (fun | .inl i => [[.rws 6 i.1 (fun j => Ob.pv (l.getD j default))]] | .inr i => [[.rws 6 i.1 (focE l i0 (ObO 1 (l.getD i0 default)))], slotR (l.getD i0 default).sl])
  (fun | .inl i => l.length - i.1 | .inr i => l.length - i.1) (.inl ⟨0, Nat.zero_le _⟩) [] (by kernel_rfl) trivial (by kernel_rfl) (by kernel_rfl) fun x L ih => ?_
 cases x with
 | inl x =>
  obtain ⟨i, hi⟩ := x
  refine M.yes (b := decide ((i : Int) < (l.length : Int))) (by simp; omega) (by kernel_rfl) ?_
  by_cases hii : i = i0
  ·subst hii
   refine M.callmp [0 <= (i : Int) /\ (i : Int) < (l.length : Int)] [] hgo (by kernel_rfl) ⟨by omega, trivial⟩ ?_
   refine M.ren [1 <= 1 /\ i = i /\ 0 < 1 /\ i + 1 <= 9223372036854775807 /\ (i + 1) * 80 <= 140737488355328, In64 ((i : Int) + 1)] [4, 2] hst (by kernel_rfl) ⟨⟨Nat.le_refl _, rfl, by omega, by omega, by omega⟩, ⟨by omega, by omega⟩, trivial⟩ (by kernel_rfl) (by kernel_rfl) rfl fun L' => ?_
   refine M.sig [] [[.rws 6 (i + 1) (fun j => (joinEl (fun j => Ob.pv (l.getD j default)) i (fun j => ((ObO 2 (l.getD i default)).drop (j * 6)).take 6) j).map (renP (invF [4, 2] 0) 7))], slotR (l.getD i default).sl]
    [[.rws 6 (i + 1) (focE l i (ObO 1 (l.getD i default)))], slotR (l.getD i default).sl] (by kernel_rfl) trivial (by kernel_rfl) (by kernel_rfl) (.cons (.rws rfl fun j hj => ?_) (.cons (.refl _) .nil)) ?_
   ·unfold joinEl focE
    by_cases h : j < i
    ·rw [if_pos h, if_neg (by omega)]; rfl
    ·have : j = i := by omega
     subst this
     rw [if_neg (Nat.lt_irrefl _), if_pos rfl, Nat.sub_self]; rfl
   ·exact M.back [] (ih (.inr ⟨i + 1, Nat.lt_succ_self _, hi0⟩) L' (by show l.length - (i + 1) < l.length - i; omega)) (by kernel_rfl) trivial (by kernel_rfl) (by kernel_rfl) (by kernel_rfl) (by kernel_rfl)
  ·refine M.clp [0 <= (i : Int) /\ (i : Int) < (l.length : Int)] ⟨by omega, trivial⟩ (hg _ (getD_mem (p := (i : Int).toNat) (by omega))) ?_
   refine M.ren [i = i /\ 0 < 1 /\ i + 1 <= 9223372036854775807 /\ (i + 1) * 80 <= 140737488355328, In64 ((i : Int) + 1)] [2] hst (by kernel_rfl) ⟨⟨rfl, by omega, by omega, by omega⟩, ⟨by omega, by omega⟩, trivial⟩ (by kernel_rfl) (by kernel_rfl) rfl fun L' => ?_
   refine M.sig [] [[.rws 6 (i + 1) (fun j => (joinEl (fun j => Ob.pv (l.getD j default)) i (fun j => ((Ob.pv (l.getD (i : Int).toNat default)).drop (j * 6)).take 6) j).map (renP (invF [2] 0) 7))]]
    [[.rws 6 (i + 1) (fun j => Ob.pv (l.getD j default))]] (by kernel_rfl) trivial (by kernel_rfl) (by kernel_rfl) (.cons (app_cells rfl rfl fun j => rfl) .nil) ?_
   exact M.back [] (ih (.inl ⟨i + 1, by omega⟩) L' (by show l.length - (i + 1) < l.length - i; omega)) (by kernel_rfl) trivial (by kernel_rfl) (by kernel_rfl) (by kernel_rfl) (by kernel_rfl)
 | inr x =>
  obtain ⟨i, hi1, hi⟩ := x
  refine M.test (decide ((i : Int) < (l.length : Int))) (by kernel_rfl) (fun h1 => ?_) (fun h1 => ?_)
  ·have hlt : i < l.length := by simpa using h1
   refine M.clp [0 <= (i : Int) /\ (i : Int) < (l.length : Int)] ⟨by omega, trivial⟩ (hg _ (getD_mem (p := (i : Int).toNat) (by omega))) ?_
   refine M.ren [i = i /\ 0 < 1 /\ i + 1 <= 9223372036854775807 /\ (i + 1) * 80 <= 140737488355328, In64 ((i : Int) + 1)] [3, 1] hst (by kernel_rfl) ⟨⟨rfl, by omega, by omega, by omega⟩, ⟨by omega, by omega⟩, trivial⟩ (by kernel_rfl) (by kernel_rfl) rfl fun L' => ?_
   refine M.sig [] [[.rws 6 (i + 1) (fun j => (joinEl (focE l i0 (ObO 1 (l.getD i0 default))) i (fun j => ((Ob.pv (l.getD (i : Int).toNat default)).drop (j * 6)).take 6) j).map (renP (invF [3, 1] 0) 7))], slotR (l.getD i0 default).sl]
    [[.rws 6 (i + 1) (focE l i0 (ObO 1 (l.getD i0 default)))], slotR (l.getD i0 default).sl] (by kernel_rfl) trivial (by kernel_rfl) (by kernel_rfl) (.cons (.rws rfl fun j hj => ?_) (.cons (.refl _) .nil)) ?_
   ·unfold joinEl focE
    by_cases h : j < i
    ·rw [if_pos h]
     by_cases h2 : j = i0
     ·rw [if_pos h2]; rfl
     ·rw [if_neg h2]; rfl
    ·have : j = i := by omega
     subst this
     rw [if_neg (Nat.lt_irrefl _), if_neg (by omega), Nat.sub_self]; rfl
   ·exact M.back [] (ih (.inr ⟨i + 1, by omega, hlt⟩) L' (by show l.length - (i + 1) < l.length - i; omega)) (by kernel_rfl) trivial (by kernel_rfl) (by kernel_rfl) (by kernel_rfl) (by kernel_rfl)
  ·have : i = l.length := by have := of_decide_eq_false h1; omega
   subst this
   refine M.sig [] [[.rws 6 l.length (focE l i0 (ObO 1 (l.getD i0 default)))], slotR (l.getD i0 default).sl] [[.rwf 6 l.length (fun j => Ob.pv (l.getD j default)) i0 (ObO 1 (l.getD i0 default))], slotR (l.getD i0 default).sl] (by kernel_rfl) trivial (by kernel_rfl) (by kernel_rfl) (.cons (.foc rfl hi0 fun x _ => rfl) (.cons (.refl _) .nil)) ?_
   exact M.retm [] [0, 1] hst rfl (by kernel_rfl) trivial rfl rfl
abbrev edC (w : Wd) : List PV := [.os 76 1 6 w.objs.length, .os 78 2 9 w.acts.length, .os 82 3 9 w.cds.length, I w.nO, I w.nA]
abbrev actR (w : Wd) : List PV := [.rws 9 w.acts.length (fun j => Ac.pv (w.acts.getD j default))]
abbrev cdR (w : Wd) : List PV := [.rws 9 w.cds.length (fun j => Cd.pv (w.cds.getD j default))]
abbrev objR (w : Wd) : List PV := [.rws 6 w.objs.length (fun j => Ob.pv (w.objs.getD j default))]
abbrev edS (w : Wd) : Sig := [edC w, objR w, actR w, cdR w]
abbrev objF' (w : Wd) (i : Nat) : List PV := [.rwf 6 w.objs.length (fun j => Ob.pv (w.objs.getD j default)) i (ObO 4 (w.objs.getD i default))]
abbrev edF (w : Wd) (i : Nat) : Sig := [edC w, objF' w i, actR w, cdR w, slotR (w.objs.getD i default).sl]
theorem copied_spec (w : Wd) (hw : w.Ok) : SpecM Tryz.prog 62 0 [] [.agg w.pv] (edS w) (.ref 0 0) := by
 refine SpecM.start (by kernel_rfl) Tryz.func62 rfl rfl (Nat.le_refl _) fun w0 L hst => ?_
 refine M.callm [] (c_mapped_Obj w.objs 116 hw.nobjs fun x hx => ccopyObj x (hw.objs x hx).nsl (hw.objs x hx).nel) (by kernel_rfl) ?_
 refine M.callm [] (c_mapped_Act w.acts 120 hw.nacts fun x hx => ccopyAct x (hw.acts x hx).nvars) (by kernel_rfl) ?_
 refine M.callm [] (c_mapped_Code w.cds 122 hw.ncds fun x hx => ccopyCode x (hw.cds x hx).names (hw.cds x hx).ninit (hw.cds x hx).nlits (hw.cds x hx).sels (hw.cds x hx).nins) (by kernel_rfl) ?_
 exact M.retm [] [4, 1, 2, 3] hst rfl (by kernel_rfl) trivial rfl rfl
theorem copiedF_spec (w : Wd) (hw : w.Ok) (i : Nat) (hi : i < w.objs.length) : SpecM Tryz.prog 62 0 [] [.agg w.pv] (edF w i) (.ref 0 0) := by
 have ho := hw.objs (w.objs.getD i default) (getD_mem (p := i) hi)
 refine SpecM.start (by kernel_rfl) Tryz.func62 rfl rfl (Nat.le_refl _) fun w0 L hst => ?_
 refine M.callm [] (cmapO w.objs 116 i hw.nobjs hi (fun x hx => ccopyObj x (hw.objs x hx).nsl (hw.objs x hx).nel) (ccopyO _ ho.nsl ho.nel)) (by kernel_rfl) ?_
 refine M.callm [] (c_mapped_Act w.acts 120 hw.nacts fun x hx => ccopyAct x (hw.acts x hx).nvars) (by kernel_rfl) ?_
 refine M.callm [] (c_mapped_Code w.cds 122 hw.ncds fun x hx => ccopyCode x (hw.cds x hx).names (hw.cds x hx).ninit (hw.cds x hx).nlits (hw.cds x hx).sels (hw.cds x hx).nins) (by kernel_rfl) ?_
 exact M.retm [] [5, 1, 3, 4, 2] hst rfl (by kernel_rfl) trivial rfl rfl
abbrev unfV (e : Int) : PV := .v (.iface 133 (.agg #[.int .i64 e]))
theorem must_s {b : Bool} (hb : b = true) (e : Int) : Spec Tryz.prog 63 [.sb b, I e] (.tup []) := by
 refine Spec.start (by kernel_rfl) Tryz.func63 rfl rfl fun w0 L => ?_
 refine M.no (b := !b) (by rw [hb]; rfl) (by kernel_rfl) ?_
 exact M.ret (.tup []) (by kernel_rfl) rfl
theorem mustP_s {b : Bool} (hb : b = false) (e : Int) : SpecP Tryz.prog 63 0 [] [.sb b, I e] [] (unfV e) := by
 refine SpecP.start (by kernel_rfl) Tryz.func63 rfl rfl (Nat.le_refl _) fun w0 L hst => ?_
 refine M.yes (b := !b) (by rw [hb]; rfl) (by kernel_rfl) ?_
 exact M.pan (x := unfV e) [] (by kernel_rfl) trivial (OkP.done [] hst rfl (by kernel_rfl) (by kernel_rfl) (by kernel_rfl))
def nmEq (n : List UInt8) (s : Sl) : Bool := s.nm == n
theorem at1_spec (n : List UInt8) (s : Sl) : Spec Tryz.prog 190 [.agg s.pv, .ptr [S n]] (.sb (nmEq n s)) := by
 refine Spec.startL (by kernel_rfl) Tryz.func190 rfl rfl fun w0 L hst => ?_
 exact M.ret (.sb (nmEq n s)) (by kernel_rfl) rfl
def atF (l : List Sl) (n : List UInt8) : Int := fstI (nmEq n) l
theorem haE_spec (o : Ob) (n : Int) : Spec Tryz.prog 189 [.agg o.pv, I n] (I (haObF o n)) := by
 refine Spec.startL (by kernel_rfl) Tryz.func189 rfl rfl fun w0 L hst => ?_
 refine M.cl (compare_spec o.oid n) ?_
 exact M.ret (I (haObF o n)) (by kernel_rfl) rfl
abbrev edG (w : Wd) (i : Nat) (o : Ob) : Sig := [edC w, [.rwf 6 w.objs.length (fun j => Ob.pv (w.objs.getD j default)) i (ObO 4 o)], actR w, cdR w, slotR o.sl]
abbrev focV (w : Wd) (i : Nat) (o : Ob) : PV := .sl 6 w.objs.length (fun j => if j = i then Ob.pv o else Ob.pv (w.objs.getD j default))
theorem foc_row {w : Wd} {i : Nat} {o : Ob} (hi : i < w.objs.length) {β : List (Option Nat)} {L : List Nat} {W : World} {u : Value} (h : R β L W (focV w i o) u) : R β L W (row 6 Ob.pv (w.objs.set i o)) u :=
 sl_eq (by rw [List.length_set]) (fun j hj => by
  simp only [List.getD_eq_getElem?_getD, List.getElem?_set]
  by_cases e : j = i
  ·subst e; simp [hi]
  ·rw [if_neg e, if_neg (fun h => e h.symm)]) h
theorem set_same {l : List Ob} {i : Nat} (hi : i < l.length) : l.set i (l.getD i default) = l := by
 rw [List.getD_eq_getElem?_getD, List.getElem?_eq_getElem hi]; simp
theorem at_spec (w : Wd) (i : Nat) (o : Ob) (n : List UInt8) (hil : i < w.objs.length) : SpecM Tryz.prog 159 5 (edG w i o) [.rr 1 6 i 0, S n] (edG w i o) (I (atF o.sl n)) := by
 refine SpecM.start (by kernel_rfl) Tryz.func159 rfl rfl (Nat.le_of_ble_eq_true rfl) fun w0 L hst => ?_
 refine M.clp [i < w.objs.length /\ i = i, o.sl.length <= o.sl.length] ⟨⟨hil, rfl⟩, Nat.le_refl _, trivial⟩ (idx_Slot_1' o.sl 190 (.ptr [S n]) (nmEq n) rfl fun x _ => at1_spec n x) ?_
 exact M.retm [] [0, 1, 2, 3, 4] hst rfl (by kernel_rfl) trivial rfl rfl
theorem edobj_ok (w : Wd) (hw : w.Ok) (oid : Int) (i : Nat) (hf : objF w oid = true) (hi : i = (objI w oid).toNat) : SpecM Tryz.prog 158 5 (edG w i (w.objs.getD i default)) [.ref 0 0, I oid] (edG w i (w.objs.getD i default)) (.rr 1 6 i 0) := by
 have hlt : objI w oid < w.objs.length := by
  unfold objF at hf
  simp only [Bool.and_eq_true, decide_eq_true_eq] at hf
  exact hf.1
 have h0 := (objI_in w oid hw.nobjs).1
 have hil : i < w.objs.length := by omega
 have hb : Spec Tryz.prog 65 [focV w i (w.objs.getD i default), I oid, .fn 189 []] (.tup [I (objI w oid), .sb (objF w oid)]) :=
  (bsearch_Obj w.objs oid 189 (fun o => haObF o oid) hw.nobjs fun x _ => haE_spec x oid).conv (fun L W vs h => by
   obtain ⟨u0, us, rfl, q0, h⟩ := h.uncons
   have := foc_row hil q0
   rw [set_same hil] at this
   exact .cons this h) fun _ _ _ h => h
 refine SpecM.start (by kernel_rfl) Tryz.func158 rfl rfl (Nat.le_of_ble_eq_true rfl) fun w0 L hst => ?_
 refine M.clp [w.objs.length <= w.objs.length, (w.objs.getD i default).sl.length <= (w.objs.getD i default).sl.length] ⟨Nat.le_refl _, Nat.le_refl _, trivial⟩ hb ?_
 refine M.cl (must_s hf 3) ?_
 subst hi
 exact M.retm [0 <= objI w oid /\ objI w oid < w.objs.length] [0, 1, 2, 3, 4] hst rfl (by kernel_rfl) ⟨⟨h0, hlt⟩, trivial⟩ rfl rfl
theorem edobj_no (w : Wd) (hw : w.Ok) (oid : Int) (hf : objF w oid = false) : SpecP Tryz.prog 158 4 (edS w) [.ref 0 0, I oid] (edS w) (unfV 3) := by
 refine SpecP.start (by kernel_rfl) Tryz.func158 rfl rfl (Nat.le_of_ble_eq_true rfl) fun w0 L hst => ?_
 have hb : Spec Tryz.prog 65 [row 6 Ob.pv w.objs, I oid, .fn 189 []] (.tup [I (objI w oid), .sb (objF w oid)]) := bsearch_Obj w.objs oid 189 (fun o => haObF o oid) hw.nobjs fun x _ => haE_spec x oid
 refine M.clp [w.objs.length <= w.objs.length] ⟨Nat.le_refl _, trivial⟩ hb ?_
 exact M.callP [] [] (mustP_s hf 3) (by kernel_rfl) trivial (by kernel_rfl) (OkP.done [0, 1, 2, 3] hst rfl (by kernel_rfl) (by kernel_rfl) (by kernel_rfl))
def chI (w : Wd) (ch : Ch) : Nat := (objI w ch.oid).toNat
def chO (w : Wd) (ch : Ch) : Ob := w.objs.getD (chI w ch) default
theorem chI_lt {w : Wd} (hw : w.Ok) {ch : Ch} (hf : objF w ch.oid = true) : chI w ch < w.objs.length := by
 have h0 := (objI_in w ch.oid hw.nobjs).1
 unfold objF at hf
 simp only [Bool.and_eq_true, decide_eq_true_eq] at hf
 have := hf.1
 unfold chI; omega
theorem add_ok (w : Wd) (hw : w.Ok) (ch : Ch) (hf : objF w ch.oid = true) (h1 : decide (((chO w ch).sl.length : Int) < 40) = true) (h2 : decide (atF (chO w ch).sl ch.slot.nm < 0) = true) :
  SpecM Tryz.prog 105 4 (edG w (chI w ch) (chO w ch)) [.ref 0 0, .agg ch.pv] (edG w (chI w ch) { chO w ch with sl := (chO w ch).sl ++ [ch.slot] }) (.tup []) := by
 have hil := chI_lt hw hf
 have hlen := of_decide_eq_true h1
 refine SpecM.start (by kernel_rfl) Tryz.func105 rfl rfl (Nat.le_of_ble_eq_true rfl) fun w0 L hst => ?_
 refine M.callm [0, 1, 2, 3, 4] (edobj_ok w hw ch.oid (chI w ch) hf rfl) (by kernel_rfl) ?_
 refine M.clp [chI w ch < w.objs.length /\ chI w ch = chI w ch] ⟨⟨hil, rfl⟩, trivial⟩ (must_s h1 2) ?_
 refine M.callm [0, 1, 2, 3, 4] (at_spec w (chI w ch) (chO w ch) ch.slot.nm hil) (by kernel_rfl) ?_
 refine M.cl (must_s h2 110) ?_
 refine M.ren [chI w ch < w.objs.length /\ chI w ch = chI w ch, (chO w ch).sl.length = (chO w ch).sl.length /\ 0 < 1 /\ (chO w ch).sl.length + 1 <= 9223372036854775807 /\ ((chO w ch).sl.length + 1) * 56 <= 140737488355328, chI w ch < w.objs.length /\ chI w ch = chI w ch] [0, 1, 2, 3, 6] hst (by kernel_rfl) ⟨⟨hil, rfl⟩, ⟨rfl, by omega, by omega, by omega⟩, ⟨hil, rfl⟩, trivial⟩ (by kernel_rfl) (by kernel_rfl) rfl fun L' => ?_
 refine M.sigT [] [edC w, [.rwf 6 w.objs.length (fun j => Ob.pv (w.objs.getD j default)) (chI w ch) [I (chO w ch).oid, I (chO w ch).kd, .os 30 4 5 ((chO w ch).sl.length + 1), row 3 Vl.pv (chO w ch).el, I (chO w ch).code, I (chO w ch).up]], actR w, cdR w, [.rws 5 ((chO w ch).sl.length + 1) (fun j => (joinEl (fun j => Sl.pv ((chO w ch).sl.getD j default)) (chO w ch).sl.length (fun j => ((Sl.pv ch.slot).drop (j * 5)).take 5) j).map (renP (invF [0, 1, 2, 3, 6] 0) 7))]]
  (edG w (chI w ch) { chO w ch with sl := (chO w ch).sl ++ [ch.slot] }) (by kernel_rfl) trivial (by kernel_rfl) (by kernel_rfl) (.cons (.refl _) (.cons ?_ (.cons (.refl _) (.cons (.refl _) (.cons (app_snocT (k := 5) (f := Sl.pv) (chO w ch).sl ch.slot (ds := Sl.pv ch.slot) (g := renP (invF [0, 1, 2, 3, 6] 0) 7) rfl (fun x => rfl) fun β L W us h => h) .nil))))) ?_
 ·simp only [ObO, List.length_append, List.length_cons, List.length_nil, Nat.zero_add]; exact .refl _
 ·exact M.retm [] [0, 1, 2, 3, 4] hst rfl (by kernel_rfl) trivial rfl rfl
theorem add_none (w : Wd) (hw : w.Ok) (ch : Ch) (hf : objF w ch.oid = false) : SpecP Tryz.prog 105 4 (edS w) [.ref 0 0, .agg ch.pv] (edS w) (unfV 3) := by
 refine SpecP.start (by kernel_rfl) Tryz.func105 rfl rfl (Nat.le_of_ble_eq_true rfl) fun w0 L hst => ?_
 exact M.callP [] [0, 1, 2, 3] (edobj_no w hw ch.oid hf) (by kernel_rfl) trivial (by kernel_rfl) (OkP.done [0, 1, 2, 3] hst rfl (by kernel_rfl) (by kernel_rfl) (by kernel_rfl))
theorem add_full (w : Wd) (hw : w.Ok) (ch : Ch) (hf : objF w ch.oid = true) (h1 : decide (((chO w ch).sl.length : Int) < 40) = false) :
  SpecP Tryz.prog 105 5 (edG w (chI w ch) (chO w ch)) [.ref 0 0, .agg ch.pv] (edG w (chI w ch) (chO w ch)) (unfV 2) := by
 have hil := chI_lt hw hf
 refine SpecP.start (by kernel_rfl) Tryz.func105 rfl rfl (Nat.le_of_ble_eq_true rfl) fun w0 L hst => ?_
 refine M.callm [0, 1, 2, 3, 4] (edobj_ok w hw ch.oid (chI w ch) hf rfl) (by kernel_rfl) ?_
 exact M.callP [chI w ch < w.objs.length /\ chI w ch = chI w ch] [] (mustP_s h1 2) (by kernel_rfl) ⟨⟨hil, rfl⟩, trivial⟩ (by kernel_rfl) (OkP.done [0, 1, 2, 3, 4] hst rfl (by kernel_rfl) (by kernel_rfl) (by kernel_rfl))
theorem add_twice (w : Wd) (hw : w.Ok) (ch : Ch) (hf : objF w ch.oid = true) (h1 : decide (((chO w ch).sl.length : Int) < 40) = true) (h2 : decide (atF (chO w ch).sl ch.slot.nm < 0) = false) :
  SpecP Tryz.prog 105 5 (edG w (chI w ch) (chO w ch)) [.ref 0 0, .agg ch.pv] (edG w (chI w ch) (chO w ch)) (unfV 110) := by
 have hil := chI_lt hw hf
 refine SpecP.start (by kernel_rfl) Tryz.func105 rfl rfl (Nat.le_of_ble_eq_true rfl) fun w0 L hst => ?_
 refine M.callm [0, 1, 2, 3, 4] (edobj_ok w hw ch.oid (chI w ch) hf rfl) (by kernel_rfl) ?_
 refine M.clp [chI w ch < w.objs.length /\ chI w ch = chI w ch] ⟨⟨hil, rfl⟩, trivial⟩ (must_s h1 2) ?_
 refine M.callm [0, 1, 2, 3, 4] (at_spec w (chI w ch) (chO w ch) ch.slot.nm hil) (by kernel_rfl) ?_
 exact M.callP [] [] (mustP_s h2 110) (by kernel_rfl) trivial (by kernel_rfl) (OkP.done [0, 1, 2, 3, 4] hst rfl (by kernel_rfl) (by kernel_rfl) (by kernel_rfl))
abbrev zSlot : List PV := [S [], I 0, I 0, I 0, S []]
def form1 (ch : Ch) : Bool := ch.name == []
theorem form1_spec (ch : Ch) : Spec Tryz.prog 104 [.agg ch.pv] (.sb (form1 ch)) := by
 refine Spec.startL (by kernel_rfl) Tryz.func104 rfl rfl fun w0 L hst => ?_
 exact M.ret (.sb (form1 ch)) (by kernel_rfl) rfl
end Go.Proofs.YtcknpohghmkbmaaGreatDoor
