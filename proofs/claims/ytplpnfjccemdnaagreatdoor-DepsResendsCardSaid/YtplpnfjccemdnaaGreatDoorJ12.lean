import Derived.Test.YtplpnfjccemdnaaGreatDoorJ10
import Derived.Test.YtplpnfjccemdnaaGreatDoorJ11
import Derived.Test.YtplpnfjccemdnaaGreatDoorProg
set_option linter.unusedVariables false
set_option linter.unusedSimpArgs false
/- The texts D1 G1 W1 P1 P2 P3 of the proof, laid one behind the other. -/
namespace Go.Proofs.YtplpnfjccemdnaaGreatDoor
open Go.RowKit
abbrev I (n : Int) : PV := .v (.int .i64 n)
abbrev S (l : List UInt8) : PV := .v (.string ⟨l.toArray⟩)
abbrev row {α : Type} [Inhabited α] (k : Nat) (f : α -> List PV) (l : List α) : PV := .sl k l.length (fun j => f (l.getD j default))
structure Vl where
 k : Int
 n : Int
 t : List UInt8
 deriving DecidableEq, Inhabited
abbrev Vl.pv (x : Vl) : List PV := [I x.k, I x.n, S x.t]
structure Sl where
 nm : List UInt8
 kd : Int
 v : Vl
 deriving DecidableEq, Inhabited
abbrev Sl.pv (x : Sl) : List PV := [S x.nm, I x.kd, I x.v.k, I x.v.n, S x.v.t]
structure Ob where
 oid : Int
 kd : Int
 sl : List (Sl)
 el : List (Vl)
 code : Int
 up : Int
 deriving DecidableEq, Inhabited
abbrev Ob.pv (x : Ob) : List PV := [I x.oid, I x.kd, row 5 Sl.pv x.sl, row 3 Vl.pv x.el, I x.code, I x.up]
structure In where
 op : Int
 a : Int
 b : Int
 c : Int
 deriving DecidableEq, Inhabited
abbrev In.pv (x : In) : List PV := [I x.op, I x.a, I x.b, I x.c]
structure Cd where
 nm : List UInt8
 blk : Bool
 outer : Int
 args : Int
 names : List (List UInt8)
 init : List (Vl)
 lits : List (Vl)
 sels : List (List UInt8)
 ins : List (In)
 deriving DecidableEq, Inhabited
abbrev Cd.pv (x : Cd) : List PV := [S x.nm, .sb x.blk, I x.outer, I x.args, row 1 (fun s => [S s]) x.names, row 3 Vl.pv x.init, row 3 Vl.pv x.lits, row 1 (fun s => [S s]) x.sels, row 4 In.pv x.ins]
structure Ac where
 aid : Int
 code : Int
 self : Vl
 holder : Int
 up : Int
 vars : List (Vl)
 done : Bool
 deriving DecidableEq, Inhabited
abbrev Ac.pv (x : Ac) : List PV := [I x.aid, I x.code, I x.self.k, I x.self.n, S x.self.t, I x.holder, I x.up, row 3 Vl.pv x.vars, .sb x.done]
structure Wd where
 objs : List (Ob)
 acts : List (Ac)
 cds : List (Cd)
 nO : Int
 nA : Int
 deriving DecidableEq, Inhabited
abbrev Wd.pv (x : Wd) : List PV := [row 6 Ob.pv x.objs, row 9 Ac.pv x.acts, row 9 Cd.pv x.cds, I x.nO, I x.nA]
structure Mp where
 kd : Int
 sl : List (Sl)
 deriving DecidableEq, Inhabited
abbrev Mp.pv (x : Mp) : List PV := [I x.kd, row 5 Sl.pv x.sl]
structure Ty where
 k : Int
 n : Int
 v : Vl
 deriving DecidableEq, Inhabited
abbrev Ty.pv (x : Ty) : List PV := [I x.k, I x.n, I x.v.k, I x.v.n, S x.v.t]
structure Tg where
 kind : Int
 holder : Int
 slot : Int
 own : Bool
 code : Int
 v : Vl
 deriving DecidableEq, Inhabited
abbrev Tg.pv (x : Tg) : List PV := [I x.kind, I x.holder, I x.slot, .sb x.own, I x.code, I x.v.k, I x.v.n, S x.v.t]
structure Dp where
 oid : Int
 whole : Bool
 map : Mp
 slot : Int
 v : Vl
 deriving DecidableEq, Inhabited
abbrev Dp.pv (x : Dp) : List PV := [I x.oid, .sb x.whole, I x.map.kd, row 5 Sl.pv x.map.sl, I x.slot, I x.v.k, I x.v.n, S x.v.t]
structure Ch where
 kind : Int
 oid : Int
 name : List UInt8
 slot : Sl
 deriving DecidableEq, Inhabited
abbrev Ch.pv (x : Ch) : List PV := [I x.kind, I x.oid, S x.name, S x.slot.nm, I x.slot.kd, I x.slot.v.k, I x.slot.v.n, S x.slot.v.t]
theorem idx_Slot_0 (l : List Sl) (g : Nat) (p : Sl -> Bool) (hg : ∀ x ∈ l, Spec Tryz.prog g [.agg x.pv] (.sb (p x))) :
  Spec Tryz.prog 47 [row 5 Sl.pv l, .fn g []] (I (fstI p l)) := by
 refine Spec.fact (by kernel_rfl) 0 rfl fun hf => ?_
 have hl : l.length <= 9223372036854775807 := hf.1
 refine Spec.start (by kernel_rfl) Tryz.func47 rfl rfl fun w0 L => ?_
 refine M.loop (ι := {i : Nat // i <= l.length /\ noneB p l i}) (fun i => [(0, row 5 Sl.pv l), (1, .fn g []), (7, I l.length), (8, I i.1)]) (fun _ => []) (fun i => l.length - i.1) ⟨0, Nat.zero_le _, noneB_zero p l⟩ [] (by kernel_rfl) trivial (by kernel_rfl) (by kernel_rfl) fun ⟨i, hi, hb⟩ ih => ?_
 refine M.ts (decide ((i : Int) < (l.length : Int))) (fun h1 => ?_) (fun h1 => ?_)
 ·have hlt : i < l.length := by simpa using h1
  have hs := hg _ (List.getElem_mem hlt)
  rw [<- getD_nat hlt] at hs
  refine M.callp [0 <= (i : Int) /\ (i : Int) < (l.length : Int)] hs (by kernel_rfl) ⟨by omega, trivial⟩ (by kernel_rfl) ?_
  refine M.ts (p (l.getD (i : Int).toNat default)) (fun h2 => ?_) (fun h2 => ?_)
  ·rw [getD_nat hlt] at h2
   exact M.ret (I i) (by kernel_rfl) (by rw [fstI_at hlt hb h2])
  ·rw [getD_nat hlt] at h2
   exact M.bk [In64 ((i : Int) + 1)] (ih ⟨i + 1, hlt, noneB_step hlt hb h2⟩ (by show l.length - (i + 1) < l.length - i; omega)) ⟨⟨by omega, by omega⟩, trivial⟩
 ·exact M.ret (I (-1)) (by kernel_rfl) (by rw [fstI_no (by simpa using h1) hb])
theorem has_Slot_0 (l : List Sl) (g : Nat) (p : Sl -> Bool) (hg : ∀ x ∈ l, Spec Tryz.prog g [.agg x.pv] (.sb (p x))) :
  Spec Tryz.prog 111 [row 5 Sl.pv l, .fn g []] (.sb (l.any p)) := by
 refine Spec.start (by kernel_rfl) Tryz.func111 rfl rfl fun w0 L => ?_
 refine M.call (idx_Slot_0 l g p hg) (by kernel_rfl) (by kernel_rfl) ?_
 exact M.retb (decide (fstI p l >= 0)) (by kernel_rfl) (fstI_any p l)
theorem idx_Slot_1 (l : List Sl) (g : Nat) (q0 : PV) (p : Sl -> Bool) (hg : ∀ x ∈ l, Spec Tryz.prog g [.agg x.pv, .o q0] (.sb (p x))) :
  Spec Tryz.prog 47 [row 5 Sl.pv l, .fn g [.o q0]] (I (fstI p l)) := by
 refine Spec.fact (by kernel_rfl) 0 rfl fun hf => ?_
 have hl : l.length <= 9223372036854775807 := hf.1
 refine Spec.start (by kernel_rfl) Tryz.func47 rfl rfl fun w0 L => ?_
 refine M.loop (ι := {i : Nat // i <= l.length /\ noneB p l i}) (fun i => [(0, row 5 Sl.pv l), (1, .fn g [.o q0]), (7, I l.length), (8, I i.1)]) (fun _ => []) (fun i => l.length - i.1) ⟨0, Nat.zero_le _, noneB_zero p l⟩ [] (by kernel_rfl) trivial (by kernel_rfl) (by kernel_rfl) fun ⟨i, hi, hb⟩ ih => ?_
 refine M.ts (decide ((i : Int) < (l.length : Int))) (fun h1 => ?_) (fun h1 => ?_)
 ·have hlt : i < l.length := by simpa using h1
  have hs := hg _ (List.getElem_mem hlt)
  rw [<- getD_nat hlt] at hs
  refine M.callp [0 <= (i : Int) /\ (i : Int) < (l.length : Int)] hs (by kernel_rfl) ⟨by omega, trivial⟩ (by kernel_rfl) ?_
  refine M.ts (p (l.getD (i : Int).toNat default)) (fun h2 => ?_) (fun h2 => ?_)
  ·rw [getD_nat hlt] at h2
   exact M.ret (I i) (by kernel_rfl) (by rw [fstI_at hlt hb h2])
  ·rw [getD_nat hlt] at h2
   exact M.bk [In64 ((i : Int) + 1)] (ih ⟨i + 1, hlt, noneB_step hlt hb h2⟩ (by show l.length - (i + 1) < l.length - i; omega)) ⟨⟨by omega, by omega⟩, trivial⟩
 ·exact M.ret (I (-1)) (by kernel_rfl) (by rw [fstI_no (by simpa using h1) hb])
theorem has_Slot_1 (l : List Sl) (g : Nat) (q0 : PV) (p : Sl -> Bool) (hg : ∀ x ∈ l, Spec Tryz.prog g [.agg x.pv, .o q0] (.sb (p x))) :
  Spec Tryz.prog 111 [row 5 Sl.pv l, .fn g [.o q0]] (.sb (l.any p)) := by
 refine Spec.start (by kernel_rfl) Tryz.func111 rfl rfl fun w0 L => ?_
 refine M.call (idx_Slot_1 l g q0 p hg) (by kernel_rfl) (by kernel_rfl) ?_
 exact M.retb (decide (fstI p l >= 0)) (by kernel_rfl) (fstI_any p l)
theorem idx_Slot_1' (l : List Sl) (g : Nat) (q0 : PV) (p : Sl -> Bool) (h0 : oneP q0 = true) (hg : ∀ x ∈ l, Spec Tryz.prog g [.agg x.pv, q0] (.sb (p x))) :
  Spec Tryz.prog 47 [row 5 Sl.pv l, .fn g [q0]] (I (fstI p l)) :=
 Spec.capO (ax := [row 5 Sl.pv l]) (qs := [q0]) (bs := []) (by simp [h0]) (idx_Slot_1 l g q0 p fun x hx => Spec.unO (ax := [.agg x.pv]) (qs := [q0]) (hg x hx))
theorem has_Slot_1' (l : List Sl) (g : Nat) (q0 : PV) (p : Sl -> Bool) (h0 : oneP q0 = true) (hg : ∀ x ∈ l, Spec Tryz.prog g [.agg x.pv, q0] (.sb (p x))) :
  Spec Tryz.prog 111 [row 5 Sl.pv l, .fn g [q0]] (.sb (l.any p)) :=
 Spec.capO (ax := [row 5 Sl.pv l]) (qs := [q0]) (bs := []) (by simp [h0]) (has_Slot_1 l g q0 p fun x hx => Spec.unO (ax := [.agg x.pv]) (qs := [q0]) (hg x hx))
theorem idx_Map_1 (l : List Mp) (g : Nat) (q0 : PV) (p : Mp -> Bool) (hg : ∀ x ∈ l, Spec Tryz.prog g [.agg x.pv, .o q0] (.sb (p x))) :
  Spec Tryz.prog 147 [row 2 Mp.pv l, .fn g [.o q0]] (I (fstI p l)) := by
 refine Spec.fact (by kernel_rfl) 0 rfl fun hf => ?_
 have hl : l.length <= 9223372036854775807 := hf.1
 refine Spec.start (by kernel_rfl) Tryz.func147 rfl rfl fun w0 L => ?_
 refine M.loop (ι := {i : Nat // i <= l.length /\ noneB p l i}) (fun i => [(0, row 2 Mp.pv l), (1, .fn g [.o q0]), (7, I l.length), (8, I i.1)]) (fun _ => []) (fun i => l.length - i.1) ⟨0, Nat.zero_le _, noneB_zero p l⟩ [] (by kernel_rfl) trivial (by kernel_rfl) (by kernel_rfl) fun ⟨i, hi, hb⟩ ih => ?_
 refine M.ts (decide ((i : Int) < (l.length : Int))) (fun h1 => ?_) (fun h1 => ?_)
 ·have hlt : i < l.length := by simpa using h1
  have hs := hg _ (List.getElem_mem hlt)
  rw [<- getD_nat hlt] at hs
  refine M.callp [0 <= (i : Int) /\ (i : Int) < (l.length : Int)] hs (by kernel_rfl) ⟨by omega, trivial⟩ (by kernel_rfl) ?_
  refine M.ts (p (l.getD (i : Int).toNat default)) (fun h2 => ?_) (fun h2 => ?_)
  ·rw [getD_nat hlt] at h2
   exact M.ret (I i) (by kernel_rfl) (by rw [fstI_at hlt hb h2])
  ·rw [getD_nat hlt] at h2
   exact M.bk [In64 ((i : Int) + 1)] (ih ⟨i + 1, hlt, noneB_step hlt hb h2⟩ (by show l.length - (i + 1) < l.length - i; omega)) ⟨⟨by omega, by omega⟩, trivial⟩
 ·exact M.ret (I (-1)) (by kernel_rfl) (by rw [fstI_no (by simpa using h1) hb])
theorem has_Map_1 (l : List Mp) (g : Nat) (q0 : PV) (p : Mp -> Bool) (hg : ∀ x ∈ l, Spec Tryz.prog g [.agg x.pv, .o q0] (.sb (p x))) :
  Spec Tryz.prog 103 [row 2 Mp.pv l, .fn g [.o q0]] (.sb (l.any p)) := by
 refine Spec.start (by kernel_rfl) Tryz.func103 rfl rfl fun w0 L => ?_
 refine M.call (idx_Map_1 l g q0 p hg) (by kernel_rfl) (by kernel_rfl) ?_
 exact M.retb (decide (fstI p l >= 0)) (by kernel_rfl) (fstI_any p l)
theorem has_Map_1' (l : List Mp) (g : Nat) (q0 : PV) (p : Mp -> Bool) (h0 : oneP q0 = true) (hg : ∀ x ∈ l, Spec Tryz.prog g [.agg x.pv, q0] (.sb (p x))) :
  Spec Tryz.prog 103 [row 2 Mp.pv l, .fn g [q0]] (.sb (l.any p)) :=
 Spec.capO (ax := [row 2 Mp.pv l]) (qs := [q0]) (bs := []) (by simp [h0]) (has_Map_1 l g q0 p fun x hx => Spec.unO (ax := [.agg x.pv]) (qs := [q0]) (hg x hx))
theorem idx_Ty_2 (l : List Ty) (g : Nat) (q0 q1 : PV) (p : Ty -> Bool) (hg : ∀ x ∈ l, Spec Tryz.prog g [.agg x.pv, .o q0, .o q1] (.sb (p x))) :
  Spec Tryz.prog 148 [row 5 Ty.pv l, .fn g [.o q0, .o q1]] (I (fstI p l)) := by
 refine Spec.fact (by kernel_rfl) 0 rfl fun hf => ?_
 have hl : l.length <= 9223372036854775807 := hf.1
 refine Spec.start (by kernel_rfl) Tryz.func148 rfl rfl fun w0 L => ?_
 refine M.loop (ι := {i : Nat // i <= l.length /\ noneB p l i}) (fun i => [(0, row 5 Ty.pv l), (1, .fn g [.o q0, .o q1]), (7, I l.length), (8, I i.1)]) (fun _ => []) (fun i => l.length - i.1) ⟨0, Nat.zero_le _, noneB_zero p l⟩ [] (by kernel_rfl) trivial (by kernel_rfl) (by kernel_rfl) fun ⟨i, hi, hb⟩ ih => ?_
 refine M.ts (decide ((i : Int) < (l.length : Int))) (fun h1 => ?_) (fun h1 => ?_)
 ·have hlt : i < l.length := by simpa using h1
  have hs := hg _ (List.getElem_mem hlt)
  rw [<- getD_nat hlt] at hs
  refine M.callp [0 <= (i : Int) /\ (i : Int) < (l.length : Int)] hs (by kernel_rfl) ⟨by omega, trivial⟩ (by kernel_rfl) ?_
  refine M.ts (p (l.getD (i : Int).toNat default)) (fun h2 => ?_) (fun h2 => ?_)
  ·rw [getD_nat hlt] at h2
   exact M.ret (I i) (by kernel_rfl) (by rw [fstI_at hlt hb h2])
  ·rw [getD_nat hlt] at h2
   exact M.bk [In64 ((i : Int) + 1)] (ih ⟨i + 1, hlt, noneB_step hlt hb h2⟩ (by show l.length - (i + 1) < l.length - i; omega)) ⟨⟨by omega, by omega⟩, trivial⟩
 ·exact M.ret (I (-1)) (by kernel_rfl) (by rw [fstI_no (by simpa using h1) hb])
theorem has_Ty_2 (l : List Ty) (g : Nat) (q0 q1 : PV) (p : Ty -> Bool) (hg : ∀ x ∈ l, Spec Tryz.prog g [.agg x.pv, .o q0, .o q1] (.sb (p x))) :
  Spec Tryz.prog 105 [row 5 Ty.pv l, .fn g [.o q0, .o q1]] (.sb (l.any p)) := by
 refine Spec.start (by kernel_rfl) Tryz.func105 rfl rfl fun w0 L => ?_
 refine M.call (idx_Ty_2 l g q0 q1 p hg) (by kernel_rfl) (by kernel_rfl) ?_
 exact M.retb (decide (fstI p l >= 0)) (by kernel_rfl) (fstI_any p l)
theorem has_Ty_2' (l : List Ty) (g : Nat) (q0 q1 : PV) (p : Ty -> Bool) (h0 : oneP q0 = true) (h1 : oneP q1 = true) (hg : ∀ x ∈ l, Spec Tryz.prog g [.agg x.pv, q0, q1] (.sb (p x))) :
  Spec Tryz.prog 105 [row 5 Ty.pv l, .fn g [q0, q1]] (.sb (l.any p)) :=
 Spec.capO (ax := [row 5 Ty.pv l]) (qs := [q0, q1]) (bs := []) (by simp [h0, h1]) (has_Ty_2 l g q0 q1 p fun x hx => Spec.unO (ax := [.agg x.pv]) (qs := [q0, q1]) (hg x hx))
theorem idx_Act_1 (l : List Ac) (g : Nat) (q0 : PV) (p : Ac -> Bool) (hg : ∀ x ∈ l, Spec Tryz.prog g [.agg x.pv, .o q0] (.sb (p x))) :
  Spec Tryz.prog 129 [row 9 Ac.pv l, .fn g [.o q0]] (I (fstI p l)) := by
 refine Spec.fact (by kernel_rfl) 0 rfl fun hf => ?_
 have hl : l.length <= 9223372036854775807 := hf.1
 refine Spec.start (by kernel_rfl) Tryz.func129 rfl rfl fun w0 L => ?_
 refine M.loop (ι := {i : Nat // i <= l.length /\ noneB p l i}) (fun i => [(0, row 9 Ac.pv l), (1, .fn g [.o q0]), (7, I l.length), (8, I i.1)]) (fun _ => []) (fun i => l.length - i.1) ⟨0, Nat.zero_le _, noneB_zero p l⟩ [] (by kernel_rfl) trivial (by kernel_rfl) (by kernel_rfl) fun ⟨i, hi, hb⟩ ih => ?_
 refine M.ts (decide ((i : Int) < (l.length : Int))) (fun h1 => ?_) (fun h1 => ?_)
 ·have hlt : i < l.length := by simpa using h1
  have hs := hg _ (List.getElem_mem hlt)
  rw [<- getD_nat hlt] at hs
  refine M.callp [0 <= (i : Int) /\ (i : Int) < (l.length : Int)] hs (by kernel_rfl) ⟨by omega, trivial⟩ (by kernel_rfl) ?_
  refine M.ts (p (l.getD (i : Int).toNat default)) (fun h2 => ?_) (fun h2 => ?_)
  ·rw [getD_nat hlt] at h2
   exact M.ret (I i) (by kernel_rfl) (by rw [fstI_at hlt hb h2])
  ·rw [getD_nat hlt] at h2
   exact M.bk [In64 ((i : Int) + 1)] (ih ⟨i + 1, hlt, noneB_step hlt hb h2⟩ (by show l.length - (i + 1) < l.length - i; omega)) ⟨⟨by omega, by omega⟩, trivial⟩
 ·exact M.ret (I (-1)) (by kernel_rfl) (by rw [fstI_no (by simpa using h1) hb])
theorem has_Act_1 (l : List Ac) (g : Nat) (q0 : PV) (p : Ac -> Bool) (hg : ∀ x ∈ l, Spec Tryz.prog g [.agg x.pv, .o q0] (.sb (p x))) :
  Spec Tryz.prog 92 [row 9 Ac.pv l, .fn g [.o q0]] (.sb (l.any p)) := by
 refine Spec.start (by kernel_rfl) Tryz.func92 rfl rfl fun w0 L => ?_
 refine M.call (idx_Act_1 l g q0 p hg) (by kernel_rfl) (by kernel_rfl) ?_
 exact M.retb (decide (fstI p l >= 0)) (by kernel_rfl) (fstI_any p l)
theorem has_Act_1' (l : List Ac) (g : Nat) (q0 : PV) (p : Ac -> Bool) (h0 : oneP q0 = true) (hg : ∀ x ∈ l, Spec Tryz.prog g [.agg x.pv, q0] (.sb (p x))) :
  Spec Tryz.prog 92 [row 9 Ac.pv l, .fn g [q0]] (.sb (l.any p)) :=
 Spec.capO (ax := [row 9 Ac.pv l]) (qs := [q0]) (bs := []) (by simp [h0]) (has_Act_1 l g q0 p fun x hx => Spec.unO (ax := [.agg x.pv]) (qs := [q0]) (hg x hx))
theorem idx_Obj_1 (l : List Ob) (g : Nat) (q0 : PV) (p : Ob -> Bool) (hg : ∀ x ∈ l, Spec Tryz.prog g [.agg x.pv, .o q0] (.sb (p x))) :
  Spec Tryz.prog 131 [row 6 Ob.pv l, .fn g [.o q0]] (I (fstI p l)) := by
 refine Spec.fact (by kernel_rfl) 0 rfl fun hf => ?_
 have hl : l.length <= 9223372036854775807 := hf.1
 refine Spec.start (by kernel_rfl) Tryz.func131 rfl rfl fun w0 L => ?_
 refine M.loop (ι := {i : Nat // i <= l.length /\ noneB p l i}) (fun i => [(0, row 6 Ob.pv l), (1, .fn g [.o q0]), (7, I l.length), (8, I i.1)]) (fun _ => []) (fun i => l.length - i.1) ⟨0, Nat.zero_le _, noneB_zero p l⟩ [] (by kernel_rfl) trivial (by kernel_rfl) (by kernel_rfl) fun ⟨i, hi, hb⟩ ih => ?_
 refine M.ts (decide ((i : Int) < (l.length : Int))) (fun h1 => ?_) (fun h1 => ?_)
 ·have hlt : i < l.length := by simpa using h1
  have hs := hg _ (List.getElem_mem hlt)
  rw [<- getD_nat hlt] at hs
  refine M.callp [0 <= (i : Int) /\ (i : Int) < (l.length : Int)] hs (by kernel_rfl) ⟨by omega, trivial⟩ (by kernel_rfl) ?_
  refine M.ts (p (l.getD (i : Int).toNat default)) (fun h2 => ?_) (fun h2 => ?_)
  ·rw [getD_nat hlt] at h2
   exact M.ret (I i) (by kernel_rfl) (by rw [fstI_at hlt hb h2])
  ·rw [getD_nat hlt] at h2
   exact M.bk [In64 ((i : Int) + 1)] (ih ⟨i + 1, hlt, noneB_step hlt hb h2⟩ (by show l.length - (i + 1) < l.length - i; omega)) ⟨⟨by omega, by omega⟩, trivial⟩
 ·exact M.ret (I (-1)) (by kernel_rfl) (by rw [fstI_no (by simpa using h1) hb])
theorem has_Obj_1 (l : List Ob) (g : Nat) (q0 : PV) (p : Ob -> Bool) (hg : ∀ x ∈ l, Spec Tryz.prog g [.agg x.pv, .o q0] (.sb (p x))) :
  Spec Tryz.prog 95 [row 6 Ob.pv l, .fn g [.o q0]] (.sb (l.any p)) := by
 refine Spec.start (by kernel_rfl) Tryz.func95 rfl rfl fun w0 L => ?_
 refine M.call (idx_Obj_1 l g q0 p hg) (by kernel_rfl) (by kernel_rfl) ?_
 exact M.retb (decide (fstI p l >= 0)) (by kernel_rfl) (fstI_any p l)
theorem has_Obj_1' (l : List Ob) (g : Nat) (q0 : PV) (p : Ob -> Bool) (h0 : oneP q0 = true) (hg : ∀ x ∈ l, Spec Tryz.prog g [.agg x.pv, q0] (.sb (p x))) :
  Spec Tryz.prog 95 [row 6 Ob.pv l, .fn g [q0]] (.sb (l.any p)) :=
 Spec.capO (ax := [row 6 Ob.pv l]) (qs := [q0]) (bs := []) (by simp [h0]) (has_Obj_1 l g q0 p fun x hx => Spec.unO (ax := [.agg x.pv]) (qs := [q0]) (hg x hx))
theorem idx_Val_0 (l : List Vl) (g : Nat) (p : Vl -> Bool) (hg : ∀ x ∈ l, Spec Tryz.prog g [.agg x.pv] (.sb (p x))) :
  Spec Tryz.prog 169 [row 3 Vl.pv l, .fn g []] (I (fstI p l)) := by
 refine Spec.fact (by kernel_rfl) 0 rfl fun hf => ?_
 have hl : l.length <= 9223372036854775807 := hf.1
 refine Spec.start (by kernel_rfl) Tryz.func169 rfl rfl fun w0 L => ?_
 refine M.loop (ι := {i : Nat // i <= l.length /\ noneB p l i}) (fun i => [(0, row 3 Vl.pv l), (1, .fn g []), (7, I l.length), (8, I i.1)]) (fun _ => []) (fun i => l.length - i.1) ⟨0, Nat.zero_le _, noneB_zero p l⟩ [] (by kernel_rfl) trivial (by kernel_rfl) (by kernel_rfl) fun ⟨i, hi, hb⟩ ih => ?_
 refine M.ts (decide ((i : Int) < (l.length : Int))) (fun h1 => ?_) (fun h1 => ?_)
 ·have hlt : i < l.length := by simpa using h1
  have hs := hg _ (List.getElem_mem hlt)
  rw [<- getD_nat hlt] at hs
  refine M.callp [0 <= (i : Int) /\ (i : Int) < (l.length : Int)] hs (by kernel_rfl) ⟨by omega, trivial⟩ (by kernel_rfl) ?_
  refine M.ts (p (l.getD (i : Int).toNat default)) (fun h2 => ?_) (fun h2 => ?_)
  ·rw [getD_nat hlt] at h2
   exact M.ret (I i) (by kernel_rfl) (by rw [fstI_at hlt hb h2])
  ·rw [getD_nat hlt] at h2
   exact M.bk [In64 ((i : Int) + 1)] (ih ⟨i + 1, hlt, noneB_step hlt hb h2⟩ (by show l.length - (i + 1) < l.length - i; omega)) ⟨⟨by omega, by omega⟩, trivial⟩
 ·exact M.ret (I (-1)) (by kernel_rfl) (by rw [fstI_no (by simpa using h1) hb])
theorem has_Val_0 (l : List Vl) (g : Nat) (p : Vl -> Bool) (hg : ∀ x ∈ l, Spec Tryz.prog g [.agg x.pv] (.sb (p x))) :
  Spec Tryz.prog 126 [row 3 Vl.pv l, .fn g []] (.sb (l.any p)) := by
 refine Spec.start (by kernel_rfl) Tryz.func126 rfl rfl fun w0 L => ?_
 refine M.call (idx_Val_0 l g p hg) (by kernel_rfl) (by kernel_rfl) ?_
 exact M.retb (decide (fstI p l >= 0)) (by kernel_rfl) (fstI_any p l)
theorem idx_Val_1 (l : List Vl) (g : Nat) (q0 : PV) (p : Vl -> Bool) (hg : ∀ x ∈ l, Spec Tryz.prog g [.agg x.pv, .o q0] (.sb (p x))) :
  Spec Tryz.prog 169 [row 3 Vl.pv l, .fn g [.o q0]] (I (fstI p l)) := by
 refine Spec.fact (by kernel_rfl) 0 rfl fun hf => ?_
 have hl : l.length <= 9223372036854775807 := hf.1
 refine Spec.start (by kernel_rfl) Tryz.func169 rfl rfl fun w0 L => ?_
 refine M.loop (ι := {i : Nat // i <= l.length /\ noneB p l i}) (fun i => [(0, row 3 Vl.pv l), (1, .fn g [.o q0]), (7, I l.length), (8, I i.1)]) (fun _ => []) (fun i => l.length - i.1) ⟨0, Nat.zero_le _, noneB_zero p l⟩ [] (by kernel_rfl) trivial (by kernel_rfl) (by kernel_rfl) fun ⟨i, hi, hb⟩ ih => ?_
 refine M.ts (decide ((i : Int) < (l.length : Int))) (fun h1 => ?_) (fun h1 => ?_)
 ·have hlt : i < l.length := by simpa using h1
  have hs := hg _ (List.getElem_mem hlt)
  rw [<- getD_nat hlt] at hs
  refine M.callp [0 <= (i : Int) /\ (i : Int) < (l.length : Int)] hs (by kernel_rfl) ⟨by omega, trivial⟩ (by kernel_rfl) ?_
  refine M.ts (p (l.getD (i : Int).toNat default)) (fun h2 => ?_) (fun h2 => ?_)
  ·rw [getD_nat hlt] at h2
   exact M.ret (I i) (by kernel_rfl) (by rw [fstI_at hlt hb h2])
  ·rw [getD_nat hlt] at h2
   exact M.bk [In64 ((i : Int) + 1)] (ih ⟨i + 1, hlt, noneB_step hlt hb h2⟩ (by show l.length - (i + 1) < l.length - i; omega)) ⟨⟨by omega, by omega⟩, trivial⟩
 ·exact M.ret (I (-1)) (by kernel_rfl) (by rw [fstI_no (by simpa using h1) hb])
theorem has_Val_1 (l : List Vl) (g : Nat) (q0 : PV) (p : Vl -> Bool) (hg : ∀ x ∈ l, Spec Tryz.prog g [.agg x.pv, .o q0] (.sb (p x))) :
  Spec Tryz.prog 126 [row 3 Vl.pv l, .fn g [.o q0]] (.sb (l.any p)) := by
 refine Spec.start (by kernel_rfl) Tryz.func126 rfl rfl fun w0 L => ?_
 refine M.call (idx_Val_1 l g q0 p hg) (by kernel_rfl) (by kernel_rfl) ?_
 exact M.retb (decide (fstI p l >= 0)) (by kernel_rfl) (fstI_any p l)
theorem has_Val_1' (l : List Vl) (g : Nat) (q0 : PV) (p : Vl -> Bool) (h0 : oneP q0 = true) (hg : ∀ x ∈ l, Spec Tryz.prog g [.agg x.pv, q0] (.sb (p x))) :
  Spec Tryz.prog 126 [row 3 Vl.pv l, .fn g [q0]] (.sb (l.any p)) :=
 Spec.capO (ax := [row 3 Vl.pv l]) (qs := [q0]) (bs := []) (by simp [h0]) (has_Val_1 l g q0 p fun x hx => Spec.unO (ax := [.agg x.pv]) (qs := [q0]) (hg x hx))
theorem idx_byte_0 (l : List UInt8) (g : Nat) (p : UInt8 -> Bool) (hg : ∀ x ∈ l, Spec Tryz.prog g [.v (.int .u8 x.toNat)] (.sb (p x))) :
  Spec Tryz.prog 155 [row 1 (fun b => [.v (.int .u8 b.toNat)]) l, .fn g []] (I (fstI p l)) := by
 refine Spec.fact (by kernel_rfl) 0 rfl fun hf => ?_
 have hl : l.length <= 9223372036854775807 := hf.1
 refine Spec.start (by kernel_rfl) Tryz.func155 rfl rfl fun w0 L => ?_
 refine M.loop (ι := {i : Nat // i <= l.length /\ noneB p l i}) (fun i => [(0, row 1 (fun b => [.v (.int .u8 b.toNat)]) l), (1, .fn g []), (7, I l.length), (8, I i.1)]) (fun _ => []) (fun i => l.length - i.1) ⟨0, Nat.zero_le _, noneB_zero p l⟩ [] (by kernel_rfl) trivial (by kernel_rfl) (by kernel_rfl) fun ⟨i, hi, hb⟩ ih => ?_
 refine M.ts (decide ((i : Int) < (l.length : Int))) (fun h1 => ?_) (fun h1 => ?_)
 ·have hlt : i < l.length := by simpa using h1
  have hs := hg _ (List.getElem_mem hlt)
  rw [<- getD_nat hlt] at hs
  refine M.callp [0 <= (i : Int) /\ (i : Int) < (l.length : Int)] hs (by kernel_rfl) ⟨by omega, trivial⟩ (by kernel_rfl) ?_
  refine M.ts (p (l.getD (i : Int).toNat default)) (fun h2 => ?_) (fun h2 => ?_)
  ·rw [getD_nat hlt] at h2
   exact M.ret (I i) (by kernel_rfl) (by rw [fstI_at hlt hb h2])
  ·rw [getD_nat hlt] at h2
   exact M.bk [In64 ((i : Int) + 1)] (ih ⟨i + 1, hlt, noneB_step hlt hb h2⟩ (by show l.length - (i + 1) < l.length - i; omega)) ⟨⟨by omega, by omega⟩, trivial⟩
 ·exact M.ret (I (-1)) (by kernel_rfl) (by rw [fstI_no (by simpa using h1) hb])
theorem has_byte_0 (l : List UInt8) (g : Nat) (p : UInt8 -> Bool) (hg : ∀ x ∈ l, Spec Tryz.prog g [.v (.int .u8 x.toNat)] (.sb (p x))) :
  Spec Tryz.prog 115 [row 1 (fun b => [.v (.int .u8 b.toNat)]) l, .fn g []] (.sb (l.any p)) := by
 refine Spec.start (by kernel_rfl) Tryz.func115 rfl rfl fun w0 L => ?_
 refine M.call (idx_byte_0 l g p hg) (by kernel_rfl) (by kernel_rfl) ?_
 exact M.retb (decide (fstI p l >= 0)) (by kernel_rfl) (fstI_any p l)
theorem idx_string_0 (l : List (List UInt8)) (g : Nat) (p : (List UInt8) -> Bool) (hg : ∀ x ∈ l, Spec Tryz.prog g [S x] (.sb (p x))) :
  Spec Tryz.prog 209 [row 1 (fun s => [S s]) l, .fn g []] (I (fstI p l)) := by
 refine Spec.fact (by kernel_rfl) 0 rfl fun hf => ?_
 have hl : l.length <= 9223372036854775807 := hf.1
 refine Spec.start (by kernel_rfl) Tryz.func209 rfl rfl fun w0 L => ?_
 refine M.loop (ι := {i : Nat // i <= l.length /\ noneB p l i}) (fun i => [(0, row 1 (fun s => [S s]) l), (1, .fn g []), (7, I l.length), (8, I i.1)]) (fun _ => []) (fun i => l.length - i.1) ⟨0, Nat.zero_le _, noneB_zero p l⟩ [] (by kernel_rfl) trivial (by kernel_rfl) (by kernel_rfl) fun ⟨i, hi, hb⟩ ih => ?_
 refine M.ts (decide ((i : Int) < (l.length : Int))) (fun h1 => ?_) (fun h1 => ?_)
 ·have hlt : i < l.length := by simpa using h1
  have hs := hg _ (List.getElem_mem hlt)
  rw [<- getD_nat hlt] at hs
  refine M.callp [0 <= (i : Int) /\ (i : Int) < (l.length : Int)] hs (by kernel_rfl) ⟨by omega, trivial⟩ (by kernel_rfl) ?_
  refine M.ts (p (l.getD (i : Int).toNat default)) (fun h2 => ?_) (fun h2 => ?_)
  ·rw [getD_nat hlt] at h2
   exact M.ret (I i) (by kernel_rfl) (by rw [fstI_at hlt hb h2])
  ·rw [getD_nat hlt] at h2
   exact M.bk [In64 ((i : Int) + 1)] (ih ⟨i + 1, hlt, noneB_step hlt hb h2⟩ (by show l.length - (i + 1) < l.length - i; omega)) ⟨⟨by omega, by omega⟩, trivial⟩
 ·exact M.ret (I (-1)) (by kernel_rfl) (by rw [fstI_no (by simpa using h1) hb])
theorem has_string_0 (l : List (List UInt8)) (g : Nat) (p : (List UInt8) -> Bool) (hg : ∀ x ∈ l, Spec Tryz.prog g [S x] (.sb (p x))) :
  Spec Tryz.prog 163 [row 1 (fun s => [S s]) l, .fn g []] (.sb (l.any p)) := by
 refine Spec.start (by kernel_rfl) Tryz.func163 rfl rfl fun w0 L => ?_
 refine M.call (idx_string_0 l g p hg) (by kernel_rfl) (by kernel_rfl) ?_
 exact M.retb (decide (fstI p l >= 0)) (by kernel_rfl) (fstI_any p l)
def atN (l : List Ob) : Nat -> Atom -> Option Int
 | 0, _ => none
 | i + 1, x => if x = .i (l.getD (i : Int).toNat default).oid then some i else atN l i x
abbrev chg (w : Wd) (i : Nat) : List PV := [row 6 Ob.pv w.objs, row 9 Ac.pv w.acts, row 9 Cd.pv w.cds, I w.nO, I w.nA, .mr i]
theorem indexed_spec (w : Wd) : SpecM Tryz.prog 43 0 [] [.agg w.pv] [chg w 1, [.mp (.int .i64) (.i .i64 (atN w.objs w.objs.length))]] (.ref 0 0) := by
 refine SpecM.fact (by kernel_rfl) 0 rfl fun hf => ?_
 have hl : w.objs.length <= 9223372036854775807 := (hf _ (List.mem_cons_self ..)).1
 refine SpecM.start (by kernel_rfl) Tryz.func43 rfl rfl (Nat.zero_le _) fun w0 L hst => ?_
 refine M.loopL (ι := {i : Nat // i <= w.objs.length}) (fun i => [(3, .ref 2 0), (14, row 6 Ob.pv w.objs), (15, I w.objs.length), (16, I i.1)]) (fun i => [w.pv, [.mp (.int .i64) (.i .i64 (atN w.objs i.1))], chg w 1]) (fun i => w.objs.length - i.1) ⟨0, Nat.zero_le _⟩ [] (by kernel_rfl) trivial (by kernel_rfl) (by kernel_rfl) fun ⟨i, hi⟩ L ih => ?_
 refine M.ts (decide ((i : Int) < (w.objs.length : Int))) (fun h1 => ?_) (fun h1 => ?_)
 ·have hlt : i < w.objs.length := by simpa using h1
  refine M.rn [0 <= (i : Int) /\ (i : Int) < (w.objs.length : Int), In64 ((i : Int) + 1)] [0, 1, 2] hst ⟨by omega, ⟨by omega, by have := hl; omega⟩, trivial⟩ fun L' => ?_
  exact M.bk [] (ih ⟨i + 1, hlt⟩ L' (by show w.objs.length - (i + 1) < w.objs.length - i; omega)) trivial
 ·have : i = w.objs.length := by have := of_decide_eq_false h1; omega
  subst this
  exact M.retm [] [2, 1] hst rfl (by kernel_rfl) trivial rfl rfl
theorem atN_lt (l : List Ob) (x : Atom) : ∀ (k : Nat) (i : Int), atN l k x = some i -> 0 <= i /\ i < (k : Int)
 | 0, i, h => by cases h
 | k + 1, i, h => by
  unfold atN at h
  split at h
  ·cases h; omega
  ·have := atN_lt l x k i h; omega
abbrev optPV (o : Option (List PV)) : PV := match o with | some cs => .ptr cs | none => .v (.pointer none)
def objAt (w : Wd) (n : Int) : Option Ob := match atN w.objs w.objs.length (.i n) with | some i => some (w.objs.getD i.toNat default) | none => none
abbrev chgF (w : Wd) : List PV := [row 6 Ob.pv w.objs, row 9 Ac.pv w.acts, row 9 Cd.pv w.cds, I w.nO, I w.nA, .fm (.int .i64) (.i .i64 (atN w.objs w.objs.length))]
theorem obj_spec (w : Wd) (n : Int) : Spec Tryz.prog 90 [.ptr (chgF w), I n] (optPV ((objAt w n).map Ob.pv)) := by
 cases ha : atN w.objs w.objs.length (.i n) with
 | none =>
  have e : objAt w n = none := by unfold objAt; rw [ha]
  rw [e]
  refine Spec.start (by kernel_rfl) Tryz.func90 rfl rfl fun w0 L => ?_
  refine M.ys (b := !(atN w.objs w.objs.length (.i n)).isSome) (by rw [ha]; rfl) ?_
  exact M.ret (.v (.pointer none)) (by kernel_rfl) rfl
 | some i =>
  have e : objAt w n = some (w.objs.getD i.toNat default) := by unfold objAt; rw [ha]
  rw [e]
  have hi := atN_lt _ _ _ _ ha
  refine Spec.start (by kernel_rfl) Tryz.func90 rfl rfl fun w0 L => ?_
  refine M.n (b := !(atN w.objs w.objs.length (.i n)).isSome) (by rw [ha]; rfl) ?_
  have hv : (atN w.objs w.objs.length (.i n)).getD 0 = i := by rw [ha]; rfl
  exact M.retp [0 <= (atN w.objs w.objs.length (.i n)).getD 0 /\ (atN w.objs w.objs.length (.i n)).getD 0 < (w.objs.length : Int)] (.ptr (w.objs.getD ((atN w.objs w.objs.length (.i n)).getD 0).toNat default).pv) (by kernel_rfl) ⟨by rw [hv]; exact hi, trivial⟩ (by rw [hv]; rfl)
theorem oid_spec (o : Ob) : Spec Tryz.prog 86 [.agg o.pv] (I o.oid) := by
 refine Spec.start (by kernel_rfl) Tryz.func86 rfl rfl fun w0 L => ?_
 exact M.ret (I o.oid) (by kernel_rfl) rfl
theorem aid_spec (o : Ac) : Spec Tryz.prog 88 [.agg o.pv] (I o.aid) := by
 refine Spec.start (by kernel_rfl) Tryz.func88 rfl rfl fun w0 L => ?_
 exact M.ret (I o.aid) (by kernel_rfl) rfl
def incr (last : Int) : List Int -> Option Int
 | [] => some last
 | n :: l => if n <= last then none else incr n l
def numbB (l : List Int) (next : Int) : Bool := match incr 0 l with | some last => decide (last < next) && decide (next <= 1099511627776) | none => false
theorem numbered_Obj (l : List Ob) (next : Int) : Spec Tryz.prog 85 [row 6 Ob.pv l, .fn 86 [], I next] (.sb (numbB (l.map (·.oid)) next)) := by
 refine Spec.fact (by kernel_rfl) 0 rfl fun hf => ?_
 have hl : l.length <= 9223372036854775807 := hf.1
 refine Spec.startL (by kernel_rfl) Tryz.func85 rfl rfl fun w0 L hst => ?_
 refine M.loopL (ι := {q : Nat × Int // q.1 <= l.length /\ incr 0 (l.map (·.oid)) = incr q.2 ((l.map (·.oid)).drop q.1)}) (fun q => [(1, .fn 86 []), (2, I next), (7, I q.1.2), (11, row 6 Ob.pv l), (12, I l.length), (13, I q.1.1)]) (fun _ => []) (fun q => l.length - q.1.1) ⟨(0, 0), Nat.zero_le _, rfl⟩ [] (by kernel_rfl) trivial (by kernel_rfl) (by kernel_rfl) fun ⟨(i, last), hi, hq⟩ L ih => ?_
 refine M.ts (decide ((i : Int) < (l.length : Int))) (fun h1 => ?_) (fun h1 => ?_)
 ·have hlt : i < l.length := by simpa using h1
  have hd : (l.map (·.oid)).drop i = (l.getD (i : Int).toNat default).oid :: (l.map (·.oid)).drop (i + 1) := by
   rw [getD_nat hlt, List.drop_eq_getElem_cons (by simpa using hlt)]; simp
  simp only [hd, incr] at hq
  refine M.callp [0 <= (i : Int) /\ (i : Int) < (l.length : Int)] (oid_spec (l.getD (i : Int).toNat default)) (by kernel_rfl) ⟨by omega, trivial⟩ (by kernel_rfl) ?_
  refine M.ts (decide ((l.getD (i : Int).toNat default).oid <= last)) (fun h2 => ?_) (fun h2 => ?_)
  ·rw [if_pos (of_decide_eq_true h2)] at hq
   exact M.retb false (by kernel_rfl) (by simp only [numbB, hq])
  ·rw [if_neg (of_decide_eq_false h2)] at hq
   refine M.rn [In64 ((i : Int) + 1)] [] hst ⟨⟨by omega, by omega⟩, trivial⟩ fun L' => ?_
   exact M.bk [] (ih ⟨(i + 1, (l.getD (i : Int).toNat default).oid), hlt, hq⟩ L' (by show l.length - (i + 1) < l.length - i; omega)) trivial
 ·have hd : (l.map (·.oid)).drop i = [] := List.drop_eq_nil_of_le (by have := of_decide_eq_false h1; simp; omega)
  simp only [hd, incr] at hq
  refine M.ts (decide (last < next)) (fun h2 => ?_) (fun h2 => ?_)
  ·exact M.retb (decide (next <= 1099511627776)) (by kernel_rfl) (by simp only [numbB, hq, h2, Bool.true_and])
  ·exact M.retb false (by kernel_rfl) (by simp only [numbB, hq, h2, Bool.false_and])
theorem numbered_Act (l : List Ac) (next : Int) : Spec Tryz.prog 87 [row 9 Ac.pv l, .fn 88 [], I next] (.sb (numbB (l.map (·.aid)) next)) := by
 refine Spec.fact (by kernel_rfl) 0 rfl fun hf => ?_
 have hl : l.length <= 9223372036854775807 := hf.1
 refine Spec.startL (by kernel_rfl) Tryz.func87 rfl rfl fun w0 L hst => ?_
 refine M.loopL (ι := {q : Nat × Int // q.1 <= l.length /\ incr 0 (l.map (·.aid)) = incr q.2 ((l.map (·.aid)).drop q.1)}) (fun q => [(1, .fn 88 []), (2, I next), (7, I q.1.2), (11, row 9 Ac.pv l), (12, I l.length), (13, I q.1.1)]) (fun _ => []) (fun q => l.length - q.1.1) ⟨(0, 0), Nat.zero_le _, rfl⟩ [] (by kernel_rfl) trivial (by kernel_rfl) (by kernel_rfl) fun ⟨(i, last), hi, hq⟩ L ih => ?_
 refine M.ts (decide ((i : Int) < (l.length : Int))) (fun h1 => ?_) (fun h1 => ?_)
 ·have hlt : i < l.length := by simpa using h1
  have hd : (l.map (·.aid)).drop i = (l.getD (i : Int).toNat default).aid :: (l.map (·.aid)).drop (i + 1) := by
   rw [getD_nat hlt, List.drop_eq_getElem_cons (by simpa using hlt)]; simp
  simp only [hd, incr] at hq
  refine M.callp [0 <= (i : Int) /\ (i : Int) < (l.length : Int)] (aid_spec (l.getD (i : Int).toNat default)) (by kernel_rfl) ⟨by omega, trivial⟩ (by kernel_rfl) ?_
  refine M.ts (decide ((l.getD (i : Int).toNat default).aid <= last)) (fun h2 => ?_) (fun h2 => ?_)
  ·rw [if_pos (of_decide_eq_true h2)] at hq
   exact M.retb false (by kernel_rfl) (by simp only [numbB, hq])
  ·rw [if_neg (of_decide_eq_false h2)] at hq
   refine M.rn [In64 ((i : Int) + 1)] [] hst ⟨⟨by omega, by omega⟩, trivial⟩ fun L' => ?_
   exact M.bk [] (ih ⟨(i + 1, (l.getD (i : Int).toNat default).aid), hlt, hq⟩ L' (by show l.length - (i + 1) < l.length - i; omega)) trivial
 ·have hd : (l.map (·.aid)).drop i = [] := List.drop_eq_nil_of_le (by have := of_decide_eq_false h1; simp; omega)
  simp only [hd, incr] at hq
  refine M.ts (decide (last < next)) (fun h2 => ?_) (fun h2 => ?_)
  ·exact M.retb (decide (next <= 1099511627776)) (by kernel_rfl) (by simp only [numbB, hq, h2, Bool.true_and])
  ·exact M.retb false (by kernel_rfl) (by simp only [numbB, hq, h2, Bool.false_and])
def vlEq (a b : Vl) : Bool := a.k == b.k && (a.n == b.n && (a.t == b.t && true))
theorem vlEq_iff {a b : Vl} : vlEq a b = true ↔ a = b := by
 obtain ⟨k, n, t⟩ := a; obtain ⟨k', n', t'⟩ := b
 simp [vlEq]
def slEq (a b : Sl) : Bool := a.nm == b.nm && (a.kd == b.kd && (vlEq a.v b.v && true))
theorem slEq_iff {a b : Sl} : slEq a b = true ↔ a = b := by
 obtain ⟨nm, kd, v⟩ := a; obtain ⟨nm', kd', v'⟩ := b
 simp [slEq, vlEq_iff]
abbrev kTy (k : Int) : Ty := ⟨k, 0, ⟨0, 0, []⟩⟩
def assignB (s : Sl) : Bool := s.kd == 2 || s.kd == 4
theorem assignable_spec (s : Sl) : Spec Tryz.prog 70 [.agg s.pv] (.sb (assignB s)) := by
 refine Spec.start (by kernel_rfl) Tryz.func70 rfl rfl fun w0 L => ?_
 refine M.ts (s.kd == 2) (fun h1 => M.retb true (by kernel_rfl) (by simp [assignB, h1])) (fun h1 => ?_)
 exact M.retb (s.kd == 4) (by kernel_rfl) (by simp [assignB, h1])
def startF (v : Vl) : Int := if v.k = 4 then v.n else if v.k = 3 then 6 else 5
theorem start_spec (v : Vl) : Spec Tryz.prog 42 [.agg v.pv] (I (startF v)) := by
 refine Spec.start (by kernel_rfl) Tryz.func42 rfl rfl fun w0 L => ?_
 refine M.ts (v.k == 4) (fun h1 => M.ret (I v.n) (by kernel_rfl) (by simp at h1; simp [startF, h1])) (fun h1 => ?_)
 refine M.ts (v.k == 3) (fun h2 => M.ret (I 6) (by kernel_rfl) (by simp at h2; simp [startF, h2])) (fun h2 => ?_)
 exact M.ret (I 5) (by kernel_rfl) (by simp at h1 h2; simp [startF, h1, h2])
def eqFrom {α : Type} (e : α -> α -> Bool) : List α -> List α -> Bool
 | [], [] => true
 | x :: l, y :: m => e x y && eqFrom e l m
 | _, _ => false
theorem eqFrom_iff {α : Type} {e : α -> α -> Bool} (he : ∀ {a b}, e a b = true ↔ a = b) : ∀ {l m : List α}, eqFrom e l m = true ↔ l = m
 | [], [] => by simp [eqFrom]
 | [], y :: m => by simp [eqFrom]
 | x :: l, [] => by simp [eqFrom]
 | x :: l, y :: m => by simp [eqFrom, he, eqFrom_iff he]
theorem eqFrom_len {α : Type} {e : α -> α -> Bool} : ∀ {l m : List α}, l.length ≠ m.length -> eqFrom e l m = false
 | [], [], h => absurd rfl h
 | [], y :: m, _ => rfl
 | x :: l, [], _ => rfl
 | x :: l, y :: m, h => by simp only [eqFrom, eqFrom_len (fun e => h (by simpa using e)), Bool.and_false]
theorem equal_Slot (l m : List Sl) : Spec Tryz.prog 118 [row 5 Sl.pv l, row 5 Sl.pv m] (.sb (eqFrom slEq l m)) := by
 refine Spec.fact (by kernel_rfl) 0 rfl fun hf => ?_
 have hl : l.length <= 9223372036854775807 := hf.1
 refine Spec.startL (by kernel_rfl) Tryz.func118 rfl rfl fun w0 L hst => ?_
 refine M.ts ((l.length : Int) != (m.length : Int)) (fun h0 => M.retb false (by kernel_rfl) (eqFrom_len (by simp at h0; omega)).symm) (fun h0 => ?_)
 have hlm : l.length = m.length := by simp at h0; omega
 refine M.loop (ι := {i : Nat // i <= l.length /\ eqFrom slEq l m = eqFrom slEq (l.drop i) (m.drop i)}) (fun i => [(0, row 5 Sl.pv l), (1, row 5 Sl.pv m), (12, I l.length), (13, I i.1)]) (fun _ => []) (fun i => l.length - i.1) ⟨0, Nat.zero_le _, rfl⟩ [] (by kernel_rfl) trivial (by kernel_rfl) (by kernel_rfl) fun ⟨i, hi, hq⟩ ih => ?_
 refine M.ts (decide ((i : Int) < (l.length : Int))) (fun h1 => ?_) (fun h1 => ?_)
 ·have hlt : i < l.length := by simpa using h1
  have hlt' : i < m.length := by omega
  rw [List.drop_eq_getElem_cons hlt, List.drop_eq_getElem_cons hlt', eqFrom] at hq
  refine M.testp [0 <= (i : Int) /\ (i : Int) < (l.length : Int), 0 <= (i : Int) /\ (i : Int) < (m.length : Int)] (!slEq (l.getD (i : Int).toNat default) (m.getD (i : Int).toNat default)) (by kernel_rfl) ⟨by omega, by omega, trivial⟩ (fun h2 => ?_) (fun h2 => ?_)
  ·rw [getD_nat hlt, getD_nat hlt'] at h2
   simp only [Bool.not_eq_true'] at h2
   exact M.retb false (by kernel_rfl) (by rw [hq, h2]; rfl)
  ·rw [getD_nat hlt, getD_nat hlt'] at h2
   simp only [Bool.not_eq_false'] at h2
   exact M.bk [In64 ((i : Int) + 1)] (ih ⟨i + 1, hlt, by rw [hq, h2]; rfl⟩ (by show l.length - (i + 1) < l.length - i; omega)) ⟨⟨by omega, by omega⟩, trivial⟩
 ·have hd : l.drop i = [] := List.drop_eq_nil_of_le (by have := of_decide_eq_false h1; omega)
  have hd' : m.drop i = [] := List.drop_eq_nil_of_le (by have := of_decide_eq_false h1; omega)
  rw [hd, hd'] at hq
  exact M.retb true (by kernel_rfl) (by rw [hq]; rfl)
theorem same_Slot (l m : List Sl) : Spec Tryz.prog 69 [row 5 Sl.pv l, row 5 Sl.pv m] (.sb (eqFrom slEq l m)) := by
 refine Spec.start (by kernel_rfl) Tryz.func69 rfl rfl fun w0 L => ?_
 exact M.call (equal_Slot l m) (by kernel_rfl) (by kernel_rfl) (M.retb (eqFrom slEq l m) (by kernel_rfl) rfl)
def mpEq (a b : Mp) : Bool := a.kd == b.kd && eqFrom slEq a.sl b.sl
theorem sameMap_spec (a b : Mp) : Spec Tryz.prog 27 [.agg a.pv, .agg b.pv] (.sb (mpEq a b)) := by
 refine Spec.start (by kernel_rfl) Tryz.func27 rfl rfl fun w0 L => ?_
 refine M.ts (a.kd == b.kd) (fun h1 => ?_) (fun h1 => M.retb false (by kernel_rfl) (by simp [mpEq, h1]))
 exact M.call (same_Slot a.sl b.sl) (by kernel_rfl) (by kernel_rfl) (M.retb (eqFrom slEq a.sl b.sl) (by kernel_rfl) (by simp [mpEq, h1]))
def mslot (s : Sl) : Sl := if assignB s then ⟨s.nm, s.kd, ⟨0, 0, []⟩⟩ else s
def mapOfF (o : Ob) : Mp := ⟨o.kd, o.sl.map mslot⟩
abbrev mrow (o : Ob) (i : Nat) : List PV := [.rws 5 i (fun j => Sl.pv (mslot (o.sl.getD j default)))]
theorem mapOf_spec (o : Ob) (hb : o.sl.length <= 1000000) : Spec Tryz.prog 28 [.agg o.pv] (.agg (mapOfF o).pv) := by
 refine Spec.startL (by kernel_rfl) Tryz.func28 rfl rfl fun w0 L hst => ?_
 refine M.nilC [] 65 5 (fun j => Sl.pv (mslot (o.sl.getD j default))) 2 1 (by kernel_rfl) trivial (by kernel_rfl) (by kernel_rfl) ?_
 refine M.loopL (ι := {i : Nat // i <= o.sl.length}) (fun i => [(2, .ref 1 0), (3, .ref 2 0), (10, row 5 Sl.pv o.sl), (11, I o.sl.length), (12, I i.1)])
  (fun i => [o.pv, [I 0, .v (.slice none 0 0)], [I o.kd, .os 65 3 5 i.1], mrow o i.1]) (fun i => o.sl.length - i.1) ⟨0, Nat.zero_le _⟩ [] (by kernel_rfl) trivial (by kernel_rfl) (by kernel_rfl) fun ⟨i, hi⟩ L ih => ?_
 refine M.ts (decide ((i : Int) < (o.sl.length : Int))) (fun h1 => ?_) (fun h1 => ?_)
 ·have hlt : i < o.sl.length := by simpa using h1
  refine M.callp [0 <= (i : Int) /\ (i : Int) < (o.sl.length : Int)] (assignable_spec (o.sl.getD (i : Int).toNat default)) (by kernel_rfl) ⟨by omega, trivial⟩ (by kernel_rfl) ?_
  refine M.ts (assignB (o.sl.getD (i : Int).toNat default)) (fun h2 => ?_) (fun h2 => ?_)
  ·have h2' : assignB (o.sl.getD i default) = true := h2
   refine M.rn [i = i /\ 0 < 1 /\ i + 1 <= 9223372036854775807 /\ (i + 1) * 56 <= 140737488355328, In64 ((i : Int) + 1)] [0, 1, 2, 5] hst ⟨by omega, ⟨by omega, by omega⟩, trivial⟩ fun L' => ?_
   refine M.sig [] [o.pv, [I 0, .v (.slice none 0 0)], [I o.kd, .os 65 3 5 (i + 1)], [.rws 5 (i + 1) (fun j => (joinEl (fun j => Sl.pv (mslot (o.sl.getD j default))) i (fun j => (([S (o.sl.getD (i : Int).toNat default).nm, I (o.sl.getD (i : Int).toNat default).kd, I 0, I 0, S []]).drop (j * 5)).take 5) j).map (renP (invF [0, 1, 2, 5] 0) 7))]]
    [o.pv, [I 0, .v (.slice none 0 0)], [I o.kd, .os 65 3 5 (i + 1)], mrow o (i + 1)] (by kernel_rfl) trivial (by kernel_rfl) (by kernel_rfl)
    (.cons (.refl _) (.cons (.refl _) (.cons (.refl _) (.cons (app_cells rfl (by simp only [mslot, h2', if_true]; rfl) fun j => rfl) .nil)))) ?_
   exact M.bk [] (ih ⟨i + 1, hlt⟩ L' (by show o.sl.length - (i + 1) < o.sl.length - i; omega)) trivial
  ·have h2' : assignB (o.sl.getD i default) = false := h2
   refine M.rn [i = i /\ 0 < 1 /\ i + 1 <= 9223372036854775807 /\ (i + 1) * 56 <= 140737488355328, In64 ((i : Int) + 1)] [0, 1, 2, 5] hst ⟨by omega, ⟨by omega, by omega⟩, trivial⟩ fun L' => ?_
   refine M.sig [] [o.pv, [I 0, .v (.slice none 0 0)], [I o.kd, .os 65 3 5 (i + 1)], [.rws 5 (i + 1) (fun j => (joinEl (fun j => Sl.pv (mslot (o.sl.getD j default))) i (fun j => ((Sl.pv (o.sl.getD (i : Int).toNat default)).drop (j * 5)).take 5) j).map (renP (invF [0, 1, 2, 5] 0) 7))]]
    [o.pv, [I 0, .v (.slice none 0 0)], [I o.kd, .os 65 3 5 (i + 1)], mrow o (i + 1)] (by kernel_rfl) trivial (by kernel_rfl) (by kernel_rfl)
    (.cons (.refl _) (.cons (.refl _) (.cons (.refl _) (.cons (app_cells rfl (by simp only [mslot, h2', Bool.false_eq_true, if_false]; rfl) fun j => rfl) .nil)))) ?_
   exact M.bk [] (ih ⟨i + 1, hlt⟩ L' (by show o.sl.length - (i + 1) < o.sl.length - i; omega)) trivial
 ·have : i = o.sl.length := by have := of_decide_eq_false h1; omega
  subst this
  refine M.retw [o.sl.length <= o.sl.length] (.agg [I o.kd, .sl 5 o.sl.length (fun j => Sl.pv (mslot (o.sl.getD j default)))]) (by kernel_rfl) ⟨Nat.le_refl _, trivial⟩ fun L W u h => agg_to (qs := [I o.kd, row 5 Sl.pv (o.sl.map mslot)]) (.cons (fun u h => h) (.cons (fun u h => sl_eq (by simp) (fun j hj => ?_) h) .nil)) h
  simp [List.getD_eq_getElem?_getD, hj]
theorem isNaN_spec (x : Int) : Spec Tryz.prog 117 [I x] (.sb false) := by
 refine Spec.start (by kernel_rfl) Tryz.func117 rfl rfl fun w0 L => ?_
 exact M.retb (x != x) (by kernel_rfl) (by simp)
def cmpF (x y : Int) : Int := if x < y then -1 else if x > y then 1 else 0
theorem compare_spec (x y : Int) : Spec Tryz.prog 68 [I x, I y] (I (cmpF x y)) := by
 refine Spec.start (by kernel_rfl) Tryz.func68 rfl rfl fun w0 L => ?_
 refine M.call (isNaN_spec x) (by kernel_rfl) (by kernel_rfl) ?_
 refine M.call (isNaN_spec y) (by kernel_rfl) (by kernel_rfl) ?_
 refine M.n (b := false) rfl ?_
 refine M.n (b := false) rfl ?_
 refine M.ts (decide (x < y)) (fun h1 => M.ret (I (-1)) (by kernel_rfl) (by simp at h1; simp [cmpF, h1])) (fun h1 => ?_)
 refine M.ts (decide (x > y)) (fun h2 => M.ret (I 1) (by kernel_rfl) (by simp at h1 h2; simp [cmpF, h2]; omega)) (fun h2 => ?_)
 exact M.ret (I 0) (by kernel_rfl) (by simp at h1 h2; unfold cmpF; rw [if_neg (by omega), if_neg (by omega)])
end Go.Proofs.YtplpnfjccemdnaaGreatDoor
