import Derived.Test.YtcknpohghmkbmaaGreatDoorK27
import Derived.Test.YtcknpohghmkbmaaGreatDoorRows
import Derived.Test.YtcknpohghmkbmaaGreatDoorCards
import Derived.Test.YtcknpohghmkbmaaGreatDoorTie
import Derived.ProofKit
import Derived.OpenShut
import Derived.LaidMore
import Derived.Lay
import Derived.SevenTiedAt
import Derived.Stop.Joined
import Derived.Stop.LaidErr
import Derived.Lib.SmallJoins
import Derived.Lib.LaidTab
import Derived.Carry
set_option linter.unusedVariables false
set_option linter.unusedSimpArgs false
/- The texts R2 R3 R4 D28 V37 of the proof, laid one behind the other. -/
namespace Go.Proofs.YtcknpohghmkbmaaGreatDoor
open Go.RowKit
abbrev Big47 : Nat := 140737488355328
abbrev intO : OpenT Tryz.prog 3 1 (fun n : Int => [I n]) In64 := open_int' Tryz.underlying3 (by kernel_rfl)
abbrev strO : OpenT Tryz.prog 9 1 (fun s : List UInt8 => [S s]) (fun s => s.length <= Big47) := open_str' Tryz.underlying9 (by kernel_rfl)
abbrev boolO : OpenT Tryz.prog 4 1 (fun b : Bool => [.sb b]) (fun _ => True) := open_bool' Tryz.underlying4 (by kernel_rfl)
theorem open_s2 {P : Program} {T : TypeId} {f1 f2 : Field} {k1 k2 : Nat} {α1 α2 : Type} {g1 : α1 -> List PV} {B1 : α1 -> Prop} {g2 : α2 -> List PV} {B2 : α2 -> Prop} (ht : P.underlying T = some (.struct #[f1, f2])) (hc : P.cellsOf T = (k1 + (k2 + 0))) (o1 : f1.offset = 0) (h1 : OpenT P f1.type k1 g1 B1) (o2 : f2.offset = 0 + k1) (h2 : OpenT P f2.type k2 g2 B2) : OpenT P T (k1 + (k2 + 0)) (fun q : α1 × α2 × Unit => g1 q.1 ++ (g2 q.2.1 ++ ([]))) (fun q => B1 q.1 /\ B2 q.2.1 /\ True) :=
 open_struct' ht hc (OpenFs.cons o1 h1 (OpenFs.cons o2 h2 OpenFs.nil))
theorem open_s3 {P : Program} {T : TypeId} {f1 f2 f3 : Field} {k1 k2 k3 : Nat} {α1 α2 α3 : Type} {g1 : α1 -> List PV} {B1 : α1 -> Prop} {g2 : α2 -> List PV} {B2 : α2 -> Prop} {g3 : α3 -> List PV} {B3 : α3 -> Prop} (ht : P.underlying T = some (.struct #[f1, f2, f3])) (hc : P.cellsOf T = (k1 + (k2 + (k3 + 0)))) (o1 : f1.offset = 0) (h1 : OpenT P f1.type k1 g1 B1) (o2 : f2.offset = 0 + k1) (h2 : OpenT P f2.type k2 g2 B2) (o3 : f3.offset = 0 + k1 + k2) (h3 : OpenT P f3.type k3 g3 B3) : OpenT P T (k1 + (k2 + (k3 + 0))) (fun q : α1 × α2 × α3 × Unit => g1 q.1 ++ (g2 q.2.1 ++ (g3 q.2.2.1 ++ ([])))) (fun q => B1 q.1 /\ B2 q.2.1 /\ B3 q.2.2.1 /\ True) :=
 open_struct' ht hc (OpenFs.cons o1 h1 (OpenFs.cons o2 h2 (OpenFs.cons o3 h3 OpenFs.nil)))
theorem open_s4 {P : Program} {T : TypeId} {f1 f2 f3 f4 : Field} {k1 k2 k3 k4 : Nat} {α1 α2 α3 α4 : Type} {g1 : α1 -> List PV} {B1 : α1 -> Prop} {g2 : α2 -> List PV} {B2 : α2 -> Prop} {g3 : α3 -> List PV} {B3 : α3 -> Prop} {g4 : α4 -> List PV} {B4 : α4 -> Prop} (ht : P.underlying T = some (.struct #[f1, f2, f3, f4])) (hc : P.cellsOf T = (k1 + (k2 + (k3 + (k4 + 0))))) (o1 : f1.offset = 0) (h1 : OpenT P f1.type k1 g1 B1) (o2 : f2.offset = 0 + k1) (h2 : OpenT P f2.type k2 g2 B2) (o3 : f3.offset = 0 + k1 + k2) (h3 : OpenT P f3.type k3 g3 B3) (o4 : f4.offset = 0 + k1 + k2 + k3) (h4 : OpenT P f4.type k4 g4 B4) : OpenT P T (k1 + (k2 + (k3 + (k4 + 0)))) (fun q : α1 × α2 × α3 × α4 × Unit => g1 q.1 ++ (g2 q.2.1 ++ (g3 q.2.2.1 ++ (g4 q.2.2.2.1 ++ ([]))))) (fun q => B1 q.1 /\ B2 q.2.1 /\ B3 q.2.2.1 /\ B4 q.2.2.2.1 /\ True) :=
 open_struct' ht hc (OpenFs.cons o1 h1 (OpenFs.cons o2 h2 (OpenFs.cons o3 h3 (OpenFs.cons o4 h4 OpenFs.nil))))
theorem open_s5 {P : Program} {T : TypeId} {f1 f2 f3 f4 f5 : Field} {k1 k2 k3 k4 k5 : Nat} {α1 α2 α3 α4 α5 : Type} {g1 : α1 -> List PV} {B1 : α1 -> Prop} {g2 : α2 -> List PV} {B2 : α2 -> Prop} {g3 : α3 -> List PV} {B3 : α3 -> Prop} {g4 : α4 -> List PV} {B4 : α4 -> Prop} {g5 : α5 -> List PV} {B5 : α5 -> Prop} (ht : P.underlying T = some (.struct #[f1, f2, f3, f4, f5])) (hc : P.cellsOf T = (k1 + (k2 + (k3 + (k4 + (k5 + 0)))))) (o1 : f1.offset = 0) (h1 : OpenT P f1.type k1 g1 B1) (o2 : f2.offset = 0 + k1) (h2 : OpenT P f2.type k2 g2 B2) (o3 : f3.offset = 0 + k1 + k2) (h3 : OpenT P f3.type k3 g3 B3) (o4 : f4.offset = 0 + k1 + k2 + k3) (h4 : OpenT P f4.type k4 g4 B4) (o5 : f5.offset = 0 + k1 + k2 + k3 + k4) (h5 : OpenT P f5.type k5 g5 B5) : OpenT P T (k1 + (k2 + (k3 + (k4 + (k5 + 0))))) (fun q : α1 × α2 × α3 × α4 × α5 × Unit => g1 q.1 ++ (g2 q.2.1 ++ (g3 q.2.2.1 ++ (g4 q.2.2.2.1 ++ (g5 q.2.2.2.2.1 ++ ([])))))) (fun q => B1 q.1 /\ B2 q.2.1 /\ B3 q.2.2.1 /\ B4 q.2.2.2.1 /\ B5 q.2.2.2.2.1 /\ True) :=
 open_struct' ht hc (OpenFs.cons o1 h1 (OpenFs.cons o2 h2 (OpenFs.cons o3 h3 (OpenFs.cons o4 h4 (OpenFs.cons o5 h5 OpenFs.nil)))))
theorem open_s6 {P : Program} {T : TypeId} {f1 f2 f3 f4 f5 f6 : Field} {k1 k2 k3 k4 k5 k6 : Nat} {α1 α2 α3 α4 α5 α6 : Type} {g1 : α1 -> List PV} {B1 : α1 -> Prop} {g2 : α2 -> List PV} {B2 : α2 -> Prop} {g3 : α3 -> List PV} {B3 : α3 -> Prop} {g4 : α4 -> List PV} {B4 : α4 -> Prop} {g5 : α5 -> List PV} {B5 : α5 -> Prop} {g6 : α6 -> List PV} {B6 : α6 -> Prop} (ht : P.underlying T = some (.struct #[f1, f2, f3, f4, f5, f6])) (hc : P.cellsOf T = (k1 + (k2 + (k3 + (k4 + (k5 + (k6 + 0))))))) (o1 : f1.offset = 0) (h1 : OpenT P f1.type k1 g1 B1) (o2 : f2.offset = 0 + k1) (h2 : OpenT P f2.type k2 g2 B2) (o3 : f3.offset = 0 + k1 + k2) (h3 : OpenT P f3.type k3 g3 B3) (o4 : f4.offset = 0 + k1 + k2 + k3) (h4 : OpenT P f4.type k4 g4 B4) (o5 : f5.offset = 0 + k1 + k2 + k3 + k4) (h5 : OpenT P f5.type k5 g5 B5) (o6 : f6.offset = 0 + k1 + k2 + k3 + k4 + k5) (h6 : OpenT P f6.type k6 g6 B6) : OpenT P T (k1 + (k2 + (k3 + (k4 + (k5 + (k6 + 0)))))) (fun q : α1 × α2 × α3 × α4 × α5 × α6 × Unit => g1 q.1 ++ (g2 q.2.1 ++ (g3 q.2.2.1 ++ (g4 q.2.2.2.1 ++ (g5 q.2.2.2.2.1 ++ (g6 q.2.2.2.2.2.1 ++ ([]))))))) (fun q => B1 q.1 /\ B2 q.2.1 /\ B3 q.2.2.1 /\ B4 q.2.2.2.1 /\ B5 q.2.2.2.2.1 /\ B6 q.2.2.2.2.2.1 /\ True) :=
 open_struct' ht hc (OpenFs.cons o1 h1 (OpenFs.cons o2 h2 (OpenFs.cons o3 h3 (OpenFs.cons o4 h4 (OpenFs.cons o5 h5 (OpenFs.cons o6 h6 OpenFs.nil))))))
theorem open_s7 {P : Program} {T : TypeId} {f1 f2 f3 f4 f5 f6 f7 : Field} {k1 k2 k3 k4 k5 k6 k7 : Nat} {α1 α2 α3 α4 α5 α6 α7 : Type} {g1 : α1 -> List PV} {B1 : α1 -> Prop} {g2 : α2 -> List PV} {B2 : α2 -> Prop} {g3 : α3 -> List PV} {B3 : α3 -> Prop} {g4 : α4 -> List PV} {B4 : α4 -> Prop} {g5 : α5 -> List PV} {B5 : α5 -> Prop} {g6 : α6 -> List PV} {B6 : α6 -> Prop} {g7 : α7 -> List PV} {B7 : α7 -> Prop} (ht : P.underlying T = some (.struct #[f1, f2, f3, f4, f5, f6, f7])) (hc : P.cellsOf T = (k1 + (k2 + (k3 + (k4 + (k5 + (k6 + (k7 + 0)))))))) (o1 : f1.offset = 0) (h1 : OpenT P f1.type k1 g1 B1) (o2 : f2.offset = 0 + k1) (h2 : OpenT P f2.type k2 g2 B2) (o3 : f3.offset = 0 + k1 + k2) (h3 : OpenT P f3.type k3 g3 B3) (o4 : f4.offset = 0 + k1 + k2 + k3) (h4 : OpenT P f4.type k4 g4 B4) (o5 : f5.offset = 0 + k1 + k2 + k3 + k4) (h5 : OpenT P f5.type k5 g5 B5) (o6 : f6.offset = 0 + k1 + k2 + k3 + k4 + k5) (h6 : OpenT P f6.type k6 g6 B6) (o7 : f7.offset = 0 + k1 + k2 + k3 + k4 + k5 + k6) (h7 : OpenT P f7.type k7 g7 B7) : OpenT P T (k1 + (k2 + (k3 + (k4 + (k5 + (k6 + (k7 + 0))))))) (fun q : α1 × α2 × α3 × α4 × α5 × α6 × α7 × Unit => g1 q.1 ++ (g2 q.2.1 ++ (g3 q.2.2.1 ++ (g4 q.2.2.2.1 ++ (g5 q.2.2.2.2.1 ++ (g6 q.2.2.2.2.2.1 ++ (g7 q.2.2.2.2.2.2.1 ++ ([])))))))) (fun q => B1 q.1 /\ B2 q.2.1 /\ B3 q.2.2.1 /\ B4 q.2.2.2.1 /\ B5 q.2.2.2.2.1 /\ B6 q.2.2.2.2.2.1 /\ B7 q.2.2.2.2.2.2.1 /\ True) :=
 open_struct' ht hc (OpenFs.cons o1 h1 (OpenFs.cons o2 h2 (OpenFs.cons o3 h3 (OpenFs.cons o4 h4 (OpenFs.cons o5 h5 (OpenFs.cons o6 h6 (OpenFs.cons o7 h7 OpenFs.nil)))))))
theorem open_s9 {P : Program} {T : TypeId} {f1 f2 f3 f4 f5 f6 f7 f8 f9 : Field} {k1 k2 k3 k4 k5 k6 k7 k8 k9 : Nat} {α1 α2 α3 α4 α5 α6 α7 α8 α9 : Type} {g1 : α1 -> List PV} {B1 : α1 -> Prop} {g2 : α2 -> List PV} {B2 : α2 -> Prop} {g3 : α3 -> List PV} {B3 : α3 -> Prop} {g4 : α4 -> List PV} {B4 : α4 -> Prop} {g5 : α5 -> List PV} {B5 : α5 -> Prop} {g6 : α6 -> List PV} {B6 : α6 -> Prop} {g7 : α7 -> List PV} {B7 : α7 -> Prop} {g8 : α8 -> List PV} {B8 : α8 -> Prop} {g9 : α9 -> List PV} {B9 : α9 -> Prop} (ht : P.underlying T = some (.struct #[f1, f2, f3, f4, f5, f6, f7, f8, f9])) (hc : P.cellsOf T = (k1 + (k2 + (k3 + (k4 + (k5 + (k6 + (k7 + (k8 + (k9 + 0)))))))))) (o1 : f1.offset = 0) (h1 : OpenT P f1.type k1 g1 B1) (o2 : f2.offset = 0 + k1) (h2 : OpenT P f2.type k2 g2 B2) (o3 : f3.offset = 0 + k1 + k2) (h3 : OpenT P f3.type k3 g3 B3) (o4 : f4.offset = 0 + k1 + k2 + k3) (h4 : OpenT P f4.type k4 g4 B4) (o5 : f5.offset = 0 + k1 + k2 + k3 + k4) (h5 : OpenT P f5.type k5 g5 B5) (o6 : f6.offset = 0 + k1 + k2 + k3 + k4 + k5) (h6 : OpenT P f6.type k6 g6 B6) (o7 : f7.offset = 0 + k1 + k2 + k3 + k4 + k5 + k6) (h7 : OpenT P f7.type k7 g7 B7) (o8 : f8.offset = 0 + k1 + k2 + k3 + k4 + k5 + k6 + k7) (h8 : OpenT P f8.type k8 g8 B8) (o9 : f9.offset = 0 + k1 + k2 + k3 + k4 + k5 + k6 + k7 + k8) (h9 : OpenT P f9.type k9 g9 B9) : OpenT P T (k1 + (k2 + (k3 + (k4 + (k5 + (k6 + (k7 + (k8 + (k9 + 0))))))))) (fun q : α1 × α2 × α3 × α4 × α5 × α6 × α7 × α8 × α9 × Unit => g1 q.1 ++ (g2 q.2.1 ++ (g3 q.2.2.1 ++ (g4 q.2.2.2.1 ++ (g5 q.2.2.2.2.1 ++ (g6 q.2.2.2.2.2.1 ++ (g7 q.2.2.2.2.2.2.1 ++ (g8 q.2.2.2.2.2.2.2.1 ++ (g9 q.2.2.2.2.2.2.2.2.1 ++ ([])))))))))) (fun q => B1 q.1 /\ B2 q.2.1 /\ B3 q.2.2.1 /\ B4 q.2.2.2.1 /\ B5 q.2.2.2.2.1 /\ B6 q.2.2.2.2.2.1 /\ B7 q.2.2.2.2.2.2.1 /\ B8 q.2.2.2.2.2.2.2.1 /\ B9 q.2.2.2.2.2.2.2.2.1 /\ True) :=
 open_struct' ht hc (OpenFs.cons o1 h1 (OpenFs.cons o2 h2 (OpenFs.cons o3 h3 (OpenFs.cons o4 h4 (OpenFs.cons o5 h5 (OpenFs.cons o6 h6 (OpenFs.cons o7 h7 (OpenFs.cons o8 h8 (OpenFs.cons o9 h9 OpenFs.nil)))))))))
theorem strsO : OpenT Tryz.prog 79 1 (fun l : List (List UInt8) => [row 1 (fun s => [S s]) l]) (fun l => l.length <= Big47 /\ ∀ a ∈ l, a.length <= Big47) := open_list' Tryz.underlying79 (by kernel_rfl) (by decide) (of_decide_eq_true (by kernel_rfl)) strO
def Vl.B (x : Vl) : Prop := In64 x.k /\ In64 x.n /\ x.t.length <= Big47 /\ True
set_option maxRecDepth 100000 in
theorem Vl.O : OpenT Tryz.prog 28 3 Vl.pv Vl.B :=
 (open_s3 Tryz.underlying28 (by kernel_rfl) rfl intO rfl intO rfl strO).map (fun (q : Int × Int × List UInt8 × Unit) => ⟨q.1, q.2.1, q.2.2.1⟩) (fun q => rfl) (fun q h => h)
theorem Vl.lO : OpenT Tryz.prog 74 1 (fun l : List Vl => [row 3 Vl.pv l]) (fun l => l.length <= Big47 /\ ∀ a ∈ l, Vl.B a) := open_list' Tryz.underlying74 (by kernel_rfl) (by decide) (of_decide_eq_true (by kernel_rfl)) Vl.O
def Sl.B (x : Sl) : Prop := x.nm.length <= Big47 /\ In64 x.kd /\ Vl.B x.v /\ True
set_option maxRecDepth 100000 in
theorem Sl.O : OpenT Tryz.prog 30 5 Sl.pv Sl.B :=
 (open_s3 Tryz.underlying30 (by kernel_rfl) rfl strO rfl intO rfl Vl.O).map (fun (q : List UInt8 × Int × Vl × Unit) => ⟨q.1, q.2.1, q.2.2.1⟩) (fun q => rfl) (fun q h => h)
theorem Sl.lO : OpenT Tryz.prog 33 1 (fun l : List Sl => [row 5 Sl.pv l]) (fun l => l.length <= Big47 /\ ∀ a ∈ l, Sl.B a) := open_list' Tryz.underlying33 (by kernel_rfl) (by decide) (of_decide_eq_true (by kernel_rfl)) Sl.O
def Ob.B (x : Ob) : Prop := In64 x.oid /\ In64 x.kd /\ (x.sl.length <= Big47 /\ ∀ y ∈ x.sl, Sl.B y) /\ (x.el.length <= Big47 /\ ∀ y ∈ x.el, Vl.B y) /\ In64 x.code /\ In64 x.up /\ True
set_option maxRecDepth 100000 in
theorem Ob.O : OpenT Tryz.prog 76 6 Ob.pv Ob.B :=
 (open_s6 Tryz.underlying76 (by kernel_rfl) rfl intO rfl intO rfl Sl.lO rfl Vl.lO rfl intO rfl intO).map (fun (q : Int × Int × List Sl × List Vl × Int × Int × Unit) => ⟨q.1, q.2.1, q.2.2.1, q.2.2.2.1, q.2.2.2.2.1, q.2.2.2.2.2.1⟩) (fun q => rfl) (fun q h => h)
theorem Ob.lO : OpenT Tryz.prog 22 1 (fun l : List Ob => [row 6 Ob.pv l]) (fun l => l.length <= Big47 /\ ∀ a ∈ l, Ob.B a) := open_list' Tryz.underlying22 (by kernel_rfl) (by decide) (of_decide_eq_true (by kernel_rfl)) Ob.O
def Ac.B (x : Ac) : Prop := In64 x.aid /\ In64 x.code /\ Vl.B x.self /\ In64 x.holder /\ In64 x.up /\ (x.vars.length <= Big47 /\ ∀ y ∈ x.vars, Vl.B y) /\ True /\ True
set_option maxRecDepth 100000 in
theorem Ac.O : OpenT Tryz.prog 78 9 Ac.pv Ac.B :=
 (open_s7 Tryz.underlying78 (by kernel_rfl) rfl intO rfl intO rfl Vl.O rfl intO rfl intO rfl Vl.lO rfl boolO).map (fun (q : Int × Int × Vl × Int × Int × List Vl × Bool × Unit) => ⟨q.1, q.2.1, q.2.2.1, q.2.2.2.1, q.2.2.2.2.1, q.2.2.2.2.2.1, q.2.2.2.2.2.2.1⟩) (fun q => rfl) (fun q h => h)
theorem Ac.lO : OpenT Tryz.prog 23 1 (fun l : List Ac => [row 9 Ac.pv l]) (fun l => l.length <= Big47 /\ ∀ a ∈ l, Ac.B a) := open_list' Tryz.underlying23 (by kernel_rfl) (by decide) (of_decide_eq_true (by kernel_rfl)) Ac.O
def In.B (x : In) : Prop := In64 x.op /\ In64 x.a /\ In64 x.b /\ In64 x.c /\ True
set_option maxRecDepth 100000 in
theorem In.O : OpenT Tryz.prog 184 4 In.pv In.B :=
 (open_s4 Tryz.underlying184 (by kernel_rfl) rfl intO rfl intO rfl intO rfl intO).map (fun (q : Int × Int × Int × Int × Unit) => ⟨q.1, q.2.1, q.2.2.1, q.2.2.2.1⟩) (fun q => rfl) (fun q h => h)
theorem In.lO : OpenT Tryz.prog 80 1 (fun l : List In => [row 4 In.pv l]) (fun l => l.length <= Big47 /\ ∀ a ∈ l, In.B a) := open_list' Tryz.underlying80 (by kernel_rfl) (by decide) (of_decide_eq_true (by kernel_rfl)) In.O
def Cd.B (x : Cd) : Prop := x.nm.length <= Big47 /\ True /\ In64 x.outer /\ In64 x.args /\ (x.names.length <= Big47 /\ ∀ y ∈ x.names, y.length <= Big47) /\ (x.init.length <= Big47 /\ ∀ y ∈ x.init, Vl.B y) /\ (x.lits.length <= Big47 /\ ∀ y ∈ x.lits, Vl.B y) /\ (x.sels.length <= Big47 /\ ∀ y ∈ x.sels, y.length <= Big47) /\ (x.ins.length <= Big47 /\ ∀ y ∈ x.ins, In.B y) /\ True
set_option maxRecDepth 100000 in
theorem Cd.O : OpenT Tryz.prog 82 9 Cd.pv Cd.B :=
 (open_s9 Tryz.underlying82 (by kernel_rfl) rfl strO rfl boolO rfl intO rfl intO rfl strsO rfl Vl.lO rfl Vl.lO rfl strsO rfl In.lO).map (fun (q : List UInt8 × Bool × Int × Int × List (List UInt8) × List Vl × List Vl × List (List UInt8) × List In × Unit) => ⟨q.1, q.2.1, q.2.2.1, q.2.2.2.1, q.2.2.2.2.1, q.2.2.2.2.2.1, q.2.2.2.2.2.2.1, q.2.2.2.2.2.2.2.1, q.2.2.2.2.2.2.2.2.1⟩) (fun q => rfl) (fun q h => h)
theorem Cd.lO : OpenT Tryz.prog 24 1 (fun l : List Cd => [row 9 Cd.pv l]) (fun l => l.length <= Big47 /\ ∀ a ∈ l, Cd.B a) := open_list' Tryz.underlying24 (by kernel_rfl) (by decide) (of_decide_eq_true (by kernel_rfl)) Cd.O
def Wd.B (x : Wd) : Prop := (x.objs.length <= Big47 /\ ∀ y ∈ x.objs, Ob.B y) /\ (x.acts.length <= Big47 /\ ∀ y ∈ x.acts, Ac.B y) /\ (x.cds.length <= Big47 /\ ∀ y ∈ x.cds, Cd.B y) /\ In64 x.nO /\ In64 x.nA /\ True
set_option maxRecDepth 100000 in
theorem Wd.O : OpenT Tryz.prog 26 5 Wd.pv Wd.B :=
 (open_s5 Tryz.underlying26 (by kernel_rfl) rfl Ob.lO rfl Ac.lO rfl Cd.lO rfl intO rfl intO).map (fun (q : List Ob × List Ac × List Cd × Int × Int × Unit) => ⟨q.1, q.2.1, q.2.2.1, q.2.2.2.1, q.2.2.2.2.1⟩) (fun q => rfl) (fun q h => h)
def Mp.B (x : Mp) : Prop := In64 x.kd /\ (x.sl.length <= Big47 /\ ∀ y ∈ x.sl, Sl.B y) /\ True
set_option maxRecDepth 100000 in
theorem Mp.O : OpenT Tryz.prog 35 2 Mp.pv Mp.B :=
 (open_s2 Tryz.underlying35 (by kernel_rfl) rfl intO rfl Sl.lO).map (fun (q : Int × List Sl × Unit) => ⟨q.1, q.2.1⟩) (fun q => rfl) (fun q h => h)
theorem Mp.lO : OpenT Tryz.prog 44 1 (fun l : List Mp => [row 2 Mp.pv l]) (fun l => l.length <= Big47 /\ ∀ a ∈ l, Mp.B a) := open_list' Tryz.underlying44 (by kernel_rfl) (by decide) (of_decide_eq_true (by kernel_rfl)) Mp.O
def Ty.B (x : Ty) : Prop := In64 x.k /\ In64 x.n /\ Vl.B x.v /\ True
set_option maxRecDepth 100000 in
theorem Ty.O : OpenT Tryz.prog 46 5 Ty.pv Ty.B :=
 (open_s3 Tryz.underlying46 (by kernel_rfl) rfl intO rfl intO rfl Vl.O).map (fun (q : Int × Int × Vl × Unit) => ⟨q.1, q.2.1, q.2.2.1⟩) (fun q => rfl) (fun q h => h)
def Dp.B (x : Dp) : Prop := In64 x.oid /\ True /\ Mp.B x.map /\ In64 x.slot /\ Vl.B x.v /\ True
set_option maxRecDepth 100000 in
theorem Dp.O : OpenT Tryz.prog 37 8 Dp.pv Dp.B :=
 (open_s5 Tryz.underlying37 (by kernel_rfl) rfl intO rfl boolO rfl Mp.O rfl intO rfl Vl.O).map (fun (q : Int × Bool × Mp × Int × Vl × Unit) => ⟨q.1, q.2.1, q.2.2.1, q.2.2.2.1, q.2.2.2.2.1⟩) (fun q => rfl) (fun q h => h)
def Ch.B (x : Ch) : Prop := In64 x.kind /\ In64 x.oid /\ x.name.length <= Big47 /\ Sl.B x.slot /\ True
set_option maxRecDepth 100000 in
theorem Ch.O : OpenT Tryz.prog 32 8 Ch.pv Ch.B :=
 (open_s4 Tryz.underlying32 (by kernel_rfl) rfl intO rfl intO rfl strO rfl Sl.O).map (fun (q : Int × Int × List UInt8 × Sl × Unit) => ⟨q.1, q.2.1, q.2.2.1, q.2.2.2.1⟩) (fun q => rfl) (fun q h => h)
end Go.Proofs.YtcknpohghmkbmaaGreatDoor
namespace Go.Proofs.YtcknpohghmkbmaaGreatDoor
open Go.ChangeShapes Go.WideShapes Go.ChangeAt Go.ChangeMaps Go.RowKit Go.Joins
theorem own : ownKnob Tryz.prog.godebug = none := by kernel_rfl
def seatLaid : List (String × DataW Unit) := Rows.depsOrderRow.laid
theorem laidPlain (W : World) : laidMetH Tryz.prog seatLaid W = laidMet Tryz.prog seatLaid W := MakeChecks.laidMetH_plain _ _ _ (by kernel_rfl)
theorem star : "*" ++ "errors.errorString" = "*errors.errorString" := by decide
theorem rowErr (u : TypeId) (h : Tryz.prog.typeName? 3 u = some "*errors.errorString") : u = 360 :=
 typeName_ptr_named (nm := "errors.errorString") (by rw [star]; kernel_rfl) (by kernel_rfl) (by decide) u (by rw [star]; exact h)
set_option maxRecDepth 100000 in
theorem gl_of_laid {W : World} (h : laidMetH Tryz.prog seatLaid W) : Gl [] W := by
 rw [laidPlain] at h
 have h3 := laidMet.tail (laidMet.tail h)
 have h5 := laidMet.tail (laidMet.tail h3)
 have e : (Rows.laid_internal_strconv_uint64pow10 : DataW Unit) = Lib.tabData .u64 Lib.pow10Tab := by kernel_rfl
 rw [e] at h3
 have t := Lib.tabIs_of_head (t := 346) (e := 322) (n := 20) (g := gPow) (by kernel_rfl) (by kernel_rfl) (by kernel_rfl) (by kernel_rfl) (by kernel_rfl) (by kernel_rfl) h3
 obtain ⟨a, s, hv, _⟩ := laid_sentinel (g := gErr) (ti := 274) (tp := 360) (te := 362) h5 (by kernel_rfl) (by kernel_rfl) Tryz.underlying274 rowErr (by kernel_rfl) Tryz.underlying362 rfl rfl (by kernel_rfl) (by kernel_rfl) (by kernel_rfl)
 have heap : ∀ {n : String} {g : Nat} {cs : Array Value}, Tryz.prog.globalNamed n = some g -> W.var? Tryz.prog n = some cs -> g < W.heap.size /\ ∃ t fr, W.heap[g]? = some (.cells cs t fr) := fun {n g cs} hg h => by
  unfold World.var? at h
  rw [hg] at h
  simp only [Option.bind_some] at h
  cases hh : W.heap[g]? with
  | none => rw [hh] at h; cases h
  | some o =>
   rw [hh] at h
   cases o with
   | cells c t fr =>
    simp only [Option.some.injEq] at h
    subst h
    exact ⟨(Array.getElem?_eq_some_iff.1 hh).1, t, fr, rfl⟩
   | _ => cases h
 obtain ⟨p1, t1, f1, q1⟩ := heap (g := gPow) (by kernel_rfl) t
 obtain ⟨p2, t2, f2, q2⟩ := heap (g := gErr) (by kernel_rfl) hv
 intro q hq
 simp only [ghosts, List.mem_cons, List.not_mem_nil, or_false] at hq
 rcases hq with rfl | rfl
 ·rw [R]
  exact ⟨fun h => by rcases h with h | h <;> simp at h, p1, _, _, _, q1, rfl⟩
 ·rw [R]
  exact ⟨fun h => by rcases h with h | h <;> simp at h, p2, _, _, _, q2, _, _, rfl⟩
end Go.Proofs.YtcknpohghmkbmaaGreatDoor
namespace Go.Proofs.YtcknpohghmkbmaaGreatDoor
open Go.ChangeShapes Go.WideShapes Go.ChangeAt Go.ChangeMaps Go.RowKit Go.Joins
theorem laidOut : laidOutB Tryz.prog = true := by kernel_rfl
section
variable {H : Type} {enc : TypeId × Value -> H} {P : Program} {W W' : World}
def rowedB (P : Program) (ts : List TypeId) : Bool := ts.all fun t => P.readableRec t && decide (t < P.types.size)
theorem rowed_of {ts : List TypeId} (h : rowedB P ts = true) : ∀ t ∈ ts, P.readableRec t = true /\ t < P.types.size := fun t ht => by
 have := List.all_eq_true.1 h t ht
 simpa using this
theorem below_trodAll (hl : laidOutB P = true) : ∀ {ts : List TypeId} {vs : List Value} {ds : List (DataW H)} {ps : List MemPlace}, DataW.TrodAll enc P W 0 (fun _ => true) true ts vs ds ps -> (∀ t ∈ ts, P.readableRec t = true /\ t < P.types.size) -> Below W.heap.size W W' ->
  DataW.TrodAll enc P W' 0 (fun b => decide (b < W.heap.size)) true ts vs ds ps
 | [], vs, ds, ps, h, _, _ => by
  obtain ⟨rfl, rfl, rfl⟩ := trodAll_nil h
  exact trodAll_mk0
 | t :: ts, vs, ds, ps, h, hr, hb => by
  have hlt := DataW.TrodAll.lt h
  obtain ⟨v, vs', d, ds', p, q, rfl, rfl, rfl, h1, h2⟩ := trodAll_cons h
  have ht := hr t (List.mem_cons_self ..)
  exact trodAll_cons_mk (Below.trod hl ht.1 ht.2 h1 hb fun x hx => hlt x (List.mem_append_left _ hx)) (below_trodAll hl h2 (fun t' h' => hr t' (List.mem_cons_of_mem _ h')) hb)
theorem sized_at {ts us : List TypeId} {ds gs : List (DataW H)} (h : (DataW.weightsEach P (ts ++ us) (ds ++ gs)).all (· <= reachBytes) = true) {j : Nat} {t : TypeId} {d : DataW H} (ht : (ts ++ us)[j]? = some t) (hd : (ds ++ gs)[j]? = some d) : (d.weights P t).all (· <= reachBytes) = true :=
 List.all_eq_true.2 fun n hn => List.all_eq_true.1 h n (DataW.weights_mem_each ht hd n hn)
theorem arg_struct {T : TypeId} {fs : Array Field} {α : Type} {k : Nat} {f : α -> List PV} {B : α -> Prop} {r : Reach} {b0 : Nat} {v : Value} {d : DataW H} {p : List MemPlace} {sp : Nat -> Bool} {held : Bool} (ho : OpenT P T k f B) (ht : P.underlying T = some (.struct fs))
  (hv : Value.okWide P W r b0 T v) (h : DataW.Trod enc P W 0 sp held T v d p) (hw : (d.weights P T).all (· <= reachBytes) = true) : ∃ a, R [] [] W (.agg (f a)) v /\ B a := by
 obtain ⟨cs, rfl, _⟩ := okWide_struct ht hv
 obtain ⟨fuel, hf⟩ := h
 obtain ⟨a, _, h2, h3, h4⟩ := ho.2 H enc W sp held fuel cs.toList (d, p) (by simpa [Value.cells] using hf) hw
 exact ⟨a, by rw [R]; exact ⟨cs.toList, by simp, h2, h3⟩, h4⟩
theorem arg_one {T : TypeId} {α : Type} {f : α -> PV} {B : α -> Prop} {v : Value} {d : DataW H} {p : List MemPlace} {sp : Nat -> Bool} {held : Bool} (ho : OpenT P T 1 (fun a => [f a]) B) (hc : v.cells.toList = [v])
  (h : DataW.Trod enc P W 0 sp held T v d p) (hw : (d.weights P T).all (· <= reachBytes) = true) : ∃ a, R [] [] W (f a) v /\ B a := by
 obtain ⟨fuel, hf⟩ := h
 rw [hc] at hf
 obtain ⟨a, _, _, h3, h4⟩ := ho.2 H enc W sp held fuel [v] (d, p) hf hw
 obtain ⟨u, us, e, q, _⟩ := h3.uncons
 cases e
 exact ⟨a, q, h4⟩
theorem arg_slice {T e : TypeId} {α : Type} {f : α -> PV} {B : α -> Prop} {r : Reach} {b0 : Nat} {v : Value} {d : DataW H} {p : List MemPlace} {sp : Nat -> Bool} {held : Bool} (ho : OpenT P T 1 (fun a => [f a]) B) (ht : P.underlying T = some (.slice e))
  (hv : Value.okWide P W r b0 T v) (h : DataW.Trod enc P W 0 sp held T v d p) (hw : (d.weights P T).all (· <= reachBytes) = true) : ∃ a, R [] [] W (f a) v /\ B a := by
 obtain ⟨a, len, cap, rfl⟩ := okWide_slice ht hv
 exact arg_one ho rfl h hw
end
section
variable {H : Type} {enc : TypeId × Value -> H} {W : World}
set_option maxRecDepth 100000 in
theorem arg_int {r : Reach} {b0 : Nat} {v : Value} {d : DataW H} {p : List MemPlace} {sp : Nat -> Bool} {held : Bool} (ht : Tryz.prog.underlying 3 = some (.int .i64)) (hv : Value.okWide Tryz.prog W r b0 3 v) (h : DataW.Trod enc Tryz.prog W 0 sp held 3 v d p) (hw : (d.weights Tryz.prog 3).all (· <= reachBytes) = true) : ∃ n : Int, R [] [] W (I n) v /\ In64 n := by
 obtain ⟨n, rfl⟩ := okWide_int ht hv
 exact arg_one intO rfl h hw
set_option maxRecDepth 100000 in
theorem arg_str {r : Reach} {b0 : Nat} {v : Value} {d : DataW H} {p : List MemPlace} {sp : Nat -> Bool} {held : Bool} (ht : Tryz.prog.underlying 9 = some .string) (hv : Value.okWide Tryz.prog W r b0 9 v) (h : DataW.Trod enc Tryz.prog W 0 sp held 9 v d p) (hw : (d.weights Tryz.prog 9).all (· <= reachBytes) = true) : ∃ s : List UInt8, R [] [] W (S s) v /\ s.length <= Big47 := by
 obtain ⟨n, rfl⟩ := okWide_string ht hv
 exact arg_one strO rfl h hw
end
theorem bulk_of {w : Wd} (h : w.B) : Bulk w := by
 obtain ⟨⟨h1, o⟩, ⟨h2, a⟩, ⟨h3, c⟩, _⟩ := h
 exact ⟨h1, h2, h3, fun x hx => ⟨(o x hx).2.2.1.1, (o x hx).2.2.2.1.1⟩, fun x hx => (a x hx).2.2.2.2.2.1.1, fun x hx => ⟨(c x hx).2.2.2.2.1.1, (c x hx).2.2.2.2.2.1.1, (c x hx).2.2.2.2.2.2.1.1, (c x hx).2.2.2.2.2.2.2.1.1, (c x hx).2.2.2.2.2.2.2.2.1.1⟩⟩
theorem sumTo_mem {α : Type} {b : Int} {f : α -> Int} (hf : ∀ x, 0 <= f x) : ∀ (l : List α) (n : Int), sumTo b f l n <= b -> n <= b /\ (0 <= n -> ∀ x ∈ l, f x <= b)
 | [], n, h => ⟨h, fun _ x hx => by cases hx⟩
 | y :: t, n, h => by
  rw [sumTo] at h
  cases hd : decide (n <= b) with
  | false => rw [hd] at h; exact absurd h (of_decide_eq_false hd)
  | true =>
   rw [hd, cond_true] at h
   obtain ⟨h1, h2⟩ := sumTo_mem hf t _ h
   have hy := hf y
   refine ⟨of_decide_eq_true hd, fun h0 x hx => ?_⟩
   rcases List.mem_cons.1 hx with rfl | hx
   ·omega
   ·exact h2 (by omega) x hx
theorem sumTo_pos {α : Type} {b : Int} {f : α -> Int} (hf : ∀ x, 0 <= f x) : ∀ (l : List α) (n : Int), 0 <= n -> 0 <= sumTo b f l n
 | [], n, h => h
 | y :: t, n, h => by
  rw [sumTo]
  cases decide (n <= b)
  ·exact h
  ·exact sumTo_pos hf t _ (by have := hf y; omega)
theorem obN_pos (x : Ob) : 0 <= obN x := by unfold obN; omega
theorem acN_pos (x : Ac) : 0 <= acN x := by unfold acN; omega
theorem cdN_pos (x : Cd) : 1 <= cdN x := by unfold cdN; omega
theorem small_of {w : Wd} (hs : smallT w = true) : (w.objs.length : Int) + w.acts.length <= 1200 /\ (∀ x ∈ w.objs, obN x <= 1200) /\ (∀ x ∈ w.acts, acN x <= 1200) /\ ∀ x ∈ w.cds, cdN x <= 1200 := by
 have h := of_decide_eq_true hs
 unfold smallN at h
 have p0 : (0 : Int) <= (w.objs.length : Int) + w.acts.length := by omega
 have p1 := sumTo_pos (b := 1200) obN_pos w.objs _ p0
 have p2 := sumTo_pos (b := 1200) acN_pos w.acts _ p1
 obtain ⟨a1, a2⟩ := sumTo_mem (fun x => Int.le_trans (by decide) (cdN_pos x)) _ _ h
 obtain ⟨b1, b2⟩ := sumTo_mem acN_pos _ _ a1
 obtain ⟨c1, c2⟩ := sumTo_mem obN_pos _ _ b1
 exact ⟨c1, c2 p0, b2 p1, a2 p2⟩
theorem sumTo_count {α : Type} {b : Int} {f : α -> Int} (hf : ∀ x, 1 <= f x) : ∀ (l : List α) (n : Int), 0 <= n -> sumTo b f l n <= b -> n + l.length <= b
 | [], n, _, h => by
  have h' : n <= b := h
  show n + ((0 : Nat) : Int) <= b
  omega
 | y :: t, n, h0, h => by
  have h' := h
  rw [sumTo] at h
  cases hd : decide (n <= b) with
  | false => rw [hd] at h; exact absurd h (of_decide_eq_false hd)
  | true =>
   rw [hd, cond_true] at h
   have hy := hf y
   have := sumTo_count hf t _ (by omega) h
   simp only [List.length_cons]; omega
theorem ok_of_small {w : Wd} (hB : w.B) (hs : smallT w = true) : w.Ok := by
 obtain ⟨h0, h1, h2, h3⟩ := small_of hs
 obtain ⟨⟨_, o⟩, ⟨_, a⟩, ⟨_, c⟩, _⟩ := hB
 have hc : (w.cds.length : Int) <= 1200 := by
  have h := of_decide_eq_true hs
  unfold smallN at h
  have p0 : (0 : Int) <= (w.objs.length : Int) + w.acts.length := by omega
  have := sumTo_count cdN_pos _ _ (sumTo_pos acN_pos _ _ (sumTo_pos obN_pos _ _ p0)) h
  have p := sumTo_pos (b := 1200) acN_pos w.acts _ (sumTo_pos (b := 1200) obN_pos w.objs _ p0)
  omega
 refine ⟨fun x hx => ?_, fun x hx => ?_, fun x hx => ?_, by omega, by omega, by omega⟩
 ·have := h1 x hx; unfold obN at this
  exact ⟨fun s hs => ((o x hx).2.2.1.2 s hs).2.2.1.2.1, fun v hv => ((o x hx).2.2.2.1.2 v hv).2.1, by omega, by omega⟩
 ·have := h2 x hx; unfold acN at this
  exact ⟨(a x hx).2.2.1.2.1, fun v hv => ((a x hx).2.2.2.2.2.1.2 v hv).2.1, by omega⟩
 ·have := h3 x hx; unfold cdN at this
  exact ⟨fun v hv => ((c x hx).2.2.2.2.2.1.2 v hv).2.1, fun v hv => ((c x hx).2.2.2.2.2.2.1.2 v hv).2.1, by omega, by omega, by omega, by omega, by omega, fun i hi => ⟨((c x hx).2.2.2.2.2.2.2.2.1.2 i hi).2.1, ((c x hx).2.2.2.2.2.2.2.2.1.2 i hi).2.2.1, ((c x hx).2.2.2.2.2.2.2.2.1.2 i hi).2.2.2.1⟩⟩
def objU (w : Wd) : List Int := w.objs.flatMap fun o => (parL o.sl).map fun v => startF v
def mapU (maps : List Mp) : List Int := maps.flatMap fun m => (parL m.sl).map fun v => startF v
def moreU (w : Wd) (maps : List Mp) (y : Ty) : List Int := 5 :: 6 :: startF y.v :: (objU w ++ mapU maps)
theorem parL_len (l : List Sl) : (parL l).length <= l.length := by unfold parL; rw [List.length_map]; exact List.length_filter_le _ _
theorem sumTo_sum {α : Type} {b : Int} {f : α -> Int} (hf0 : ∀ x : α, 0 <= f x) : ∀ (l : List α) (n : Int), sumTo b f l n <= b -> n + (l.map f).sum = sumTo b f l n
 | [], n, h => by simp [sumTo]
 | x :: t, n, h => by
  by_cases hn : n <= b
  ·rw [sumTo, decide_eq_true hn, cond_true] at h ⊢
   have := sumTo_sum hf0 t _ h
   rw [<- this, List.map_cons, List.sum_cons]; omega
  ·rw [sumTo_stop hn] at h; omega
theorem sumTo_ge {α : Type} {b : Int} {f : α -> Int} (hf0 : ∀ x : α, 0 <= f x) : ∀ (l : List α) (n : Int), n <= sumTo b f l n
 | [], n => Int.le_refl _
 | x :: t, n => by
  rw [sumTo]
  cases decide (n <= b)
  ·exact Int.le_refl _
  ·have := sumTo_ge (b := b) hf0 t (n + f x); have := hf0 x
   rw [cond_true]; omega
theorem flat_len {α : Type} (g : α -> List Int) (f : α -> Int) (h : ∀ x, ((g x).length : Int) <= f x) : ∀ l : List α, ((l.flatMap g).length : Int) <= (l.map f).sum
 | [] => by simp
 | x :: t => by
  have := flat_len g f h t; have := h x
  rw [List.flatMap_cons, List.length_append, List.map_cons, List.sum_cons]; omega
theorem objU_len {w : Wd} (h : smallT w = true) : (objU w).length <= 1200 := by
 have h := of_decide_eq_true h
 unfold smallN at h
 have a1 := sumTo_ge (b := 1200) (f := cdN) (fun c => by unfold cdN; omega) w.cds (sumTo 1200 acN w.acts (sumTo 1200 obN w.objs ((w.objs.length : Int) + (w.acts.length : Int))))
 have a2 := sumTo_ge (b := 1200) (f := acN) (fun c => by unfold acN; omega) w.acts (sumTo 1200 obN w.objs ((w.objs.length : Int) + (w.acts.length : Int)))
 have a3 := sumTo_sum (b := 1200) (f := obN) (fun c => by unfold obN; omega) w.objs ((w.objs.length : Int) + (w.acts.length : Int)) (by omega)
 have a4 := flat_len (fun o : Ob => (parL o.sl).map fun v => startF v) obN (fun o => by have := parL_len o.sl; rw [List.length_map]; unfold obN; omega) w.objs
 unfold objU; omega
theorem mapU_len {maps : List Mp} (h : fewT maps = true) : (mapU maps).length <= 1500 := by
 have h := of_decide_eq_true h
 have a3 := sumTo_sum (b := 1500) (f := mpN) (fun c => by unfold mpN; omega) maps (maps.length : Int) h
 have a4 := flat_len (fun o : Mp => (parL o.sl).map fun v => startF v) mpN (fun o => by have := parL_len o.sl; rw [List.length_map]; unfold mpN; omega) maps
 unfold mapU; omega
theorem moreU_len {w : Wd} {maps : List Mp} (y : Ty) (h : smallT w = true) (h2 : fewT maps = true) : (moreU w maps y).length < 4000 := by
 have := objU_len h; have := mapU_len h2
 simp only [moreU, List.length_cons, List.length_append]; omega
theorem objT_mem {w : Wd} {n : Int} {P : Sl -> Prop} (h : ∀ o ∈ w.objs, ∀ s ∈ o.sl, P s) : ∀ s ∈ (objT w n).1.sl, P s := by
 unfold objT
 cases objF w n with
 | false => intro s hs; cases hs
 | true =>
  intro s hs
  rw [cond_true, List.getD_eq_getElem?_getD] at hs
  cases hg : w.objs[(objI w n).toNat]? with
  | none => rw [hg] at hs; cases hs
  | some o => rw [hg] at hs; exact h o (List.mem_of_getElem? hg) s hs
theorem par_mem {l : List Sl} {v : Vl} (h : v ∈ parL l) : ∃ s ∈ l, isPar s = true /\ s.v = v := by
 unfold parL at h
 obtain ⟨s, hs, e⟩ := List.mem_map.1 h
 obtain ⟨h1, h2⟩ := List.mem_filter.1 hs
 exact ⟨s, h1, h2, e⟩
theorem more_ok {w : Wd} {maps : List Mp} (y : Ty) (h : smallT w = true) (h2 : fewT maps = true) (hn : ∀ o ∈ w.objs, ∀ s ∈ o.sl, s.nm.length <= 140737488355328) (hm : ∀ m ∈ maps, ∀ s ∈ m.sl, s.nm.length <= 140737488355328) : LkOk w maps y (moreU w maps y) where
 clo := {
  clo := fun n _ v hv => by
   obtain ⟨s, hs, hp, rfl⟩ := par_mem hv
   refine objT_mem (w := w) (n := n) (P := fun s => isPar s = true -> startF s.v ∈ moreU w maps y) (fun o ho s hs hp => ?_) s hs hp
   refine List.mem_cons_of_mem _ (List.mem_cons_of_mem _ (List.mem_cons_of_mem _ (List.mem_append_left _ ?_)))
   exact List.mem_flatMap.2 ⟨o, ho, List.mem_map.2 ⟨s.v, List.mem_map.2 ⟨s, List.mem_filter.2 ⟨hs, hp⟩, rfl⟩, rfl⟩⟩
  nm := fun n _ s hs => objT_mem (P := fun s => s.nm.length <= 140737488355328) hn s hs
  many := by have := moreU_len y h h2; omega }
 i5 := List.mem_cons_self ..
 i6 := List.mem_cons_of_mem _ (List.mem_cons_self ..)
 st := List.mem_cons_of_mem _ (List.mem_cons_of_mem _ (List.mem_cons_self ..))
 mp := fun m hmm => ⟨by
   have h := of_decide_eq_true h2
   have a3 := sumTo_sum (b := 1500) (f := mpN) (fun c => by unfold mpN; omega) maps (maps.length : Int) h
   have a5 : mpN m <= (maps.map mpN).sum := by
    clear a3 h h2 hm
    induction maps with
    | nil => cases hmm
    | cons a l ih =>
     have h0 : ∀ l : List Mp, 0 <= (l.map mpN).sum := fun l => by
      induction l with
      | nil => simp
      | cons b l ih => rw [List.map_cons, List.sum_cons]; unfold mpN at *; omega
     rw [List.map_cons, List.sum_cons]
     rcases List.mem_cons.1 hmm with rfl | hmm
     ·have := h0 l; omega
     ·have := ih hmm
      have : 0 <= mpN a := by unfold mpN; omega
      omega
   have a6 : (m.sl.length : Int) = mpN m := rfl
   have h := of_decide_eq_true h2
   omega, hm m hmm, fun v hv => by
   refine List.mem_cons_of_mem _ (List.mem_cons_of_mem _ (List.mem_cons_of_mem _ (List.mem_append_right _ ?_)))
   exact List.mem_flatMap.2 ⟨m, hmm, List.mem_map.2 ⟨v, hv, rfl⟩⟩⟩
section
variable {w0 : W0} {W : World} {L : List Nat} {β : List (Option Nat)} {N : Nat} {P : Program} {all : Array Oper} {ds : List (Nat × Option Nat)} {E0 E : Env} {σ0 σ : Sig} {Q : Exit -> Act -> World -> Prop} {a : Act}
theorem top_nil {l : Array Bool} : ∀ n, top [] l n = 0
 | 0 => rfl
 | n + 1 => by unfold top; rw [if_neg (by simp)]; exact top_nil n
def panF (all : Array Oper) (p j : Nat) : Bool := (j == p) || reachP all 12 j p
theorem drawn_pan {ro : Option Nat} {nn p id : Nat} {o : Oper} {g : FuncId} {m : Nat} {σs σ1 : Sig} {rs qs : List PV} {x : PV} {is : List Nat} (ho : all[p]? = some o) (hnd : noDef all = true) (hm : P.follows .mixedOrders = true) (hok : okD all = true)
  (hT : TrF P N all (panF all p) E0 σ0 all.size E σ [] ds) (hsl : ∀ t ∈ slotsOf all o, ∀ k, p <= k -> k < all.size -> dstOf all k ≠ some t) (hg : guardP all E o = some true) (hc : opC P E o.op = some (g, rs)) (hs : SpecP P g m σs qs σ1 x) (hρ : renOk σ is = true) (e3 : renS is σ = σs)
  (e4 : rs.map (renP (invF is 0) 8) = qs) (k : ∀ L β a W u, Inv w0 L β (mergeS is m σ σ1) N [] a W -> R β L W (renP (outF is m σ.length) 8 x) u -> Q (.panic [{ v := u, recovered := false }]) a W)
  (β : List (Option Nat)) (a : Act) (W : World) (hI : Inv w0 L β σ0 N E0 a W) : (Code.region id all true).wpIn (Fr ro) nn P Q a W := by
 refine wpIn_region_any hm ?_
 have hb : Below W.heap.size W W.drew := (Below.refl W.heap.size W).drew
 have hlt : p < all.size := (Array.getElem?_eq_some_iff.1 ho).1
 obtain ⟨hn, hE0, hss, sg, g0, gi, gc, gt, hdata⟩ := hT.data hok
 have hdst : ∀ j k t, dstOf all j = some t -> dstOf all k = some t -> j = k := fun j k t hj hk => by
  cases hoj : all[j]? with
  | none => simp [dstOf, hoj] at hj
  | some o =>
   cases hok' : all[k]? with
   | none => simp [dstOf, hok'] at hk
   | some o' =>
    have hlt : k < all.size := (Array.getElem?_eq_some_iff.1 hok').1
    have hp := (okD_at hok hoj).2 k hlt
    unfold pairOk at hp
    rw [hk] at hp
    simp only [Bool.and_eq_true, Bool.or_eq_true, beq_iff_eq, bne_iff_ne, ne_eq] at hp
    rcases hp.1 with h | h
    ·exact h.symm
    ·exact absurd (by simpa [dstOf, hoj] using hj) h
 have hlo : ∀ k b, (fun k => if k = p then some false else none) k = some b -> panF all p k = true := fun k b h => by
  simp only at h
  by_cases e : k = p
  ·simp [panF, e]
  ·rw [if_neg e] at h; cases h
 have hs0 : sg 0 = σ := by
  rw [<- gi]
  exact (sg_const (si := []) (n := all.size) (a := 0) (fun j hj _ => gc j hj fun tl h => by simp at h) all.size (Nat.zero_le _) (Nat.le_refl _) fun t _ _ h => by simp at h).symm
 refine drawn_fl (w0 := w0) (L := L) (ss := []) (ds := ds) (panF all p) (fun k => if k = p then some false else none) hlo
  (n := all.size) (E := E) (σ := σ) (Nat.le_refl _) (.inl rfl) hnd hok rfl gi gc gt hss hE0 hdata
  (fun _ h => absurd (h p false (if_pos rfl) hlt) (by simp)) (fun h => absurd h (Nat.lt_irrefl _)) (fun j oj hoj hj hjn fuel l β a W hl hun hll hf hcl hnl hI => ?_) all.size _ (by simp) (Nat.le_trans (List.length_filter_le _ _) (by simp)) (fun j o ho hl => ?_) (fun k hk => by rw [Array.getD_eq_getD_getElem?, Array.getElem?_replicate]; split <;> rfl) (fun k b hk => ?_) β a _ ?_
 ·have hset : ∀ k, k < all.size -> (l.setIfInBounds j true).getD k false = if j = k then true else l.getD k false := fun k hk => by
   rw [Array.getD_eq_getD_getElem?, Array.getElem?_setIfInBounds]
   by_cases e : j = k
   ·subst e; simp [hl, hjn]
   ·rw [if_neg e, if_neg e, Array.getD_eq_getD_getElem?]
  have hpf := hll p false (if_pos rfl)
  by_cases e : j = p
  case neg =>
   have hr : reachP all 12 j p = true := by
    unfold panF at hj
    simp only [Bool.or_eq_true, beq_iff_eq] at hj
    exact hj.resolve_left e
   have := reach_done hcl 12 j p hr fun o2 ho2 e2 he hb => hcl j o2 ho2 (by rw [hset j hjn, if_pos rfl]) e2 he hb
   rw [hset p hlt, if_neg e, hpf] at this; cases this
  subst e
  rw [ho] at hoj; cases hoj
  have h0 : sg (min (top (si []) l all.size) all.size) = σ := by
   rw [show si [] = [] from rfl, top_nil, Nat.zero_min, hs0]
  rw [h0] at hI
  have hlk : ∀ t ∈ slotsOf all o, lk (maskE all E0 E l all.size) t = lk E t := fun t ht => by
   refine (lk_mask hdst t all.size).1 fun k hk hkt => ?_
   have hkj : k < j := Nat.lt_of_not_le fun h => hsl t ht k h hk hkt
   have hp := (okD_at hok ho).2 k hk
   unfold pairOk at hp
   rw [hkt] at hp
   have hcn : (slotsOf all o).contains t = true := by simpa using ht
   simp only [Bool.and_eq_true, Bool.or_eq_true, Bool.not_eq_true', decide_eq_true_eq] at hp
   rw [hcn] at hp
   have hdir : dirP all j k = true := by
    rcases hp.2 with (h | ⟨_, h⟩) | ⟨h, _⟩
    ·cases h
    ·exact h
    ·omega
   obtain ⟨e2, he, hb, heq⟩ := dirP_at ho hdir
   have := hcl j o ho (by rw [hset j hjn, if_pos rfl]) e2 he hb
   rw [heq, hset k hk, if_neg (by omega)] at this
   exact this
  have hg' : guardP all (maskE all E0 E l all.size) o = some true := (guard_congr hlk).trans hg
  have hc' : opC P (maskE all E0 E l all.size) o.op = some (g, rs) := (opC_congr (evA_congr hlk)).trans hc
  unfold wpOpIn
  simp only [ho]
  rw [if_pos (guard_wanted hI.ev hg')]
  exact op_in (noDef_at hnd ho) (callOpP hI hc' hs hρ e3 e4 _ _ fun γ u W' hi hr => k L γ _ W' u (hi.to fun t u _ => by simp only [lk]; rw [R]; trivial) hr)
 ·have hj : j < all.size := (Array.getElem?_eq_some_iff.1 ho).1
  simp [Array.getD_eq_getD_getElem?, hj] at hl
 ·by_cases e : k = p
  ·rw [if_pos e] at hk; cases hk; rw [Array.getD_eq_getD_getElem?, Array.getElem?_replicate]; split <;> rfl
  ·rw [if_neg e] at hk; cases hk
 ·have hI' := hI.below hb
  rw [show si [] = [] from rfl, top_nil, Nat.zero_min, g0]
  refine hI'.to fun t' u hu => ?_
  by_cases hex : ∃ k, k < all.size /\ dstOf all k = some t'
  ·obtain ⟨k, hk, hkt⟩ := hex
   rw [(lk_mask hdst t' all.size).2 k hk hkt (by simp [Array.getD_eq_getD_getElem?, hk])]; exact hu
  ·rw [(lk_mask hdst t' all.size).1 fun k hk hkt => absurd ⟨k, hk, hkt⟩ hex]
   exact (hE0 t' fun k hk hkt => hex ⟨k, by omega, hkt⟩) _ _ _ u |>.1 hu
def looseR (P : Program) (N : Nat) (all : Array Oper) (p : Nat) (σ : Sig) : Nat -> Nat -> Env -> Option (List Prop × Env)
 | 0, _, E => some ([], E)
 | n + 1, j, E =>
  match all[j]? with
  | none => none
  | some o =>
   if panF all p j then looseR P N all p σ n (j + 1) (putE E o.dst .any)
   else if fitsD N o.dst then
    match guardP all E o with
    | some true =>
     match opQ P E σ o.op with
     | some (pre, q) => if sind E o.op || (readI E o.op).isSome then (match looseR P N all p σ n (j + 1) (putE E o.dst q) with | some (ps, F) => some (pre.toList ++ ps, F) | none => none) else none
     | none => none
    | some false => looseR P N all p σ n (j + 1) (putE E o.dst (.v undef))
    | none => none
   else none
theorem looseR_T {p : Nat} : ∀ (n j : Nat) (E F : Env) (ps : List Prop) (ds : List (Nat × Option Nat)), looseR P N all p σ n j E = some (ps, F) -> All ps -> TrF P N all (panF all p) E0 σ0 j E σ [] ds -> ∃ ds', TrF P N all (panF all p) E0 σ0 (j + n) F σ [] ds'
 | 0, j, E, F, ps, ds, h, _, hT => by
  unfold looseR at h; cases h; exact ⟨_, hT⟩
 | n + 1, j, E, F, ps, ds, h, hp, hT => by
  unfold looseR at h
  rw [show j + (n + 1) = (j + 1) + n by omega]
  split at h
  ·cases h
  ·rename_i o ho
   split at h
   ·rename_i hf
    exact looseR_T n _ _ _ _ _ h hp (.fl hT ho hf)
   ·split at h
    ·rename_i hd
     split at h
     ·rename_i hg
      split at h
      ·rename_i pre q hq
       split at h
       ·rename_i hi
        split at h
        ·rename_i ps' F' hr
         cases h
         have h2 := All_app.1 hp
         have hpre : Pre pre := by cases pre with | none => trivial | some x => exact h2.1.1
         cases hsd : sind E o.op with
         | true => exact looseR_T n _ _ _ _ _ hr h2.2 (.op hT ho hd (.q0 pre hg hq hpre hsd rfl) rfl rfl)
         | false =>
          rw [hsd, Bool.false_or] at hi
          obtain ⟨x, hx⟩ := Option.isSome_iff_exists.1 hi
          exact looseR_T n _ _ _ _ _ hr h2.2 (.op hT ho hd (.q1 pre hg hq hpre x (opQ_rd hx) rfl) rfl rfl)
        ·cases h
       ·cases h
      ·cases h
     ·rename_i hg
      exact looseR_T n _ _ _ _ _ h hp (.op hT ho hd (.skip hg rfl rfl) rfl rfl)
     ·cases h
    ·cases h
def viewPd (P : Program) (fn : Func) (c : Cfg) (is : List Nat) : Option (List Prop × FuncId × Sig × List PV) :=
 let s := stop P fn.ntmps c
 match s.2.dr with
 | none => none
 | some q =>
  match q.all[q.i]? with
  | none => none
  | some o =>
   match looseR P fn.ntmps q.all q.i s.2.σ (q.all.size - q.i) q.i s.2.E with
   | none => none
   | some (ps, F) =>
    if q.ss.isEmpty && (renOk s.2.σ is && (slotsOf q.all o).all fun t => (List.range q.all.size).all fun k => !decide (q.i <= k) || dstOf q.all k != some t) then
     match guardP q.all F o with
     | some true => match opC P F o.op with
      | some (g, rs) => some (s.1 ++ ps, g, renS is s.2.σ, rs.map (renP (invF is 0) 8))
      | none => none
     | _ => none
    else none
end
section
variable {w0 : W0} {L : List Nat} {P : Program} {Q : Exit -> Act -> World -> Prop} {fn : Func} {c : Cfg}
theorem M.callPd {g : FuncId} {m : Nat} {σ0 σ1 : Sig} {qs : List PV} {x : PV} (ps : List Prop) (is : List Nat) (hs : SpecP P g m σ0 qs σ1 x) (h : viewPd P fn c is = some (ps, g, σ0, qs)) (hp : All ps)
  (k : OkP fn w0 Q (mergeS is m (stop P fn.ntmps c).2.σ σ1) [] (renP (outF is m (stop P fn.ntmps c).2.σ.length) 8 x)) : M P fn w0 L Q c := by
 refine ⟨?_⟩
 unfold viewPd at h
 simp only at h
 split at h
 ·cases h
 ·rename_i q hdr
  split at h
  ·cases h
  ·rename_i o ho
   split at h
   ·cases h
   ·rename_i ps2 F hl
    split at h
    ·rename_i hcond
     split at h
     ·rename_i hg
      split at h
      ·rename_i g2 rs hc
       simp only [Option.some.injEq, Prod.mk.injEq] at h
       obtain ⟨e1, e2, e3, e4⟩ := h
       subst e2
       subst e1
       have hp2 := All_app.1 hp
       refine run_ok 3000 c hp2.1 ?_
       show OkF P fn w0 L Q (stop P fn.ntmps c).2
       have hp2 := hp2.2
       clear hp
       generalize (stop P fn.ntmps c).2 = d at hdr hl hc hg hcond e3 e4 k hp2
       obtain ⟨E, σ, todo, dr⟩ := d
       simp only at hdr hl hc hg hcond e3 e4 k hp2
       subst hdr
       simp only [Bool.and_eq_true, List.isEmpty_iff, List.all_eq_true, List.mem_range, Bool.or_eq_true, Bool.not_eq_true', decide_eq_false_iff_not, bne_iff_ne, ne_eq] at hcond
       obtain ⟨hss, hρ, hsl⟩ := hcond
       intro hnd hok hm hT β a W hI
       simp only at hnd hok hT hI ⊢
       rw [hss] at hT
       have hlt : q.i < q.all.size := (Array.getElem?_eq_some_iff.1 ho).1
       obtain ⟨ds2, hT2⟩ := looseR_T (q.all.size - q.i) q.i E F ps2 q.ds hl hp2 (.of hT)
       rw [show q.i + (q.all.size - q.i) = q.all.size by omega] at hT2
       exact drawn_pan ho hnd hm hok hT2 (fun t ht k hk hks hkt => (hsl t ht k hks).elim (fun h => h hk) fun h => h hkt) hg hc hs hρ e3 e4 (fun L γ a W' u hi hr => wpK_panic (k L γ a W' u hi hr)) β a W hI
      ·cases h
     ·cases h
    ·cases h
end
end Go.Proofs.YtcknpohghmkbmaaGreatDoor
