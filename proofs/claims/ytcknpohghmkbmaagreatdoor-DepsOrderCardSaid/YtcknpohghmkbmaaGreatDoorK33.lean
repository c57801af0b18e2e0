import Derived.Test.YtcknpohghmkbmaaGreatDoorRows
import Derived.Test.YtcknpohghmkbmaaGreatDoorCards
import Derived.Test.YtcknpohghmkbmaaGreatDoorTie
import Derived.ProofKit
import Derived.OpenShut
import Derived.LaidMore
import Derived.Lay
import Derived.SevenTiedAt
import Derived.Stop.Joined
import Derived.Stop.LaidErr
import Derived.Lib.SmallJoins
import Derived.Lib.LaidTab
import Derived.Carry
set_option linter.unusedVariables false
set_option linter.unusedSimpArgs false

/- The closed facts of the row DepsOrder, one by one (together they pass the memory that a Lean process may take). -/
namespace Go.Proofs.YtcknpohghmkbmaaGreatDoor
open Go.ChangeShapes Go.WideShapes Go.ChangeAt Go.ChangeMaps Go.RowKit Go.Joins
noncomputable abbrev depsOrder_P : Program := Tryz.pinned.checked.prog
set_option maxRecDepth 100000 in
theorem depsOrder_k0 : Rows.depsOrderRow.wf (OpenSpec.ofChange Rows.depsOrderSpec) = true := by kernel_rfl
set_option maxRecDepth 100000 in
theorem depsOrder_k1 : laidOutB depsOrder_P = true := by kernel_rfl
set_option maxRecDepth 100000 in
theorem depsOrder_k2 : mapsRowed depsOrder_P = true := by kernel_rfl
set_option maxRecDepth 100000 in
theorem depsOrder_k3 : Tryz.f6.params.all (depsOrder_P.readableRec ·) = true := by kernel_rfl
set_option maxRecDepth 100000 in
theorem depsOrder_k4 : namedTie depsOrder_P Rows.depsOrderRow.named Rows.depsOrderSpec.vars = true := by kernel_rfl
set_option maxRecDepth 100000 in
theorem depsOrder_k5 : (Rows.depsOrderRow.stops == []) = true := by kernel_rfl
set_option maxRecDepth 100000 in
theorem depsOrder_k6 : (depsOrder_P.stops == []) = true := by kernel_rfl
set_option maxRecDepth 100000 in
theorem depsOrder_k7 : (Rows.depsOrderRow.knobs == []) = true := by kernel_rfl
set_option maxRecDepth 100000 in
theorem depsOrder_k8 : (depsOrder_P.stopKnobs == []) = true := by kernel_rfl
set_option maxRecDepth 100000 in
theorem depsOrder_k9 : (Rows.depsOrderRow.inPlace == depsOrder_P.inPlace 6) = true := by kernel_rfl
set_option maxRecDepth 100000 in
theorem depsOrder_k10 : (Rows.depsOrderRow.unfollowed == depsOrder_P.unfollowed 6) = true := by kernel_rfl
set_option maxRecDepth 100000 in
theorem depsOrder_k11 : (Rows.depsOrderRow.recurses == depsOrder_P.recurses 6) = true := by kernel_rfl
set_option maxRecDepth 100000 in
theorem depsOrder_k12 : (Rows.depsOrderRow.named == depsOrder_P.varsNamed 6) = true := by kernel_rfl
set_option maxRecDepth 100000 in
theorem depsOrder_k13 : (Rows.depsOrderRow.maps == (Tryz.f6.params.toList ++ Rows.depsOrderSpec.plain.varTypes depsOrder_P).any (depsOrder_P.mapsRec ·)) = true := by kernel_rfl
set_option maxRecDepth 100000 in
theorem depsOrder_k14 : (Rows.depsOrderRow.ifaces == (Tryz.f6.params.toList ++ Rows.depsOrderSpec.plain.varTypes depsOrder_P).any (depsOrder_P.ifacesRec ·)) = true := by kernel_rfl
set_option maxRecDepth 100000 in
theorem depsOrder_k15 : (Rows.depsOrderRow.mapsOut == depsOrder_P.mapsAmong Tryz.f6.resultTypes.toList) = true := by kernel_rfl
set_option maxRecDepth 100000 in
theorem depsOrder_k16 : (Rows.depsOrderRow.loops == (Tryz.f6.params.toList ++ Rows.depsOrderSpec.plain.varTypes depsOrder_P).any (depsOrder_P.loopsFrom ·)) = true := by kernel_rfl
set_option maxRecDepth 100000 in
theorem depsOrder_k17 : (Rows.depsOrderRow.wideKeys == (Tryz.f6.params.toList ++ Rows.depsOrderSpec.plain.varTypes depsOrder_P ++ Tryz.f6.resultTypes.toList).any (depsOrder_P.wideKeysFrom ·)) = true := by kernel_rfl
set_option maxRecDepth 100000 in
theorem depsOrder_k18 : Rows.depsOrderSpec.vars.all (depsOrder_P.varReadable ·) = true := by kernel_rfl
set_option maxRecDepth 100000 in
theorem depsOrder_k19 : Tryz.f6.resultTypes.all (fun t => depsOrder_P.readableRec t && decide (t < depsOrder_P.types.size)) = true := by kernel_rfl
set_option maxRecDepth 100000 in
theorem depsOrder_k20 : (Rows.depsOrderRow.ifacesOut == Tryz.f6.resultTypes.toList.any (depsOrder_P.ifacesRec ·)) = true := by kernel_rfl
set_option maxRecDepth 100000 in
theorem depsOrder_k21 : (Rows.depsOrderRow.loopsOut == Tryz.f6.resultTypes.toList.any (depsOrder_P.loopsFrom ·)) = true := by kernel_rfl
set_option maxRecDepth 100000 in
theorem depsOrder_k22 : (Rows.depsOrderRow.plainKeys == depsOrder_P.plainKeys) = true := by kernel_rfl
set_option maxRecDepth 100000 in
theorem depsOrder_k23 : Rows.depsOrderRow.shortTexts.isNone = true := by kernel_rfl
set_option maxRecDepth 100000 in
theorem depsOrder_k24 : depsOrder_P.stopsHeard = true := by kernel_rfl
set_option maxRecDepth 100000 in
theorem depsOrder_k25 : depsOrder_P.mayEnter = true := by kernel_rfl
set_option maxRecDepth 100000 in
theorem depsOrder_k26 : (Rows.depsOrderRow.lifted == depsOrder_P.liftsFinal) = true := by kernel_rfl
set_option maxRecDepth 100000 in
theorem depsOrder_k27 : (depsOrder_P.make == some Rows.depsOrderRow.make) = true := by kernel_rfl
set_option maxRecDepth 100000 in
theorem depsOrder_k28 : (Rows.depsOrderRow.kinds == (if Rows.depsOrderRow.domain.isEmpty then [] else Tryz.f6.params.toList.map fun t => match depsOrder_P.underlying t with | some (.int k) => some k | _ => none)) = true := by kernel_rfl
set_option maxRecDepth 100000 in
theorem depsOrder_k29 : (Rows.depsOrderRow.pinned == Rows.depsOrderRow.pinnedBy) = true := by kernel_rfl
set_option maxRecDepth 100000 in
theorem depsOrder_k30 : (Rows.depsOrderRow.veiled == (Tryz.f6.params.toList ++ Rows.depsOrderSpec.plain.varTypes depsOrder_P ++ Tryz.f6.resultTypes.toList).any (depsOrder_P.veiledRec ·)) = true := by kernel_rfl
set_option maxRecDepth 100000 in
theorem depsOrder_k31 : Rows.depsOrderRow.veiledFits depsOrder_P Tryz.f6.params.toList (Tryz.f6.params.toList ++ Rows.depsOrderSpec.plain.varTypes depsOrder_P ++ Tryz.f6.resultTypes.toList) = true := by kernel_rfl
theorem joinedFacts_parts {P : Program} {f : FuncId} {fn : Func} {s : ChangeSpec} {c : OpenClaim} (h0 : c.wf (OpenSpec.ofChange s) = true) (h1 : laidOutB P = true) (h2 : mapsRowed P = true) (h3 : fn.params.all (P.readableRec ·) = true) (h4 : namedTie P c.named s.vars = true) (h5 : (c.stops == []) = true) (h6 : (P.stops == []) = true) (h7 : (c.knobs == []) = true) (h8 : (P.stopKnobs == []) = true) (h9 : (c.inPlace == P.inPlace f) = true) (h10 : (c.unfollowed == P.unfollowed f) = true) (h11 : (c.recurses == P.recurses f) = true) (h12 : (c.named == P.varsNamed f) = true) (h13 : (c.maps == (fn.params.toList ++ s.plain.varTypes P).any (P.mapsRec ·)) = true) (h14 : (c.ifaces == (fn.params.toList ++ s.plain.varTypes P).any (P.ifacesRec ·)) = true) (h15 : (c.mapsOut == P.mapsAmong fn.resultTypes.toList) = true) (h16 : (c.loops == (fn.params.toList ++ s.plain.varTypes P).any (P.loopsFrom ·)) = true) (h17 : (c.wideKeys == (fn.params.toList ++ s.plain.varTypes P ++ fn.resultTypes.toList).any (P.wideKeysFrom ·)) = true) (h18 : s.vars.all (P.varReadable ·) = true) (h19 : fn.resultTypes.all (fun t => P.readableRec t && decide (t < P.types.size)) = true) (h20 : (c.ifacesOut == fn.resultTypes.toList.any (P.ifacesRec ·)) = true) (h21 : (c.loopsOut == fn.resultTypes.toList.any (P.loopsFrom ·)) = true) (h22 : (c.plainKeys == P.plainKeys) = true) (h23 : c.shortTexts.isNone = true) (h24 : P.stopsHeard = true) (h25 : P.mayEnter = true) (h26 : (c.lifted == P.liftsFinal) = true) (h27 : (P.make == some c.make) = true) (h28 : (c.kinds == (if c.domain.isEmpty then [] else fn.params.toList.map fun t => match P.underlying t with | some (.int k) => some k | _ => none)) = true) (h29 : (c.pinned == c.pinnedBy) = true) (h30 : (c.veiled == (fn.params.toList ++ s.plain.varTypes P ++ fn.resultTypes.toList).any (P.veiledRec ·)) = true) (h31 : c.veiledFits P fn.params.toList (fn.params.toList ++ s.plain.varTypes P ++ fn.resultTypes.toList) = true) : joinedFacts P f fn s c = true := by
  unfold joinedFacts
  repeat (rw [Bool.and_eq_true])
  exact ⟨⟨⟨⟨⟨⟨⟨⟨⟨⟨⟨⟨⟨⟨⟨⟨⟨⟨⟨⟨⟨⟨⟨⟨⟨⟨⟨⟨⟨⟨⟨h0, h1⟩, h2⟩, h3⟩, h4⟩, h5⟩, h6⟩, h7⟩, h8⟩, h9⟩, h10⟩, h11⟩, h12⟩, h13⟩, h14⟩, h15⟩, h16⟩, h17⟩, h18⟩, h19⟩, h20⟩, h21⟩, h22⟩, h23⟩, h24⟩, h25⟩, h26⟩, h27⟩, h28⟩, h29⟩, h30⟩, h31⟩
set_option maxRecDepth 100000 in
theorem depsOrder_joined : joinedFacts depsOrder_P 6 Tryz.f6 Rows.depsOrderSpec Rows.depsOrderRow = true :=
  joinedFacts_parts depsOrder_k0 depsOrder_k1 depsOrder_k2 depsOrder_k3 depsOrder_k4 depsOrder_k5 depsOrder_k6 depsOrder_k7 depsOrder_k8 depsOrder_k9 depsOrder_k10 depsOrder_k11 depsOrder_k12 depsOrder_k13 depsOrder_k14 depsOrder_k15 depsOrder_k16 depsOrder_k17 depsOrder_k18 depsOrder_k19 depsOrder_k20 depsOrder_k21 depsOrder_k22 depsOrder_k23 depsOrder_k24 depsOrder_k25 depsOrder_k26 depsOrder_k27 depsOrder_k28 depsOrder_k29 depsOrder_k30 depsOrder_k31
set_option maxRecDepth 100000 in
theorem depsOrder_named : Tryz.pinned.checked.prog.funcNamed Rows.depsOrderRow.func = some 6 := by kernel_rfl
set_option maxRecDepth 100000 in
theorem depsOrder_instance : Tryz.f6.isInstance Tryz.pinned.checked.prog Rows.depsOrderRow.origin Rows.depsOrderRow.targs := of_decide_eq_true (by kernel_rfl)
set_option maxRecDepth 100000 in
theorem depsOrder_wrapper : Tryz.f6.isWrapper Tryz.pinned.checked.prog Rows.depsOrderRow.wrapper Rows.depsOrderRow.mainSum := by unfold Func.isWrapper; first | (rw [if_pos (by decide +kernel)]; kernel_rfl) | (rw [if_neg (by decide +kernel)]; exact ⟨rfl, rfl⟩)
end Go.Proofs.YtcknpohghmkbmaaGreatDoor
