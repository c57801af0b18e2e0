import Derived.Test.YtcknpohghmkbmaaGreatDoorRows
import Derived.Test.YtcknpohghmkbmaaGreatDoorCards
import Derived.Test.YtcknpohghmkbmaaGreatDoorTie
import Derived.ProofKit
import Derived.OpenShut
import Derived.LaidMore
import Derived.Lay
import Derived.SevenTiedAt
import Derived.Stop.Joined
import Derived.Stop.LaidErr
import Derived.Lib.SmallJoins
import Derived.Lib.LaidTab
import Derived.Carry
set_option linter.unusedVariables false
/- The closed facts of the row DepsMore, one by one (together they pass the memory that a Lean process may take). -/
namespace Go.Proofs.YtcknpohghmkbmaaGreatDoor
open Go.ChangeShapes Go.WideShapes Go.ChangeAt Go.ChangeMaps Go.RowKit Go.Joins

noncomputable abbrev depsMore_P : Program := Tryz.pinned.checked.prog

set_option maxRecDepth 100000 in
theorem depsMore_k0 : Rows.depsMoreRow.wf (OpenSpec.ofChange Rows.depsMoreSpec) = true := by kernel_rfl

set_option maxRecDepth 100000 in
theorem depsMore_k1 : laidOutB depsMore_P = true := by kernel_rfl

set_option maxRecDepth 100000 in
theorem depsMore_k2 : mapsRowed depsMore_P = true := by kernel_rfl

set_option maxRecDepth 100000 in
theorem depsMore_k3 : Tryz.f4.params.all (depsMore_P.readableRec ·) = true := by kernel_rfl

set_option maxRecDepth 100000 in
theorem depsMore_k4 : namedTie depsMore_P Rows.depsMoreRow.named Rows.depsMoreSpec.vars = true := by kernel_rfl

set_option maxRecDepth 100000 in
theorem depsMore_k5 : (Rows.depsMoreRow.stops == []) = true := by kernel_rfl

set_option maxRecDepth 100000 in
theorem depsMore_k6 : (depsMore_P.stops == []) = true := by kernel_rfl

set_option maxRecDepth 100000 in
theorem depsMore_k7 : (Rows.depsMoreRow.knobs == []) = true := by kernel_rfl

set_option maxRecDepth 100000 in
theorem depsMore_k8 : (depsMore_P.stopKnobs == []) = true := by kernel_rfl

set_option maxRecDepth 100000 in
theorem depsMore_k9 : (Rows.depsMoreRow.inPlace == depsMore_P.inPlace 4) = true := by kernel_rfl

set_option maxRecDepth 100000 in
theorem depsMore_k10 : (Rows.depsMoreRow.unfollowed == depsMore_P.unfollowed 4) = true := by kernel_rfl

set_option maxRecDepth 100000 in
theorem depsMore_k11 : (Rows.depsMoreRow.recurses == depsMore_P.recurses 4) = true := by kernel_rfl

set_option maxRecDepth 100000 in
theorem depsMore_k12 : (Rows.depsMoreRow.named == depsMore_P.varsNamed 4) = true := by kernel_rfl

set_option maxRecDepth 100000 in
theorem depsMore_k13 : (Rows.depsMoreRow.maps == (Tryz.f4.params.toList ++ Rows.depsMoreSpec.plain.varTypes depsMore_P).any (depsMore_P.mapsRec ·)) = true := by kernel_rfl

set_option maxRecDepth 100000 in
theorem depsMore_k14 : (Rows.depsMoreRow.ifaces == (Tryz.f4.params.toList ++ Rows.depsMoreSpec.plain.varTypes depsMore_P).any (depsMore_P.ifacesRec ·)) = true := by kernel_rfl

set_option maxRecDepth 100000 in
theorem depsMore_k15 : (Rows.depsMoreRow.mapsOut == depsMore_P.mapsAmong Tryz.f4.resultTypes.toList) = true := by kernel_rfl

set_option maxRecDepth 100000 in
theorem depsMore_k16 : (Rows.depsMoreRow.loops == (Tryz.f4.params.toList ++ Rows.depsMoreSpec.plain.varTypes depsMore_P).any (depsMore_P.loopsFrom ·)) = true := by kernel_rfl

set_option maxRecDepth 100000 in
theorem depsMore_k17 : (Rows.depsMoreRow.wideKeys == (Tryz.f4.params.toList ++ Rows.depsMoreSpec.plain.varTypes depsMore_P ++ Tryz.f4.resultTypes.toList).any (depsMore_P.wideKeysFrom ·)) = true := by kernel_rfl

set_option maxRecDepth 100000 in
theorem depsMore_k18 : Rows.depsMoreSpec.vars.all (depsMore_P.varReadable ·) = true := by kernel_rfl

set_option maxRecDepth 100000 in
theorem depsMore_k19 : Tryz.f4.resultTypes.all (fun t => depsMore_P.readableRec t && decide (t < depsMore_P.types.size)) = true := by kernel_rfl

set_option maxRecDepth 100000 in
theorem depsMore_k20 : (Rows.depsMoreRow.ifacesOut == Tryz.f4.resultTypes.toList.any (depsMore_P.ifacesRec ·)) = true := by kernel_rfl

set_option maxRecDepth 100000 in
theorem depsMore_k21 : (Rows.depsMoreRow.loopsOut == Tryz.f4.resultTypes.toList.any (depsMore_P.loopsFrom ·)) = true := by kernel_rfl

set_option maxRecDepth 100000 in
theorem depsMore_k22 : (Rows.depsMoreRow.plainKeys == depsMore_P.plainKeys) = true := by kernel_rfl

set_option maxRecDepth 100000 in
theorem depsMore_k23 : Rows.depsMoreRow.shortTexts.isNone = true := by kernel_rfl

set_option maxRecDepth 100000 in
theorem depsMore_k24 : depsMore_P.stopsHeard = true := by kernel_rfl

set_option maxRecDepth 100000 in
theorem depsMore_k25 : depsMore_P.mayEnter = true := by kernel_rfl

set_option maxRecDepth 100000 in
theorem depsMore_k26 : (Rows.depsMoreRow.lifted == depsMore_P.liftsFinal) = true := by kernel_rfl

set_option maxRecDepth 100000 in
theorem depsMore_k27 : (depsMore_P.make == some Rows.depsMoreRow.make) = true := by kernel_rfl

set_option maxRecDepth 100000 in
theorem depsMore_k28 : (Rows.depsMoreRow.kinds == (if Rows.depsMoreRow.domain.isEmpty then [] else Tryz.f4.params.toList.map fun t => match depsMore_P.underlying t with | some (.int k) => some k | _ => none)) = true := by kernel_rfl

set_option maxRecDepth 100000 in
theorem depsMore_k29 : (Rows.depsMoreRow.pinned == Rows.depsMoreRow.pinnedBy) = true := by kernel_rfl

set_option maxRecDepth 100000 in
theorem depsMore_k30 : (Rows.depsMoreRow.veiled == (Tryz.f4.params.toList ++ Rows.depsMoreSpec.plain.varTypes depsMore_P ++ Tryz.f4.resultTypes.toList).any (depsMore_P.veiledRec ·)) = true := by kernel_rfl

set_option maxRecDepth 100000 in
theorem depsMore_k31 : Rows.depsMoreRow.veiledFits depsMore_P Tryz.f4.params.toList (Tryz.f4.params.toList ++ Rows.depsMoreSpec.plain.varTypes depsMore_P ++ Tryz.f4.resultTypes.toList) = true := by kernel_rfl

theorem joinedFacts_parts {P : Program} {f : FuncId} {fn : Func} {s : ChangeSpec} {c : OpenClaim} (h0 : c.wf (OpenSpec.ofChange s) = true) (h1 : laidOutB P = true) (h2 : mapsRowed P = true) (h3 : fn.params.all (P.readableRec ·) = true) (h4 : namedTie P c.named s.vars = true) (h5 : (c.stops == []) = true) (h6 : (P.stops == []) = true) (h7 : (c.knobs == []) = true) (h8 : (P.stopKnobs == []) = true) (h9 : (c.inPlace == P.inPlace f) = true) (h10 : (c.unfollowed == P.unfollowed f) = true) (h11 : (c.recurses == P.recurses f) = true) (h12 : (c.named == P.varsNamed f) = true) (h13 : (c.maps == (fn.params.toList ++ s.plain.varTypes P).any (P.mapsRec ·)) = true) (h14 : (c.ifaces == (fn.params.toList ++ s.plain.varTypes P).any (P.ifacesRec ·)) = true) (h15 : (c.mapsOut == P.mapsAmong fn.resultTypes.toList) = true) (h16 : (c.loops == (fn.params.toList ++ s.plain.varTypes P).any (P.loopsFrom ·)) = true) (h17 : (c.wideKeys == (fn.params.toList ++ s.plain.varTypes P ++ fn.resultTypes.toList).any (P.wideKeysFrom ·)) = true) (h18 : s.vars.all (P.varReadable ·) = true) (h19 : fn.resultTypes.all (fun t => P.readableRec t && decide (t < P.types.size)) = true) (h20 : (c.ifacesOut == fn.resultTypes.toList.any (P.ifacesRec ·)) = true) (h21 : (c.loopsOut == fn.resultTypes.toList.any (P.loopsFrom ·)) = true) (h22 : (c.plainKeys == P.plainKeys) = true) (h23 : c.shortTexts.isNone = true) (h24 : P.stopsHeard = true) (h25 : P.mayEnter = true) (h26 : (c.lifted == P.liftsFinal) = true) (h27 : (P.make == some c.make) = true) (h28 : (c.kinds == (if c.domain.isEmpty then [] else fn.params.toList.map fun t => match P.underlying t with | some (.int k) => some k | _ => none)) = true) (h29 : (c.pinned == c.pinnedBy) = true) (h30 : (c.veiled == (fn.params.toList ++ s.plain.varTypes P ++ fn.resultTypes.toList).any (P.veiledRec ·)) = true) (h31 : c.veiledFits P fn.params.toList (fn.params.toList ++ s.plain.varTypes P ++ fn.resultTypes.toList) = true) : joinedFacts P f fn s c = true := by
  unfold joinedFacts
  repeat (rw [Bool.and_eq_true])
  exact ⟨⟨⟨⟨⟨⟨⟨⟨⟨⟨⟨⟨⟨⟨⟨⟨⟨⟨⟨⟨⟨⟨⟨⟨⟨⟨⟨⟨⟨⟨⟨h0, h1⟩, h2⟩, h3⟩, h4⟩, h5⟩, h6⟩, h7⟩, h8⟩, h9⟩, h10⟩, h11⟩, h12⟩, h13⟩, h14⟩, h15⟩, h16⟩, h17⟩, h18⟩, h19⟩, h20⟩, h21⟩, h22⟩, h23⟩, h24⟩, h25⟩, h26⟩, h27⟩, h28⟩, h29⟩, h30⟩, h31⟩
set_option maxRecDepth 100000 in
theorem depsMore_joined : joinedFacts depsMore_P 4 Tryz.f4 Rows.depsMoreSpec Rows.depsMoreRow = true :=
  joinedFacts_parts depsMore_k0 depsMore_k1 depsMore_k2 depsMore_k3 depsMore_k4 depsMore_k5 depsMore_k6 depsMore_k7 depsMore_k8 depsMore_k9 depsMore_k10 depsMore_k11 depsMore_k12 depsMore_k13 depsMore_k14 depsMore_k15 depsMore_k16 depsMore_k17 depsMore_k18 depsMore_k19 depsMore_k20 depsMore_k21 depsMore_k22 depsMore_k23 depsMore_k24 depsMore_k25 depsMore_k26 depsMore_k27 depsMore_k28 depsMore_k29 depsMore_k30 depsMore_k31
set_option maxRecDepth 100000 in
theorem depsMore_named : Tryz.pinned.checked.prog.funcNamed Rows.depsMoreRow.func = some 4 := by kernel_rfl
set_option maxRecDepth 100000 in
theorem depsMore_instance : Tryz.f4.isInstance Tryz.pinned.checked.prog Rows.depsMoreRow.origin Rows.depsMoreRow.targs := of_decide_eq_true (by kernel_rfl)
set_option maxRecDepth 100000 in
theorem depsMore_wrapper : Tryz.f4.isWrapper Tryz.pinned.checked.prog Rows.depsMoreRow.wrapper Rows.depsMoreRow.mainSum := by unfold Func.isWrapper; first | (rw [if_pos (by decide +kernel)]; kernel_rfl) | (rw [if_neg (by decide +kernel)]; exact ⟨rfl, rfl⟩)
end Go.Proofs.YtcknpohghmkbmaaGreatDoor
