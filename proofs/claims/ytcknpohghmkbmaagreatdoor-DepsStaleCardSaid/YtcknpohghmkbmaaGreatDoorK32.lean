import Derived.Test.YtcknpohghmkbmaaGreatDoorRows
import Derived.Test.YtcknpohghmkbmaaGreatDoorCards
import Derived.Test.YtcknpohghmkbmaaGreatDoorTie
import Derived.ProofKit
import Derived.OpenShut
import Derived.LaidMore
import Derived.Lay
import Derived.SevenTiedAt
import Derived.Stop.Joined
import Derived.Stop.LaidErr
import Derived.Lib.SmallJoins
import Derived.Lib.LaidTab
import Derived.Carry
set_option linter.unusedVariables false
set_option linter.unusedSimpArgs false
/- The texts RFactStale of the proof, laid one behind the other. -/
namespace Go.Proofs.YtcknpohghmkbmaaGreatDoor
open Go.ChangeShapes Go.WideShapes Go.ChangeAt Go.ChangeMaps Go.RowKit Go.Joins
noncomputable abbrev depsStale_P : Program := Tryz.pinned.checked.prog
set_option maxRecDepth 100000 in
theorem depsStale_k0 : Rows.depsStaleRow.wf (OpenSpec.ofChange Rows.depsStaleSpec) = true := by kernel_rfl
set_option maxRecDepth 100000 in
theorem depsStale_k1 : laidOutB depsStale_P = true := by kernel_rfl
set_option maxRecDepth 100000 in
theorem depsStale_k2 : mapsRowed depsStale_P = true := by kernel_rfl
set_option maxRecDepth 100000 in
theorem depsStale_k3 : Tryz.f7.params.all (depsStale_P.readableRec ·) = true := by kernel_rfl
set_option maxRecDepth 100000 in
theorem depsStale_k4 : namedTie depsStale_P Rows.depsStaleRow.named Rows.depsStaleSpec.vars = true := by kernel_rfl
set_option maxRecDepth 100000 in
theorem depsStale_k5 : (Rows.depsStaleRow.stops == []) = true := by kernel_rfl
set_option maxRecDepth 100000 in
theorem depsStale_k6 : (depsStale_P.stops == []) = true := by kernel_rfl
set_option maxRecDepth 100000 in
theorem depsStale_k7 : (Rows.depsStaleRow.knobs == []) = true := by kernel_rfl
set_option maxRecDepth 100000 in
theorem depsStale_k8 : (depsStale_P.stopKnobs == []) = true := by kernel_rfl
set_option maxRecDepth 100000 in
theorem depsStale_k9 : (Rows.depsStaleRow.inPlace == depsStale_P.inPlace 7) = true := by kernel_rfl
set_option maxRecDepth 100000 in
theorem depsStale_k10 : (Rows.depsStaleRow.unfollowed == depsStale_P.unfollowed 7) = true := by kernel_rfl
set_option maxRecDepth 100000 in
theorem depsStale_k11 : (Rows.depsStaleRow.recurses == depsStale_P.recurses 7) = true := by kernel_rfl
set_option maxRecDepth 100000 in
theorem depsStale_k12 : (Rows.depsStaleRow.named == depsStale_P.varsNamed 7) = true := by kernel_rfl
set_option maxRecDepth 100000 in
theorem depsStale_k13 : (Rows.depsStaleRow.maps == (Tryz.f7.params.toList ++ Rows.depsStaleSpec.plain.varTypes depsStale_P).any (depsStale_P.mapsRec ·)) = true := by kernel_rfl
set_option maxRecDepth 100000 in
theorem depsStale_k14 : (Rows.depsStaleRow.ifaces == (Tryz.f7.params.toList ++ Rows.depsStaleSpec.plain.varTypes depsStale_P).any (depsStale_P.ifacesRec ·)) = true := by kernel_rfl
set_option maxRecDepth 100000 in
theorem depsStale_k15 : (Rows.depsStaleRow.mapsOut == depsStale_P.mapsAmong Tryz.f7.resultTypes.toList) = true := by kernel_rfl
set_option maxRecDepth 100000 in
theorem depsStale_k16 : (Rows.depsStaleRow.loops == (Tryz.f7.params.toList ++ Rows.depsStaleSpec.plain.varTypes depsStale_P).any (depsStale_P.loopsFrom ·)) = true := by kernel_rfl
set_option maxRecDepth 100000 in
theorem depsStale_k17 : (Rows.depsStaleRow.wideKeys == (Tryz.f7.params.toList ++ Rows.depsStaleSpec.plain.varTypes depsStale_P ++ Tryz.f7.resultTypes.toList).any (depsStale_P.wideKeysFrom ·)) = true := by kernel_rfl
set_option maxRecDepth 100000 in
theorem depsStale_k18 : Rows.depsStaleSpec.vars.all (depsStale_P.varReadable ·) = true := by kernel_rfl
set_option maxRecDepth 100000 in
theorem depsStale_k19 : Tryz.f7.resultTypes.all (fun t => depsStale_P.readableRec t && decide (t < depsStale_P.types.size)) = true := by kernel_rfl
set_option maxRecDepth 100000 in
theorem depsStale_k20 : (Rows.depsStaleRow.ifacesOut == Tryz.f7.resultTypes.toList.any (depsStale_P.ifacesRec ·)) = true := by kernel_rfl
set_option maxRecDepth 100000 in
theorem depsStale_k21 : (Rows.depsStaleRow.loopsOut == Tryz.f7.resultTypes.toList.any (depsStale_P.loopsFrom ·)) = true := by kernel_rfl
set_option maxRecDepth 100000 in
theorem depsStale_k22 : (Rows.depsStaleRow.plainKeys == depsStale_P.plainKeys) = true := by kernel_rfl
set_option maxRecDepth 100000 in
theorem depsStale_k23 : Rows.depsStaleRow.shortTexts.isNone = true := by kernel_rfl
set_option maxRecDepth 100000 in
theorem depsStale_k24 : depsStale_P.stopsHeard = true := by kernel_rfl
set_option maxRecDepth 100000 in
theorem depsStale_k25 : depsStale_P.mayEnter = true := by kernel_rfl
set_option maxRecDepth 100000 in
theorem depsStale_k26 : (Rows.depsStaleRow.lifted == depsStale_P.liftsFinal) = true := by kernel_rfl
set_option maxRecDepth 100000 in
theorem depsStale_k27 : (depsStale_P.make == some Rows.depsStaleRow.make) = true := by kernel_rfl
set_option maxRecDepth 100000 in
theorem depsStale_k28 : (Rows.depsStaleRow.kinds == (if Rows.depsStaleRow.domain.isEmpty then [] else Tryz.f7.params.toList.map fun t => match depsStale_P.underlying t with | some (.int k) => some k | _ => none)) = true := by kernel_rfl
set_option maxRecDepth 100000 in
theorem depsStale_k29 : (Rows.depsStaleRow.pinned == Rows.depsStaleRow.pinnedBy) = true := by kernel_rfl
set_option maxRecDepth 100000 in
theorem depsStale_k30 : (Rows.depsStaleRow.veiled == (Tryz.f7.params.toList ++ Rows.depsStaleSpec.plain.varTypes depsStale_P ++ Tryz.f7.resultTypes.toList).any (depsStale_P.veiledRec ·)) = true := by kernel_rfl
set_option maxRecDepth 100000 in
theorem depsStale_k31 : Rows.depsStaleRow.veiledFits depsStale_P Tryz.f7.params.toList (Tryz.f7.params.toList ++ Rows.depsStaleSpec.plain.varTypes depsStale_P ++ Tryz.f7.resultTypes.toList) = true := by kernel_rfl
theorem joinedFacts_parts {P : Program} {f : FuncId} {fn : Func} {s : ChangeSpec} {c : OpenClaim} (h0 : c.wf (OpenSpec.ofChange s) = true) (h1 : laidOutB P = true) (h2 : mapsRowed P = true) (h3 : fn.params.all (P.readableRec ·) = true) (h4 : namedTie P c.named s.vars = true) (h5 : (c.stops == []) = true) (h6 : (P.stops == []) = true) (h7 : (c.knobs == []) = true) (h8 : (P.stopKnobs == []) = true) (h9 : (c.inPlace == P.inPlace f) = true) (h10 : (c.unfollowed == P.unfollowed f) = true) (h11 : (c.recurses == P.recurses f) = true) (h12 : (c.named == P.varsNamed f) = true) (h13 : (c.maps == (fn.params.toList ++ s.plain.varTypes P).any (P.mapsRec ·)) = true) (h14 : (c.ifaces == (fn.params.toList ++ s.plain.varTypes P).any (P.ifacesRec ·)) = true) (h15 : (c.mapsOut == P.mapsAmong fn.resultTypes.toList) = true) (h16 : (c.loops == (fn.params.toList ++ s.plain.varTypes P).any (P.loopsFrom ·)) = true) (h17 : (c.wideKeys == (fn.params.toList ++ s.plain.varTypes P ++ fn.resultTypes.toList).any (P.wideKeysFrom ·)) = true) (h18 : s.vars.all (P.varReadable ·) = true) (h19 : fn.resultTypes.all (fun t => P.readableRec t && decide (t < P.types.size)) = true) (h20 : (c.ifacesOut == fn.resultTypes.toList.any (P.ifacesRec ·)) = true) (h21 : (c.loopsOut == fn.resultTypes.toList.any (P.loopsFrom ·)) = true) (h22 : (c.plainKeys == P.plainKeys) = true) (h23 : c.shortTexts.isNone = true) (h24 : P.stopsHeard = true) (h25 : P.mayEnter = true) (h26 : (c.lifted == P.liftsFinal) = true) (h27 : (P.make == some c.make) = true) (h28 : (c.kinds == (if c.domain.isEmpty then [] else fn.params.toList.map fun t => match P.underlying t with | some (.int k) => some k | _ => none)) = true) (h29 : (c.pinned == c.pinnedBy) = true) (h30 : (c.veiled == (fn.params.toList ++ s.plain.varTypes P ++ fn.resultTypes.toList).any (P.veiledRec ·)) = true) (h31 : c.veiledFits P fn.params.toList (fn.params.toList ++ s.plain.varTypes P ++ fn.resultTypes.toList) = true) : joinedFacts P f fn s c = true := by
 unfold joinedFacts
 repeat (rw [Bool.and_eq_true])
 exact ⟨⟨⟨⟨⟨⟨⟨⟨⟨⟨⟨⟨⟨⟨⟨⟨⟨⟨⟨⟨⟨⟨⟨⟨⟨⟨⟨⟨⟨⟨⟨h0, h1⟩, h2⟩, h3⟩, h4⟩, h5⟩, h6⟩, h7⟩, h8⟩, h9⟩, h10⟩, h11⟩, h12⟩, h13⟩, h14⟩, h15⟩, h16⟩, h17⟩, h18⟩, h19⟩, h20⟩, h21⟩, h22⟩, h23⟩, h24⟩, h25⟩, h26⟩, h27⟩, h28⟩, h29⟩, h30⟩, h31⟩
set_option maxRecDepth 100000 in
theorem depsStale_joined : joinedFacts depsStale_P 7 Tryz.f7 Rows.depsStaleSpec Rows.depsStaleRow = true :=
 joinedFacts_parts depsStale_k0 depsStale_k1 depsStale_k2 depsStale_k3 depsStale_k4 depsStale_k5 depsStale_k6 depsStale_k7 depsStale_k8 depsStale_k9 depsStale_k10 depsStale_k11 depsStale_k12 depsStale_k13 depsStale_k14 depsStale_k15 depsStale_k16 depsStale_k17 depsStale_k18 depsStale_k19 depsStale_k20 depsStale_k21 depsStale_k22 depsStale_k23 depsStale_k24 depsStale_k25 depsStale_k26 depsStale_k27 depsStale_k28 depsStale_k29 depsStale_k30 depsStale_k31
set_option maxRecDepth 100000 in
theorem depsStale_named : Tryz.pinned.checked.prog.funcNamed Rows.depsStaleRow.func = some 7 := by kernel_rfl
set_option maxRecDepth 100000 in
theorem depsStale_instance : Tryz.f7.isInstance Tryz.pinned.checked.prog Rows.depsStaleRow.origin Rows.depsStaleRow.targs := of_decide_eq_true (by kernel_rfl)
set_option maxRecDepth 100000 in
theorem depsStale_wrapper : Tryz.f7.isWrapper Tryz.pinned.checked.prog Rows.depsStaleRow.wrapper Rows.depsStaleRow.mainSum := by unfold Func.isWrapper; first | (rw [if_pos (by decide +kernel)]; kernel_rfl) | (rw [if_neg (by decide +kernel)]; exact ⟨rfl, rfl⟩)
end Go.Proofs.YtcknpohghmkbmaaGreatDoor
