import Derived.Test.YtplpnfjccemdnaaGreatDoorRows
import Derived.Test.YtplpnfjccemdnaaGreatDoorCards
import Derived.Test.YtplpnfjccemdnaaGreatDoorTie
import Derived.ProofKit
import Derived.OpenShut
import Derived.LaidMore
import Derived.Lay
import Derived.SevenTiedAt
import Derived.Stop.Joined
import Derived.Stop.LaidErr
import Derived.Lib.SmallJoins
import Derived.Lib.LaidTab
import Derived.Carry
set_option linter.unusedVariables false
set_option linter.unusedSimpArgs false
/- The texts RFactSound of the proof, laid one behind the other. -/
namespace Go.Proofs.YtplpnfjccemdnaaGreatDoor
open Go.ChangeShapes Go.WideShapes Go.ChangeAt Go.ChangeMaps Go.RowKit Go.Joins
noncomputable abbrev depsSound_P : Program := Tryz.pinned.checked.prog
set_option maxRecDepth 100000 in
theorem depsSound_k0 : Rows.depsSoundRow.wf (OpenSpec.ofChange Rows.depsSoundSpec) = true := by kernel_rfl
set_option maxRecDepth 100000 in
theorem depsSound_k1 : laidOutB depsSound_P = true := by kernel_rfl
set_option maxRecDepth 100000 in
theorem depsSound_k2 : mapsRowed depsSound_P = true := by kernel_rfl
set_option maxRecDepth 100000 in
theorem depsSound_k3 : Tryz.f3.params.all (depsSound_P.readableRec ·) = true := by kernel_rfl
set_option maxRecDepth 100000 in
theorem depsSound_k4 : namedTie depsSound_P Rows.depsSoundRow.named Rows.depsSoundSpec.vars = true := by kernel_rfl
set_option maxRecDepth 100000 in
theorem depsSound_k5 : (Rows.depsSoundRow.stops == []) = true := by kernel_rfl
set_option maxRecDepth 100000 in
theorem depsSound_k6 : (depsSound_P.stops == []) = true := by kernel_rfl
set_option maxRecDepth 100000 in
theorem depsSound_k7 : (Rows.depsSoundRow.knobs == []) = true := by kernel_rfl
set_option maxRecDepth 100000 in
theorem depsSound_k8 : (depsSound_P.stopKnobs == []) = true := by kernel_rfl
set_option maxRecDepth 100000 in
theorem depsSound_k9 : (Rows.depsSoundRow.inPlace == depsSound_P.inPlace 3) = true := by kernel_rfl
set_option maxRecDepth 100000 in
theorem depsSound_k10 : (Rows.depsSoundRow.unfollowed == depsSound_P.unfollowed 3) = true := by kernel_rfl
set_option maxRecDepth 100000 in
theorem depsSound_k11 : (Rows.depsSoundRow.recurses == depsSound_P.recurses 3) = true := by kernel_rfl
set_option maxRecDepth 100000 in
theorem depsSound_k12 : (Rows.depsSoundRow.named == depsSound_P.varsNamed 3) = true := by kernel_rfl
set_option maxRecDepth 100000 in
theorem depsSound_k13 : (Rows.depsSoundRow.maps == (Tryz.f3.params.toList ++ Rows.depsSoundSpec.plain.varTypes depsSound_P).any (depsSound_P.mapsRec ·)) = true := by kernel_rfl
set_option maxRecDepth 100000 in
theorem depsSound_k14 : (Rows.depsSoundRow.ifaces == (Tryz.f3.params.toList ++ Rows.depsSoundSpec.plain.varTypes depsSound_P).any (depsSound_P.ifacesRec ·)) = true := by kernel_rfl
set_option maxRecDepth 100000 in
theorem depsSound_k15 : (Rows.depsSoundRow.mapsOut == depsSound_P.mapsAmong Tryz.f3.resultTypes.toList) = true := by kernel_rfl
set_option maxRecDepth 100000 in
theorem depsSound_k16 : (Rows.depsSoundRow.loops == (Tryz.f3.params.toList ++ Rows.depsSoundSpec.plain.varTypes depsSound_P).any (depsSound_P.loopsFrom ·)) = true := by kernel_rfl
set_option maxRecDepth 100000 in
theorem depsSound_k17 : (Rows.depsSoundRow.wideKeys == (Tryz.f3.params.toList ++ Rows.depsSoundSpec.plain.varTypes depsSound_P ++ Tryz.f3.resultTypes.toList).any (depsSound_P.wideKeysFrom ·)) = true := by kernel_rfl
set_option maxRecDepth 100000 in
theorem depsSound_k18 : Rows.depsSoundSpec.vars.all (depsSound_P.varReadable ·) = true := by kernel_rfl
set_option maxRecDepth 100000 in
theorem depsSound_k19 : Tryz.f3.resultTypes.all (fun t => depsSound_P.readableRec t && decide (t < depsSound_P.types.size)) = true := by kernel_rfl
set_option maxRecDepth 100000 in
theorem depsSound_k20 : (Rows.depsSoundRow.ifacesOut == Tryz.f3.resultTypes.toList.any (depsSound_P.ifacesRec ·)) = true := by kernel_rfl
set_option maxRecDepth 100000 in
theorem depsSound_k21 : (Rows.depsSoundRow.loopsOut == Tryz.f3.resultTypes.toList.any (depsSound_P.loopsFrom ·)) = true := by kernel_rfl
set_option maxRecDepth 100000 in
theorem depsSound_k22 : (Rows.depsSoundRow.plainKeys == depsSound_P.plainKeys) = true := by kernel_rfl
set_option maxRecDepth 100000 in
theorem depsSound_k23 : Rows.depsSoundRow.shortTexts.isNone = true := by kernel_rfl
set_option maxRecDepth 100000 in
theorem depsSound_k24 : depsSound_P.stopsHeard = true := by kernel_rfl
set_option maxRecDepth 100000 in
theorem depsSound_k25 : depsSound_P.mayEnter = true := by kernel_rfl
set_option maxRecDepth 100000 in
theorem depsSound_k26 : (Rows.depsSoundRow.lifted == depsSound_P.liftsFinal) = true := by kernel_rfl
set_option maxRecDepth 100000 in
theorem depsSound_k27 : (depsSound_P.make == some Rows.depsSoundRow.make) = true := by kernel_rfl
set_option maxRecDepth 100000 in
theorem depsSound_k28 : (Rows.depsSoundRow.kinds == (if Rows.depsSoundRow.domain.isEmpty then [] else Tryz.f3.params.toList.map fun t => match depsSound_P.underlying t with | some (.int k) => some k | _ => none)) = true := by kernel_rfl
set_option maxRecDepth 100000 in
theorem depsSound_k29 : (Rows.depsSoundRow.pinned == Rows.depsSoundRow.pinnedBy) = true := by kernel_rfl
set_option maxRecDepth 100000 in
theorem depsSound_k30 : (Rows.depsSoundRow.veiled == (Tryz.f3.params.toList ++ Rows.depsSoundSpec.plain.varTypes depsSound_P ++ Tryz.f3.resultTypes.toList).any (depsSound_P.veiledRec ·)) = true := by kernel_rfl
set_option maxRecDepth 100000 in
theorem depsSound_k31 : Rows.depsSoundRow.veiledFits depsSound_P Tryz.f3.params.toList (Tryz.f3.params.toList ++ Rows.depsSoundSpec.plain.varTypes depsSound_P ++ Tryz.f3.resultTypes.toList) = true := by kernel_rfl
theorem joinedFacts_parts {P : Program} {f : FuncId} {fn : Func} {s : ChangeSpec} {c : OpenClaim} (h0 : c.wf (OpenSpec.ofChange s) = true) (h1 : laidOutB P = true) (h2 : mapsRowed P = true) (h3 : fn.params.all (P.readableRec ·) = true) (h4 : namedTie P c.named s.vars = true) (h5 : (c.stops == []) = true) (h6 : (P.stops == []) = true) (h7 : (c.knobs == []) = true) (h8 : (P.stopKnobs == []) = true) (h9 : (c.inPlace == P.inPlace f) = true) (h10 : (c.unfollowed == P.unfollowed f) = true) (h11 : (c.recurses == P.recurses f) = true) (h12 : (c.named == P.varsNamed f) = true) (h13 : (c.maps == (fn.params.toList ++ s.plain.varTypes P).any (P.mapsRec ·)) = true) (h14 : (c.ifaces == (fn.params.toList ++ s.plain.varTypes P).any (P.ifacesRec ·)) = true) (h15 : (c.mapsOut == P.mapsAmong fn.resultTypes.toList) = true) (h16 : (c.loops == (fn.params.toList ++ s.plain.varTypes P).any (P.loopsFrom ·)) = true) (h17 : (c.wideKeys == (fn.params.toList ++ s.plain.varTypes P ++ fn.resultTypes.toList).any (P.wideKeysFrom ·)) = true) (h18 : s.vars.all (P.varReadable ·) = true) (h19 : fn.resultTypes.all (fun t => P.readableRec t && decide (t < P.types.size)) = true) (h20 : (c.ifacesOut == fn.resultTypes.toList.any (P.ifacesRec ·)) = true) (h21 : (c.loopsOut == fn.resultTypes.toList.any (P.loopsFrom ·)) = true) (h22 : (c.plainKeys == P.plainKeys) = true) (h23 : c.shortTexts.isNone = true) (h24 : P.stopsHeard = true) (h25 : P.mayEnter = true) (h26 : (c.lifted == P.liftsFinal) = true) (h27 : (P.make == some c.make) = true) (h28 : (c.kinds == (if c.domain.isEmpty then [] else fn.params.toList.map fun t => match P.underlying t with | some (.int k) => some k | _ => none)) = true) (h29 : (c.pinned == c.pinnedBy) = true) (h30 : (c.veiled == (fn.params.toList ++ s.plain.varTypes P ++ fn.resultTypes.toList).any (P.veiledRec ·)) = true) (h31 : c.veiledFits P fn.params.toList (fn.params.toList ++ s.plain.varTypes P ++ fn.resultTypes.toList) = true) : joinedFacts P f fn s c = true := by
 unfold joinedFacts
 repeat (rw [Bool.and_eq_true])
 exact ⟨⟨⟨⟨⟨⟨⟨⟨⟨⟨⟨⟨⟨⟨⟨⟨⟨⟨⟨⟨⟨⟨⟨⟨⟨⟨⟨⟨⟨⟨⟨h0, h1⟩, h2⟩, h3⟩, h4⟩, h5⟩, h6⟩, h7⟩, h8⟩, h9⟩, h10⟩, h11⟩, h12⟩, h13⟩, h14⟩, h15⟩, h16⟩, h17⟩, h18⟩, h19⟩, h20⟩, h21⟩, h22⟩, h23⟩, h24⟩, h25⟩, h26⟩, h27⟩, h28⟩, h29⟩, h30⟩, h31⟩
set_option maxRecDepth 100000 in
theorem depsSound_joined : joinedFacts depsSound_P 3 Tryz.f3 Rows.depsSoundSpec Rows.depsSoundRow = true :=
 joinedFacts_parts depsSound_k0 depsSound_k1 depsSound_k2 depsSound_k3 depsSound_k4 depsSound_k5 depsSound_k6 depsSound_k7 depsSound_k8 depsSound_k9 depsSound_k10 depsSound_k11 depsSound_k12 depsSound_k13 depsSound_k14 depsSound_k15 depsSound_k16 depsSound_k17 depsSound_k18 depsSound_k19 depsSound_k20 depsSound_k21 depsSound_k22 depsSound_k23 depsSound_k24 depsSound_k25 depsSound_k26 depsSound_k27 depsSound_k28 depsSound_k29 depsSound_k30 depsSound_k31
set_option maxRecDepth 100000 in
theorem depsSound_named : Tryz.pinned.checked.prog.funcNamed Rows.depsSoundRow.func = some 3 := by kernel_rfl
set_option maxRecDepth 100000 in
theorem depsSound_instance : Tryz.f3.isInstance Tryz.pinned.checked.prog Rows.depsSoundRow.origin Rows.depsSoundRow.targs := of_decide_eq_true (by kernel_rfl)
set_option maxRecDepth 100000 in
theorem depsSound_wrapper : Tryz.f3.isWrapper Tryz.pinned.checked.prog Rows.depsSoundRow.wrapper Rows.depsSoundRow.mainSum := by unfold Func.isWrapper; first | (rw [if_pos (by decide +kernel)]; kernel_rfl) | (rw [if_neg (by decide +kernel)]; exact ⟨rfl, rfl⟩)
end Go.Proofs.YtplpnfjccemdnaaGreatDoor
