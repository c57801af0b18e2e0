import Derived.Test.YtplpnfjccemdnaaGreatDoorRows
import Derived.Test.YtplpnfjccemdnaaGreatDoorCards
import Derived.Test.YtplpnfjccemdnaaGreatDoorTie
import Derived.ProofKit
import Derived.OpenShut
import Derived.LaidMore
import Derived.Lay
import Derived.SevenTiedAt
import Derived.Stop.Joined
import Derived.Stop.LaidErr
import Derived.Lib.SmallJoins
import Derived.Lib.LaidTab
import Derived.Carry
set_option linter.unusedVariables false
set_option linter.unusedSimpArgs false
/- The texts RFactResends of the proof, laid one behind the other. -/
namespace Go.Proofs.YtplpnfjccemdnaaGreatDoor
open Go.ChangeShapes Go.WideShapes Go.ChangeAt Go.ChangeMaps Go.RowKit Go.Joins
noncomputable abbrev depsResends_P : Program := Tryz.pinned.checked.prog
set_option maxRecDepth 100000 in
theorem depsResends_k0 : Rows.depsResendsRow.wf (OpenSpec.ofChange Rows.depsResendsSpec) = true := by kernel_rfl
set_option maxRecDepth 100000 in
theorem depsResends_k1 : laidOutB depsResends_P = true := by kernel_rfl
set_option maxRecDepth 100000 in
theorem depsResends_k2 : mapsRowed depsResends_P = true := by kernel_rfl
set_option maxRecDepth 100000 in
theorem depsResends_k3 : Tryz.f4.params.all (depsResends_P.readableRec ·) = true := by kernel_rfl
set_option maxRecDepth 100000 in
theorem depsResends_k4 : namedTie depsResends_P Rows.depsResendsRow.named Rows.depsResendsSpec.vars = true := by kernel_rfl
set_option maxRecDepth 100000 in
theorem depsResends_k5 : (Rows.depsResendsRow.stops == []) = true := by kernel_rfl
set_option maxRecDepth 100000 in
theorem depsResends_k6 : (depsResends_P.stops == []) = true := by kernel_rfl
set_option maxRecDepth 100000 in
theorem depsResends_k7 : (Rows.depsResendsRow.knobs == []) = true := by kernel_rfl
set_option maxRecDepth 100000 in
theorem depsResends_k8 : (depsResends_P.stopKnobs == []) = true := by kernel_rfl
set_option maxRecDepth 100000 in
theorem depsResends_k9 : (Rows.depsResendsRow.inPlace == depsResends_P.inPlace 4) = true := by kernel_rfl
set_option maxRecDepth 100000 in
theorem depsResends_k10 : (Rows.depsResendsRow.unfollowed == depsResends_P.unfollowed 4) = true := by kernel_rfl
set_option maxRecDepth 100000 in
theorem depsResends_k11 : (Rows.depsResendsRow.recurses == depsResends_P.recurses 4) = true := by kernel_rfl
set_option maxRecDepth 100000 in
theorem depsResends_k12 : (Rows.depsResendsRow.named == depsResends_P.varsNamed 4) = true := by kernel_rfl
set_option maxRecDepth 100000 in
theorem depsResends_k13 : (Rows.depsResendsRow.maps == (Tryz.f4.params.toList ++ Rows.depsResendsSpec.plain.varTypes depsResends_P).any (depsResends_P.mapsRec ·)) = true := by kernel_rfl
set_option maxRecDepth 100000 in
theorem depsResends_k14 : (Rows.depsResendsRow.ifaces == (Tryz.f4.params.toList ++ Rows.depsResendsSpec.plain.varTypes depsResends_P).any (depsResends_P.ifacesRec ·)) = true := by kernel_rfl
set_option maxRecDepth 100000 in
theorem depsResends_k15 : (Rows.depsResendsRow.mapsOut == depsResends_P.mapsAmong Tryz.f4.resultTypes.toList) = true := by kernel_rfl
set_option maxRecDepth 100000 in
theorem depsResends_k16 : (Rows.depsResendsRow.loops == (Tryz.f4.params.toList ++ Rows.depsResendsSpec.plain.varTypes depsResends_P).any (depsResends_P.loopsFrom ·)) = true := by kernel_rfl
set_option maxRecDepth 100000 in
theorem depsResends_k17 : (Rows.depsResendsRow.wideKeys == (Tryz.f4.params.toList ++ Rows.depsResendsSpec.plain.varTypes depsResends_P ++ Tryz.f4.resultTypes.toList).any (depsResends_P.wideKeysFrom ·)) = true := by kernel_rfl
set_option maxRecDepth 100000 in
theorem depsResends_k18 : Rows.depsResendsSpec.vars.all (depsResends_P.varReadable ·) = true := by kernel_rfl
set_option maxRecDepth 100000 in
theorem depsResends_k19 : Tryz.f4.resultTypes.all (fun t => depsResends_P.readableRec t && decide (t < depsResends_P.types.size)) = true := by kernel_rfl
set_option maxRecDepth 100000 in
theorem depsResends_k20 : (Rows.depsResendsRow.ifacesOut == Tryz.f4.resultTypes.toList.any (depsResends_P.ifacesRec ·)) = true := by kernel_rfl
set_option maxRecDepth 100000 in
theorem depsResends_k21 : (Rows.depsResendsRow.loopsOut == Tryz.f4.resultTypes.toList.any (depsResends_P.loopsFrom ·)) = true := by kernel_rfl
set_option maxRecDepth 100000 in
theorem depsResends_k22 : (Rows.depsResendsRow.plainKeys == depsResends_P.plainKeys) = true := by kernel_rfl
set_option maxRecDepth 100000 in
theorem depsResends_k23 : Rows.depsResendsRow.shortTexts.isNone = true := by kernel_rfl
set_option maxRecDepth 100000 in
theorem depsResends_k24 : depsResends_P.stopsHeard = true := by kernel_rfl
set_option maxRecDepth 100000 in
theorem depsResends_k25 : depsResends_P.mayEnter = true := by kernel_rfl
set_option maxRecDepth 100000 in
theorem depsResends_k26 : (Rows.depsResendsRow.lifted == depsResends_P.liftsFinal) = true := by kernel_rfl
set_option maxRecDepth 100000 in
theorem depsResends_k27 : (depsResends_P.make == some Rows.depsResendsRow.make) = true := by kernel_rfl
set_option maxRecDepth 100000 in
theorem depsResends_k28 : (Rows.depsResendsRow.kinds == (if Rows.depsResendsRow.domain.isEmpty then [] else Tryz.f4.params.toList.map fun t => match depsResends_P.underlying t with | some (.int k) => some k | _ => none)) = true := by kernel_rfl
set_option maxRecDepth 100000 in
theorem depsResends_k29 : (Rows.depsResendsRow.pinned == Rows.depsResendsRow.pinnedBy) = true := by kernel_rfl
set_option maxRecDepth 100000 in
theorem depsResends_k30 : (Rows.depsResendsRow.veiled == (Tryz.f4.params.toList ++ Rows.depsResendsSpec.plain.varTypes depsResends_P ++ Tryz.f4.resultTypes.toList).any (depsResends_P.veiledRec ·)) = true := by kernel_rfl
set_option maxRecDepth 100000 in
theorem depsResends_k31 : Rows.depsResendsRow.veiledFits depsResends_P Tryz.f4.params.toList (Tryz.f4.params.toList ++ Rows.depsResendsSpec.plain.varTypes depsResends_P ++ Tryz.f4.resultTypes.toList) = true := by kernel_rfl
theorem joinedFacts_parts {P : Program} {f : FuncId} {fn : Func} {s : ChangeSpec} {c : OpenClaim} (h0 : c.wf (OpenSpec.ofChange s) = true) (h1 : laidOutB P = true) (h2 : mapsRowed P = true) (h3 : fn.params.all (P.readableRec ·) = true) (h4 : namedTie P c.named s.vars = true) (h5 : (c.stops == []) = true) (h6 : (P.stops == []) = true) (h7 : (c.knobs == []) = true) (h8 : (P.stopKnobs == []) = true) (h9 : (c.inPlace == P.inPlace f) = true) (h10 : (c.unfollowed == P.unfollowed f) = true) (h11 : (c.recurses == P.recurses f) = true) (h12 : (c.named == P.varsNamed f) = true) (h13 : (c.maps == (fn.params.toList ++ s.plain.varTypes P).any (P.mapsRec ·)) = true) (h14 : (c.ifaces == (fn.params.toList ++ s.plain.varTypes P).any (P.ifacesRec ·)) = true) (h15 : (c.mapsOut == P.mapsAmong fn.resultTypes.toList) = true) (h16 : (c.loops == (fn.params.toList ++ s.plain.varTypes P).any (P.loopsFrom ·)) = true) (h17 : (c.wideKeys == (fn.params.toList ++ s.plain.varTypes P ++ fn.resultTypes.toList).any (P.wideKeysFrom ·)) = true) (h18 : s.vars.all (P.varReadable ·) = true) (h19 : fn.resultTypes.all (fun t => P.readableRec t && decide (t < P.types.size)) = true) (h20 : (c.ifacesOut == fn.resultTypes.toList.any (P.ifacesRec ·)) = true) (h21 : (c.loopsOut == fn.resultTypes.toList.any (P.loopsFrom ·)) = true) (h22 : (c.plainKeys == P.plainKeys) = true) (h23 : c.shortTexts.isNone = true) (h24 : P.stopsHeard = true) (h25 : P.mayEnter = true) (h26 : (c.lifted == P.liftsFinal) = true) (h27 : (P.make == some c.make) = true) (h28 : (c.kinds == (if c.domain.isEmpty then [] else fn.params.toList.map fun t => match P.underlying t with | some (.int k) => some k | _ => none)) = true) (h29 : (c.pinned == c.pinnedBy) = true) (h30 : (c.veiled == (fn.params.toList ++ s.plain.varTypes P ++ fn.resultTypes.toList).any (P.veiledRec ·)) = true) (h31 : c.veiledFits P fn.params.toList (fn.params.toList ++ s.plain.varTypes P ++ fn.resultTypes.toList) = true) : joinedFacts P f fn s c = true := by
 unfold joinedFacts
 repeat (rw [Bool.and_eq_true])
 exact ⟨⟨⟨⟨⟨⟨⟨⟨⟨⟨⟨⟨⟨⟨⟨⟨⟨⟨⟨⟨⟨⟨⟨⟨⟨⟨⟨⟨⟨⟨⟨h0, h1⟩, h2⟩, h3⟩, h4⟩, h5⟩, h6⟩, h7⟩, h8⟩, h9⟩, h10⟩, h11⟩, h12⟩, h13⟩, h14⟩, h15⟩, h16⟩, h17⟩, h18⟩, h19⟩, h20⟩, h21⟩, h22⟩, h23⟩, h24⟩, h25⟩, h26⟩, h27⟩, h28⟩, h29⟩, h30⟩, h31⟩
set_option maxRecDepth 100000 in
theorem depsResends_joined : joinedFacts depsResends_P 4 Tryz.f4 Rows.depsResendsSpec Rows.depsResendsRow = true :=
 joinedFacts_parts depsResends_k0 depsResends_k1 depsResends_k2 depsResends_k3 depsResends_k4 depsResends_k5 depsResends_k6 depsResends_k7 depsResends_k8 depsResends_k9 depsResends_k10 depsResends_k11 depsResends_k12 depsResends_k13 depsResends_k14 depsResends_k15 depsResends_k16 depsResends_k17 depsResends_k18 depsResends_k19 depsResends_k20 depsResends_k21 depsResends_k22 depsResends_k23 depsResends_k24 depsResends_k25 depsResends_k26 depsResends_k27 depsResends_k28 depsResends_k29 depsResends_k30 depsResends_k31
set_option maxRecDepth 100000 in
theorem depsResends_named : Tryz.pinned.checked.prog.funcNamed Rows.depsResendsRow.func = some 4 := by kernel_rfl
set_option maxRecDepth 100000 in
theorem depsResends_instance : Tryz.f4.isInstance Tryz.pinned.checked.prog Rows.depsResendsRow.origin Rows.depsResendsRow.targs := of_decide_eq_true (by kernel_rfl)
set_option maxRecDepth 100000 in
theorem depsResends_wrapper : Tryz.f4.isWrapper Tryz.pinned.checked.prog Rows.depsResendsRow.wrapper Rows.depsResendsRow.mainSum := by unfold Func.isWrapper; first | (rw [if_pos (by decide +kernel)]; kernel_rfl) | (rw [if_neg (by decide +kernel)]; exact ⟨rfl, rfl⟩)
end Go.Proofs.YtplpnfjccemdnaaGreatDoor
