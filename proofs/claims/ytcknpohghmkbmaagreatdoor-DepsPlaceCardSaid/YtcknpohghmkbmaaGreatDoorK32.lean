import Derived.Test.YtcknpohghmkbmaaGreatDoorK28
set_option linter.unusedVariables false
set_option linter.unusedSimpArgs false
/- The texts RFactPlace of the proof, laid one behind the other. -/
namespace Go.Proofs.YtcknpohghmkbmaaGreatDoor
open Go.ChangeShapes Go.WideShapes Go.ChangeAt Go.ChangeMaps Go.RowKit Go.Joins
noncomputable abbrev depsPlace_P : Program := Tryz.pinned.checked.prog
set_option maxRecDepth 100000 in
theorem depsPlace_k0 : Rows.depsPlaceRow.wf (OpenSpec.ofChange Rows.depsPlaceSpec) = true := by kernel_rfl
set_option maxRecDepth 100000 in
theorem depsPlace_k1 : laidOutB depsPlace_P = true := by kernel_rfl
set_option maxRecDepth 100000 in
theorem depsPlace_k2 : mapsRowed depsPlace_P = true := by kernel_rfl
set_option maxRecDepth 100000 in
theorem depsPlace_k3 : Tryz.f5.params.all (depsPlace_P.readableRec ·) = true := by kernel_rfl
set_option maxRecDepth 100000 in
theorem depsPlace_k4 : namedTie depsPlace_P Rows.depsPlaceRow.named Rows.depsPlaceSpec.vars = true := by kernel_rfl
set_option maxRecDepth 100000 in
theorem depsPlace_k5 : (Rows.depsPlaceRow.stops == []) = true := by kernel_rfl
set_option maxRecDepth 100000 in
theorem depsPlace_k6 : (depsPlace_P.stops == []) = true := by kernel_rfl
set_option maxRecDepth 100000 in
theorem depsPlace_k7 : (Rows.depsPlaceRow.knobs == []) = true := by kernel_rfl
set_option maxRecDepth 100000 in
theorem depsPlace_k8 : (depsPlace_P.stopKnobs == []) = true := by kernel_rfl
set_option maxRecDepth 100000 in
theorem depsPlace_k9 : (Rows.depsPlaceRow.inPlace == depsPlace_P.inPlace 5) = true := by kernel_rfl
set_option maxRecDepth 100000 in
theorem depsPlace_k10 : (Rows.depsPlaceRow.unfollowed == depsPlace_P.unfollowed 5) = true := by kernel_rfl
set_option maxRecDepth 100000 in
theorem depsPlace_k11 : (Rows.depsPlaceRow.recurses == depsPlace_P.recurses 5) = true := by kernel_rfl
set_option maxRecDepth 100000 in
theorem depsPlace_k12 : (Rows.depsPlaceRow.named == depsPlace_P.varsNamed 5) = true := by kernel_rfl
set_option maxRecDepth 100000 in
theorem depsPlace_k13 : (Rows.depsPlaceRow.maps == (Tryz.f5.params.toList ++ Rows.depsPlaceSpec.plain.varTypes depsPlace_P).any (depsPlace_P.mapsRec ·)) = true := by kernel_rfl
set_option maxRecDepth 100000 in
theorem depsPlace_k14 : (Rows.depsPlaceRow.ifaces == (Tryz.f5.params.toList ++ Rows.depsPlaceSpec.plain.varTypes depsPlace_P).any (depsPlace_P.ifacesRec ·)) = true := by kernel_rfl
set_option maxRecDepth 100000 in
theorem depsPlace_k15 : (Rows.depsPlaceRow.mapsOut == depsPlace_P.mapsAmong Tryz.f5.resultTypes.toList) = true := by kernel_rfl
set_option maxRecDepth 100000 in
theorem depsPlace_k16 : (Rows.depsPlaceRow.loops == (Tryz.f5.params.toList ++ Rows.depsPlaceSpec.plain.varTypes depsPlace_P).any (depsPlace_P.loopsFrom ·)) = true := by kernel_rfl
set_option maxRecDepth 100000 in
theorem depsPlace_k17 : (Rows.depsPlaceRow.wideKeys == (Tryz.f5.params.toList ++ Rows.depsPlaceSpec.plain.varTypes depsPlace_P ++ Tryz.f5.resultTypes.toList).any (depsPlace_P.wideKeysFrom ·)) = true := by kernel_rfl
set_option maxRecDepth 100000 in
theorem depsPlace_k18 : Rows.depsPlaceSpec.vars.all (depsPlace_P.varReadable ·) = true := by kernel_rfl
set_option maxRecDepth 100000 in
theorem depsPlace_k19 : Tryz.f5.resultTypes.all (fun t => depsPlace_P.readableRec t && decide (t < depsPlace_P.types.size)) = true := by kernel_rfl
set_option maxRecDepth 100000 in
theorem depsPlace_k20 : (Rows.depsPlaceRow.ifacesOut == Tryz.f5.resultTypes.toList.any (depsPlace_P.ifacesRec ·)) = true := by kernel_rfl
set_option maxRecDepth 100000 in
theorem depsPlace_k21 : (Rows.depsPlaceRow.loopsOut == Tryz.f5.resultTypes.toList.any (depsPlace_P.loopsFrom ·)) = true := by kernel_rfl
set_option maxRecDepth 100000 in
theorem depsPlace_k22 : (Rows.depsPlaceRow.plainKeys == depsPlace_P.plainKeys) = true := by kernel_rfl
set_option maxRecDepth 100000 in
theorem depsPlace_k23 : Rows.depsPlaceRow.shortTexts.isNone = true := by kernel_rfl
set_option maxRecDepth 100000 in
theorem depsPlace_k24 : depsPlace_P.stopsHeard = true := by kernel_rfl
set_option maxRecDepth 100000 in
theorem depsPlace_k25 : depsPlace_P.mayEnter = true := by kernel_rfl
set_option maxRecDepth 100000 in
theorem depsPlace_k26 : (Rows.depsPlaceRow.lifted == depsPlace_P.liftsFinal) = true := by kernel_rfl
set_option maxRecDepth 100000 in
theorem depsPlace_k27 : (depsPlace_P.make == some Rows.depsPlaceRow.make) = true := by kernel_rfl
set_option maxRecDepth 100000 in
theorem depsPlace_k28 : (Rows.depsPlaceRow.kinds == (if Rows.depsPlaceRow.domain.isEmpty then [] else Tryz.f5.params.toList.map fun t => match depsPlace_P.underlying t with | some (.int k) => some k | _ => none)) = true := by kernel_rfl
set_option maxRecDepth 100000 in
theorem depsPlace_k29 : (Rows.depsPlaceRow.pinned == Rows.depsPlaceRow.pinnedBy) = true := by kernel_rfl
set_option maxRecDepth 100000 in
theorem depsPlace_k30 : (Rows.depsPlaceRow.veiled == (Tryz.f5.params.toList ++ Rows.depsPlaceSpec.plain.varTypes depsPlace_P ++ Tryz.f5.resultTypes.toList).any (depsPlace_P.veiledRec ·)) = true := by kernel_rfl
set_option maxRecDepth 100000 in
theorem depsPlace_k31 : Rows.depsPlaceRow.veiledFits depsPlace_P Tryz.f5.params.toList (Tryz.f5.params.toList ++ Rows.depsPlaceSpec.plain.varTypes depsPlace_P ++ Tryz.f5.resultTypes.toList) = true := by kernel_rfl
theorem joinedFacts_parts {P : Program} {f : FuncId} {fn : Func} {s : ChangeSpec} {c : OpenClaim} (h0 : c.wf (OpenSpec.ofChange s) = true) (h1 : laidOutB P = true) (h2 : mapsRowed P = true) (h3 : fn.params.all (P.readableRec ·) = true) (h4 : namedTie P c.named s.vars = true) (h5 : (c.stops == []) = true) (h6 : (P.stops == []) = true) (h7 : (c.knobs == []) = true) (h8 : (P.stopKnobs == []) = true) (h9 : (c.inPlace == P.inPlace f) = true) (h10 : (c.unfollowed == P.unfollowed f) = true) (h11 : (c.recurses == P.recurses f) = true) (h12 : (c.named == P.varsNamed f) = true) (h13 : (c.maps == (fn.params.toList ++ s.plain.varTypes P).any (P.mapsRec ·)) = true) (h14 : (c.ifaces == (fn.params.toList ++ s.plain.varTypes P).any (P.ifacesRec ·)) = true) (h15 : (c.mapsOut == P.mapsAmong fn.resultTypes.toList) = true) (h16 : (c.loops == (fn.params.toList ++ s.plain.varTypes P).any (P.loopsFrom ·)) = true) (h17 : (c.wideKeys == (fn.params.toList ++ s.plain.varTypes P ++ fn.resultTypes.toList).any (P.wideKeysFrom ·)) = true) (h18 : s.vars.all (P.varReadable ·) = true) (h19 : fn.resultTypes.all (fun t => P.readableRec t && decide (t < P.types.size)) = true) (h20 : (c.ifacesOut == fn.resultTypes.toList.any (P.ifacesRec ·)) = true) (h21 : (c.loopsOut == fn.resultTypes.toList.any (P.loopsFrom ·)) = true) (h22 : (c.plainKeys == P.plainKeys) = true) (h23 : c.shortTexts.isNone = true) (h24 : P.stopsHeard = true) (h25 : P.mayEnter = true) (h26 : (c.lifted == P.liftsFinal) = true) (h27 : (P.make == some c.make) = true) (h28 : (c.kinds == (if c.domain.isEmpty then [] else fn.params.toList.map fun t => match P.underlying t with | some (.int k) => some k | _ => none)) = true) (h29 : (c.pinned == c.pinnedBy) = true) (h30 : (c.veiled == (fn.params.toList ++ s.plain.varTypes P ++ fn.resultTypes.toList).any (P.veiledRec ·)) = true) (h31 : c.veiledFits P fn.params.toList (fn.params.toList ++ s.plain.varTypes P ++ fn.resultTypes.toList) = true) : joinedFacts P f fn s c = true := by
 unfold joinedFacts
 repeat (rw [Bool.and_eq_true])
 exact ⟨⟨⟨⟨⟨⟨⟨⟨⟨⟨⟨⟨⟨⟨⟨⟨⟨⟨⟨⟨⟨⟨⟨⟨⟨⟨⟨⟨⟨⟨⟨h0, h1⟩, h2⟩, h3⟩, h4⟩, h5⟩, h6⟩, h7⟩, h8⟩, h9⟩, h10⟩, h11⟩, h12⟩, h13⟩, h14⟩, h15⟩, h16⟩, h17⟩, h18⟩, h19⟩, h20⟩, h21⟩, h22⟩, h23⟩, h24⟩, h25⟩, h26⟩, h27⟩, h28⟩, h29⟩, h30⟩, h31⟩
set_option maxRecDepth 100000 in
theorem depsPlace_joined : joinedFacts depsPlace_P 5 Tryz.f5 Rows.depsPlaceSpec Rows.depsPlaceRow = true :=
 joinedFacts_parts depsPlace_k0 depsPlace_k1 depsPlace_k2 depsPlace_k3 depsPlace_k4 depsPlace_k5 depsPlace_k6 depsPlace_k7 depsPlace_k8 depsPlace_k9 depsPlace_k10 depsPlace_k11 depsPlace_k12 depsPlace_k13 depsPlace_k14 depsPlace_k15 depsPlace_k16 depsPlace_k17 depsPlace_k18 depsPlace_k19 depsPlace_k20 depsPlace_k21 depsPlace_k22 depsPlace_k23 depsPlace_k24 depsPlace_k25 depsPlace_k26 depsPlace_k27 depsPlace_k28 depsPlace_k29 depsPlace_k30 depsPlace_k31
set_option maxRecDepth 100000 in
theorem depsPlace_named : Tryz.pinned.checked.prog.funcNamed Rows.depsPlaceRow.func = some 5 := by kernel_rfl
set_option maxRecDepth 100000 in
theorem depsPlace_instance : Tryz.f5.isInstance Tryz.pinned.checked.prog Rows.depsPlaceRow.origin Rows.depsPlaceRow.targs := of_decide_eq_true (by kernel_rfl)
set_option maxRecDepth 100000 in
theorem depsPlace_wrapper : Tryz.f5.isWrapper Tryz.pinned.checked.prog Rows.depsPlaceRow.wrapper Rows.depsPlaceRow.mainSum := by unfold Func.isWrapper; first | (rw [if_pos (by decide +kernel)]; kernel_rfl) | (rw [if_neg (by decide +kernel)]; exact ⟨rfl, rfl⟩)
end Go.Proofs.YtcknpohghmkbmaaGreatDoor
