import Derived.Test.YtcknpohghmkbmaaGreatDoorK30
set_option linter.unusedVariables false
set_option linter.unusedSimpArgs false
/- The texts RFactLocal of the proof, laid one behind the other. -/
namespace Go.Proofs.YtcknpohghmkbmaaGreatDoor
open Go.ChangeShapes Go.WideShapes Go.ChangeAt Go.ChangeMaps Go.RowKit Go.Joins
noncomputable abbrev depsLocal_P : Program := Tryz.pinned.checked.prog
set_option maxRecDepth 100000 in
theorem depsLocal_k0 : Rows.depsLocalRow.wf (OpenSpec.ofChange Rows.depsLocalSpec) = true := by kernel_rfl
set_option maxRecDepth 100000 in
theorem depsLocal_k1 : laidOutB depsLocal_P = true := by kernel_rfl
set_option maxRecDepth 100000 in
theorem depsLocal_k2 : mapsRowed depsLocal_P = true := by kernel_rfl
set_option maxRecDepth 100000 in
theorem depsLocal_k3 : Tryz.f3.params.all (depsLocal_P.readableRec ·) = true := by kernel_rfl
set_option maxRecDepth 100000 in
theorem depsLocal_k4 : namedTie depsLocal_P Rows.depsLocalRow.named Rows.depsLocalSpec.vars = true := by kernel_rfl
set_option maxRecDepth 100000 in
theorem depsLocal_k5 : (Rows.depsLocalRow.stops == []) = true := by kernel_rfl
set_option maxRecDepth 100000 in
theorem depsLocal_k6 : (depsLocal_P.stops == []) = true := by kernel_rfl
set_option maxRecDepth 100000 in
theorem depsLocal_k7 : (Rows.depsLocalRow.knobs == []) = true := by kernel_rfl
set_option maxRecDepth 100000 in
theorem depsLocal_k8 : (depsLocal_P.stopKnobs == []) = true := by kernel_rfl
set_option maxRecDepth 100000 in
theorem depsLocal_k9 : (Rows.depsLocalRow.inPlace == depsLocal_P.inPlace 3) = true := by kernel_rfl
set_option maxRecDepth 100000 in
theorem depsLocal_k10 : (Rows.depsLocalRow.unfollowed == depsLocal_P.unfollowed 3) = true := by kernel_rfl
set_option maxRecDepth 100000 in
theorem depsLocal_k11 : (Rows.depsLocalRow.recurses == depsLocal_P.recurses 3) = true := by kernel_rfl
set_option maxRecDepth 100000 in
theorem depsLocal_k12 : (Rows.depsLocalRow.named == depsLocal_P.varsNamed 3) = true := by kernel_rfl
set_option maxRecDepth 100000 in
theorem depsLocal_k13 : (Rows.depsLocalRow.maps == (Tryz.f3.params.toList ++ Rows.depsLocalSpec.plain.varTypes depsLocal_P).any (depsLocal_P.mapsRec ·)) = true := by kernel_rfl
set_option maxRecDepth 100000 in
theorem depsLocal_k14 : (Rows.depsLocalRow.ifaces == (Tryz.f3.params.toList ++ Rows.depsLocalSpec.plain.varTypes depsLocal_P).any (depsLocal_P.ifacesRec ·)) = true := by kernel_rfl
set_option maxRecDepth 100000 in
theorem depsLocal_k15 : (Rows.depsLocalRow.mapsOut == depsLocal_P.mapsAmong Tryz.f3.resultTypes.toList) = true := by kernel_rfl
set_option maxRecDepth 100000 in
theorem depsLocal_k16 : (Rows.depsLocalRow.loops == (Tryz.f3.params.toList ++ Rows.depsLocalSpec.plain.varTypes depsLocal_P).any (depsLocal_P.loopsFrom ·)) = true := by kernel_rfl
set_option maxRecDepth 100000 in
theorem depsLocal_k17 : (Rows.depsLocalRow.wideKeys == (Tryz.f3.params.toList ++ Rows.depsLocalSpec.plain.varTypes depsLocal_P ++ Tryz.f3.resultTypes.toList).any (depsLocal_P.wideKeysFrom ·)) = true := by kernel_rfl
set_option maxRecDepth 100000 in
theorem depsLocal_k18 : Rows.depsLocalSpec.vars.all (depsLocal_P.varReadable ·) = true := by kernel_rfl
set_option maxRecDepth 100000 in
theorem depsLocal_k19 : Tryz.f3.resultTypes.all (fun t => depsLocal_P.readableRec t && decide (t < depsLocal_P.types.size)) = true := by kernel_rfl
set_option maxRecDepth 100000 in
theorem depsLocal_k20 : (Rows.depsLocalRow.ifacesOut == Tryz.f3.resultTypes.toList.any (depsLocal_P.ifacesRec ·)) = true := by kernel_rfl
set_option maxRecDepth 100000 in
theorem depsLocal_k21 : (Rows.depsLocalRow.loopsOut == Tryz.f3.resultTypes.toList.any (depsLocal_P.loopsFrom ·)) = true := by kernel_rfl
set_option maxRecDepth 100000 in
theorem depsLocal_k22 : (Rows.depsLocalRow.plainKeys == depsLocal_P.plainKeys) = true := by kernel_rfl
set_option maxRecDepth 100000 in
theorem depsLocal_k23 : Rows.depsLocalRow.shortTexts.isNone = true := by kernel_rfl
set_option maxRecDepth 100000 in
theorem depsLocal_k24 : depsLocal_P.stopsHeard = true := by kernel_rfl
set_option maxRecDepth 100000 in
theorem depsLocal_k25 : depsLocal_P.mayEnter = true := by kernel_rfl
set_option maxRecDepth 100000 in
theorem depsLocal_k26 : (Rows.depsLocalRow.lifted == depsLocal_P.liftsFinal) = true := by kernel_rfl
set_option maxRecDepth 100000 in
theorem depsLocal_k27 : (depsLocal_P.make == some Rows.depsLocalRow.make) = true := by kernel_rfl
set_option maxRecDepth 100000 in
theorem depsLocal_k28 : (Rows.depsLocalRow.kinds == (if Rows.depsLocalRow.domain.isEmpty then [] else Tryz.f3.params.toList.map fun t => match depsLocal_P.underlying t with | some (.int k) => some k | _ => none)) = true := by kernel_rfl
set_option maxRecDepth 100000 in
theorem depsLocal_k29 : (Rows.depsLocalRow.pinned == Rows.depsLocalRow.pinnedBy) = true := by kernel_rfl
set_option maxRecDepth 100000 in
theorem depsLocal_k30 : (Rows.depsLocalRow.veiled == (Tryz.f3.params.toList ++ Rows.depsLocalSpec.plain.varTypes depsLocal_P ++ Tryz.f3.resultTypes.toList).any (depsLocal_P.veiledRec ·)) = true := by kernel_rfl
set_option maxRecDepth 100000 in
theorem depsLocal_k31 : Rows.depsLocalRow.veiledFits depsLocal_P Tryz.f3.params.toList (Tryz.f3.params.toList ++ Rows.depsLocalSpec.plain.varTypes depsLocal_P ++ Tryz.f3.resultTypes.toList) = true := by kernel_rfl
theorem joinedFacts_parts {P : Program} {f : FuncId} {fn : Func} {s : ChangeSpec} {c : OpenClaim} (h0 : c.wf (OpenSpec.ofChange s) = true) (h1 : laidOutB P = true) (h2 : mapsRowed P = true) (h3 : fn.params.all (P.readableRec ·) = true) (h4 : namedTie P c.named s.vars = true) (h5 : (c.stops == []) = true) (h6 : (P.stops == []) = true) (h7 : (c.knobs == []) = true) (h8 : (P.stopKnobs == []) = true) (h9 : (c.inPlace == P.inPlace f) = true) (h10 : (c.unfollowed == P.unfollowed f) = true) (h11 : (c.recurses == P.recurses f) = true) (h12 : (c.named == P.varsNamed f) = true) (h13 : (c.maps == (fn.params.toList ++ s.plain.varTypes P).any (P.mapsRec ·)) = true) (h14 : (c.ifaces == (fn.params.toList ++ s.plain.varTypes P).any (P.ifacesRec ·)) = true) (h15 : (c.mapsOut == P.mapsAmong fn.resultTypes.toList) = true) (h16 : (c.loops == (fn.params.toList ++ s.plain.varTypes P).any (P.loopsFrom ·)) = true) (h17 : (c.wideKeys == (fn.params.toList ++ s.plain.varTypes P ++ fn.resultTypes.toList).any (P.wideKeysFrom ·)) = true) (h18 : s.vars.all (P.varReadable ·) = true) (h19 : fn.resultTypes.all (fun t => P.readableRec t && decide (t < P.types.size)) = true) (h20 : (c.ifacesOut == fn.resultTypes.toList.any (P.ifacesRec ·)) = true) (h21 : (c.loopsOut == fn.resultTypes.toList.any (P.loopsFrom ·)) = true) (h22 : (c.plainKeys == P.plainKeys) = true) (h23 : c.shortTexts.isNone = true) (h24 : P.stopsHeard = true) (h25 : P.mayEnter = true) (h26 : (c.lifted == P.liftsFinal) = true) (h27 : (P.make == some c.make) = true) (h28 : (c.kinds == (if c.domain.isEmpty then [] else fn.params.toList.map fun t => match P.underlying t with | some (.int k) => some k | _ => none)) = true) (h29 : (c.pinned == c.pinnedBy) = true) (h30 : (c.veiled == (fn.params.toList ++ s.plain.varTypes P ++ fn.resultTypes.toList).any (P.veiledRec ·)) = true) (h31 : c.veiledFits P fn.params.toList (fn.params.toList ++ s.plain.varTypes P ++ fn.resultTypes.toList) = true) : joinedFacts P f fn s c = true := by
 unfold joinedFacts
 repeat (rw [Bool.and_eq_true])
 exact ⟨⟨⟨⟨⟨⟨⟨⟨⟨⟨⟨⟨⟨⟨⟨⟨⟨⟨⟨⟨⟨⟨⟨⟨⟨⟨⟨⟨⟨⟨⟨h0, h1⟩, h2⟩, h3⟩, h4⟩, h5⟩, h6⟩, h7⟩, h8⟩, h9⟩, h10⟩, h11⟩, h12⟩, h13⟩, h14⟩, h15⟩, h16⟩, h17⟩, h18⟩, h19⟩, h20⟩, h21⟩, h22⟩, h23⟩, h24⟩, h25⟩, h26⟩, h27⟩, h28⟩, h29⟩, h30⟩, h31⟩
set_option maxRecDepth 100000 in
theorem depsLocal_joined : joinedFacts depsLocal_P 3 Tryz.f3 Rows.depsLocalSpec Rows.depsLocalRow = true :=
 joinedFacts_parts depsLocal_k0 depsLocal_k1 depsLocal_k2 depsLocal_k3 depsLocal_k4 depsLocal_k5 depsLocal_k6 depsLocal_k7 depsLocal_k8 depsLocal_k9 depsLocal_k10 depsLocal_k11 depsLocal_k12 depsLocal_k13 depsLocal_k14 depsLocal_k15 depsLocal_k16 depsLocal_k17 depsLocal_k18 depsLocal_k19 depsLocal_k20 depsLocal_k21 depsLocal_k22 depsLocal_k23 depsLocal_k24 depsLocal_k25 depsLocal_k26 depsLocal_k27 depsLocal_k28 depsLocal_k29 depsLocal_k30 depsLocal_k31
set_option maxRecDepth 100000 in
theorem depsLocal_named : Tryz.pinned.checked.prog.funcNamed Rows.depsLocalRow.func = some 3 := by kernel_rfl
set_option maxRecDepth 100000 in
theorem depsLocal_instance : Tryz.f3.isInstance Tryz.pinned.checked.prog Rows.depsLocalRow.origin Rows.depsLocalRow.targs := of_decide_eq_true (by kernel_rfl)
set_option maxRecDepth 100000 in
theorem depsLocal_wrapper : Tryz.f3.isWrapper Tryz.pinned.checked.prog Rows.depsLocalRow.wrapper Rows.depsLocalRow.mainSum := by unfold Func.isWrapper; first | (rw [if_pos (by decide +kernel)]; kernel_rfl) | (rw [if_neg (by decide +kernel)]; exact ⟨rfl, rfl⟩)
end Go.Proofs.YtcknpohghmkbmaaGreatDoor
