import Derived.Test.YtcknpohghmkbmaaGreatDoorK28
import Derived.Test.YtcknpohghmkbmaaGreatDoorK31
import Derived.Test.YtcknpohghmkbmaaGreatDoorK32
set_option linter.unusedVariables false
set_option linter.unusedSimpArgs false
/- The texts RDepsPlace of the proof, laid one behind the other. -/
namespace Go.Proofs.YtcknpohghmkbmaaGreatDoor
open Go.ChangeShapes Go.WideShapes Go.ChangeAt Go.ChangeMaps Go.RowKit Go.Joins
theorem depsPlace_all (w : Wd) (maps : List Mp) (y : Ty) (sel : List UInt8) (ch : Ch) (bw : w.B) (bm : maps.length <= Big47 /\ ∀ m ∈ maps, m.B) (by' : y.B) (bs : sel.length <= Big47) (bc : ch.B) :
  Spec Tryz.prog 5 [.agg w.pv, row 2 Mp.pv maps, .agg y.pv, S sel, .agg ch.pv] (.sb true) :=
 DepsPlace_spec w maps y sel ch (bulk_of bw) (ok_of_small bw) bw.2.2.2.1 bm.1 (fun m h => (bm.2 m h).2.1.1)
  ⟨fun m h s hs => ((bm.2 m h).2.1.2 s hs).2.2.1.2.1, fun z hz => by rw [List.mem_singleton] at hz; subst hz; exact by'.2.2.1.2.1⟩
  (fun o ho s hs => ((bw.1.2 o ho).2.2.1.2 s hs).1) (fun m hm s hs => ((bm.2 m hm).2.1.2 s hs).1) bc.2.2.2.1.2.2.1.2.1 bc.2.2.2.1.1
set_option maxRecDepth 100000 in
theorem depsPlace_lifted (os : Os) (started : os.Started) (H : Type) (enc : TypeId × Value -> H) :
  ReturnsInHanded {} Tryz.checked os 5 .any (fun w args => (Rows.depsPlaceSpec.pre enc Tryz.prog Tryz.f5 [] false w args /\ laidMetH Tryz.prog seatLaid w) /\ sizedMet enc Tryz.prog Tryz.f5 (OpenSpec.ofChange Rows.depsPlaceSpec) false w args)
   (Rows.depsPlaceSpec.post enc Tryz.prog Tryz.f5 false true false false) := by
 refine returnsInHanded_of_change_and (C := Tryz.checked) (X := fun w _ => laidMetH Tryz.prog seatLaid w) (fun _ _ _ hh h => h.of_heap hh) own started (by kernel_rfl) Tryz.func5
  (ChangeSpec.witness_shaped (enc := enc) (C := Tryz.checked) (os := os) (X := fun w _ => laidMetH Tryz.prog seatLaid w) false (World.laidAll Tryz.prog os seatLaid) #[.agg #[.slice none 0 0, .slice none 0 0, .slice none 0 0, .int .i64 0, .int .i64 0], .slice none 0 0, .agg #[.int .i64 0, .int .i64 0, .int .i64 0, .int .i64 0, .string ⟨#[]⟩], .string ⟨#[]⟩, .agg #[.int .i64 0, .int .i64 0, .string ⟨#[]⟩, .string ⟨#[]⟩, .int .i64 0, .int .i64 0, .int .i64 0, .string ⟨#[]⟩]] 8 (World.laidAll_os _ _ _)
   (World.shaped_of_ZipB (by kernel_rfl) (by kernel_rfl)) (by kernel_rfl) (by kernel_rfl) (by kernel_rfl)
   (by rw [laidPlain]; exact laidMet_laidAll _ (by kernel_rfl) (by kernel_rfl))) ?_
 intro W base args ds gs before hval hW _ hwt hL _
 have hW' := hW
 obtain ⟨p, q, hA, hV, rfl, _, _⟩ := hW
 have hlt := DataW.TrodAll.lt hA
 have hkeep := fun W' hb => below_trodAll (enc := enc) (P := Tryz.prog) (W := W) (W' := W') laidOut hA (rowed_of (by kernel_rfl)) hb
 rw [Tryz.params5] at hA hval hwt
 obtain ⟨v0, vs0, d0, ds0, p0, q0, hargs, rfl, rfl, h0, s0⟩ := trodAll_cons hA
 obtain ⟨v1, vs1, d1, ds1, p1, q1, rfl, rfl, rfl, h1, s1⟩ := trodAll_cons s0
 obtain ⟨v2, vs2, d2, ds2, p2, q2, rfl, rfl, rfl, h2, s2⟩ := trodAll_cons s1
 obtain ⟨v3, vs3, d3, ds3, p3, q3, rfl, rfl, rfl, h3, s3⟩ := trodAll_cons s2
 obtain ⟨v4, vs4, d4, ds4, p4, q4, rfl, rfl, rfl, h4, s4⟩ := trodAll_cons s3
 obtain ⟨rfl, rfl, rfl⟩ := trodAll_nil s4
 obtain rfl : args = #[v0, v1, v2, v3, v4] := by cases args; simp_all
 obtain ⟨rfl, rfl⟩ := trodVars_none hV
 obtain ⟨a0, r0, b0⟩ := arg_struct Wd.O Tryz.underlying26 (hval 0 26 v0 rfl rfl) h0 (sized_at hwt (j := 0) rfl rfl)
 obtain ⟨a1, r1, b1⟩ := arg_slice Mp.lO Tryz.underlying44 (hval 1 44 v1 rfl rfl) h1 (sized_at hwt (j := 1) rfl rfl)
 obtain ⟨a2, r2, b2⟩ := arg_struct Ty.O Tryz.underlying46 (hval 2 46 v2 rfl rfl) h2 (sized_at hwt (j := 2) rfl rfl)
 obtain ⟨a3, r3, b3⟩ := arg_str Tryz.underlying9 (hval 3 9 v3 rfl rfl) h3 (sized_at hwt (j := 3) rfl rfl)
 obtain ⟨a4, r4, b4⟩ := arg_struct Ch.O Tryz.underlying32 (hval 4 32 v4 rfl rfl) h4 (sized_at hwt (j := 4) rfl rfl)
 simp only [List.append_nil] at hW'
 have hG := gl_of_laid hL
 refine ((depsPlace_all a0 a1 a2 a3 a4 b0 b1 b2 b3 b4).2 [] W _ (fun g h => by cases h) hG ((Rs.cons r0 (Rs.cons r1 (Rs.cons r2 (Rs.cons r3 (Rs.cons r4 Rs.nil))))))).mono fun e W' ⟨u, he, hu, hb⟩ => ?_
 rw [R] at hu
 subst he; subst hu
 exact ⟨_, rfl, _, _, _, [], _, [], hW', trodAll_mk1 (shut_bool Tryz.underlying4 _), hkeep W' hb, rfl, hb.frame _, fun h => by cases h⟩
theorem depsPlace_holds : Rows.DepsPlaceSaid :=
 OpenClaim.holds_of_wide 5 Tryz.f5 rfl rfl rfl rfl rfl rfl rfl ⟨rfl, rfl, rfl, rfl, rfl⟩ rfl rfl rfl rfl rfl depsPlace_named Tryz.func5 depsPlace_joined
  depsPlace_instance depsPlace_wrapper
  (fun os started H enc _ => depsPlace_lifted os started H enc)
theorem depsPlace_card : Rows.DepsPlaceCardSaid :=
 Claim7.holds_tied_plain_at .later [] [.data, .data, .data, .data, .sentinel, .sentinel, .pinned] true (true, "068af98bd135b50137c89c7661bf7e6853434fc3392795de89589aa7b0b69039") true
  depsPlace_holds (fun _ h => by cases h) (by kernel_rfl) (fun _ h => by cases h) depsPlace_row_tie rfl ⟨rfl, rfl⟩ (by kernel_rfl) rfl
  (fun f fn hf hfn => by
   obtain rfl : f = 5 := Option.some.inj ((show Tryz.prog.funcNamed "proteus/proteuslaw14.DepsPlace" = some 5 by kernel_rfl).symm.trans hf) |>.symm
   obtain rfl : fn = Tryz.f5 := (Option.some.inj (Tryz.func5.symm.trans hfn)).symm
   exact ⟨by kernel_rfl, fun j t ht => by
    rw [Tryz.params5] at ht
    have hm : t ∈ [26, 44, 46, 9, 32] := by simpa using Array.mem_of_getElem? ht
    have hall : ([26, 44, 46, 9, 32].all fun u => !Tryz.prog.wantsStandIn u) = true := by kernel_rfl
    exact (show Tryz.prog.wantsStandIn t = false by simpa using List.all_eq_true.1 hall t hm)⟩)
  (by kernel_rfl)
end Go.Proofs.YtcknpohghmkbmaaGreatDoor
