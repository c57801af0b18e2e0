import Derived.Test.YtcknpohghmkbmaaGreatDoorK30
import Derived.Test.YtcknpohghmkbmaaGreatDoorK31
import Derived.Test.YtcknpohghmkbmaaGreatDoorK32
set_option linter.unusedVariables false
set_option linter.unusedSimpArgs false
/- The texts RDepsStale of the proof, laid one behind the other. -/
namespace Go.Proofs.YtcknpohghmkbmaaGreatDoor
open Go.ChangeShapes Go.WideShapes Go.ChangeAt Go.ChangeMaps Go.RowKit Go.Joins
theorem depsStale_all (w : Wd) (n : Int) (nm : List UInt8) (v : Vl) (x : Dp) (bw : w.B) (bn : In64 n) (bs : nm.length <= Big47) (bv : v.B) (bx : x.B) :
  Spec Tryz.prog 7 [.agg w.pv, I n, S nm, .agg v.pv, .agg x.pv] (.sb true) :=
 DepsStale_spec w n nm v x (bulk_of bw) (ok_of_small bw) bv.2.1
set_option maxRecDepth 100000 in
theorem depsStale_lifted (os : Os) (started : os.Started) (H : Type) (enc : TypeId × Value -> H) :
  ReturnsInHanded {} Tryz.checked os 7 .any (fun w args => (Rows.depsStaleSpec.pre enc Tryz.prog Tryz.f7 [] false w args /\ laidMetH Tryz.prog seatLaid w) /\ sizedMet enc Tryz.prog Tryz.f7 (OpenSpec.ofChange Rows.depsStaleSpec) false w args)
   (Rows.depsStaleSpec.post enc Tryz.prog Tryz.f7 false true false false) := by
 refine returnsInHanded_of_change_and (C := Tryz.checked) (X := fun w _ => laidMetH Tryz.prog seatLaid w) (fun _ _ _ hh h => h.of_heap hh) own started (by kernel_rfl) Tryz.func7
  (ChangeSpec.witness_shaped (enc := enc) (C := Tryz.checked) (os := os) (X := fun w _ => laidMetH Tryz.prog seatLaid w) false (World.laidAll Tryz.prog os seatLaid) #[.agg #[.slice none 0 0, .slice none 0 0, .slice none 0 0, .int .i64 0, .int .i64 0], .int .i64 0, .string ⟨#[]⟩, .agg #[.int .i64 0, .int .i64 0, .string ⟨#[]⟩], .agg #[.int .i64 0, .bool false, .int .i64 0, .slice none 0 0, .int .i64 0, .int .i64 0, .int .i64 0, .string ⟨#[]⟩]] 8 (World.laidAll_os _ _ _)
   (World.shaped_of_ZipB (by kernel_rfl) (by kernel_rfl)) (by kernel_rfl) (by kernel_rfl) (by kernel_rfl)
   (by rw [laidPlain]; exact laidMet_laidAll _ (by kernel_rfl) (by kernel_rfl))) ?_
 intro W base args ds gs before hval hW _ hwt hL _
 have hW' := hW
 obtain ⟨p, q, hA, hV, rfl, _, _⟩ := hW
 have hlt := DataW.TrodAll.lt hA
 have hkeep := fun W' hb => below_trodAll (enc := enc) (P := Tryz.prog) (W := W) (W' := W') laidOut hA (rowed_of (by kernel_rfl)) hb
 rw [Tryz.params7] at hA hval hwt
 obtain ⟨v0, vs0, d0, ds0, p0, q0, hargs, rfl, rfl, h0, s0⟩ := trodAll_cons hA
 obtain ⟨v1, vs1, d1, ds1, p1, q1, rfl, rfl, rfl, h1, s1⟩ := trodAll_cons s0
 obtain ⟨v2, vs2, d2, ds2, p2, q2, rfl, rfl, rfl, h2, s2⟩ := trodAll_cons s1
 obtain ⟨v3, vs3, d3, ds3, p3, q3, rfl, rfl, rfl, h3, s3⟩ := trodAll_cons s2
 obtain ⟨v4, vs4, d4, ds4, p4, q4, rfl, rfl, rfl, h4, s4⟩ := trodAll_cons s3
 obtain ⟨rfl, rfl, rfl⟩ := trodAll_nil s4
 obtain rfl : args = #[v0, v1, v2, v3, v4] := by cases args; simp_all
 obtain ⟨rfl, rfl⟩ := trodVars_none hV
 obtain ⟨a0, r0, b0⟩ := arg_struct Wd.O Tryz.underlying26 (hval 0 26 v0 rfl rfl) h0 (sized_at hwt (j := 0) rfl rfl)
 obtain ⟨a1, r1, b1⟩ := arg_int Tryz.underlying3 (hval 1 3 v1 rfl rfl) h1 (sized_at hwt (j := 1) rfl rfl)
 obtain ⟨a2, r2, b2⟩ := arg_str Tryz.underlying9 (hval 2 9 v2 rfl rfl) h2 (sized_at hwt (j := 2) rfl rfl)
 obtain ⟨a3, r3, b3⟩ := arg_struct Vl.O Tryz.underlying28 (hval 3 28 v3 rfl rfl) h3 (sized_at hwt (j := 3) rfl rfl)
 obtain ⟨a4, r4, b4⟩ := arg_struct Dp.O Tryz.underlying37 (hval 4 37 v4 rfl rfl) h4 (sized_at hwt (j := 4) rfl rfl)
 simp only [List.append_nil] at hW'
 have hG := gl_of_laid hL
 refine ((depsStale_all a0 a1 a2 a3 a4 b0 b1 b2 b3 b4).2 [] W _ (fun g h => by cases h) hG ((Rs.cons r0 (Rs.cons r1 (Rs.cons r2 (Rs.cons r3 (Rs.cons r4 Rs.nil))))))).mono fun e W' ⟨u, he, hu, hb⟩ => ?_
 rw [R] at hu
 subst he; subst hu
 exact ⟨_, rfl, _, _, _, [], _, [], hW', trodAll_mk1 (shut_bool Tryz.underlying4 _), hkeep W' hb, rfl, hb.frame _, fun h => by cases h⟩
theorem depsStale_holds : Rows.DepsStaleSaid :=
 OpenClaim.holds_of_wide 7 Tryz.f7 rfl rfl rfl rfl rfl rfl rfl ⟨rfl, rfl, rfl, rfl, rfl⟩ rfl rfl rfl rfl rfl depsStale_named Tryz.func7 depsStale_joined
  depsStale_instance depsStale_wrapper
  (fun os started H enc _ => depsStale_lifted os started H enc)
theorem depsStale_card : Rows.DepsStaleCardSaid :=
 Claim7.holds_tied_plain_at .later [] [.data, .data, .data, .data, .sentinel, .sentinel, .pinned] true (true, "068af98bd135b50137c89c7661bf7e6853434fc3392795de89589aa7b0b69039") true
  depsStale_holds (fun _ h => by cases h) (by kernel_rfl) (fun _ h => by cases h) depsStale_row_tie rfl ⟨rfl, rfl⟩ (by kernel_rfl) rfl
  (fun f fn hf hfn => by
   obtain rfl : f = 7 := Option.some.inj ((show Tryz.prog.funcNamed "proteus/proteuslaw14.DepsStale" = some 7 by kernel_rfl).symm.trans hf) |>.symm
   obtain rfl : fn = Tryz.f7 := (Option.some.inj (Tryz.func7.symm.trans hfn)).symm
   exact ⟨by kernel_rfl, fun j t ht => by
    rw [Tryz.params7] at ht
    have hm : t ∈ [26, 3, 9, 28, 37] := by simpa using Array.mem_of_getElem? ht
    have hall : ([26, 3, 9, 28, 37].all fun u => !Tryz.prog.wantsStandIn u) = true := by kernel_rfl
    exact (show Tryz.prog.wantsStandIn t = false by simpa using List.all_eq_true.1 hall t hm)⟩)
  (by kernel_rfl)
end Go.Proofs.YtcknpohghmkbmaaGreatDoor
