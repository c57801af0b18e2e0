import Derived.Test.YtplpnfjccemdnaaGreatDoorJ27
import Derived.Test.YtplpnfjccemdnaaGreatDoorJ30
import Derived.Test.YtplpnfjccemdnaaGreatDoorJ31
set_option linter.unusedVariables false
set_option linter.unusedSimpArgs false
/- The texts RDepsResends of the proof, laid one behind the other. -/
namespace Go.Proofs.YtplpnfjccemdnaaGreatDoor
open Go.ChangeShapes Go.WideShapes Go.ChangeAt Go.ChangeMaps Go.RowKit Go.Joins
set_option maxRecDepth 100000 in
theorem arg_bool {H : Type} {enc : TypeId × Value -> H} {W : World} {r : Reach} {b0 : Nat} {v : Value} {d : DataW H} {p : List MemPlace} {sp : Nat -> Bool} {held : Bool} (ht : Tryz.prog.underlying 4 = some .bool) (hv : Value.okWide Tryz.prog W r b0 4 v) (h : DataW.Trod enc Tryz.prog W 0 sp held 4 v d p) (hw : (d.weights Tryz.prog 4).all (· <= reachBytes) = true) : ∃ b : Bool, R [] [] W (.sb b) v /\ True := by
 obtain ⟨n, rfl⟩ := okWide_bool ht hv
 exact arg_one boolO rfl h hw
theorem depsResends_all (w u : Wd) (n : Int) (nm sel : List UInt8) (d : Bool) (bw : w.B) (bu : u.B) (bn : In64 n) (bm : nm.length <= Big47) (bs : sel.length <= Big47) (bd : True) :
  Spec Tryz.prog 4 [.agg w.pv, .agg u.pv, I n, S nm, S sel, .sb d] (.sb true) :=
 DepsResends_spec w u n nm sel d (bulk_of bw) (bulk_of bu) (ok_of_small bw) (ok_of_small bu)
  (fun o ho s hs => ((bw.1.2 o ho).2.2.1.2 s hs).1) (fun o ho s hs => ((bu.1.2 o ho).2.2.1.2 s hs).1)
set_option maxRecDepth 100000 in
theorem depsResends_lifted (os : Os) (started : os.Started) (H : Type) (enc : TypeId × Value -> H) :
  ReturnsInHanded {} Tryz.checked os 4 .any (fun w args => (Rows.depsResendsSpec.pre enc Tryz.prog Tryz.f4 [] false w args /\ laidMetH Tryz.prog seatLaid w) /\ sizedMet enc Tryz.prog Tryz.f4 (OpenSpec.ofChange Rows.depsResendsSpec) false w args)
   (Rows.depsResendsSpec.post enc Tryz.prog Tryz.f4 false true false false) := by
 refine returnsInHanded_of_change_and (C := Tryz.checked) (X := fun w _ => laidMetH Tryz.prog seatLaid w) (fun _ _ _ hh h => h.of_heap hh) own started (by kernel_rfl) Tryz.func4
  (ChangeSpec.witness_shaped (enc := enc) (C := Tryz.checked) (os := os) (X := fun w _ => laidMetH Tryz.prog seatLaid w) false (World.laidAll Tryz.prog os seatLaid) #[.agg #[.slice none 0 0, .slice none 0 0, .slice none 0 0, .int .i64 0, .int .i64 0], .agg #[.slice none 0 0, .slice none 0 0, .slice none 0 0, .int .i64 0, .int .i64 0], .int .i64 0, .string ⟨#[]⟩, .string ⟨#[]⟩, .bool false] 8 (World.laidAll_os _ _ _)
   (World.shaped_of_ZipB (by kernel_rfl) (by kernel_rfl)) (by kernel_rfl) (by kernel_rfl) (by kernel_rfl)
   (by rw [laidPlain]; exact laidMet_laidAll _ (by kernel_rfl) (by kernel_rfl))) ?_
 intro W base args ds gs before hval hW _ hwt hL _
 have hW' := hW
 obtain ⟨p, q, hA, hV, rfl, _, _⟩ := hW
 have hlt := DataW.TrodAll.lt hA
 have hkeep := fun W' hb => below_trodAll (enc := enc) (P := Tryz.prog) (W := W) (W' := W') laidOut hA (rowed_of (by kernel_rfl)) hb
 rw [Tryz.params4] at hA hval hwt
 obtain ⟨v0, vs0, d0, ds0, p0, q0, hargs, rfl, rfl, h0, s0⟩ := trodAll_cons hA
 obtain ⟨v1, vs1, d1, ds1, p1, q1, rfl, rfl, rfl, h1, s1⟩ := trodAll_cons s0
 obtain ⟨v2, vs2, d2, ds2, p2, q2, rfl, rfl, rfl, h2, s2⟩ := trodAll_cons s1
 obtain ⟨v3, vs3, d3, ds3, p3, q3, rfl, rfl, rfl, h3, s3⟩ := trodAll_cons s2
 obtain ⟨v4, vs4, d4, ds4, p4, q4, rfl, rfl, rfl, h4, s4⟩ := trodAll_cons s3
 obtain ⟨v5, vs5, d5, ds5, p5, q5, rfl, rfl, rfl, h5, s5⟩ := trodAll_cons s4
 obtain ⟨rfl, rfl, rfl⟩ := trodAll_nil s5
 obtain rfl : args = #[v0, v1, v2, v3, v4, v5] := by cases args; simp_all
 obtain ⟨rfl, rfl⟩ := trodVars_none hV
 obtain ⟨a0, r0, b0⟩ := arg_struct Wd.O Tryz.underlying26 (hval 0 26 v0 rfl rfl) h0 (sized_at hwt (j := 0) rfl rfl)
 obtain ⟨a1, r1, b1⟩ := arg_struct Wd.O Tryz.underlying26 (hval 1 26 v1 rfl rfl) h1 (sized_at hwt (j := 1) rfl rfl)
 obtain ⟨a2, r2, b2⟩ := arg_int Tryz.underlying3 (hval 2 3 v2 rfl rfl) h2 (sized_at hwt (j := 2) rfl rfl)
 obtain ⟨a3, r3, b3⟩ := arg_str Tryz.underlying9 (hval 3 9 v3 rfl rfl) h3 (sized_at hwt (j := 3) rfl rfl)
 obtain ⟨a4, r4, b4⟩ := arg_str Tryz.underlying9 (hval 4 9 v4 rfl rfl) h4 (sized_at hwt (j := 4) rfl rfl)
 obtain ⟨a5, r5, b5⟩ := arg_bool Tryz.underlying4 (hval 5 4 v5 rfl rfl) h5 (sized_at hwt (j := 5) rfl rfl)
 simp only [List.append_nil] at hW'
 have hG := gl_of_laid hL
 refine ((depsResends_all a0 a1 a2 a3 a4 a5 b0 b1 b2 b3 b4 b5).2 [] W _ (fun g h => by cases h) hG ((Rs.cons r0 (Rs.cons r1 (Rs.cons r2 (Rs.cons r3 (Rs.cons r4 (Rs.cons r5 Rs.nil)))))))).mono fun e W' ⟨u, he, hu, hb⟩ => ?_
 rw [R] at hu
 subst he; subst hu
 exact ⟨_, rfl, _, _, _, [], _, [], hW', trodAll_mk1 (shut_bool Tryz.underlying4 _), hkeep W' hb, rfl, hb.frame _, fun h => by cases h⟩
theorem depsResends_holds : Rows.DepsResendsSaid :=
 OpenClaim.holds_of_wide 4 Tryz.f4 rfl rfl rfl rfl rfl rfl rfl ⟨rfl, rfl, rfl, rfl, rfl⟩ rfl rfl rfl rfl rfl depsResends_named Tryz.func4 depsResends_joined
  depsResends_instance depsResends_wrapper
  (fun os started H enc _ => depsResends_lifted os started H enc)
theorem depsResends_card : Rows.DepsResendsCardSaid :=
 Claim7.holds_tied_plain_at .later [] [.data, .data, .data, .data, .sentinel, .sentinel, .pinned] true (true, "560c2f6fb9cc03d7383c4a220b24150d3e912aa8d69d64782f4499d67a87ba18") true
  depsResends_holds (fun _ h => by cases h) (by kernel_rfl) (fun _ h => by cases h) depsResends_row_tie rfl ⟨rfl, rfl⟩ (by kernel_rfl) rfl
  (fun f fn hf hfn => by
   obtain rfl : f = 4 := Option.some.inj ((show Tryz.prog.funcNamed "proteus/proteuslaw14.DepsResends" = some 4 by kernel_rfl).symm.trans hf) |>.symm
   obtain rfl : fn = Tryz.f4 := (Option.some.inj (Tryz.func4.symm.trans hfn)).symm
   exact ⟨by kernel_rfl, fun j t ht => by
    rw [Tryz.params4] at ht
    have hm : t ∈ [26, 26, 3, 9, 9, 4] := by simpa using Array.mem_of_getElem? ht
    have hall : ([26, 26, 3, 9, 9, 4].all fun u => !Tryz.prog.wantsStandIn u) = true := by kernel_rfl
    exact (show Tryz.prog.wantsStandIn t = false by simpa using List.all_eq_true.1 hall t hm)⟩)
  (by kernel_rfl)
end Go.Proofs.YtplpnfjccemdnaaGreatDoor
