import Derived.Test.YthjpbbbmnmhmmaaGreatDoorA31
set_option linter.unusedVariables false
set_option linter.unusedSimpArgs false
namespace Go.Proofs.YthjpbbbmnmhmmaaGreatDoor
open Go.RowKit Go.Shelf Go.Lib
attribute [local go_sem ↓] run_val_eql run_val_neq

def BigMachine_s0 (x : Int) (y : Int) (r0 : Vl × Int) (r1 : Vl × Int) (r2 : Vl × Int) : Bool := false
def BigMachine_s1 (x : Int) (y : Int) (r0 : Vl × Int) (r1 : Vl × Int) (r2 : Vl × Int) (i3 : Int) (c4 : Bool) : Bool := false
def BigMachine_s2 (x : Int) (y : Int) (r0 : Vl × Int) (r1 : Vl × Int) (r2 : Vl × Int) (i3 : Int) (c4 : Bool) (i5 : Int) (c6 : Bool) : Bool := false
def BigMachine_s3 (x : Int) (y : Int) (r0 : Vl × Int) (r1 : Vl × Int) (r2 : Vl × Int) (i3 : Int) (c4 : Bool) (i5 : Int) (c6 : Bool) (i7 : Int) (c8 : Bool) : Bool := ((true && (c8 != (veq r2.1 (⟨1, i7, []⟩ : Vl)))) && (c8 == (r2.1.k == 2)))
def BigMachine_s4 (x : Int) (y : Int) (r0 : Vl × Int) (r1 : Vl × Int) (r2 : Vl × Int) (i3 : Int) (c4 : Bool) (i5 : Int) (c6 : Bool) (i7 : Int) : Bool := BigMachine_s3 x y r0 r1 r2 i3 c4 i5 c6 i7 (((!(x == 0)) && ((!((wrap64 (Int.tdiv i7 x)) == y)) || ((x == (-1)) && (y == (-9223372036854775808))))))
def BigMachine_s5 (x : Int) (y : Int) (r0 : Vl × Int) (r1 : Vl × Int) (r2 : Vl × Int) (i3 : Int) (c4 : Bool) (i5 : Int) (c6 : Bool) : Bool := BigMachine_s4 x y r0 r1 r2 i3 c4 i5 c6 (wrap64 (x * y))
def BigMachine_s6 (x : Int) (y : Int) (r0 : Vl × Int) (r1 : Vl × Int) (r2 : Vl × Int) (i3 : Int) (c4 : Bool) (i5 : Int) (c6 : Bool) : Bool := if ((c6 == (veq r1.1 (⟨1, i5, []⟩ : Vl))) || (c6 != (r1.1.k == 2))) = true then BigMachine_s2 x y r0 r1 r2 i3 c4 i5 c6 else BigMachine_s5 x y r0 r1 r2 i3 c4 i5 c6
def BigMachine_s7 (x : Int) (y : Int) (r0 : Vl × Int) (r1 : Vl × Int) (r2 : Vl × Int) (i3 : Int) (c4 : Bool) (i5 : Int) : Bool := BigMachine_s6 x y r0 r1 r2 i3 c4 i5 ((((decide ((x : Int) < 0)) != (decide ((y : Int) < 0))) && ((decide ((i5 : Int) < 0)) != (decide ((x : Int) < 0)))))
def BigMachine_s8 (x : Int) (y : Int) (r0 : Vl × Int) (r1 : Vl × Int) (r2 : Vl × Int) (i3 : Int) (c4 : Bool) : Bool := BigMachine_s7 x y r0 r1 r2 i3 c4 (wrap64 (x - y))
def BigMachine_s9 (x : Int) (y : Int) (r0 : Vl × Int) (r1 : Vl × Int) (r2 : Vl × Int) (i3 : Int) (c4 : Bool) : Bool := if ((c4 == (veq r0.1 (⟨1, i3, []⟩ : Vl))) || (c4 != (r0.1.k == 2))) = true then BigMachine_s1 x y r0 r1 r2 i3 c4 else BigMachine_s8 x y r0 r1 r2 i3 c4
def BigMachine_s10 (x : Int) (y : Int) (r0 : Vl × Int) (r1 : Vl × Int) (r2 : Vl × Int) (i3 : Int) : Bool := BigMachine_s9 x y r0 r1 r2 i3 (((((decide ((0 : Int) < x)) && (decide ((0 : Int) < y))) && (decide ((i3 : Int) < 0))) || (((decide ((x : Int) < 0)) && (decide ((y : Int) < 0))) && (!(decide ((i3 : Int) < 0))))))
def BigMachine_s11 (x : Int) (y : Int) (r0 : Vl × Int) (r1 : Vl × Int) (r2 : Vl × Int) : Bool := BigMachine_s10 x y r0 r1 r2 (wrap64 (x + y))
def BigMachine_s12 (x : Int) (y : Int) (r0 : Vl × Int) (r1 : Vl × Int) (r2 : Vl × Int) : Bool := if (((!(r0.2 == 0)) || (!(r1.2 == 0))) || (!(r2.2 == 0))) = true then BigMachine_s0 x y r0 r1 r2 else BigMachine_s11 x y r0 r1 r2
def BigMachine_s13 (x : Int) (y : Int) (r0 : Vl × Int) (r1 : Vl × Int) : Bool := BigMachine_s12 x y r0 r1 (mulR (⟨1, x, []⟩ : Vl) (⟨1, y, []⟩ : Vl))
def BigMachine_s14 (x : Int) (y : Int) (r0 : Vl × Int) : Bool := BigMachine_s13 x y r0 (subR (⟨1, x, []⟩ : Vl) (⟨1, y, []⟩ : Vl))
def BigMachine_s15 (x : Int) (y : Int) : Bool := BigMachine_s14 x y (addR (⟨1, x, []⟩ : Vl) (⟨1, y, []⟩ : Vl))

set_option maxRecDepth 100000 in
set_option maxHeartbeats 16000000 in
theorem walk_BigMachine (x : Int) (y : Int) (hx : Small64 x) (hy : Small64 y) (w : World) (hE : Env w) (hr : true = BigMachine_s15 x y) :
    Calls Tryz.prog 7 #[.int .i64 x, .int .i64 y] w fun e w' => e = .returned (.bool true) ∧ Below w.heap.size w w' := by
  have HIx := Lib.hid hx
  have HIy := Lib.hid hy
  have HE := Lib.hid hE
  have HL := Lib.hid hr
  clear hE hr hx hy
  go_enter Tryz.func7, Tryz.ntmps7
  go_upto_region 1 with fail
  have B : Hid (Bxs w []) := Lib.hid trivial
  have BL := Lib.hid (Below.refl w.heap.size w)
  -- region 1
  go_wp2_with fail
  refine (awakeV _ (HE.out.below BL.out)).mono ?_
  rintro e W1 ⟨rfl, hb⟩
  replace B := Lib.hid (B.out.below hb)
  replace BL := Lib.hid (below_then BL.out hb)
  clear hb
  go_upto_region 2 with fail
  -- region 2
  go_wp2_with fail
  refine (num_calls x _).mono ?_
  rintro e W2 ⟨rfl, hb⟩
  replace B := Lib.hid (B.out.below hb)
  replace BL := Lib.hid (below_then BL.out hb)
  clear hb
  go_wp2_with fail
  refine (num_calls y _).mono ?_
  rintro e W3 ⟨rfl, hb⟩
  replace B := Lib.hid (B.out.below hb)
  replace BL := Lib.hid (below_then BL.out hb)
  clear hb
  obtain ⟨⟨⟨r0k, r0n, r0t⟩, r0e⟩, hr0⟩ : ∃ p, addR (⟨1, x, []⟩ : Vl) (⟨1, y, []⟩ : Vl) = p := ⟨_, rfl⟩
  have hc0 := fun (W : World) (hW : Env W) => add_pub (⟨1, x, []⟩ : Vl) (⟨1, y, []⟩ : Vl) (num_ok x HIx.out) (num_ok y HIy.out) W hW
  have ho0 := addR_ok (⟨1, x, []⟩ : Vl) (⟨1, y, []⟩ : Vl)
  rw [hr0] at hc0 ho0
  simp only [Vl.val, pr] at hc0
  have HC0 := Lib.hid hc0; have HOr0 : Hid (Vl.ok ⟨r0k, r0n, r0t⟩) := Lib.hid ho0; have HR0 := Lib.hid hr0
  clear hc0 ho0 hr0
  go_wp2_with fail
  refine (HC0.out _ (HE.out.below BL.out)).mono ?_
  rintro e W4 ⟨rfl, hb⟩
  replace B := Lib.hid (B.out.below hb)
  replace BL := Lib.hid (below_then BL.out hb)
  clear hb
  go_upto_region 3 with fail
  have hB : Bxs (W4.alloc (.cells #[.int .i64 r0k, .int .i64 r0n, .string ⟨List.toArray r0t⟩] 23)) ((W4.heap.size, (⟨r0k, r0n, r0t⟩ : Vl)) :: []) := B.out.push (⟨r0k, r0n, r0t⟩ : Vl) 23
  have hL : Below w.heap.size w (W4.alloc (.cells #[.int .i64 r0k, .int .i64 r0n, .string ⟨List.toArray r0t⟩] 23)) := BL.out.alloc BL.out.size _
  obtain ⟨W5, hW⟩ : ∃ X, W4.alloc (.cells #[.int .i64 r0k, .int .i64 r0n, .string ⟨List.toArray r0t⟩] 23) = X := ⟨_, rfl⟩
  obtain ⟨g0, hg⟩ : ∃ g, W4.heap.size = g := ⟨_, rfl⟩
  rw [hW] at hB hL ⊢
  rw [hg] at hB ⊢
  have HGb6_2_0 : Hid (w.heap.size ≤ g0) := Lib.hid (by rw [← hg]; exact BL.out.size)
  replace B := Lib.hid hB
  replace BL := Lib.hid hL
  clear hB hL hW hg
  replace HL := Lib.hid (show true = BigMachine_s14 x y ((⟨r0k, r0n, r0t⟩, r0e) : Vl × Int) from HL.out.trans (by unfold BigMachine_s15; rw [HR0.out]))
  -- region 3
  go_wp2_with fail
  refine (num_calls x _).mono ?_
  rintro e W6 ⟨rfl, hb⟩
  replace B := Lib.hid (B.out.below hb)
  replace BL := Lib.hid (below_then BL.out hb)
  clear hb
  go_wp2_with fail
  refine (num_calls y _).mono ?_
  rintro e W7 ⟨rfl, hb⟩
  replace B := Lib.hid (B.out.below hb)
  replace BL := Lib.hid (below_then BL.out hb)
  clear hb
  obtain ⟨⟨⟨r1k, r1n, r1t⟩, r1e⟩, hr1⟩ : ∃ p, subR (⟨1, x, []⟩ : Vl) (⟨1, y, []⟩ : Vl) = p := ⟨_, rfl⟩
  have hc1 := fun (W : World) (hW : Env W) => sub_pub (⟨1, x, []⟩ : Vl) (⟨1, y, []⟩ : Vl) (num_ok x HIx.out) (num_ok y HIy.out) W hW
  have ho1 := subR_ok (⟨1, x, []⟩ : Vl) (⟨1, y, []⟩ : Vl)
  rw [hr1] at hc1 ho1
  simp only [Vl.val, pr] at hc1
  have HC1 := Lib.hid hc1; have HOr1 : Hid (Vl.ok ⟨r1k, r1n, r1t⟩) := Lib.hid ho1; have HR1 := Lib.hid hr1
  clear hc1 ho1 hr1
  go_wp2_with fail
  refine (HC1.out _ (HE.out.below BL.out)).mono ?_
  rintro e W8 ⟨rfl, hb⟩
  replace B := Lib.hid (B.out.below hb)
  replace BL := Lib.hid (below_then BL.out hb)
  clear hb
  go_upto_region 4 with fail
  have hB : Bxs (W8.alloc (.cells #[.int .i64 r1k, .int .i64 r1n, .string ⟨List.toArray r1t⟩] 23)) ((W8.heap.size, (⟨r1k, r1n, r1t⟩ : Vl)) :: [(g0, (⟨r0k, r0n, r0t⟩ : Vl))]) := B.out.push (⟨r1k, r1n, r1t⟩ : Vl) 23
  have hL : Below w.heap.size w (W8.alloc (.cells #[.int .i64 r1k, .int .i64 r1n, .string ⟨List.toArray r1t⟩] 23)) := BL.out.alloc BL.out.size _
  obtain ⟨W9, hW⟩ : ∃ X, W8.alloc (.cells #[.int .i64 r1k, .int .i64 r1n, .string ⟨List.toArray r1t⟩] 23) = X := ⟨_, rfl⟩
  obtain ⟨g1, hg⟩ : ∃ g, W8.heap.size = g := ⟨_, rfl⟩
  rw [hW] at hB hL ⊢
  rw [hg] at hB ⊢
  have HGb8_3_1 : Hid (w.heap.size ≤ g1) := Lib.hid (by rw [← hg]; exact BL.out.size)
  replace B := Lib.hid hB
  replace BL := Lib.hid hL
  clear hB hL hW hg
  replace HL := Lib.hid (show true = BigMachine_s13 x y ((⟨r0k, r0n, r0t⟩, r0e) : Vl × Int) ((⟨r1k, r1n, r1t⟩, r1e) : Vl × Int) from HL.out.trans (by unfold BigMachine_s14; rw [HR1.out]))
  -- region 4
  go_wp2_with fail
  refine (num_calls x _).mono ?_
  rintro e W10 ⟨rfl, hb⟩
  replace B := Lib.hid (B.out.below hb)
  replace BL := Lib.hid (below_then BL.out hb)
  clear hb
  go_wp2_with fail
  refine (num_calls y _).mono ?_
  rintro e W11 ⟨rfl, hb⟩
  replace B := Lib.hid (B.out.below hb)
  replace BL := Lib.hid (below_then BL.out hb)
  clear hb
  obtain ⟨⟨⟨r2k, r2n, r2t⟩, r2e⟩, hr2⟩ : ∃ p, mulR (⟨1, x, []⟩ : Vl) (⟨1, y, []⟩ : Vl) = p := ⟨_, rfl⟩
  have hc2 := fun (W : World) (hW : Env W) => mul_pub (⟨1, x, []⟩ : Vl) (⟨1, y, []⟩ : Vl) (num_ok x HIx.out) (num_ok y HIy.out) W hW
  have ho2 := mulR_ok (⟨1, x, []⟩ : Vl) (⟨1, y, []⟩ : Vl)
  rw [hr2] at hc2 ho2
  simp only [Vl.val, pr] at hc2
  have HC2 := Lib.hid hc2; have HOr2 : Hid (Vl.ok ⟨r2k, r2n, r2t⟩) := Lib.hid ho2; have HR2 := Lib.hid hr2
  clear hc2 ho2 hr2
  go_wp2_with fail
  refine (HC2.out _ (HE.out.below BL.out)).mono ?_
  rintro e W12 ⟨rfl, hb⟩
  replace B := Lib.hid (B.out.below hb)
  replace BL := Lib.hid (below_then BL.out hb)
  clear hb
  go_upto_region 5 with fail
  have hB : Bxs (W12.alloc (.cells #[.int .i64 r2k, .int .i64 r2n, .string ⟨List.toArray r2t⟩] 23)) ((W12.heap.size, (⟨r2k, r2n, r2t⟩ : Vl)) :: [(g1, (⟨r1k, r1n, r1t⟩ : Vl)), (g0, (⟨r0k, r0n, r0t⟩ : Vl))]) := B.out.push (⟨r2k, r2n, r2t⟩ : Vl) 23
  have hL : Below w.heap.size w (W12.alloc (.cells #[.int .i64 r2k, .int .i64 r2n, .string ⟨List.toArray r2t⟩] 23)) := BL.out.alloc BL.out.size _
  obtain ⟨W13, hW⟩ : ∃ X, W12.alloc (.cells #[.int .i64 r2k, .int .i64 r2n, .string ⟨List.toArray r2t⟩] 23) = X := ⟨_, rfl⟩
  obtain ⟨g2, hg⟩ : ∃ g, W12.heap.size = g := ⟨_, rfl⟩
  rw [hW] at hB hL ⊢
  rw [hg] at hB ⊢
  have HGb10_4_2 : Hid (w.heap.size ≤ g2) := Lib.hid (by rw [← hg]; exact BL.out.size)
  replace B := Lib.hid hB
  replace BL := Lib.hid hL
  clear hB hL hW hg
  replace HL := Lib.hid (show true = BigMachine_s12 x y ((⟨r0k, r0n, r0t⟩, r0e) : Vl × Int) ((⟨r1k, r1n, r1t⟩, r1e) : Vl × Int) ((⟨r2k, r2n, r2t⟩, r2e) : Vl × Int) from HL.out.trans (by unfold BigMachine_s13; rw [HR2.out]))
  -- region 5, a test
  obtain ⟨b0, h⟩ : ∃ b : Bool, (r0e == 0) = b := ⟨_, rfl⟩
  have HA0 := Lib.hid h
  clear h
  obtain ⟨b1, h⟩ : ∃ b : Bool, (r1e == 0) = b := ⟨_, rfl⟩
  have HA1 := Lib.hid h
  clear h
  obtain ⟨b2, h⟩ : ∃ b : Bool, (r2e == 0) = b := ⟨_, rfl⟩
  have HA2 := Lib.hid h
  clear h
  have HCF : (((!(r0e == 0)) || (!(r1e == 0))) || (!(r2e == 0))) = false := Bool.eq_false_iff.2 fun h => Bool.noConfusion (show true = false from HL.out.trans (if_pos h))
  have HCB : (((!b0) || (!b1)) || (!b2)) = false := by
    have h := HCF
    rw [HA0.out, HA1.out, HA2.out] at h
    exact h
  have HCW := Lib.hid HCF
  have HCC := Lib.hid HCB
  clear HCF HCB
  go_upto_region 5 with fail
  go_cut [50] from 41 to 50 (fun v wx => v = .bool false ∧ Hid (Bxs wx [(g2, (⟨r2k, r2n, r2t⟩ : Vl)), (g1, (⟨r1k, r1n, r1t⟩ : Vl)), (g0, (⟨r0k, r0n, r0t⟩ : Vl))]) ∧ Hid (Below w.heap.size w wx))
  case first =>
    clear HL
    cases b0 with
    | true =>
      cases b1 with
      | true =>
        cases b2 with
        | true =>
          have f0_0 : ((r0e : Int) == 0) = true := HA0.out
          have f0_1 : ((r0e : Int) != 0) = false := by have h := HA0.out; simpa using h
          have f1_0 : ((r1e : Int) == 0) = true := HA1.out
          have f1_1 : ((r1e : Int) != 0) = false := by have h := HA1.out; simpa using h
          have f2_0 : ((r2e : Int) == 0) = true := HA2.out
          have f2_1 : ((r2e : Int) != 0) = false := by have h := HA2.out; simpa using h
          go_wp2_with fail
          go_meet
          exact ⟨rfl, B, BL⟩
        | false =>
          exact Bool.noConfusion (show true = false from HCC.out)
      | false =>
        exact Bool.noConfusion (show true = false from HCC.out)
    | false =>
      exact Bool.noConfusion (show true = false from HCC.out)
  case rest =>
    clear B BL
    obtain ⟨rfl, B, BL⟩ := hcut
    obtain ⟨W14, hW⟩ : ∃ X, wc = X := ⟨_, rfl⟩
    rw [hW] at B BL ⊢
    clear hW
    clear HCC HA0 HA1 HA2
    replace HL := Lib.hid (show true = BigMachine_s11 x y ((⟨r0k, r0n, r0t⟩, r0e) : Vl × Int) ((⟨r1k, r1n, r1t⟩, r1e) : Vl × Int) ((⟨r2k, r2n, r2t⟩, r2e) : Vl × Int) from HL.out.trans ((if_neg (fun h => Bool.noConfusion (HCW.out.symm.trans h)))))
    -- region 7, a number
    go_upto_region 8 with fail
    obtain ⟨i3, h⟩ : ∃ s : Int, (wrap64 (x + y)) = s := ⟨_, rfl⟩
    rw [h]
    have HR3 := Lib.hid h
    clear h
    replace HL := Lib.hid (show true = BigMachine_s10 x y ((⟨r0k, r0n, r0t⟩, r0e) : Vl × Int) ((⟨r1k, r1n, r1t⟩, r1e) : Vl × Int) ((⟨r2k, r2n, r2t⟩, r2e) : Vl × Int) i3 from HL.out.trans (by unfold BigMachine_s11; rw [HR3.out]))
    -- region 8, a truth
    obtain ⟨b3, h⟩ : ∃ b : Bool, (decide ((0 : Int) < x)) = b := ⟨_, rfl⟩
    have HA3 := Lib.hid h
    clear h
    obtain ⟨b4, h⟩ : ∃ b : Bool, (decide ((0 : Int) < y)) = b := ⟨_, rfl⟩
    have HA4 := Lib.hid h
    clear h
    obtain ⟨b5, h⟩ : ∃ b : Bool, (decide ((i3 : Int) < 0)) = b := ⟨_, rfl⟩
    have HA5 := Lib.hid h
    clear h
    obtain ⟨b6, h⟩ : ∃ b : Bool, (decide ((x : Int) < 0)) = b := ⟨_, rfl⟩
    have HA6 := Lib.hid h
    clear h
    obtain ⟨b7, h⟩ : ∃ b : Bool, (decide ((y : Int) < 0)) = b := ⟨_, rfl⟩
    have HA7 := Lib.hid h
    clear h
    obtain ⟨c4, h⟩ : ∃ c : Bool, (((b3 && b4) && b5) || ((b6 && b7) && (!b5))) = c := ⟨_, rfl⟩
    have HCC := Lib.hid h
    clear h
    go_upto_region 8 with fail
    go_cut [13] from 54 to 76 (fun v wx => v = .bool c4 ∧ Hid (Bxs wx [(g2, (⟨r2k, r2n, r2t⟩ : Vl)), (g1, (⟨r1k, r1n, r1t⟩ : Vl)), (g0, (⟨r0k, r0n, r0t⟩ : Vl))]) ∧ Hid (Below w.heap.size w wx))
    case first =>
      clear HL
      cases b3 with
      | true =>
        cases b4 with
        | true =>
          cases b5 with
          | true =>
            have f0_0 : decide ((0 : Int) < x) = true := HA3.out
            have f0_1 : decide ((x : Int) ≤ 0) = false := by have h := HA3.out; simp only [decide_eq_true_eq, decide_eq_false_iff_not] at h ⊢; omega
            have f1_0 : decide ((0 : Int) < y) = true := HA4.out
            have f1_1 : decide ((y : Int) ≤ 0) = false := by have h := HA4.out; simp only [decide_eq_true_eq, decide_eq_false_iff_not] at h ⊢; omega
            have f2_0 : decide ((i3 : Int) < 0) = true := HA5.out
            have f2_1 : decide ((0 : Int) ≤ i3) = false := by have h := HA5.out; simp only [decide_eq_true_eq, decide_eq_false_iff_not] at h ⊢; omega
            go_wp2_with fail
            go_meet
            exact ⟨congrArg Value.bool HCC.out, B, BL⟩
          | false =>
            cases b6 with
            | true =>
              cases b7 with
              | true =>
                have f0_0 : decide ((0 : Int) < x) = true := HA3.out
                have f0_1 : decide ((x : Int) ≤ 0) = false := by have h := HA3.out; simp only [decide_eq_true_eq, decide_eq_false_iff_not] at h ⊢; omega
                have f1_0 : decide ((0 : Int) < y) = true := HA4.out
                have f1_1 : decide ((y : Int) ≤ 0) = false := by have h := HA4.out; simp only [decide_eq_true_eq, decide_eq_false_iff_not] at h ⊢; omega
                have f2_0 : decide ((i3 : Int) < 0) = false := HA5.out
                have f2_1 : decide ((0 : Int) ≤ i3) = true := by have h := HA5.out; simp only [decide_eq_true_eq, decide_eq_false_iff_not] at h ⊢; omega
                have f3_0 : decide ((x : Int) < 0) = true := HA6.out
                have f3_1 : decide ((0 : Int) ≤ x) = false := by have h := HA6.out; simp only [decide_eq_true_eq, decide_eq_false_iff_not] at h ⊢; omega
                have f4_0 : decide ((y : Int) < 0) = true := HA7.out
                have f4_1 : decide ((0 : Int) ≤ y) = false := by have h := HA7.out; simp only [decide_eq_true_eq, decide_eq_false_iff_not] at h ⊢; omega
                go_wp2_with fail
                go_meet
                exact ⟨congrArg Value.bool HCC.out, B, BL⟩
              | false =>
                have f0_0 : decide ((0 : Int) < x) = true := HA3.out
                have f0_1 : decide ((x : Int) ≤ 0) = false := by have h := HA3.out; simp only [decide_eq_true_eq, decide_eq_false_iff_not] at h ⊢; omega
                have f1_0 : decide ((0 : Int) < y) = true := HA4.out
                have f1_1 : decide ((y : Int) ≤ 0) = false := by have h := HA4.out; simp only [decide_eq_true_eq, decide_eq_false_iff_not] at h ⊢; omega
                have f2_0 : decide ((i3 : Int) < 0) = false := HA5.out
                have f2_1 : decide ((0 : Int) ≤ i3) = true := by have h := HA5.out; simp only [decide_eq_true_eq, decide_eq_false_iff_not] at h ⊢; omega
                have f3_0 : decide ((x : Int) < 0) = true := HA6.out
                have f3_1 : decide ((0 : Int) ≤ x) = false := by have h := HA6.out; simp only [decide_eq_true_eq, decide_eq_false_iff_not] at h ⊢; omega
                have f4_0 : decide ((y : Int) < 0) = false := HA7.out
                have f4_1 : decide ((0 : Int) ≤ y) = true := by have h := HA7.out; simp only [decide_eq_true_eq, decide_eq_false_iff_not] at h ⊢; omega
                go_wp2_with fail
                go_meet
                exact ⟨congrArg Value.bool HCC.out, B, BL⟩
            | false =>
              have f0_0 : decide ((0 : Int) < x) = true := HA3.out
              have f0_1 : decide ((x : Int) ≤ 0) = false := by have h := HA3.out; simp only [decide_eq_true_eq, decide_eq_false_iff_not] at h ⊢; omega
              have f1_0 : decide ((0 : Int) < y) = true := HA4.out
              have f1_1 : decide ((y : Int) ≤ 0) = false := by have h := HA4.out; simp only [decide_eq_true_eq, decide_eq_false_iff_not] at h ⊢; omega
              have f2_0 : decide ((i3 : Int) < 0) = false := HA5.out
              have f2_1 : decide ((0 : Int) ≤ i3) = true := by have h := HA5.out; simp only [decide_eq_true_eq, decide_eq_false_iff_not] at h ⊢; omega
              have f3_0 : decide ((x : Int) < 0) = false := HA6.out
              have f3_1 : decide ((0 : Int) ≤ x) = true := by have h := HA6.out; simp only [decide_eq_true_eq, decide_eq_false_iff_not] at h ⊢; omega
              go_wp2_with fail
              go_meet
              exact ⟨congrArg Value.bool HCC.out, B, BL⟩
        | false =>
          cases b6 with
          | true =>
            cases b7 with
            | true =>
              cases b5 with
              | true =>
                have f0_0 : decide ((0 : Int) < x) = true := HA3.out
                have f0_1 : decide ((x : Int) ≤ 0) = false := by have h := HA3.out; simp only [decide_eq_true_eq, decide_eq_false_iff_not] at h ⊢; omega
                have f1_0 : decide ((0 : Int) < y) = false := HA4.out
                have f1_1 : decide ((y : Int) ≤ 0) = true := by have h := HA4.out; simp only [decide_eq_true_eq, decide_eq_false_iff_not] at h ⊢; omega
                have f3_0 : decide ((x : Int) < 0) = true := HA6.out
                have f3_1 : decide ((0 : Int) ≤ x) = false := by have h := HA6.out; simp only [decide_eq_true_eq, decide_eq_false_iff_not] at h ⊢; omega
                have f4_0 : decide ((y : Int) < 0) = true := HA7.out
                have f4_1 : decide ((0 : Int) ≤ y) = false := by have h := HA7.out; simp only [decide_eq_true_eq, decide_eq_false_iff_not] at h ⊢; omega
                have f2_0 : decide ((i3 : Int) < 0) = true := HA5.out
                have f2_1 : decide ((0 : Int) ≤ i3) = false := by have h := HA5.out; simp only [decide_eq_true_eq, decide_eq_false_iff_not] at h ⊢; omega
                go_wp2_with fail
                go_meet
                exact ⟨congrArg Value.bool HCC.out, B, BL⟩
              | false =>
                have f0_0 : decide ((0 : Int) < x) = true := HA3.out
                have f0_1 : decide ((x : Int) ≤ 0) = false := by have h := HA3.out; simp only [decide_eq_true_eq, decide_eq_false_iff_not] at h ⊢; omega
                have f1_0 : decide ((0 : Int) < y) = false := HA4.out
                have f1_1 : decide ((y : Int) ≤ 0) = true := by have h := HA4.out; simp only [decide_eq_true_eq, decide_eq_false_iff_not] at h ⊢; omega
                have f3_0 : decide ((x : Int) < 0) = true := HA6.out
                have f3_1 : decide ((0 : Int) ≤ x) = false := by have h := HA6.out; simp only [decide_eq_true_eq, decide_eq_false_iff_not] at h ⊢; omega
                have f4_0 : decide ((y : Int) < 0) = true := HA7.out
                have f4_1 : decide ((0 : Int) ≤ y) = false := by have h := HA7.out; simp only [decide_eq_true_eq, decide_eq_false_iff_not] at h ⊢; omega
                have f2_0 : decide ((i3 : Int) < 0) = false := HA5.out
                have f2_1 : decide ((0 : Int) ≤ i3) = true := by have h := HA5.out; simp only [decide_eq_true_eq, decide_eq_false_iff_not] at h ⊢; omega
                go_wp2_with fail
                go_meet
                exact ⟨congrArg Value.bool HCC.out, B, BL⟩
            | false =>
              have f0_0 : decide ((0 : Int) < x) = true := HA3.out
              have f0_1 : decide ((x : Int) ≤ 0) = false := by have h := HA3.out; simp only [decide_eq_true_eq, decide_eq_false_iff_not] at h ⊢; omega
              have f1_0 : decide ((0 : Int) < y) = false := HA4.out
              have f1_1 : decide ((y : Int) ≤ 0) = true := by have h := HA4.out; simp only [decide_eq_true_eq, decide_eq_false_iff_not] at h ⊢; omega
              have f3_0 : decide ((x : Int) < 0) = true := HA6.out
              have f3_1 : decide ((0 : Int) ≤ x) = false := by have h := HA6.out; simp only [decide_eq_true_eq, decide_eq_false_iff_not] at h ⊢; omega
              have f4_0 : decide ((y : Int) < 0) = false := HA7.out
              have f4_1 : decide ((0 : Int) ≤ y) = true := by have h := HA7.out; simp only [decide_eq_true_eq, decide_eq_false_iff_not] at h ⊢; omega
              go_wp2_with fail
              go_meet
              exact ⟨congrArg Value.bool HCC.out, B, BL⟩
          | false =>
            have f0_0 : decide ((0 : Int) < x) = true := HA3.out
            have f0_1 : decide ((x : Int) ≤ 0) = false := by have h := HA3.out; simp only [decide_eq_true_eq, decide_eq_false_iff_not] at h ⊢; omega
            have f1_0 : decide ((0 : Int) < y) = false := HA4.out
            have f1_1 : decide ((y : Int) ≤ 0) = true := by have h := HA4.out; simp only [decide_eq_true_eq, decide_eq_false_iff_not] at h ⊢; omega
            have f3_0 : decide ((x : Int) < 0) = false := HA6.out
            have f3_1 : decide ((0 : Int) ≤ x) = true := by have h := HA6.out; simp only [decide_eq_true_eq, decide_eq_false_iff_not] at h ⊢; omega
            go_wp2_with fail
            go_meet
            exact ⟨congrArg Value.bool HCC.out, B, BL⟩
      | false =>
        cases b6 with
        | true =>
          cases b7 with
          | true =>
            cases b5 with
            | true =>
              have f0_0 : decide ((0 : Int) < x) = false := HA3.out
              have f0_1 : decide ((x : Int) ≤ 0) = true := by have h := HA3.out; simp only [decide_eq_true_eq, decide_eq_false_iff_not] at h ⊢; omega
              have f3_0 : decide ((x : Int) < 0) = true := HA6.out
              have f3_1 : decide ((0 : Int) ≤ x) = false := by have h := HA6.out; simp only [decide_eq_true_eq, decide_eq_false_iff_not] at h ⊢; omega
              have f4_0 : decide ((y : Int) < 0) = true := HA7.out
              have f4_1 : decide ((0 : Int) ≤ y) = false := by have h := HA7.out; simp only [decide_eq_true_eq, decide_eq_false_iff_not] at h ⊢; omega
              have f2_0 : decide ((i3 : Int) < 0) = true := HA5.out
              have f2_1 : decide ((0 : Int) ≤ i3) = false := by have h := HA5.out; simp only [decide_eq_true_eq, decide_eq_false_iff_not] at h ⊢; omega
              go_wp2_with fail
              go_meet
              exact ⟨congrArg Value.bool HCC.out, B, BL⟩
            | false =>
              have f0_0 : decide ((0 : Int) < x) = false := HA3.out
              have f0_1 : decide ((x : Int) ≤ 0) = true := by have h := HA3.out; simp only [decide_eq_true_eq, decide_eq_false_iff_not] at h ⊢; omega
              have f3_0 : decide ((x : Int) < 0) = true := HA6.out
              have f3_1 : decide ((0 : Int) ≤ x) = false := by have h := HA6.out; simp only [decide_eq_true_eq, decide_eq_false_iff_not] at h ⊢; omega
              have f4_0 : decide ((y : Int) < 0) = true := HA7.out
              have f4_1 : decide ((0 : Int) ≤ y) = false := by have h := HA7.out; simp only [decide_eq_true_eq, decide_eq_false_iff_not] at h ⊢; omega
              have f2_0 : decide ((i3 : Int) < 0) = false := HA5.out
              have f2_1 : decide ((0 : Int) ≤ i3) = true := by have h := HA5.out; simp only [decide_eq_true_eq, decide_eq_false_iff_not] at h ⊢; omega
              go_wp2_with fail
              go_meet
              exact ⟨congrArg Value.bool HCC.out, B, BL⟩
          | false =>
            have f0_0 : decide ((0 : Int) < x) = false := HA3.out
            have f0_1 : decide ((x : Int) ≤ 0) = true := by have h := HA3.out; simp only [decide_eq_true_eq, decide_eq_false_iff_not] at h ⊢; omega
            have f3_0 : decide ((x : Int) < 0) = true := HA6.out
            have f3_1 : decide ((0 : Int) ≤ x) = false := by have h := HA6.out; simp only [decide_eq_true_eq, decide_eq_false_iff_not] at h ⊢; omega
            have f4_0 : decide ((y : Int) < 0) = false := HA7.out
            have f4_1 : decide ((0 : Int) ≤ y) = true := by have h := HA7.out; simp only [decide_eq_true_eq, decide_eq_false_iff_not] at h ⊢; omega
            go_wp2_with fail
            go_meet
            exact ⟨congrArg Value.bool HCC.out, B, BL⟩
        | false =>
          have f0_0 : decide ((0 : Int) < x) = false := HA3.out
          have f0_1 : decide ((x : Int) ≤ 0) = true := by have h := HA3.out; simp only [decide_eq_true_eq, decide_eq_false_iff_not] at h ⊢; omega
          have f3_0 : decide ((x : Int) < 0) = false := HA6.out
          have f3_1 : decide ((0 : Int) ≤ x) = true := by have h := HA6.out; simp only [decide_eq_true_eq, decide_eq_false_iff_not] at h ⊢; omega
          go_wp2_with fail
          go_meet
          exact ⟨congrArg Value.bool HCC.out, B, BL⟩
    case rest =>
      clear B BL
      obtain ⟨rfl, B, BL⟩ := hcut
      obtain ⟨W15, hW⟩ : ∃ X, wc = X := ⟨_, rfl⟩
      rw [hW] at B BL ⊢
      clear hW
      have HR4 : Hid (((((decide ((0 : Int) < x)) && (decide ((0 : Int) < y))) && (decide ((i3 : Int) < 0))) || (((decide ((x : Int) < 0)) && (decide ((y : Int) < 0))) && (!(decide ((i3 : Int) < 0))))) = c4) := Lib.hid (by rw [HA3.out, HA4.out, HA5.out, HA6.out, HA7.out]; exact HCC.out)
      clear HCC HA3 HA4 HA5 HA6 HA7
      replace HL := Lib.hid (show true = BigMachine_s9 x y ((⟨r0k, r0n, r0t⟩, r0e) : Vl × Int) ((⟨r1k, r1n, r1t⟩, r1e) : Vl × Int) ((⟨r2k, r2n, r2t⟩, r2e) : Vl × Int) i3 c4 from HL.out.trans (by unfold BigMachine_s10; rw [HR4.out]))
      -- region 9, a test
      obtain ⟨b8, h⟩ : ∃ b : Bool, (veqB r0k r0n r0t 1 i3 []) = b := ⟨_, rfl⟩
      have HA8 := Lib.hid h
      clear h
      obtain ⟨b9, h⟩ : ∃ b : Bool, (r0k == 2) = b := ⟨_, rfl⟩
      have HA9 := Lib.hid h
      clear h
      have HCF : ((c4 == (veqB r0k r0n r0t 1 i3 [])) || (c4 != (r0k == 2))) = false := Bool.eq_false_iff.2 fun h => Bool.noConfusion (show true = false from HL.out.trans (if_pos h))
      have HCB : ((c4 == b8) || (c4 != b9)) = false := by
        have h := HCF
        rw [HA8.out, HA9.out] at h
        exact h
      have HCW := Lib.hid HCF
      have HCC := Lib.hid HCB
      clear HCF HCB
      go_upto_region 9 with fail
      go_cut [88] from 76 to 88 (fun v wx => v = .bool false ∧ Hid (Bxs wx [(g2, (⟨r2k, r2n, r2t⟩ : Vl)), (g1, (⟨r1k, r1n, r1t⟩ : Vl)), (g0, (⟨r0k, r0n, r0t⟩ : Vl))]) ∧ Hid (Below w.heap.size w wx))
      case first =>
        clear HL
        cases b8 with
        | true =>
          cases c4 with
          | true =>
            exact Bool.noConfusion (show true = false from HCC.out)
          | false =>
            cases b9 with
            | true =>
              exact Bool.noConfusion (show true = false from HCC.out)
            | false =>
              have f0_0 : (veqB r0k r0n r0t 1 i3 []) = true := HA8.out
              have f1_0 : ((r0k : Int) == 2) = false := HA9.out
              have f1_1 : ((r0k : Int) != 2) = true := by have h := HA9.out; simpa using h
              refine wp_region_noPanic ?_
              refine region_late (fun (X : World) => X.cell? ⟨g0, 0, none⟩ = some (.int .i64 r0k) ∧ X.cell? ⟨g0, 1, none⟩ = some (.int .i64 r0n) ∧ X.cell? ⟨g0, 2, none⟩ = some (.string ⟨List.toArray r0t⟩)) (fun _ => false) (by kernel_rfl) ?_
              have hb := (Below.refl W15.heap.size W15).drew
              obtain ⟨W16, hW⟩ : ∃ X, W15.drew = X := ⟨_, rfl⟩
              rw [hW] at hb ⊢
              clear hW
              replace B := Lib.hid (B.out.below hb)
              replace BL := Lib.hid (below_then BL.out hb)
              clear hb
              have hHeld : W16.cell? ⟨g0, 0, none⟩ = some (.int .i64 r0k) ∧ W16.cell? ⟨g0, 1, none⟩ = some (.int .i64 r0n) ∧ W16.cell? ⟨g0, 2, none⟩ = some (.string ⟨List.toArray r0t⟩) := ⟨(B.out.get 2 rfl).c0, (B.out.get 2 rfl).c1, (B.out.get 2 rfl).c2⟩
              refine late_pure_at (some 76) (i := 0) (v := (.bool false)) rfl rfl rfl (by kernel_rfl) (by kernel_rfl) (by kernel_rfl) (fun _ _ _ h => h) (Or.inl ⟨by rfl, by intro w _; go_simp⟩) (fun _ => hHeld) ?_
              try simp only [Act.put, List.setIfInBounds_toArray, List.set_cons_zero, List.set_cons_succ]
              refine late_take_at (some 77) (i := 1) (v := (.agg #[.int .i64 r0k, .int .i64 r0n, .string ⟨List.toArray r0t⟩])) rfl rfl rfl (by kernel_rfl) (by kernel_rfl) (by kernel_rfl) (by kernel_rfl) (fun _ _ _ h => h) clean_none (Or.inl ⟨by rfl, by intro w hSw; go_split_ands; go_simp⟩) hHeld ?_
              try simp only [Act.put, List.setIfInBounds_toArray, List.set_cons_zero, List.set_cons_succ]
              refine late_pure_at (some 78) (i := 2) (v := (.int .i64 i3)) rfl rfl rfl (by kernel_rfl) (by kernel_rfl) (by kernel_rfl) (fun _ _ _ h => h) (Or.inl ⟨by rfl, by intro w _; go_simp⟩) (fun _ => hHeld) ?_
              try simp only [Act.put, List.setIfInBounds_toArray, List.set_cons_zero, List.set_cons_succ]
              refine late_ready (rs := [3]) (by kernel_rfl) (by simp) ?_
              refine AllLate.cons rfl (fun K hK => ?_) ?_
              · skip
                go_simp
                refine (num_calls i3 _).mono ?_
                rintro e W17 ⟨rfl, hb⟩
                clear hHeld
                replace B := Lib.hid (B.out.below hb)
                replace BL := Lib.hid (below_then BL.out hb)
                clear hb
                have hHeld : W17.cell? ⟨g0, 0, none⟩ = some (.int .i64 r0k) ∧ W17.cell? ⟨g0, 1, none⟩ = some (.int .i64 r0n) ∧ W17.cell? ⟨g0, 2, none⟩ = some (.string ⟨List.toArray r0t⟩) := ⟨(B.out.get 2 rfl).c0, (B.out.get 2 rfl).c1, (B.out.get 2 rfl).c2⟩
                dsimp only
                refine hK.out _ _ (fun _ => hHeld) ?_
                clear hK K
                try simp only [Act.put, List.setIfInBounds_toArray, List.set_cons_zero, List.set_cons_succ]
                refine late_pure_at (some 80) (i := 4) (v := (.bool true)) rfl rfl rfl (by kernel_rfl) (by kernel_rfl) (by kernel_rfl) (fun _ _ _ h => h) (Or.inl ⟨by rfl, by intro w _; go_simp⟩) (fun _ => hHeld) ?_
                try simp only [Act.put, List.setIfInBounds_toArray, List.set_cons_zero, List.set_cons_succ]
                refine late_pure_at (some 81) (i := 5) (v := (.bool false)) rfl rfl rfl (by kernel_rfl) (by kernel_rfl) (by kernel_rfl) (fun _ _ _ h => h) (Or.inl ⟨by rfl, by intro w _; go_simp⟩) (fun _ => hHeld) ?_
                try simp only [Act.put, List.setIfInBounds_toArray, List.set_cons_zero, List.set_cons_succ]
                refine late_pure_at (some 82) (i := 6) (v := (.bool false)) rfl rfl rfl (by kernel_rfl) (by kernel_rfl) (by kernel_rfl) (fun _ _ _ h => h) (Or.inl ⟨by rfl, by intro w _; go_simp⟩) (fun _ => hHeld) ?_
                try simp only [Act.put, List.setIfInBounds_toArray, List.set_cons_zero, List.set_cons_succ]
                refine late_pure_at (some 83) (i := 7) (v := (.bool false)) rfl rfl rfl (by kernel_rfl) (by kernel_rfl) (by kernel_rfl) (fun _ _ _ h => h) (Or.inl ⟨by rfl, by intro w _; go_simp⟩) (fun _ => hHeld) ?_
                try simp only [Act.put, List.setIfInBounds_toArray, List.set_cons_zero, List.set_cons_succ]
                refine late_pure_at (some 84) (i := 8) (v := (.pointer (some ⟨g0, 0, none⟩))) rfl rfl rfl (by kernel_rfl) (by kernel_rfl) (by kernel_rfl) (fun _ _ _ h => h) (Or.inl ⟨by rfl, by intro w _; go_simp⟩) (fun _ => hHeld) ?_
                try simp only [Act.put, List.setIfInBounds_toArray, List.set_cons_zero, List.set_cons_succ]
                refine late_take_at (some 85) (i := 9) (v := (.int .i64 r0k)) rfl rfl rfl (by kernel_rfl) (by kernel_rfl) (by kernel_rfl) (by kernel_rfl) (fun _ _ _ h => h) clean_none (Or.inl ⟨by rfl, by intro w hSw; go_split_ands; go_simp⟩) hHeld ?_
                try simp only [Act.put, List.setIfInBounds_toArray, List.set_cons_zero, List.set_cons_succ]
                refine late_pure_at (some 86) (i := 10) (v := (.bool false)) rfl rfl rfl (by kernel_rfl) (by kernel_rfl) (by kernel_rfl) (fun _ _ _ h => h) (Or.inl ⟨by rfl, by intro w _; go_simp⟩) (fun _ => hHeld) ?_
                try simp only [Act.put, List.setIfInBounds_toArray, List.set_cons_zero, List.set_cons_succ]
                refine late_pure_at (some 87) (i := 11) (v := (.bool false)) rfl rfl rfl (by kernel_rfl) (by kernel_rfl) (by kernel_rfl) (fun _ _ _ h => h) (Or.inl ⟨by rfl, by intro w _; go_simp⟩) (fun _ => hHeld) ?_
                try simp only [Act.put, List.setIfInBounds_toArray, List.set_cons_zero, List.set_cons_succ]
                refine late_pure_at (some 88) (i := 12) (v := (.bool false)) rfl rfl rfl (by kernel_rfl) (by kernel_rfl) (by kernel_rfl) (fun _ _ _ h => h) (Or.inl ⟨by rfl, by intro w _; go_simp⟩) (fun _ => hHeld) ?_
                try simp only [Act.put, List.setIfInBounds_toArray, List.set_cons_zero, List.set_cons_succ]
                refine late_done (by kernel_rfl) ?_ _
                refine NoPanic.normal ?_
                go_wp2_with fail
                go_meet
                exact ⟨rfl, B, BL⟩
              exact AllLate.nil
        | false =>
          cases c4 with
          | true =>
            cases b9 with
            | true =>
              have f0_0 : (veqB r0k r0n r0t 1 i3 []) = false := HA8.out
              have f1_0 : ((r0k : Int) == 2) = true := HA9.out
              have f1_1 : ((r0k : Int) != 2) = false := by have h := HA9.out; simpa using h
              refine wp_region_noPanic ?_
              refine region_late (fun (X : World) => X.cell? ⟨g0, 0, none⟩ = some (.int .i64 r0k) ∧ X.cell? ⟨g0, 1, none⟩ = some (.int .i64 r0n) ∧ X.cell? ⟨g0, 2, none⟩ = some (.string ⟨List.toArray r0t⟩)) (fun _ => false) (by kernel_rfl) ?_
              have hb := (Below.refl W15.heap.size W15).drew
              obtain ⟨W18, hW⟩ : ∃ X, W15.drew = X := ⟨_, rfl⟩
              rw [hW] at hb ⊢
              clear hW
              replace B := Lib.hid (B.out.below hb)
              replace BL := Lib.hid (below_then BL.out hb)
              clear hb
              have hHeld : W18.cell? ⟨g0, 0, none⟩ = some (.int .i64 r0k) ∧ W18.cell? ⟨g0, 1, none⟩ = some (.int .i64 r0n) ∧ W18.cell? ⟨g0, 2, none⟩ = some (.string ⟨List.toArray r0t⟩) := ⟨(B.out.get 2 rfl).c0, (B.out.get 2 rfl).c1, (B.out.get 2 rfl).c2⟩
              refine late_pure_at (some 76) (i := 0) (v := (.bool true)) rfl rfl rfl (by kernel_rfl) (by kernel_rfl) (by kernel_rfl) (fun _ _ _ h => h) (Or.inl ⟨by rfl, by intro w _; go_simp⟩) (fun _ => hHeld) ?_
              try simp only [Act.put, List.setIfInBounds_toArray, List.set_cons_zero, List.set_cons_succ]
              refine late_take_at (some 77) (i := 1) (v := (.agg #[.int .i64 r0k, .int .i64 r0n, .string ⟨List.toArray r0t⟩])) rfl rfl rfl (by kernel_rfl) (by kernel_rfl) (by kernel_rfl) (by kernel_rfl) (fun _ _ _ h => h) clean_none (Or.inl ⟨by rfl, by intro w hSw; go_split_ands; go_simp⟩) hHeld ?_
              try simp only [Act.put, List.setIfInBounds_toArray, List.set_cons_zero, List.set_cons_succ]
              refine late_pure_at (some 78) (i := 2) (v := (.int .i64 i3)) rfl rfl rfl (by kernel_rfl) (by kernel_rfl) (by kernel_rfl) (fun _ _ _ h => h) (Or.inl ⟨by rfl, by intro w _; go_simp⟩) (fun _ => hHeld) ?_
              try simp only [Act.put, List.setIfInBounds_toArray, List.set_cons_zero, List.set_cons_succ]
              refine late_ready (rs := [3]) (by kernel_rfl) (by simp) ?_
              refine AllLate.cons rfl (fun K hK => ?_) ?_
              · skip
                go_simp
                refine (num_calls i3 _).mono ?_
                rintro e W19 ⟨rfl, hb⟩
                clear hHeld
                replace B := Lib.hid (B.out.below hb)
                replace BL := Lib.hid (below_then BL.out hb)
                clear hb
                have hHeld : W19.cell? ⟨g0, 0, none⟩ = some (.int .i64 r0k) ∧ W19.cell? ⟨g0, 1, none⟩ = some (.int .i64 r0n) ∧ W19.cell? ⟨g0, 2, none⟩ = some (.string ⟨List.toArray r0t⟩) := ⟨(B.out.get 2 rfl).c0, (B.out.get 2 rfl).c1, (B.out.get 2 rfl).c2⟩
                dsimp only
                refine hK.out _ _ (fun _ => hHeld) ?_
                clear hK K
                try simp only [Act.put, List.setIfInBounds_toArray, List.set_cons_zero, List.set_cons_succ]
                refine late_pure_at (some 80) (i := 4) (v := (.bool false)) rfl rfl rfl (by kernel_rfl) (by kernel_rfl) (by kernel_rfl) (fun _ _ _ h => h) (Or.inl ⟨by rfl, by intro w _; go_simp⟩) (fun _ => hHeld) ?_
                try simp only [Act.put, List.setIfInBounds_toArray, List.set_cons_zero, List.set_cons_succ]
                refine late_pure_at (some 81) (i := 5) (v := (.bool false)) rfl rfl rfl (by kernel_rfl) (by kernel_rfl) (by kernel_rfl) (fun _ _ _ h => h) (Or.inl ⟨by rfl, by intro w _; go_simp⟩) (fun _ => hHeld) ?_
                try simp only [Act.put, List.setIfInBounds_toArray, List.set_cons_zero, List.set_cons_succ]
                refine late_pure_at (some 82) (i := 6) (v := (.bool false)) rfl rfl rfl (by kernel_rfl) (by kernel_rfl) (by kernel_rfl) (fun _ _ _ h => h) (Or.inl ⟨by rfl, by intro w _; go_simp⟩) (fun _ => hHeld) ?_
                try simp only [Act.put, List.setIfInBounds_toArray, List.set_cons_zero, List.set_cons_succ]
                refine late_pure_at (some 83) (i := 7) (v := (.bool true)) rfl rfl rfl (by kernel_rfl) (by kernel_rfl) (by kernel_rfl) (fun _ _ _ h => h) (Or.inl ⟨by rfl, by intro w _; go_simp⟩) (fun _ => hHeld) ?_
                try simp only [Act.put, List.setIfInBounds_toArray, List.set_cons_zero, List.set_cons_succ]
                refine late_pure_at (some 84) (i := 8) (v := (.pointer (some ⟨g0, 0, none⟩))) rfl rfl rfl (by kernel_rfl) (by kernel_rfl) (by kernel_rfl) (fun _ _ _ h => h) (Or.inl ⟨by rfl, by intro w _; go_simp⟩) (fun _ => hHeld) ?_
                try simp only [Act.put, List.setIfInBounds_toArray, List.set_cons_zero, List.set_cons_succ]
                refine late_take_at (some 85) (i := 9) (v := (.int .i64 r0k)) rfl rfl rfl (by kernel_rfl) (by kernel_rfl) (by kernel_rfl) (by kernel_rfl) (fun _ _ _ h => h) clean_none (Or.inl ⟨by rfl, by intro w hSw; go_split_ands; go_simp⟩) hHeld ?_
                try simp only [Act.put, List.setIfInBounds_toArray, List.set_cons_zero, List.set_cons_succ]
                refine late_pure_at (some 86) (i := 10) (v := (.bool true)) rfl rfl rfl (by kernel_rfl) (by kernel_rfl) (by kernel_rfl) (fun _ _ _ h => h) (Or.inl ⟨by rfl, by intro w _; go_simp⟩) (fun _ => hHeld) ?_
                try simp only [Act.put, List.setIfInBounds_toArray, List.set_cons_zero, List.set_cons_succ]
                refine late_pure_at (some 87) (i := 11) (v := (.bool false)) rfl rfl rfl (by kernel_rfl) (by kernel_rfl) (by kernel_rfl) (fun _ _ _ h => h) (Or.inl ⟨by rfl, by intro w _; go_simp⟩) (fun _ => hHeld) ?_
                try simp only [Act.put, List.setIfInBounds_toArray, List.set_cons_zero, List.set_cons_succ]
                refine late_pure_at (some 88) (i := 12) (v := (.bool false)) rfl rfl rfl (by kernel_rfl) (by kernel_rfl) (by kernel_rfl) (fun _ _ _ h => h) (Or.inl ⟨by rfl, by intro w _; go_simp⟩) (fun _ => hHeld) ?_
                try simp only [Act.put, List.setIfInBounds_toArray, List.set_cons_zero, List.set_cons_succ]
                refine late_done (by kernel_rfl) ?_ _
                refine NoPanic.normal ?_
                go_wp2_with fail
                go_meet
                exact ⟨rfl, B, BL⟩
              exact AllLate.nil
            | false =>
              exact Bool.noConfusion (show true = false from HCC.out)
          | false =>
            exact Bool.noConfusion (show true = false from HCC.out)
      case rest =>
        clear B BL
        obtain ⟨rfl, B, BL⟩ := hcut
        obtain ⟨W20, hW⟩ : ∃ X, wc = X := ⟨_, rfl⟩
        rw [hW] at B BL ⊢
        clear hW
        clear HCC HA8 HA9
        replace HL := Lib.hid (show true = BigMachine_s8 x y ((⟨r0k, r0n, r0t⟩, r0e) : Vl × Int) ((⟨r1k, r1n, r1t⟩, r1e) : Vl × Int) ((⟨r2k, r2n, r2t⟩, r2e) : Vl × Int) i3 c4 from HL.out.trans ((if_neg (fun h => Bool.noConfusion (HCW.out.symm.trans h)))))
        -- region 11, a number
        go_upto_region 12 with fail
        obtain ⟨i5, h⟩ : ∃ s : Int, (wrap64 (x - y)) = s := ⟨_, rfl⟩
        rw [h]
        have HR5 := Lib.hid h
        clear h
        replace HL := Lib.hid (show true = BigMachine_s7 x y ((⟨r0k, r0n, r0t⟩, r0e) : Vl × Int) ((⟨r1k, r1n, r1t⟩, r1e) : Vl × Int) ((⟨r2k, r2n, r2t⟩, r2e) : Vl × Int) i3 c4 i5 from HL.out.trans (by unfold BigMachine_s8; rw [HR5.out]))
        -- region 12, a truth
        obtain ⟨b11, h⟩ : ∃ b : Bool, (decide ((x : Int) < 0)) = b := ⟨_, rfl⟩
        have HA11 := Lib.hid h
        clear h
        obtain ⟨b12, h⟩ : ∃ b : Bool, (decide ((y : Int) < 0)) = b := ⟨_, rfl⟩
        have HA12 := Lib.hid h
        clear h
        obtain ⟨b13, h⟩ : ∃ b : Bool, (decide ((i5 : Int) < 0)) = b := ⟨_, rfl⟩
        have HA13 := Lib.hid h
        clear h
        obtain ⟨c6, h⟩ : ∃ c : Bool, ((b11 != b12) && (b13 != b11)) = c := ⟨_, rfl⟩
        have HCC := Lib.hid h
        clear h
        go_upto_region 12 with fail
        go_cut [13] from 92 to 104 (fun v wx => v = .bool c6 ∧ Hid (Bxs wx [(g2, (⟨r2k, r2n, r2t⟩ : Vl)), (g1, (⟨r1k, r1n, r1t⟩ : Vl)), (g0, (⟨r0k, r0n, r0t⟩ : Vl))]) ∧ Hid (Below w.heap.size w wx))
        case first =>
          clear HL
          cases b11 with
          | true =>
            cases b12 with
            | true =>
              have f0_0 : decide ((x : Int) < 0) = true := HA11.out
              have f0_1 : decide ((0 : Int) ≤ x) = false := by have h := HA11.out; simp only [decide_eq_true_eq, decide_eq_false_iff_not] at h ⊢; omega
              have f1_0 : decide ((y : Int) < 0) = true := HA12.out
              have f1_1 : decide ((0 : Int) ≤ y) = false := by have h := HA12.out; simp only [decide_eq_true_eq, decide_eq_false_iff_not] at h ⊢; omega
              go_wp2_with fail
              go_meet
              exact ⟨congrArg Value.bool HCC.out, B, BL⟩
            | false =>
              cases b13 with
              | true =>
                have f0_0 : decide ((x : Int) < 0) = true := HA11.out
                have f0_1 : decide ((0 : Int) ≤ x) = false := by have h := HA11.out; simp only [decide_eq_true_eq, decide_eq_false_iff_not] at h ⊢; omega
                have f1_0 : decide ((y : Int) < 0) = false := HA12.out
                have f1_1 : decide ((0 : Int) ≤ y) = true := by have h := HA12.out; simp only [decide_eq_true_eq, decide_eq_false_iff_not] at h ⊢; omega
                have f2_0 : decide ((i5 : Int) < 0) = true := HA13.out
                have f2_1 : decide ((0 : Int) ≤ i5) = false := by have h := HA13.out; simp only [decide_eq_true_eq, decide_eq_false_iff_not] at h ⊢; omega
                go_wp2_with fail
                go_meet
                exact ⟨congrArg Value.bool HCC.out, B, BL⟩
              | false =>
                have f0_0 : decide ((x : Int) < 0) = true := HA11.out
                have f0_1 : decide ((0 : Int) ≤ x) = false := by have h := HA11.out; simp only [decide_eq_true_eq, decide_eq_false_iff_not] at h ⊢; omega
                have f1_0 : decide ((y : Int) < 0) = false := HA12.out
                have f1_1 : decide ((0 : Int) ≤ y) = true := by have h := HA12.out; simp only [decide_eq_true_eq, decide_eq_false_iff_not] at h ⊢; omega
                have f2_0 : decide ((i5 : Int) < 0) = false := HA13.out
                have f2_1 : decide ((0 : Int) ≤ i5) = true := by have h := HA13.out; simp only [decide_eq_true_eq, decide_eq_false_iff_not] at h ⊢; omega
                go_wp2_with fail
                go_meet
                exact ⟨congrArg Value.bool HCC.out, B, BL⟩
          | false =>
            cases b12 with
            | true =>
              cases b13 with
              | true =>
                have f0_0 : decide ((x : Int) < 0) = false := HA11.out
                have f0_1 : decide ((0 : Int) ≤ x) = true := by have h := HA11.out; simp only [decide_eq_true_eq, decide_eq_false_iff_not] at h ⊢; omega
                have f1_0 : decide ((y : Int) < 0) = true := HA12.out
                have f1_1 : decide ((0 : Int) ≤ y) = false := by have h := HA12.out; simp only [decide_eq_true_eq, decide_eq_false_iff_not] at h ⊢; omega
                have f2_0 : decide ((i5 : Int) < 0) = true := HA13.out
                have f2_1 : decide ((0 : Int) ≤ i5) = false := by have h := HA13.out; simp only [decide_eq_true_eq, decide_eq_false_iff_not] at h ⊢; omega
                go_wp2_with fail
                go_meet
                exact ⟨congrArg Value.bool HCC.out, B, BL⟩
              | false =>
                have f0_0 : decide ((x : Int) < 0) = false := HA11.out
                have f0_1 : decide ((0 : Int) ≤ x) = true := by have h := HA11.out; simp only [decide_eq_true_eq, decide_eq_false_iff_not] at h ⊢; omega
                have f1_0 : decide ((y : Int) < 0) = true := HA12.out
                have f1_1 : decide ((0 : Int) ≤ y) = false := by have h := HA12.out; simp only [decide_eq_true_eq, decide_eq_false_iff_not] at h ⊢; omega
                have f2_0 : decide ((i5 : Int) < 0) = false := HA13.out
                have f2_1 : decide ((0 : Int) ≤ i5) = true := by have h := HA13.out; simp only [decide_eq_true_eq, decide_eq_false_iff_not] at h ⊢; omega
                go_wp2_with fail
                go_meet
                exact ⟨congrArg Value.bool HCC.out, B, BL⟩
            | false =>
              have f0_0 : decide ((x : Int) < 0) = false := HA11.out
              have f0_1 : decide ((0 : Int) ≤ x) = true := by have h := HA11.out; simp only [decide_eq_true_eq, decide_eq_false_iff_not] at h ⊢; omega
              have f1_0 : decide ((y : Int) < 0) = false := HA12.out
              have f1_1 : decide ((0 : Int) ≤ y) = true := by have h := HA12.out; simp only [decide_eq_true_eq, decide_eq_false_iff_not] at h ⊢; omega
              go_wp2_with fail
              go_meet
              exact ⟨congrArg Value.bool HCC.out, B, BL⟩
        case rest =>
          clear B BL
          obtain ⟨rfl, B, BL⟩ := hcut
          obtain ⟨W21, hW⟩ : ∃ X, wc = X := ⟨_, rfl⟩
          rw [hW] at B BL ⊢
          clear hW
          have HR6 : Hid ((((decide ((x : Int) < 0)) != (decide ((y : Int) < 0))) && ((decide ((i5 : Int) < 0)) != (decide ((x : Int) < 0)))) = c6) := Lib.hid (by rw [HA11.out, HA12.out, HA13.out]; exact HCC.out)
          clear HCC HA11 HA12 HA13
          replace HL := Lib.hid (show true = BigMachine_s6 x y ((⟨r0k, r0n, r0t⟩, r0e) : Vl × Int) ((⟨r1k, r1n, r1t⟩, r1e) : Vl × Int) ((⟨r2k, r2n, r2t⟩, r2e) : Vl × Int) i3 c4 i5 c6 from HL.out.trans (by unfold BigMachine_s7; rw [HR6.out]))
          -- region 13, a test
          obtain ⟨b14, h⟩ : ∃ b : Bool, (veqB r1k r1n r1t 1 i5 []) = b := ⟨_, rfl⟩
          have HA14 := Lib.hid h
          clear h
          obtain ⟨b15, h⟩ : ∃ b : Bool, (r1k == 2) = b := ⟨_, rfl⟩
          have HA15 := Lib.hid h
          clear h
          have HCF : ((c6 == (veqB r1k r1n r1t 1 i5 [])) || (c6 != (r1k == 2))) = false := Bool.eq_false_iff.2 fun h => Bool.noConfusion (show true = false from HL.out.trans (if_pos h))
          have HCB : ((c6 == b14) || (c6 != b15)) = false := by
            have h := HCF
            rw [HA14.out, HA15.out] at h
            exact h
          have HCW := Lib.hid HCF
          have HCC := Lib.hid HCB
          clear HCF HCB
          go_upto_region 13 with fail
          go_cut [116] from 104 to 116 (fun v wx => v = .bool false ∧ Hid (Bxs wx [(g2, (⟨r2k, r2n, r2t⟩ : Vl)), (g1, (⟨r1k, r1n, r1t⟩ : Vl)), (g0, (⟨r0k, r0n, r0t⟩ : Vl))]) ∧ Hid (Below w.heap.size w wx))
          case first =>
            clear HL
            cases b14 with
            | true =>
              cases c6 with
              | true =>
                exact Bool.noConfusion (show true = false from HCC.out)
              | false =>
                cases b15 with
                | true =>
                  exact Bool.noConfusion (show true = false from HCC.out)
                | false =>
                  have f0_0 : (veqB r1k r1n r1t 1 i5 []) = true := HA14.out
                  have f1_0 : ((r1k : Int) == 2) = false := HA15.out
                  have f1_1 : ((r1k : Int) != 2) = true := by have h := HA15.out; simpa using h
                  refine wp_region_noPanic ?_
                  refine region_late (fun (X : World) => X.cell? ⟨g1, 0, none⟩ = some (.int .i64 r1k) ∧ X.cell? ⟨g1, 1, none⟩ = some (.int .i64 r1n) ∧ X.cell? ⟨g1, 2, none⟩ = some (.string ⟨List.toArray r1t⟩)) (fun _ => false) (by kernel_rfl) ?_
                  have hb := (Below.refl W21.heap.size W21).drew
                  obtain ⟨W22, hW⟩ : ∃ X, W21.drew = X := ⟨_, rfl⟩
                  rw [hW] at hb ⊢
                  clear hW
                  replace B := Lib.hid (B.out.below hb)
                  replace BL := Lib.hid (below_then BL.out hb)
                  clear hb
                  have hHeld : W22.cell? ⟨g1, 0, none⟩ = some (.int .i64 r1k) ∧ W22.cell? ⟨g1, 1, none⟩ = some (.int .i64 r1n) ∧ W22.cell? ⟨g1, 2, none⟩ = some (.string ⟨List.toArray r1t⟩) := ⟨(B.out.get 1 rfl).c0, (B.out.get 1 rfl).c1, (B.out.get 1 rfl).c2⟩
                  refine late_pure_at (some 104) (i := 0) (v := (.bool false)) rfl rfl rfl (by kernel_rfl) (by kernel_rfl) (by kernel_rfl) (fun _ _ _ h => h) (Or.inl ⟨by rfl, by intro w _; go_simp⟩) (fun _ => hHeld) ?_
                  try simp only [Act.put, List.setIfInBounds_toArray, List.set_cons_zero, List.set_cons_succ]
                  refine late_take_at (some 105) (i := 1) (v := (.agg #[.int .i64 r1k, .int .i64 r1n, .string ⟨List.toArray r1t⟩])) rfl rfl rfl (by kernel_rfl) (by kernel_rfl) (by kernel_rfl) (by kernel_rfl) (fun _ _ _ h => h) clean_none (Or.inl ⟨by rfl, by intro w hSw; go_split_ands; go_simp⟩) hHeld ?_
                  try simp only [Act.put, List.setIfInBounds_toArray, List.set_cons_zero, List.set_cons_succ]
                  refine late_pure_at (some 106) (i := 2) (v := (.int .i64 i5)) rfl rfl rfl (by kernel_rfl) (by kernel_rfl) (by kernel_rfl) (fun _ _ _ h => h) (Or.inl ⟨by rfl, by intro w _; go_simp⟩) (fun _ => hHeld) ?_
                  try simp only [Act.put, List.setIfInBounds_toArray, List.set_cons_zero, List.set_cons_succ]
                  refine late_ready (rs := [3]) (by kernel_rfl) (by simp) ?_
                  refine AllLate.cons rfl (fun K hK => ?_) ?_
                  · skip
                    go_simp
                    refine (num_calls i5 _).mono ?_
                    rintro e W23 ⟨rfl, hb⟩
                    clear hHeld
                    replace B := Lib.hid (B.out.below hb)
                    replace BL := Lib.hid (below_then BL.out hb)
                    clear hb
                    have hHeld : W23.cell? ⟨g1, 0, none⟩ = some (.int .i64 r1k) ∧ W23.cell? ⟨g1, 1, none⟩ = some (.int .i64 r1n) ∧ W23.cell? ⟨g1, 2, none⟩ = some (.string ⟨List.toArray r1t⟩) := ⟨(B.out.get 1 rfl).c0, (B.out.get 1 rfl).c1, (B.out.get 1 rfl).c2⟩
                    dsimp only
                    refine hK.out _ _ (fun _ => hHeld) ?_
                    clear hK K
                    try simp only [Act.put, List.setIfInBounds_toArray, List.set_cons_zero, List.set_cons_succ]
                    refine late_pure_at (some 108) (i := 4) (v := (.bool true)) rfl rfl rfl (by kernel_rfl) (by kernel_rfl) (by kernel_rfl) (fun _ _ _ h => h) (Or.inl ⟨by rfl, by intro w _; go_simp⟩) (fun _ => hHeld) ?_
                    try simp only [Act.put, List.setIfInBounds_toArray, List.set_cons_zero, List.set_cons_succ]
                    refine late_pure_at (some 109) (i := 5) (v := (.bool false)) rfl rfl rfl (by kernel_rfl) (by kernel_rfl) (by kernel_rfl) (fun _ _ _ h => h) (Or.inl ⟨by rfl, by intro w _; go_simp⟩) (fun _ => hHeld) ?_
                    try simp only [Act.put, List.setIfInBounds_toArray, List.set_cons_zero, List.set_cons_succ]
                    refine late_pure_at (some 110) (i := 6) (v := (.bool false)) rfl rfl rfl (by kernel_rfl) (by kernel_rfl) (by kernel_rfl) (fun _ _ _ h => h) (Or.inl ⟨by rfl, by intro w _; go_simp⟩) (fun _ => hHeld) ?_
                    try simp only [Act.put, List.setIfInBounds_toArray, List.set_cons_zero, List.set_cons_succ]
                    refine late_pure_at (some 111) (i := 7) (v := (.bool false)) rfl rfl rfl (by kernel_rfl) (by kernel_rfl) (by kernel_rfl) (fun _ _ _ h => h) (Or.inl ⟨by rfl, by intro w _; go_simp⟩) (fun _ => hHeld) ?_
                    try simp only [Act.put, List.setIfInBounds_toArray, List.set_cons_zero, List.set_cons_succ]
                    refine late_pure_at (some 112) (i := 8) (v := (.pointer (some ⟨g1, 0, none⟩))) rfl rfl rfl (by kernel_rfl) (by kernel_rfl) (by kernel_rfl) (fun _ _ _ h => h) (Or.inl ⟨by rfl, by intro w _; go_simp⟩) (fun _ => hHeld) ?_
                    try simp only [Act.put, List.setIfInBounds_toArray, List.set_cons_zero, List.set_cons_succ]
                    refine late_take_at (some 113) (i := 9) (v := (.int .i64 r1k)) rfl rfl rfl (by kernel_rfl) (by kernel_rfl) (by kernel_rfl) (by kernel_rfl) (fun _ _ _ h => h) clean_none (Or.inl ⟨by rfl, by intro w hSw; go_split_ands; go_simp⟩) hHeld ?_
                    try simp only [Act.put, List.setIfInBounds_toArray, List.set_cons_zero, List.set_cons_succ]
                    refine late_pure_at (some 114) (i := 10) (v := (.bool false)) rfl rfl rfl (by kernel_rfl) (by kernel_rfl) (by kernel_rfl) (fun _ _ _ h => h) (Or.inl ⟨by rfl, by intro w _; go_simp⟩) (fun _ => hHeld) ?_
                    try simp only [Act.put, List.setIfInBounds_toArray, List.set_cons_zero, List.set_cons_succ]
                    refine late_pure_at (some 115) (i := 11) (v := (.bool false)) rfl rfl rfl (by kernel_rfl) (by kernel_rfl) (by kernel_rfl) (fun _ _ _ h => h) (Or.inl ⟨by rfl, by intro w _; go_simp⟩) (fun _ => hHeld) ?_
                    try simp only [Act.put, List.setIfInBounds_toArray, List.set_cons_zero, List.set_cons_succ]
                    refine late_pure_at (some 116) (i := 12) (v := (.bool false)) rfl rfl rfl (by kernel_rfl) (by kernel_rfl) (by kernel_rfl) (fun _ _ _ h => h) (Or.inl ⟨by rfl, by intro w _; go_simp⟩) (fun _ => hHeld) ?_
                    try simp only [Act.put, List.setIfInBounds_toArray, List.set_cons_zero, List.set_cons_succ]
                    refine late_done (by kernel_rfl) ?_ _
                    refine NoPanic.normal ?_
                    go_wp2_with fail
                    go_meet
                    exact ⟨rfl, B, BL⟩
                  exact AllLate.nil
            | false =>
              cases c6 with
              | true =>
                cases b15 with
                | true =>
                  have f0_0 : (veqB r1k r1n r1t 1 i5 []) = false := HA14.out
                  have f1_0 : ((r1k : Int) == 2) = true := HA15.out
                  have f1_1 : ((r1k : Int) != 2) = false := by have h := HA15.out; simpa using h
                  refine wp_region_noPanic ?_
                  refine region_late (fun (X : World) => X.cell? ⟨g1, 0, none⟩ = some (.int .i64 r1k) ∧ X.cell? ⟨g1, 1, none⟩ = some (.int .i64 r1n) ∧ X.cell? ⟨g1, 2, none⟩ = some (.string ⟨List.toArray r1t⟩)) (fun _ => false) (by kernel_rfl) ?_
                  have hb := (Below.refl W21.heap.size W21).drew
                  obtain ⟨W24, hW⟩ : ∃ X, W21.drew = X := ⟨_, rfl⟩
                  rw [hW] at hb ⊢
                  clear hW
                  replace B := Lib.hid (B.out.below hb)
                  replace BL := Lib.hid (below_then BL.out hb)
                  clear hb
                  have hHeld : W24.cell? ⟨g1, 0, none⟩ = some (.int .i64 r1k) ∧ W24.cell? ⟨g1, 1, none⟩ = some (.int .i64 r1n) ∧ W24.cell? ⟨g1, 2, none⟩ = some (.string ⟨List.toArray r1t⟩) := ⟨(B.out.get 1 rfl).c0, (B.out.get 1 rfl).c1, (B.out.get 1 rfl).c2⟩
                  refine late_pure_at (some 104) (i := 0) (v := (.bool true)) rfl rfl rfl (by kernel_rfl) (by kernel_rfl) (by kernel_rfl) (fun _ _ _ h => h) (Or.inl ⟨by rfl, by intro w _; go_simp⟩) (fun _ => hHeld) ?_
                  try simp only [Act.put, List.setIfInBounds_toArray, List.set_cons_zero, List.set_cons_succ]
                  refine late_take_at (some 105) (i := 1) (v := (.agg #[.int .i64 r1k, .int .i64 r1n, .string ⟨List.toArray r1t⟩])) rfl rfl rfl (by kernel_rfl) (by kernel_rfl) (by kernel_rfl) (by kernel_rfl) (fun _ _ _ h => h) clean_none (Or.inl ⟨by rfl, by intro w hSw; go_split_ands; go_simp⟩) hHeld ?_
                  try simp only [Act.put, List.setIfInBounds_toArray, List.set_cons_zero, List.set_cons_succ]
                  refine late_pure_at (some 106) (i := 2) (v := (.int .i64 i5)) rfl rfl rfl (by kernel_rfl) (by kernel_rfl) (by kernel_rfl) (fun _ _ _ h => h) (Or.inl ⟨by rfl, by intro w _; go_simp⟩) (fun _ => hHeld) ?_
                  try simp only [Act.put, List.setIfInBounds_toArray, List.set_cons_zero, List.set_cons_succ]
                  refine late_ready (rs := [3]) (by kernel_rfl) (by simp) ?_
                  refine AllLate.cons rfl (fun K hK => ?_) ?_
                  · skip
                    go_simp
                    refine (num_calls i5 _).mono ?_
                    rintro e W25 ⟨rfl, hb⟩
                    clear hHeld
                    replace B := Lib.hid (B.out.below hb)
                    replace BL := Lib.hid (below_then BL.out hb)
                    clear hb
                    have hHeld : W25.cell? ⟨g1, 0, none⟩ = some (.int .i64 r1k) ∧ W25.cell? ⟨g1, 1, none⟩ = some (.int .i64 r1n) ∧ W25.cell? ⟨g1, 2, none⟩ = some (.string ⟨List.toArray r1t⟩) := ⟨(B.out.get 1 rfl).c0, (B.out.get 1 rfl).c1, (B.out.get 1 rfl).c2⟩
                    dsimp only
                    refine hK.out _ _ (fun _ => hHeld) ?_
                    clear hK K
                    try simp only [Act.put, List.setIfInBounds_toArray, List.set_cons_zero, List.set_cons_succ]
                    refine late_pure_at (some 108) (i := 4) (v := (.bool false)) rfl rfl rfl (by kernel_rfl) (by kernel_rfl) (by kernel_rfl) (fun _ _ _ h => h) (Or.inl ⟨by rfl, by intro w _; go_simp⟩) (fun _ => hHeld) ?_
                    try simp only [Act.put, List.setIfInBounds_toArray, List.set_cons_zero, List.set_cons_succ]
                    refine late_pure_at (some 109) (i := 5) (v := (.bool false)) rfl rfl rfl (by kernel_rfl) (by kernel_rfl) (by kernel_rfl) (fun _ _ _ h => h) (Or.inl ⟨by rfl, by intro w _; go_simp⟩) (fun _ => hHeld) ?_
                    try simp only [Act.put, List.setIfInBounds_toArray, List.set_cons_zero, List.set_cons_succ]
                    refine late_pure_at (some 110) (i := 6) (v := (.bool false)) rfl rfl rfl (by kernel_rfl) (by kernel_rfl) (by kernel_rfl) (fun _ _ _ h => h) (Or.inl ⟨by rfl, by intro w _; go_simp⟩) (fun _ => hHeld) ?_
                    try simp only [Act.put, List.setIfInBounds_toArray, List.set_cons_zero, List.set_cons_succ]
                    refine late_pure_at (some 111) (i := 7) (v := (.bool true)) rfl rfl rfl (by kernel_rfl) (by kernel_rfl) (by kernel_rfl) (fun _ _ _ h => h) (Or.inl ⟨by rfl, by intro w _; go_simp⟩) (fun _ => hHeld) ?_
                    try simp only [Act.put, List.setIfInBounds_toArray, List.set_cons_zero, List.set_cons_succ]
                    refine late_pure_at (some 112) (i := 8) (v := (.pointer (some ⟨g1, 0, none⟩))) rfl rfl rfl (by kernel_rfl) (by kernel_rfl) (by kernel_rfl) (fun _ _ _ h => h) (Or.inl ⟨by rfl, by intro w _; go_simp⟩) (fun _ => hHeld) ?_
                    try simp only [Act.put, List.setIfInBounds_toArray, List.set_cons_zero, List.set_cons_succ]
                    refine late_take_at (some 113) (i := 9) (v := (.int .i64 r1k)) rfl rfl rfl (by kernel_rfl) (by kernel_rfl) (by kernel_rfl) (by kernel_rfl) (fun _ _ _ h => h) clean_none (Or.inl ⟨by rfl, by intro w hSw; go_split_ands; go_simp⟩) hHeld ?_
                    try simp only [Act.put, List.setIfInBounds_toArray, List.set_cons_zero, List.set_cons_succ]
                    refine late_pure_at (some 114) (i := 10) (v := (.bool true)) rfl rfl rfl (by kernel_rfl) (by kernel_rfl) (by kernel_rfl) (fun _ _ _ h => h) (Or.inl ⟨by rfl, by intro w _; go_simp⟩) (fun _ => hHeld) ?_
                    try simp only [Act.put, List.setIfInBounds_toArray, List.set_cons_zero, List.set_cons_succ]
                    refine late_pure_at (some 115) (i := 11) (v := (.bool false)) rfl rfl rfl (by kernel_rfl) (by kernel_rfl) (by kernel_rfl) (fun _ _ _ h => h) (Or.inl ⟨by rfl, by intro w _; go_simp⟩) (fun _ => hHeld) ?_
                    try simp only [Act.put, List.setIfInBounds_toArray, List.set_cons_zero, List.set_cons_succ]
                    refine late_pure_at (some 116) (i := 12) (v := (.bool false)) rfl rfl rfl (by kernel_rfl) (by kernel_rfl) (by kernel_rfl) (fun _ _ _ h => h) (Or.inl ⟨by rfl, by intro w _; go_simp⟩) (fun _ => hHeld) ?_
                    try simp only [Act.put, List.setIfInBounds_toArray, List.set_cons_zero, List.set_cons_succ]
                    refine late_done (by kernel_rfl) ?_ _
                    refine NoPanic.normal ?_
                    go_wp2_with fail
                    go_meet
                    exact ⟨rfl, B, BL⟩
                  exact AllLate.nil
                | false =>
                  exact Bool.noConfusion (show true = false from HCC.out)
              | false =>
                exact Bool.noConfusion (show true = false from HCC.out)
          case rest =>
            clear B BL
            obtain ⟨rfl, B, BL⟩ := hcut
            obtain ⟨W26, hW⟩ : ∃ X, wc = X := ⟨_, rfl⟩
            rw [hW] at B BL ⊢
            clear hW
            clear HCC HA14 HA15
            replace HL := Lib.hid (show true = BigMachine_s5 x y ((⟨r0k, r0n, r0t⟩, r0e) : Vl × Int) ((⟨r1k, r1n, r1t⟩, r1e) : Vl × Int) ((⟨r2k, r2n, r2t⟩, r2e) : Vl × Int) i3 c4 i5 c6 from HL.out.trans ((if_neg (fun h => Bool.noConfusion (HCW.out.symm.trans h)))))
            -- region 15, a number
            go_upto_region 16 with fail
            obtain ⟨i7, h⟩ : ∃ s : Int, (wrap64 (x * y)) = s := ⟨_, rfl⟩
            rw [h]
            have HR7 := Lib.hid h
            clear h
            replace HL := Lib.hid (show true = BigMachine_s4 x y ((⟨r0k, r0n, r0t⟩, r0e) : Vl × Int) ((⟨r1k, r1n, r1t⟩, r1e) : Vl × Int) ((⟨r2k, r2n, r2t⟩, r2e) : Vl × Int) i3 c4 i5 c6 i7 from HL.out.trans (by unfold BigMachine_s5; rw [HR7.out]))
            -- region 16, a truth
            obtain ⟨b17, h⟩ : ∃ b : Bool, (x == 0) = b := ⟨_, rfl⟩
            have HA17 := Lib.hid h
            clear h
            obtain ⟨b18, h⟩ : ∃ b : Bool, ((wrap64 (Int.tdiv i7 x)) == y) = b := ⟨_, rfl⟩
            have HA18 := Lib.hid h
            clear h
            obtain ⟨b19, h⟩ : ∃ b : Bool, (x == (-1)) = b := ⟨_, rfl⟩
            have HA19 := Lib.hid h
            clear h
            obtain ⟨b20, h⟩ : ∃ b : Bool, (y == (-9223372036854775808)) = b := ⟨_, rfl⟩
            have HA20 := Lib.hid h
            clear h
            obtain ⟨c8, h⟩ : ∃ c : Bool, ((!b17) && ((!b18) || (b19 && b20))) = c := ⟨_, rfl⟩
            have HCC := Lib.hid h
            clear h
            go_upto_region 16 with fail
            go_cut [13] from 120 to 137 (fun v wx => v = .bool c8 ∧ Hid (Bxs wx [(g2, (⟨r2k, r2n, r2t⟩ : Vl)), (g1, (⟨r1k, r1n, r1t⟩ : Vl)), (g0, (⟨r0k, r0n, r0t⟩ : Vl))]) ∧ Hid (Below w.heap.size w wx))
            case first =>
              clear HL
              cases b17 with
              | true =>
                have f0_0 : ((x : Int) == 0) = true := HA17.out
                have f0_1 : ((x : Int) != 0) = false := by have h := HA17.out; simpa using h
                go_wp2_with fail
                go_meet
                exact ⟨congrArg Value.bool HCC.out, B, BL⟩
              | false =>
                cases b18 with
                | true =>
                  cases b19 with
                  | true =>
                    cases b20 with
                    | true =>
                      have f0_0 : ((x : Int) == 0) = false := HA17.out
                      have f0_1 : ((x : Int) != 0) = true := by have h := HA17.out; simpa using h
                      have f0_2 : ¬ x = 0 := by have h := HA17.out; simpa using h
                      have f1_0 : (((wrap64 (Int.tdiv i7 x)) : Int) == y) = true := HA18.out
                      have f1_1 : (((wrap64 (Int.tdiv i7 x)) : Int) != y) = false := by have h := HA18.out; simpa using h
                      have f2_0 : ((x : Int) == (-1)) = true := HA19.out
                      have f2_1 : ((x : Int) != (-1)) = false := by have h := HA19.out; simpa using h
                      have f3_0 : ((y : Int) == (-9223372036854775808)) = true := HA20.out
                      have f3_1 : ((y : Int) != (-9223372036854775808)) = false := by have h := HA20.out; simpa using h
                      go_wp2_with fail
                      go_meet
                      exact ⟨congrArg Value.bool HCC.out, B, BL⟩
                    | false =>
                      have f0_0 : ((x : Int) == 0) = false := HA17.out
                      have f0_1 : ((x : Int) != 0) = true := by have h := HA17.out; simpa using h
                      have f0_2 : ¬ x = 0 := by have h := HA17.out; simpa using h
                      have f1_0 : (((wrap64 (Int.tdiv i7 x)) : Int) == y) = true := HA18.out
                      have f1_1 : (((wrap64 (Int.tdiv i7 x)) : Int) != y) = false := by have h := HA18.out; simpa using h
                      have f2_0 : ((x : Int) == (-1)) = true := HA19.out
                      have f2_1 : ((x : Int) != (-1)) = false := by have h := HA19.out; simpa using h
                      have f3_0 : ((y : Int) == (-9223372036854775808)) = false := HA20.out
                      have f3_1 : ((y : Int) != (-9223372036854775808)) = true := by have h := HA20.out; simpa using h
                      go_wp2_with fail
                      go_meet
                      exact ⟨congrArg Value.bool HCC.out, B, BL⟩
                  | false =>
                    have f0_0 : ((x : Int) == 0) = false := HA17.out
                    have f0_1 : ((x : Int) != 0) = true := by have h := HA17.out; simpa using h
                    have f0_2 : ¬ x = 0 := by have h := HA17.out; simpa using h
                    have f1_0 : (((wrap64 (Int.tdiv i7 x)) : Int) == y) = true := HA18.out
                    have f1_1 : (((wrap64 (Int.tdiv i7 x)) : Int) != y) = false := by have h := HA18.out; simpa using h
                    have f2_0 : ((x : Int) == (-1)) = false := HA19.out
                    have f2_1 : ((x : Int) != (-1)) = true := by have h := HA19.out; simpa using h
                    go_wp2_with fail
                    go_meet
                    exact ⟨congrArg Value.bool HCC.out, B, BL⟩
                | false =>
                  have f0_0 : ((x : Int) == 0) = false := HA17.out
                  have f0_1 : ((x : Int) != 0) = true := by have h := HA17.out; simpa using h
                  have f0_2 : ¬ x = 0 := by have h := HA17.out; simpa using h
                  have f1_0 : (((wrap64 (Int.tdiv i7 x)) : Int) == y) = false := HA18.out
                  have f1_1 : (((wrap64 (Int.tdiv i7 x)) : Int) != y) = true := by have h := HA18.out; simpa using h
                  go_wp2_with fail
                  go_meet
                  exact ⟨congrArg Value.bool HCC.out, B, BL⟩
            case rest =>
              clear B BL
              obtain ⟨rfl, B, BL⟩ := hcut
              obtain ⟨W27, hW⟩ : ∃ X, wc = X := ⟨_, rfl⟩
              rw [hW] at B BL ⊢
              clear hW
              have HR8 : Hid (((!(x == 0)) && ((!((wrap64 (Int.tdiv i7 x)) == y)) || ((x == (-1)) && (y == (-9223372036854775808))))) = c8) := Lib.hid (by rw [HA17.out, HA18.out, HA19.out, HA20.out]; exact HCC.out)
              clear HCC HA17 HA18 HA19 HA20
              replace HL := Lib.hid (show true = BigMachine_s3 x y ((⟨r0k, r0n, r0t⟩, r0e) : Vl × Int) ((⟨r1k, r1n, r1t⟩, r1e) : Vl × Int) ((⟨r2k, r2n, r2t⟩, r2e) : Vl × Int) i3 c4 i5 c6 i7 c8 from HL.out.trans (by unfold BigMachine_s4; rw [HR8.out]))
              -- region 17, the end
              obtain ⟨b21, h⟩ : ∃ b : Bool, (veqB r2k r2n r2t 1 i7 []) = b := ⟨_, rfl⟩
              have HA21 := Lib.hid h
              clear h
              obtain ⟨b22, h⟩ : ∃ b : Bool, (r2k == 2) = b := ⟨_, rfl⟩
              have HA22 := Lib.hid h
              clear h
              cases b21 with
              | true =>
                cases c8 with
                | true =>
                  exact Bool.noConfusion (show true = false from HL.out.trans (by show ((true && (true != (veqB r2k r2n r2t 1 i7 []))) && (true == (r2k == 2))) = false; rw [HA21.out]; rfl))
                | false =>
                  cases b22 with
                  | true =>
                    exact Bool.noConfusion (show true = false from HL.out.trans (by show ((true && (false != (veqB r2k r2n r2t 1 i7 []))) && (false == (r2k == 2))) = false; rw [HA21.out, HA22.out]; rfl))
                  | false =>
                    clear HL
                    go_upto_region 17 with fail
                    have f0_0 : (veqB r2k r2n r2t 1 i7 []) = true := HA21.out
                    have f1_0 : ((r2k : Int) == 2) = false := HA22.out
                    have f1_1 : ((r2k : Int) != 2) = true := by have h := HA22.out; simpa using h
                    refine wp_region_noPanic ?_
                    refine region_late (fun (X : World) => X.cell? ⟨g2, 0, none⟩ = some (.int .i64 r2k) ∧ X.cell? ⟨g2, 1, none⟩ = some (.int .i64 r2n) ∧ X.cell? ⟨g2, 2, none⟩ = some (.string ⟨List.toArray r2t⟩)) (fun _ => false) (by kernel_rfl) ?_
                    have hb := (Below.refl W27.heap.size W27).drew
                    obtain ⟨W28, hW⟩ : ∃ X, W27.drew = X := ⟨_, rfl⟩
                    rw [hW] at hb ⊢
                    clear hW
                    replace B := Lib.hid (B.out.below hb)
                    replace BL := Lib.hid (below_then BL.out hb)
                    clear hb
                    have hHeld : W28.cell? ⟨g2, 0, none⟩ = some (.int .i64 r2k) ∧ W28.cell? ⟨g2, 1, none⟩ = some (.int .i64 r2n) ∧ W28.cell? ⟨g2, 2, none⟩ = some (.string ⟨List.toArray r2t⟩) := ⟨(B.out.get 0 rfl).c0, (B.out.get 0 rfl).c1, (B.out.get 0 rfl).c2⟩
                    refine late_pure_at (some 137) (i := 0) (v := (.bool true)) rfl rfl rfl (by kernel_rfl) (by kernel_rfl) (by kernel_rfl) (fun _ _ _ h => h) (Or.inl ⟨by rfl, by intro w _; go_simp⟩) (fun _ => hHeld) ?_
                    try simp only [Act.put, List.setIfInBounds_toArray, List.set_cons_zero, List.set_cons_succ]
                    refine late_pure_at (some 138) (i := 1) (v := (.bool true)) rfl rfl rfl (by kernel_rfl) (by kernel_rfl) (by kernel_rfl) (fun _ _ _ h => h) (Or.inl ⟨by rfl, by intro w _; go_simp⟩) (fun _ => hHeld) ?_
                    try simp only [Act.put, List.setIfInBounds_toArray, List.set_cons_zero, List.set_cons_succ]
                    refine late_pure_at (some 139) (i := 2) (v := (.bool false)) rfl rfl rfl (by kernel_rfl) (by kernel_rfl) (by kernel_rfl) (fun _ _ _ h => h) (Or.inl ⟨by rfl, by intro w _; go_simp⟩) (fun _ => hHeld) ?_
                    try simp only [Act.put, List.setIfInBounds_toArray, List.set_cons_zero, List.set_cons_succ]
                    refine late_take_at (some 140) (i := 3) (v := (.agg #[.int .i64 r2k, .int .i64 r2n, .string ⟨List.toArray r2t⟩])) rfl rfl rfl (by kernel_rfl) (by kernel_rfl) (by kernel_rfl) (by kernel_rfl) (fun _ _ _ h => h) clean_none (Or.inl ⟨by rfl, by intro w hSw; go_split_ands; go_simp⟩) hHeld ?_
                    try simp only [Act.put, List.setIfInBounds_toArray, List.set_cons_zero, List.set_cons_succ]
                    refine late_pure_at (some 141) (i := 4) (v := (.int .i64 i7)) rfl rfl rfl (by kernel_rfl) (by kernel_rfl) (by kernel_rfl) (fun _ _ _ h => h) (Or.inl ⟨by rfl, by intro w _; go_simp⟩) (fun _ => hHeld) ?_
                    try simp only [Act.put, List.setIfInBounds_toArray, List.set_cons_zero, List.set_cons_succ]
                    refine late_ready (rs := [5]) (by kernel_rfl) (by simp) ?_
                    refine AllLate.cons rfl (fun K hK => ?_) ?_
                    · skip
                      go_simp
                      refine (num_calls i7 _).mono ?_
                      rintro e W29 ⟨rfl, hb⟩
                      clear hHeld
                      replace B := Lib.hid (B.out.below hb)
                      replace BL := Lib.hid (below_then BL.out hb)
                      clear hb
                      have hHeld : W29.cell? ⟨g2, 0, none⟩ = some (.int .i64 r2k) ∧ W29.cell? ⟨g2, 1, none⟩ = some (.int .i64 r2n) ∧ W29.cell? ⟨g2, 2, none⟩ = some (.string ⟨List.toArray r2t⟩) := ⟨(B.out.get 0 rfl).c0, (B.out.get 0 rfl).c1, (B.out.get 0 rfl).c2⟩
                      dsimp only
                      refine hK.out _ _ (fun _ => hHeld) ?_
                      clear hK K
                      try simp only [Act.put, List.setIfInBounds_toArray, List.set_cons_zero, List.set_cons_succ]
                      refine late_pure_at (some 143) (i := 6) (v := (.bool true)) rfl rfl rfl (by kernel_rfl) (by kernel_rfl) (by kernel_rfl) (fun _ _ _ h => h) (Or.inl ⟨by rfl, by intro w _; go_simp⟩) (fun _ => hHeld) ?_
                      try simp only [Act.put, List.setIfInBounds_toArray, List.set_cons_zero, List.set_cons_succ]
                      refine late_pure_at (some 144) (i := 7) (v := (.bool true)) rfl rfl rfl (by kernel_rfl) (by kernel_rfl) (by kernel_rfl) (fun _ _ _ h => h) (Or.inl ⟨by rfl, by intro w _; go_simp⟩) (fun _ => hHeld) ?_
                      try simp only [Act.put, List.setIfInBounds_toArray, List.set_cons_zero, List.set_cons_succ]
                      refine late_pure_at (some 145) (i := 8) (v := (.bool true)) rfl rfl rfl (by kernel_rfl) (by kernel_rfl) (by kernel_rfl) (fun _ _ _ h => h) (Or.inl ⟨by rfl, by intro w _; go_simp⟩) (fun _ => hHeld) ?_
                      try simp only [Act.put, List.setIfInBounds_toArray, List.set_cons_zero, List.set_cons_succ]
                      refine late_pure_at (some 146) (i := 9) (v := (.bool true)) rfl rfl rfl (by kernel_rfl) (by kernel_rfl) (by kernel_rfl) (fun _ _ _ h => h) (Or.inl ⟨by rfl, by intro w _; go_simp⟩) (fun _ => hHeld) ?_
                      try simp only [Act.put, List.setIfInBounds_toArray, List.set_cons_zero, List.set_cons_succ]
                      refine late_pure_at (some 147) (i := 10) (v := (.bool false)) rfl rfl rfl (by kernel_rfl) (by kernel_rfl) (by kernel_rfl) (fun _ _ _ h => h) (Or.inl ⟨by rfl, by intro w _; go_simp⟩) (fun _ => hHeld) ?_
                      try simp only [Act.put, List.setIfInBounds_toArray, List.set_cons_zero, List.set_cons_succ]
                      refine late_pure_at (some 148) (i := 11) (v := (.pointer (some ⟨g2, 0, none⟩))) rfl rfl rfl (by kernel_rfl) (by kernel_rfl) (by kernel_rfl) (fun _ _ _ h => h) (Or.inl ⟨by rfl, by intro w _; go_simp⟩) (fun _ => hHeld) ?_
                      try simp only [Act.put, List.setIfInBounds_toArray, List.set_cons_zero, List.set_cons_succ]
                      refine late_take_at (some 149) (i := 12) (v := (.int .i64 r2k)) rfl rfl rfl (by kernel_rfl) (by kernel_rfl) (by kernel_rfl) (by kernel_rfl) (fun _ _ _ h => h) clean_none (Or.inl ⟨by rfl, by intro w hSw; go_split_ands; go_simp⟩) hHeld ?_
                      try simp only [Act.put, List.setIfInBounds_toArray, List.set_cons_zero, List.set_cons_succ]
                      refine late_pure_at (some 150) (i := 13) (v := (.bool false)) rfl rfl rfl (by kernel_rfl) (by kernel_rfl) (by kernel_rfl) (fun _ _ _ h => h) (Or.inl ⟨by rfl, by intro w _; go_simp⟩) (fun _ => hHeld) ?_
                      try simp only [Act.put, List.setIfInBounds_toArray, List.set_cons_zero, List.set_cons_succ]
                      refine late_pure_at (some 151) (i := 14) (v := (.bool true)) rfl rfl rfl (by kernel_rfl) (by kernel_rfl) (by kernel_rfl) (fun _ _ _ h => h) (Or.inl ⟨by rfl, by intro w _; go_simp⟩) (fun _ => hHeld) ?_
                      try simp only [Act.put, List.setIfInBounds_toArray, List.set_cons_zero, List.set_cons_succ]
                      refine late_pure_at (some 152) (i := 15) (v := (.bool true)) rfl rfl rfl (by kernel_rfl) (by kernel_rfl) (by kernel_rfl) (fun _ _ _ h => h) (Or.inl ⟨by rfl, by intro w _; go_simp⟩) (fun _ => hHeld) ?_
                      try simp only [Act.put, List.setIfInBounds_toArray, List.set_cons_zero, List.set_cons_succ]
                      refine late_pure_at (some 4) (i := 16) (v := (.bool true)) rfl rfl rfl (by kernel_rfl) (by kernel_rfl) (by kernel_rfl) (fun _ _ _ h => h) (Or.inl ⟨by rfl, by intro w _; go_simp⟩) (fun _ => hHeld) ?_
                      try simp only [Act.put, List.setIfInBounds_toArray, List.set_cons_zero, List.set_cons_succ]
                      refine late_done (by kernel_rfl) ?_ _
                      refine NoPanic.normal ?_
                      go_wp2_with fail
                      go_ret
                      exact ⟨rfl, BL.out⟩
                    exact AllLate.nil
              | false =>
                cases c8 with
                | true =>
                  cases b22 with
                  | true =>
                    clear HL
                    go_upto_region 17 with fail
                    have f0_0 : (veqB r2k r2n r2t 1 i7 []) = false := HA21.out
                    have f1_0 : ((r2k : Int) == 2) = true := HA22.out
                    have f1_1 : ((r2k : Int) != 2) = false := by have h := HA22.out; simpa using h
                    refine wp_region_noPanic ?_
                    refine region_late (fun (X : World) => X.cell? ⟨g2, 0, none⟩ = some (.int .i64 r2k) ∧ X.cell? ⟨g2, 1, none⟩ = some (.int .i64 r2n) ∧ X.cell? ⟨g2, 2, none⟩ = some (.string ⟨List.toArray r2t⟩)) (fun _ => false) (by kernel_rfl) ?_
                    have hb := (Below.refl W27.heap.size W27).drew
                    obtain ⟨W30, hW⟩ : ∃ X, W27.drew = X := ⟨_, rfl⟩
                    rw [hW] at hb ⊢
                    clear hW
                    replace B := Lib.hid (B.out.below hb)
                    replace BL := Lib.hid (below_then BL.out hb)
                    clear hb
                    have hHeld : W30.cell? ⟨g2, 0, none⟩ = some (.int .i64 r2k) ∧ W30.cell? ⟨g2, 1, none⟩ = some (.int .i64 r2n) ∧ W30.cell? ⟨g2, 2, none⟩ = some (.string ⟨List.toArray r2t⟩) := ⟨(B.out.get 0 rfl).c0, (B.out.get 0 rfl).c1, (B.out.get 0 rfl).c2⟩
                    refine late_pure_at (some 137) (i := 0) (v := (.bool true)) rfl rfl rfl (by kernel_rfl) (by kernel_rfl) (by kernel_rfl) (fun _ _ _ h => h) (Or.inl ⟨by rfl, by intro w _; go_simp⟩) (fun _ => hHeld) ?_
                    try simp only [Act.put, List.setIfInBounds_toArray, List.set_cons_zero, List.set_cons_succ]
                    refine late_pure_at (some 138) (i := 1) (v := (.bool true)) rfl rfl rfl (by kernel_rfl) (by kernel_rfl) (by kernel_rfl) (fun _ _ _ h => h) (Or.inl ⟨by rfl, by intro w _; go_simp⟩) (fun _ => hHeld) ?_
                    try simp only [Act.put, List.setIfInBounds_toArray, List.set_cons_zero, List.set_cons_succ]
                    refine late_pure_at (some 139) (i := 2) (v := (.bool true)) rfl rfl rfl (by kernel_rfl) (by kernel_rfl) (by kernel_rfl) (fun _ _ _ h => h) (Or.inl ⟨by rfl, by intro w _; go_simp⟩) (fun _ => hHeld) ?_
                    try simp only [Act.put, List.setIfInBounds_toArray, List.set_cons_zero, List.set_cons_succ]
                    refine late_take_at (some 140) (i := 3) (v := (.agg #[.int .i64 r2k, .int .i64 r2n, .string ⟨List.toArray r2t⟩])) rfl rfl rfl (by kernel_rfl) (by kernel_rfl) (by kernel_rfl) (by kernel_rfl) (fun _ _ _ h => h) clean_none (Or.inl ⟨by rfl, by intro w hSw; go_split_ands; go_simp⟩) hHeld ?_
                    try simp only [Act.put, List.setIfInBounds_toArray, List.set_cons_zero, List.set_cons_succ]
                    refine late_pure_at (some 141) (i := 4) (v := (.int .i64 i7)) rfl rfl rfl (by kernel_rfl) (by kernel_rfl) (by kernel_rfl) (fun _ _ _ h => h) (Or.inl ⟨by rfl, by intro w _; go_simp⟩) (fun _ => hHeld) ?_
                    try simp only [Act.put, List.setIfInBounds_toArray, List.set_cons_zero, List.set_cons_succ]
                    refine late_ready (rs := [5]) (by kernel_rfl) (by simp) ?_
                    refine AllLate.cons rfl (fun K hK => ?_) ?_
                    · skip
                      go_simp
                      refine (num_calls i7 _).mono ?_
                      rintro e W31 ⟨rfl, hb⟩
                      clear hHeld
                      replace B := Lib.hid (B.out.below hb)
                      replace BL := Lib.hid (below_then BL.out hb)
                      clear hb
                      have hHeld : W31.cell? ⟨g2, 0, none⟩ = some (.int .i64 r2k) ∧ W31.cell? ⟨g2, 1, none⟩ = some (.int .i64 r2n) ∧ W31.cell? ⟨g2, 2, none⟩ = some (.string ⟨List.toArray r2t⟩) := ⟨(B.out.get 0 rfl).c0, (B.out.get 0 rfl).c1, (B.out.get 0 rfl).c2⟩
                      dsimp only
                      refine hK.out _ _ (fun _ => hHeld) ?_
                      clear hK K
                      try simp only [Act.put, List.setIfInBounds_toArray, List.set_cons_zero, List.set_cons_succ]
                      refine late_pure_at (some 143) (i := 6) (v := (.bool false)) rfl rfl rfl (by kernel_rfl) (by kernel_rfl) (by kernel_rfl) (fun _ _ _ h => h) (Or.inl ⟨by rfl, by intro w _; go_simp⟩) (fun _ => hHeld) ?_
                      try simp only [Act.put, List.setIfInBounds_toArray, List.set_cons_zero, List.set_cons_succ]
                      refine late_pure_at (some 144) (i := 7) (v := (.bool true)) rfl rfl rfl (by kernel_rfl) (by kernel_rfl) (by kernel_rfl) (fun _ _ _ h => h) (Or.inl ⟨by rfl, by intro w _; go_simp⟩) (fun _ => hHeld) ?_
                      try simp only [Act.put, List.setIfInBounds_toArray, List.set_cons_zero, List.set_cons_succ]
                      refine late_pure_at (some 145) (i := 8) (v := (.bool true)) rfl rfl rfl (by kernel_rfl) (by kernel_rfl) (by kernel_rfl) (fun _ _ _ h => h) (Or.inl ⟨by rfl, by intro w _; go_simp⟩) (fun _ => hHeld) ?_
                      try simp only [Act.put, List.setIfInBounds_toArray, List.set_cons_zero, List.set_cons_succ]
                      refine late_pure_at (some 146) (i := 9) (v := (.bool true)) rfl rfl rfl (by kernel_rfl) (by kernel_rfl) (by kernel_rfl) (fun _ _ _ h => h) (Or.inl ⟨by rfl, by intro w _; go_simp⟩) (fun _ => hHeld) ?_
                      try simp only [Act.put, List.setIfInBounds_toArray, List.set_cons_zero, List.set_cons_succ]
                      refine late_pure_at (some 147) (i := 10) (v := (.bool true)) rfl rfl rfl (by kernel_rfl) (by kernel_rfl) (by kernel_rfl) (fun _ _ _ h => h) (Or.inl ⟨by rfl, by intro w _; go_simp⟩) (fun _ => hHeld) ?_
                      try simp only [Act.put, List.setIfInBounds_toArray, List.set_cons_zero, List.set_cons_succ]
                      refine late_pure_at (some 148) (i := 11) (v := (.pointer (some ⟨g2, 0, none⟩))) rfl rfl rfl (by kernel_rfl) (by kernel_rfl) (by kernel_rfl) (fun _ _ _ h => h) (Or.inl ⟨by rfl, by intro w _; go_simp⟩) (fun _ => hHeld) ?_
                      try simp only [Act.put, List.setIfInBounds_toArray, List.set_cons_zero, List.set_cons_succ]
                      refine late_take_at (some 149) (i := 12) (v := (.int .i64 r2k)) rfl rfl rfl (by kernel_rfl) (by kernel_rfl) (by kernel_rfl) (by kernel_rfl) (fun _ _ _ h => h) clean_none (Or.inl ⟨by rfl, by intro w hSw; go_split_ands; go_simp⟩) hHeld ?_
                      try simp only [Act.put, List.setIfInBounds_toArray, List.set_cons_zero, List.set_cons_succ]
                      refine late_pure_at (some 150) (i := 13) (v := (.bool true)) rfl rfl rfl (by kernel_rfl) (by kernel_rfl) (by kernel_rfl) (fun _ _ _ h => h) (Or.inl ⟨by rfl, by intro w _; go_simp⟩) (fun _ => hHeld) ?_
                      try simp only [Act.put, List.setIfInBounds_toArray, List.set_cons_zero, List.set_cons_succ]
                      refine late_pure_at (some 151) (i := 14) (v := (.bool true)) rfl rfl rfl (by kernel_rfl) (by kernel_rfl) (by kernel_rfl) (fun _ _ _ h => h) (Or.inl ⟨by rfl, by intro w _; go_simp⟩) (fun _ => hHeld) ?_
                      try simp only [Act.put, List.setIfInBounds_toArray, List.set_cons_zero, List.set_cons_succ]
                      refine late_pure_at (some 152) (i := 15) (v := (.bool true)) rfl rfl rfl (by kernel_rfl) (by kernel_rfl) (by kernel_rfl) (fun _ _ _ h => h) (Or.inl ⟨by rfl, by intro w _; go_simp⟩) (fun _ => hHeld) ?_
                      try simp only [Act.put, List.setIfInBounds_toArray, List.set_cons_zero, List.set_cons_succ]
                      refine late_pure_at (some 4) (i := 16) (v := (.bool true)) rfl rfl rfl (by kernel_rfl) (by kernel_rfl) (by kernel_rfl) (fun _ _ _ h => h) (Or.inl ⟨by rfl, by intro w _; go_simp⟩) (fun _ => hHeld) ?_
                      try simp only [Act.put, List.setIfInBounds_toArray, List.set_cons_zero, List.set_cons_succ]
                      refine late_done (by kernel_rfl) ?_ _
                      refine NoPanic.normal ?_
                      go_wp2_with fail
                      go_ret
                      exact ⟨rfl, BL.out⟩
                    exact AllLate.nil
                  | false =>
                    exact Bool.noConfusion (show true = false from HL.out.trans (by show ((true && (true != (veqB r2k r2n r2t 1 i7 []))) && (true == (r2k == 2))) = false; rw [HA21.out, HA22.out]; rfl))
                | false =>
                  exact Bool.noConfusion (show true = false from HL.out.trans (by show ((true && (false != (veqB r2k r2n r2t 1 i7 []))) && (false == (r2k == 2))) = false; rw [HA21.out]; rfl))
end Go.Proofs.YthjpbbbmnmhmmaaGreatDoor
