import Derived.Test.YthjpbbbmnmhmmaaGreatDoorA31
set_option linter.unusedVariables false
set_option linter.unusedSimpArgs false
namespace Go.Proofs.YthjpbbbmnmhmmaaGreatDoor
open Go.RowKit Go.Shelf Go.Lib
attribute [local go_sem ↓] run_val_eql run_val_neq

def BigRoots_s0 (x : Vl) : Bool := true
def BigRoots_s1 (x : Vl) (r0 : Vl × Int) (r1 : Vl × Int) (r2 : Vl × Int) (r3 : Vl × Int) (r4 : Bool × Int) (r5 : Bool × Int) : Bool := false
def BigRoots_s2 (x : Vl) (r0 : Vl × Int) (r1 : Vl × Int) (r2 : Vl × Int) (r3 : Vl × Int) (r4 : Bool × Int) (r5 : Bool × Int) (r6 : Vl × Int) : Bool := true
def BigRoots_s3 (x : Vl) (r0 : Vl × Int) (r1 : Vl × Int) (r2 : Vl × Int) (r3 : Vl × Int) (r4 : Bool × Int) (r5 : Bool × Int) (r6 : Vl × Int) (r7 : Vl × Int) (r8 : Vl × Int) : Bool := (((true && (r7.2 == 0)) && (r8.2 == 0)) && (veq r7.1 r8.1))
def BigRoots_s4 (x : Vl) (r0 : Vl × Int) (r1 : Vl × Int) (r2 : Vl × Int) (r3 : Vl × Int) (r4 : Bool × Int) (r5 : Bool × Int) (r6 : Vl × Int) (r7 : Vl × Int) : Bool := BigRoots_s3 x r0 r1 r2 r3 r4 r5 r6 r7 (subR (⟨1, 0, []⟩ : Vl) x)
def BigRoots_s5 (x : Vl) (r0 : Vl × Int) (r1 : Vl × Int) (r2 : Vl × Int) (r3 : Vl × Int) (r4 : Bool × Int) (r5 : Bool × Int) (r6 : Vl × Int) (r7 : Vl × Int) : Bool := (((true && (r7.2 == 0)) && (r6.2 == 0)) && (veq r7.1 x))
def BigRoots_s6 (x : Vl) (r0 : Vl × Int) (r1 : Vl × Int) (r2 : Vl × Int) (r3 : Vl × Int) (r4 : Bool × Int) (r5 : Bool × Int) (r6 : Vl × Int) (r7 : Vl × Int) : Bool := if (negB x) = true then BigRoots_s4 x r0 r1 r2 r3 r4 r5 r6 r7 else BigRoots_s5 x r0 r1 r2 r3 r4 r5 r6 r7
def BigRoots_s7 (x : Vl) (r0 : Vl × Int) (r1 : Vl × Int) (r2 : Vl × Int) (r3 : Vl × Int) (r4 : Bool × Int) (r5 : Bool × Int) (r6 : Vl × Int) : Bool := BigRoots_s6 x r0 r1 r2 r3 r4 r5 r6 (rootR r6.1)
def BigRoots_s8 (x : Vl) (r0 : Vl × Int) (r1 : Vl × Int) (r2 : Vl × Int) (r3 : Vl × Int) (r4 : Bool × Int) (r5 : Bool × Int) (r6 : Vl × Int) : Bool := if (!(r6.2 == 0)) = true then BigRoots_s2 x r0 r1 r2 r3 r4 r5 r6 else BigRoots_s7 x r0 r1 r2 r3 r4 r5 r6
def BigRoots_s9 (x : Vl) (r0 : Vl × Int) (r1 : Vl × Int) (r2 : Vl × Int) (r3 : Vl × Int) (r4 : Bool × Int) (r5 : Bool × Int) : Bool := BigRoots_s8 x r0 r1 r2 r3 r4 r5 (mulR x x)
def BigRoots_s10 (x : Vl) (r0 : Vl × Int) (r1 : Vl × Int) (r2 : Vl × Int) (r3 : Vl × Int) (r4 : Bool × Int) (r5 : Bool × Int) : Bool := if ((((((!(r1.2 == 0)) || (!(r2.2 == 0))) || (!(r4.2 == 0))) || r4.1) || ((r3.2 == 0) && ((!(r5.2 == 0)) || (!r5.1)))) || ((!(r3.2 == 0)) && (!(r3.2 == 2)))) = true then BigRoots_s1 x r0 r1 r2 r3 r4 r5 else BigRoots_s9 x r0 r1 r2 r3 r4 r5
def BigRoots_s11 (x : Vl) (r0 : Vl × Int) (r1 : Vl × Int) (r2 : Vl × Int) (r3 : Vl × Int) (r4 : Bool × Int) : Bool := BigRoots_s10 x r0 r1 r2 r3 r4 (lessR x r3.1)
def BigRoots_s12 (x : Vl) (r0 : Vl × Int) (r1 : Vl × Int) (r2 : Vl × Int) (r3 : Vl × Int) : Bool := BigRoots_s11 x r0 r1 r2 r3 (lessR x r1.1)
def BigRoots_s13 (x : Vl) (r0 : Vl × Int) (r1 : Vl × Int) (r2 : Vl × Int) : Bool := BigRoots_s12 x r0 r1 r2 (mulR r2.1 r2.1)
def BigRoots_s14 (x : Vl) (r0 : Vl × Int) (r1 : Vl × Int) : Bool := BigRoots_s13 x r0 r1 (addR r0.1 (⟨1, 1, []⟩ : Vl))
def BigRoots_s15 (x : Vl) (r0 : Vl × Int) : Bool := BigRoots_s14 x r0 (mulR r0.1 r0.1)
def BigRoots_s16 (x : Vl) (r0 : Vl × Int) : Bool := false
def BigRoots_s17 (x : Vl) (r0 : Vl × Int) (r9 : Vl × Int) : Bool := true
def BigRoots_s18 (x : Vl) (r0 : Vl × Int) (r9 : Vl × Int) (r10 : Vl × Int) (r11 : Vl × Int) : Bool := (((true && (r10.2 == 0)) && (r11.2 == 0)) && (veq r10.1 r11.1))
def BigRoots_s19 (x : Vl) (r0 : Vl × Int) (r9 : Vl × Int) (r10 : Vl × Int) : Bool := BigRoots_s18 x r0 r9 r10 (subR (⟨1, 0, []⟩ : Vl) x)
def BigRoots_s20 (x : Vl) (r0 : Vl × Int) (r9 : Vl × Int) (r10 : Vl × Int) : Bool := (((true && (r10.2 == 0)) && (r9.2 == 0)) && (veq r10.1 x))
def BigRoots_s21 (x : Vl) (r0 : Vl × Int) (r9 : Vl × Int) (r10 : Vl × Int) : Bool := if (negB x) = true then BigRoots_s19 x r0 r9 r10 else BigRoots_s20 x r0 r9 r10
def BigRoots_s22 (x : Vl) (r0 : Vl × Int) (r9 : Vl × Int) : Bool := BigRoots_s21 x r0 r9 (rootR r9.1)
def BigRoots_s23 (x : Vl) (r0 : Vl × Int) (r9 : Vl × Int) : Bool := if (!(r9.2 == 0)) = true then BigRoots_s17 x r0 r9 else BigRoots_s22 x r0 r9
def BigRoots_s24 (x : Vl) (r0 : Vl × Int) : Bool := BigRoots_s23 x r0 (mulR x x)
def BigRoots_s25 (x : Vl) (r0 : Vl × Int) : Bool := if ((!(r0.2 == 31)) && ((!(r0.2 == 1)) || (!(negB x)))) = true then BigRoots_s16 x r0 else BigRoots_s24 x r0
def BigRoots_s26 (x : Vl) (r0 : Vl × Int) : Bool := if (r0.2 == 0) = true then BigRoots_s15 x r0 else BigRoots_s25 x r0
def BigRoots_s27 (x : Vl) : Bool := BigRoots_s26 x (rootR x)
def BigRoots_s28 (x : Vl) : Bool := if (!(shortB x)) = true then BigRoots_s0 x else BigRoots_s27 x

set_option maxRecDepth 100000 in
set_option maxHeartbeats 16000000 in
theorem walk_BigRoots (x : Vl) (hx : x.inp) (w : World) (hE : Env w) (hr : true = BigRoots_s28 x) :
    Calls Tryz.prog 12 #[x.val] w fun e w' => e = .returned (.bool true) ∧ Below w.heap.size w w' := by
  obtain ⟨xk, xn, xt⟩ := x
  have HIx := Lib.hid hx
  have HE := Lib.hid hE
  have HL := Lib.hid hr
  clear hE hr hx
  simp only [Vl.val]
  go_enter Tryz.func12, Tryz.ntmps12
  go_upto_region 1 with fail
  have hB : Bxs (w.alloc (.cells #[.int .i64 xk, .int .i64 xn, .string ⟨List.toArray xt⟩] 23)) [(w.heap.size, (⟨xk, xn, xt⟩ : Vl))] := by
    have h := ((show Bxs w [] from trivial).push (⟨xk, xn, xt⟩ : Vl) 23)
    simpa only [World.size_alloc] using h
  have hL : Below w.heap.size w (w.alloc (.cells #[.int .i64 xk, .int .i64 xn, .string ⟨List.toArray xt⟩] 23)) := ((Below.refl w.heap.size w).alloc (Nat.le_refl _) (.cells #[.int .i64 xk, .int .i64 xn, .string ⟨List.toArray xt⟩] 23))
  obtain ⟨W1, hW⟩ : ∃ X, (w.alloc (.cells #[.int .i64 xk, .int .i64 xn, .string ⟨List.toArray xt⟩] 23)) = X := ⟨_, rfl⟩
  rw [hW] at hB hL ⊢
  clear hW
  have HGb1 : Hid (w.heap.size ≤ w.heap.size) := Lib.hid (Nat.le_refl _)
  have B := Lib.hid hB
  have BL := Lib.hid hL
  clear hB hL
  -- region 1
  go_wp2_with fail
  refine (awakeV _ (HE.out.below BL.out)).mono ?_
  rintro e W2 ⟨rfl, hb⟩
  replace B := Lib.hid (B.out.below hb)
  replace BL := Lib.hid (below_then BL.out hb)
  clear hb
  go_upto_region 2 with fail
  -- region 2, a test
  obtain ⟨b0, h⟩ : ∃ b : Bool, (shortB (⟨xk, xn, xt⟩ : Vl)) = b := ⟨_, rfl⟩
  have HA0 := Lib.hid h
  clear h
  obtain ⟨c1, h⟩ : ∃ c : Bool, (!b0) = c := ⟨_, rfl⟩
  have HCC := Lib.hid h
  clear h
  go_upto_region 2 with fail
  go_cut [23] from 21 to 23 (fun v wx => v = .bool c1 ∧ Hid (Bxs wx [(w.heap.size, (⟨xk, xn, xt⟩ : Vl))]) ∧ Hid (Below w.heap.size w wx))
  case first =>
    clear HL
    cases b0 with
    | true =>
      have cb1_0 : W2.cell? ⟨w.heap.size, 0, none⟩ = some (.int .i64 xk) := (B.out.get 0 rfl).c0
      have cb1_1 : W2.cell? ⟨w.heap.size, 1, none⟩ = some (.int .i64 xn) := (B.out.get 0 rfl).c1
      have cb1_2 : W2.cell? ⟨w.heap.size, 2, none⟩ = some (.string ⟨List.toArray xt⟩) := (B.out.get 0 rfl).c2
      go_wp2_with fail
      refine (short_calls xk xn xt HIx.out.2 _).mono ?_
      rw [HA0.out]
      rintro e W3 ⟨rfl, hb⟩
      clear cb1_0 cb1_1 cb1_2
      replace B := Lib.hid (B.out.below hb)
      replace BL := Lib.hid (below_then BL.out hb)
      clear hb
      have cb1_0 : W3.cell? ⟨w.heap.size, 0, none⟩ = some (.int .i64 xk) := (B.out.get 0 rfl).c0
      have cb1_1 : W3.cell? ⟨w.heap.size, 1, none⟩ = some (.int .i64 xn) := (B.out.get 0 rfl).c1
      have cb1_2 : W3.cell? ⟨w.heap.size, 2, none⟩ = some (.string ⟨List.toArray xt⟩) := (B.out.get 0 rfl).c2
      go_wp2_with fail
      go_meet
      exact ⟨congrArg Value.bool HCC.out, B, BL⟩
    | false =>
      have cb1_0 : W2.cell? ⟨w.heap.size, 0, none⟩ = some (.int .i64 xk) := (B.out.get 0 rfl).c0
      have cb1_1 : W2.cell? ⟨w.heap.size, 1, none⟩ = some (.int .i64 xn) := (B.out.get 0 rfl).c1
      have cb1_2 : W2.cell? ⟨w.heap.size, 2, none⟩ = some (.string ⟨List.toArray xt⟩) := (B.out.get 0 rfl).c2
      go_wp2_with fail
      refine (short_calls xk xn xt HIx.out.2 _).mono ?_
      rw [HA0.out]
      rintro e W4 ⟨rfl, hb⟩
      clear cb1_0 cb1_1 cb1_2
      replace B := Lib.hid (B.out.below hb)
      replace BL := Lib.hid (below_then BL.out hb)
      clear hb
      have cb1_0 : W4.cell? ⟨w.heap.size, 0, none⟩ = some (.int .i64 xk) := (B.out.get 0 rfl).c0
      have cb1_1 : W4.cell? ⟨w.heap.size, 1, none⟩ = some (.int .i64 xn) := (B.out.get 0 rfl).c1
      have cb1_2 : W4.cell? ⟨w.heap.size, 2, none⟩ = some (.string ⟨List.toArray xt⟩) := (B.out.get 0 rfl).c2
      go_wp2_with fail
      go_meet
      exact ⟨congrArg Value.bool HCC.out, B, BL⟩
  case rest =>
    clear B BL
    obtain ⟨rfl, B, BL⟩ := hcut
    obtain ⟨W5, hW⟩ : ∃ X, wc = X := ⟨_, rfl⟩
    rw [hW] at B BL ⊢
    clear hW
    have HCW : Hid ((!(shortB (⟨xk, xn, xt⟩ : Vl))) = c1) := Lib.hid (by rw [HA0.out]; exact HCC.out)
    clear HCC HA0
    cases c1 with
    | true =>
      replace HL := Lib.hid (show true = BigRoots_s0 (⟨xk, xn, xt⟩ : Vl) from HL.out.trans (if_pos HCW.out))
      go_wp2_with fail
      go_ret
      exact ⟨rfl, BL.out⟩
    | false =>
      have HOx : Hid (Vl.ok (⟨xk, xn, xt⟩ : Vl)) := Lib.hid ⟨HIx.out.1, by have h := HCW.out; simp [shortB] at h; show xt.length ≤ 100000; omega⟩
      replace HL := Lib.hid (show true = BigRoots_s27 (⟨xk, xn, xt⟩ : Vl) from HL.out.trans ((if_neg (fun h => Bool.noConfusion (HCW.out.symm.trans h)))))
      -- region 4
      have cb1_0 : W5.cell? ⟨w.heap.size, 0, none⟩ = some (.int .i64 xk) := (B.out.get 0 rfl).c0
      have cb1_1 : W5.cell? ⟨w.heap.size, 1, none⟩ = some (.int .i64 xn) := (B.out.get 0 rfl).c1
      have cb1_2 : W5.cell? ⟨w.heap.size, 2, none⟩ = some (.string ⟨List.toArray xt⟩) := (B.out.get 0 rfl).c2
      obtain ⟨⟨⟨r0k, r0n, r0t⟩, r0e⟩, hr0⟩ : ∃ p, rootR (⟨xk, xn, xt⟩ : Vl) = p := ⟨_, rfl⟩
      have hc0 := fun (W : World) (hW : Env W) => rootV (⟨xk, xn, xt⟩ : Vl) HOx.out W hW
      have ho0 := rootR_ok (⟨xk, xn, xt⟩ : Vl) HOx.out
      rw [hr0] at hc0 ho0
      simp only [Vl.val, pr] at hc0
      have HC0 := Lib.hid hc0; have HOr0 : Hid (Vl.ok ⟨r0k, r0n, r0t⟩) := Lib.hid ho0; have HR0 := Lib.hid hr0
      clear hc0 ho0 hr0
      go_wp2_with fail
      refine (HC0.out _ (HE.out.below BL.out)).mono ?_
      rintro e W6 ⟨rfl, hb⟩
      clear cb1_0 cb1_1 cb1_2
      replace B := Lib.hid (B.out.below hb)
      replace BL := Lib.hid (below_then BL.out hb)
      clear hb
      go_upto_region 5 with fail
      have hB : Bxs (W6.alloc (.cells #[.int .i64 r0k, .int .i64 r0n, .string ⟨List.toArray r0t⟩] 23)) ((W6.heap.size, (⟨r0k, r0n, r0t⟩ : Vl)) :: [(w.heap.size, (⟨xk, xn, xt⟩ : Vl))]) := B.out.push (⟨r0k, r0n, r0t⟩ : Vl) 23
      have hL : Below w.heap.size w (W6.alloc (.cells #[.int .i64 r0k, .int .i64 r0n, .string ⟨List.toArray r0t⟩] 23)) := BL.out.alloc BL.out.size _
      obtain ⟨W7, hW⟩ : ∃ X, W6.alloc (.cells #[.int .i64 r0k, .int .i64 r0n, .string ⟨List.toArray r0t⟩] 23) = X := ⟨_, rfl⟩
      obtain ⟨g0, hg⟩ : ∃ g, W6.heap.size = g := ⟨_, rfl⟩
      rw [hW] at hB hL ⊢
      rw [hg] at hB ⊢
      have HGb4_4_1 : Hid (w.heap.size ≤ g0) := Lib.hid (by rw [← hg]; exact BL.out.size)
      replace B := Lib.hid hB
      replace BL := Lib.hid hL
      clear hB hL hW hg
      replace HL := Lib.hid (show true = BigRoots_s26 (⟨xk, xn, xt⟩ : Vl) ((⟨r0k, r0n, r0t⟩, r0e) : Vl × Int) from HL.out.trans (by unfold BigRoots_s27; rw [HR0.out]))
      -- region 5, a test
      obtain ⟨b1, h⟩ : ∃ b : Bool, (r0e == 0) = b := ⟨_, rfl⟩
      have HA1 := Lib.hid h
      clear h
      obtain ⟨c3, h⟩ : ∃ c : Bool, b1 = c := ⟨_, rfl⟩
      have HCC := Lib.hid h
      clear h
      go_upto_region 5 with fail
      go_cut [31] from 30 to 31 (fun v wx => v = .bool c3 ∧ Hid (Bxs wx [(g0, (⟨r0k, r0n, r0t⟩ : Vl)), (w.heap.size, (⟨xk, xn, xt⟩ : Vl))]) ∧ Hid (Below w.heap.size w wx))
      case first =>
        clear HL
        cases b1 with
        | true =>
          have f0_0 : ((r0e : Int) == 0) = true := HA1.out
          have f0_1 : ((r0e : Int) != 0) = false := by have h := HA1.out; simpa using h
          go_wp2_with fail
          go_meet
          exact ⟨congrArg Value.bool HCC.out, B, BL⟩
        | false =>
          have f0_0 : ((r0e : Int) == 0) = false := HA1.out
          have f0_1 : ((r0e : Int) != 0) = true := by have h := HA1.out; simpa using h
          go_wp2_with fail
          go_meet
          exact ⟨congrArg Value.bool HCC.out, B, BL⟩
      case rest =>
        clear B BL
        obtain ⟨rfl, B, BL⟩ := hcut
        obtain ⟨W8, hW⟩ : ∃ X, wc = X := ⟨_, rfl⟩
        rw [hW] at B BL ⊢
        clear hW
        have HCW : Hid ((r0e == 0) = c3) := Lib.hid (by rw [HA1.out]; exact HCC.out)
        clear HCC HA1
        cases c3 with
        | true =>
          replace HL := Lib.hid (show true = BigRoots_s15 (⟨xk, xn, xt⟩ : Vl) ((⟨r0k, r0n, r0t⟩, r0e) : Vl × Int) from HL.out.trans (if_pos HCW.out))
          -- region 6
          have cb4_4_1_0 : W8.cell? ⟨g0, 0, none⟩ = some (.int .i64 r0k) := (B.out.get 0 rfl).c0
          have cb4_4_1_1 : W8.cell? ⟨g0, 1, none⟩ = some (.int .i64 r0n) := (B.out.get 0 rfl).c1
          have cb4_4_1_2 : W8.cell? ⟨g0, 2, none⟩ = some (.string ⟨List.toArray r0t⟩) := (B.out.get 0 rfl).c2
          obtain ⟨⟨⟨r1k, r1n, r1t⟩, r1e⟩, hr1⟩ : ∃ p, mulR (⟨r0k, r0n, r0t⟩ : Vl) (⟨r0k, r0n, r0t⟩ : Vl) = p := ⟨_, rfl⟩
          have hc1 := fun (W : World) (hW : Env W) => mul_pub (⟨r0k, r0n, r0t⟩ : Vl) (⟨r0k, r0n, r0t⟩ : Vl) HOr0.out HOr0.out W hW
          have ho1 := mulR_ok (⟨r0k, r0n, r0t⟩ : Vl) (⟨r0k, r0n, r0t⟩ : Vl)
          rw [hr1] at hc1 ho1
          simp only [Vl.val, pr] at hc1
          have HC1 := Lib.hid hc1; have HOr1 : Hid (Vl.ok ⟨r1k, r1n, r1t⟩) := Lib.hid ho1; have HR1 := Lib.hid hr1
          clear hc1 ho1 hr1
          go_wp2_with fail
          refine (HC1.out _ (HE.out.below BL.out)).mono ?_
          rintro e W9 ⟨rfl, hb⟩
          clear cb4_4_1_0 cb4_4_1_1 cb4_4_1_2
          replace B := Lib.hid (B.out.below hb)
          replace BL := Lib.hid (below_then BL.out hb)
          clear hb
          go_upto_region 7 with fail
          have hB : Bxs (W9.alloc (.cells #[.int .i64 r1k, .int .i64 r1n, .string ⟨List.toArray r1t⟩] 23)) ((W9.heap.size, (⟨r1k, r1n, r1t⟩ : Vl)) :: [(g0, (⟨r0k, r0n, r0t⟩ : Vl)), (w.heap.size, (⟨xk, xn, xt⟩ : Vl))]) := B.out.push (⟨r1k, r1n, r1t⟩ : Vl) 23
          have hL : Below w.heap.size w (W9.alloc (.cells #[.int .i64 r1k, .int .i64 r1n, .string ⟨List.toArray r1t⟩] 23)) := BL.out.alloc BL.out.size _
          obtain ⟨W10, hW⟩ : ∃ X, W9.alloc (.cells #[.int .i64 r1k, .int .i64 r1n, .string ⟨List.toArray r1t⟩] 23) = X := ⟨_, rfl⟩
          obtain ⟨g1, hg⟩ : ∃ g, W9.heap.size = g := ⟨_, rfl⟩
          rw [hW] at hB hL ⊢
          rw [hg] at hB ⊢
          have HGb6_6_3 : Hid (w.heap.size ≤ g1) := Lib.hid (by rw [← hg]; exact BL.out.size)
          replace B := Lib.hid hB
          replace BL := Lib.hid hL
          clear hB hL hW hg
          replace HL := Lib.hid (show true = BigRoots_s14 (⟨xk, xn, xt⟩ : Vl) ((⟨r0k, r0n, r0t⟩, r0e) : Vl × Int) ((⟨r1k, r1n, r1t⟩, r1e) : Vl × Int) from HL.out.trans (by unfold BigRoots_s15; rw [HR1.out]))
          -- region 7, draws its order
          obtain ⟨⟨⟨r2k, r2n, r2t⟩, r2e⟩, hr2⟩ : ∃ p, addR (⟨r0k, r0n, r0t⟩ : Vl) (⟨1, 1, []⟩ : Vl) = p := ⟨_, rfl⟩
          have hc2 := fun (W : World) (hW : Env W) => add_pub (⟨r0k, r0n, r0t⟩ : Vl) (⟨1, 1, []⟩ : Vl) HOr0.out (num_ok 1 (by unfold Small64; omega)) W hW
          have ho2 := addR_ok (⟨r0k, r0n, r0t⟩ : Vl) (⟨1, 1, []⟩ : Vl)
          rw [hr2] at hc2 ho2
          simp only [Vl.val, pr] at hc2
          have HC2 := Lib.hid hc2; have HOr2 : Hid (Vl.ok ⟨r2k, r2n, r2t⟩) := Lib.hid ho2; have HR2 := Lib.hid hr2
          clear hc2 ho2 hr2
          go_upto_region 7 with fail
          go_cut [8, 9] from 38 to 44 (fun s8 s9 wx => ∃ g : Nat, s8 = .pointer (some ⟨g, 0, none⟩) ∧ s9 = (.int .i64 r2e) ∧ Hid (w.heap.size ≤ g) ∧ Hid (Bxs wx [(g, (⟨r2k, r2n, r2t⟩ : Vl)), (g1, (⟨r1k, r1n, r1t⟩ : Vl)), (g0, (⟨r0k, r0n, r0t⟩ : Vl)), (w.heap.size, (⟨xk, xn, xt⟩ : Vl))]) ∧ Hid (Below w.heap.size w wx))
          case first =>
            clear HL
            refine wp_region_noPanic ?_
            refine region_late (fun (X : World) => X.cell? ⟨g0, 0, none⟩ = some (.int .i64 r0k) ∧ X.cell? ⟨g0, 1, none⟩ = some (.int .i64 r0n) ∧ X.cell? ⟨g0, 2, none⟩ = some (.string ⟨List.toArray r0t⟩)) (fun i => i == 7) (by kernel_rfl) ?_
            have hb := (Below.refl W10.heap.size W10).drew
            obtain ⟨W11, hW⟩ : ∃ X, W10.drew = X := ⟨_, rfl⟩
            rw [hW] at hb ⊢
            clear hW
            replace B := Lib.hid (B.out.below hb)
            replace BL := Lib.hid (below_then BL.out hb)
            clear hb
            have hHeld : W11.cell? ⟨g0, 0, none⟩ = some (.int .i64 r0k) ∧ W11.cell? ⟨g0, 1, none⟩ = some (.int .i64 r0n) ∧ W11.cell? ⟨g0, 2, none⟩ = some (.string ⟨List.toArray r0t⟩) := ⟨(B.out.get 1 rfl).c0, (B.out.get 1 rfl).c1, (B.out.get 1 rfl).c2⟩
            refine late_take_at (some 39) (i := 0) (v := (.agg #[.int .i64 r0k, .int .i64 r0n, .string ⟨List.toArray r0t⟩])) rfl rfl rfl (by kernel_rfl) (by kernel_rfl) (by kernel_rfl) (by kernel_rfl) (fun _ _ _ h => h) (clean_one (by kernel_rfl)) (Or.inl ⟨by rfl, by intro w hSw; go_split_ands; go_simp⟩) hHeld ?_
            try simp only [Act.put, List.setIfInBounds_toArray, List.set_cons_zero, List.set_cons_succ]
            refine late_ready (rs := [1, 6]) (by kernel_rfl) (by simp) ?_
            refine AllLate.cons rfl (fun K hK => ?_) ?_
            · skip
              go_simp
              refine (num_calls 1 _).mono ?_
              rintro e W12 ⟨rfl, hb⟩
              clear hHeld
              replace B := Lib.hid (B.out.below hb)
              replace BL := Lib.hid (below_then BL.out hb)
              clear hb
              have hHeld : W12.cell? ⟨g0, 0, none⟩ = some (.int .i64 r0k) ∧ W12.cell? ⟨g0, 1, none⟩ = some (.int .i64 r0n) ∧ W12.cell? ⟨g0, 2, none⟩ = some (.string ⟨List.toArray r0t⟩) := ⟨(B.out.get 1 rfl).c0, (B.out.get 1 rfl).c1, (B.out.get 1 rfl).c2⟩
              dsimp only
              refine hK.out _ _ (fun _ => hHeld) ?_
              clear hK K
              try simp only [Act.put, List.setIfInBounds_toArray, List.set_cons_zero, List.set_cons_succ]
              refine late_ready (rs := [2, 6]) (by kernel_rfl) (by simp) ?_
              refine AllLate.cons rfl (fun K hK => ?_) ?_
              · skip
                go_simp
                refine (HC2.out _ (HE.out.below BL.out)).mono ?_
                rintro e W13 ⟨rfl, hb⟩
                clear hHeld
                replace B := Lib.hid (B.out.below hb)
                replace BL := Lib.hid (below_then BL.out hb)
                clear hb
                have hHeld : W13.cell? ⟨g0, 0, none⟩ = some (.int .i64 r0k) ∧ W13.cell? ⟨g0, 1, none⟩ = some (.int .i64 r0n) ∧ W13.cell? ⟨g0, 2, none⟩ = some (.string ⟨List.toArray r0t⟩) := ⟨(B.out.get 1 rfl).c0, (B.out.get 1 rfl).c1, (B.out.get 1 rfl).c2⟩
                dsimp only
                refine hK.out _ _ (fun _ => hHeld) ?_
                clear hK K
                try simp only [Act.put, List.setIfInBounds_toArray, List.set_cons_zero, List.set_cons_succ]
                refine late_pure_at (some 38) (i := 3) (v := (.tuple #[(.agg #[.int .i64 r2k, .int .i64 r2n, .string ⟨List.toArray r2t⟩]), (.int .i64 r2e)])) rfl rfl rfl (by kernel_rfl) (by kernel_rfl) (by kernel_rfl) (fun _ _ _ h => h) (Or.inl ⟨by rfl, by intro w _; go_simp⟩) (fun _ => hHeld) ?_
                try simp only [Act.put, List.setIfInBounds_toArray, List.set_cons_zero, List.set_cons_succ]
                refine late_pure_at (some 42) (i := 4) (v := (.agg #[.int .i64 r2k, .int .i64 r2n, .string ⟨List.toArray r2t⟩])) rfl rfl rfl (by kernel_rfl) (by kernel_rfl) (by kernel_rfl) (fun _ _ _ h => h) (Or.inl ⟨by rfl, by intro w _; go_simp⟩) (fun _ => hHeld) ?_
                try simp only [Act.put, List.setIfInBounds_toArray, List.set_cons_zero, List.set_cons_succ]
                refine late_pure_at (some 43) (i := 5) (v := (.int .i64 r2e)) rfl rfl rfl (by kernel_rfl) (by kernel_rfl) (by kernel_rfl) (fun _ _ _ h => h) (Or.inl ⟨by rfl, by intro w _; go_simp⟩) (fun _ => hHeld) ?_
                try simp only [Act.put, List.setIfInBounds_toArray, List.set_cons_zero, List.set_cons_succ]
                refine late_ready (rs := [6]) (by kernel_rfl) (by simp) ?_
                refine AllLate.cons rfl (fun K hK => ?_) ?_
                · skip
                  go_simp
                  have hB : Bxs (W13.alloc (.cells #[.int .i64 0, .int .i64 0, .string ⟨#[]⟩] 23)) ((W13.heap.size, (⟨0, 0, []⟩ : Vl)) :: [(g1, (⟨r1k, r1n, r1t⟩ : Vl)), (g0, (⟨r0k, r0n, r0t⟩ : Vl)), (w.heap.size, (⟨xk, xn, xt⟩ : Vl))]) := B.out.push (⟨0, 0, []⟩ : Vl) 23
                  have hL : Below w.heap.size w (W13.alloc (.cells #[.int .i64 0, .int .i64 0, .string ⟨#[]⟩] 23)) := BL.out.alloc BL.out.size _
                  have HGb8_7_4 : Hid (w.heap.size ≤ W13.heap.size) := Lib.hid BL.out.size
                  obtain ⟨W14, hW⟩ : ∃ X, W13.alloc (.cells #[.int .i64 0, .int .i64 0, .string ⟨#[]⟩] 23) = X := ⟨_, rfl⟩
                  obtain ⟨g2, hg⟩ : ∃ g, W13.heap.size = g := ⟨_, rfl⟩
                  rw [hW] at hB hL ⊢
                  rw [hg] at hB HGb8_7_4 ⊢
                  replace B := Lib.hid hB
                  replace BL := Lib.hid hL
                  clear hB hL hW hg hHeld
                  have hHeld : W14.cell? ⟨g0, 0, none⟩ = some (.int .i64 r0k) ∧ W14.cell? ⟨g0, 1, none⟩ = some (.int .i64 r0n) ∧ W14.cell? ⟨g0, 2, none⟩ = some (.string ⟨List.toArray r0t⟩) := ⟨(B.out.get 2 rfl).c0, (B.out.get 2 rfl).c1, (B.out.get 2 rfl).c2⟩
                  refine hK.out _ _ (fun _ => hHeld) ?_
                  clear hK K
                  try simp only [Act.put, List.setIfInBounds_toArray, List.set_cons_zero, List.set_cons_succ]
                  refine late_ready (rs := [7]) (by kernel_rfl) (by simp) ?_
                  refine AllLate.cons rfl (fun K hK => ?_) ?_
                  · skip
                    have cb8_7_4_0 : W14.cell? ⟨g2, 0, none⟩ = some (.int .i64 0) := (B.out.get 0 rfl).c0
                    have cb8_7_4_1 : W14.cell? ⟨g2, 1, none⟩ = some (.int .i64 0) := (B.out.get 0 rfl).c1
                    have cb8_7_4_2 : W14.cell? ⟨g2, 2, none⟩ = some (.string ⟨List.toArray []⟩) := (B.out.get 0 rfl).c2
                    have zb8_7_4_0 : W14.frozen? ⟨g2, 0, none⟩ = false := (B.out.get 0 rfl).f0
                    have zb8_7_4_1 : W14.frozen? ⟨g2, 1, none⟩ = false := (B.out.get 0 rfl).f1
                    have zb8_7_4_2 : W14.frozen? ⟨g2, 2, none⟩ = false := (B.out.get 0 rfl).f2
                    have zb8_7_4_l : g2 < W14.heap.size := (B.out.get 0 rfl).lt
                    go_simp
                    clear cb8_7_4_0 cb8_7_4_1 cb8_7_4_2 zb8_7_4_0 zb8_7_4_1 zb8_7_4_2 zb8_7_4_l
                    have hB : Bxs (((W14.setCell ⟨g2, 0, none⟩ (.int .i64 r2k)).setCell ⟨g2, 1, none⟩ (.int .i64 r2n)).setCell ⟨g2, 2, none⟩ (.string ⟨List.toArray r2t⟩)) [(g2, (⟨r2k, r2n, r2t⟩ : Vl)), (g1, (⟨r1k, r1n, r1t⟩ : Vl)), (g0, (⟨r0k, r0n, r0t⟩ : Vl)), (w.heap.size, (⟨xk, xn, xt⟩ : Vl))] := B.out.put (b := (⟨r2k, r2n, r2t⟩ : Vl)) 0 rfl
                    have hL : Below w.heap.size w (((W14.setCell ⟨g2, 0, none⟩ (.int .i64 r2k)).setCell ⟨g2, 1, none⟩ (.int .i64 r2n)).setCell ⟨g2, 2, none⟩ (.string ⟨List.toArray r2t⟩)) := below_putV BL.out HGb8_7_4.out (⟨r2k, r2n, r2t⟩ : Vl)
                    obtain ⟨W15, hW⟩ : ∃ X, ((W14.setCell ⟨g2, 0, none⟩ (.int .i64 r2k)).setCell ⟨g2, 1, none⟩ (.int .i64 r2n)).setCell ⟨g2, 2, none⟩ (.string ⟨List.toArray r2t⟩) = X := ⟨_, rfl⟩
                    rw [hW] at hB hL ⊢
                    replace B := Lib.hid hB
                    replace BL := Lib.hid hL
                    clear hB hL hW hHeld
                    refine hK.out _ _ (not_clean 7 rfl (by kernel_rfl)) ?_
                    clear hK K
                    try simp only [Act.put, List.setIfInBounds_toArray, List.set_cons_zero, List.set_cons_succ]
                    refine late_pure_at (some 9) (i := 8) (v := (.int .i64 r2e)) rfl rfl rfl (by kernel_rfl) (by kernel_rfl) (by kernel_rfl) (fun _ _ _ h => h) (Or.inl ⟨by rfl, by intro w _; go_simp⟩) (not_clean 7 rfl (by kernel_rfl)) ?_
                    try simp only [Act.put, List.setIfInBounds_toArray, List.set_cons_zero, List.set_cons_succ]
                    refine late_done (by kernel_rfl) ?_ _
                    refine NoPanic.normal ?_
                    go_wp2_with fail
                    go_meet
                    exact ⟨_, rfl, rfl, HGb8_7_4, B, BL⟩
                  exact AllLate.nil
                exact AllLate.nil
              refine AllLate.cons rfl (fun K hK => ?_) ?_
              · skip
                go_simp
                have hB : Bxs (W12.alloc (.cells #[.int .i64 0, .int .i64 0, .string ⟨#[]⟩] 23)) ((W12.heap.size, (⟨0, 0, []⟩ : Vl)) :: [(g1, (⟨r1k, r1n, r1t⟩ : Vl)), (g0, (⟨r0k, r0n, r0t⟩ : Vl)), (w.heap.size, (⟨xk, xn, xt⟩ : Vl))]) := B.out.push (⟨0, 0, []⟩ : Vl) 23
                have hL : Below w.heap.size w (W12.alloc (.cells #[.int .i64 0, .int .i64 0, .string ⟨#[]⟩] 23)) := BL.out.alloc BL.out.size _
                have HGb8_7_4 : Hid (w.heap.size ≤ W12.heap.size) := Lib.hid BL.out.size
                obtain ⟨W16, hW⟩ : ∃ X, W12.alloc (.cells #[.int .i64 0, .int .i64 0, .string ⟨#[]⟩] 23) = X := ⟨_, rfl⟩
                obtain ⟨g3, hg⟩ : ∃ g, W12.heap.size = g := ⟨_, rfl⟩
                rw [hW] at hB hL ⊢
                rw [hg] at hB HGb8_7_4 ⊢
                replace B := Lib.hid hB
                replace BL := Lib.hid hL
                clear hB hL hW hg hHeld
                have hHeld : W16.cell? ⟨g0, 0, none⟩ = some (.int .i64 r0k) ∧ W16.cell? ⟨g0, 1, none⟩ = some (.int .i64 r0n) ∧ W16.cell? ⟨g0, 2, none⟩ = some (.string ⟨List.toArray r0t⟩) := ⟨(B.out.get 2 rfl).c0, (B.out.get 2 rfl).c1, (B.out.get 2 rfl).c2⟩
                refine hK.out _ _ (fun _ => hHeld) ?_
                clear hK K
                try simp only [Act.put, List.setIfInBounds_toArray, List.set_cons_zero, List.set_cons_succ]
                refine late_ready (rs := [2]) (by kernel_rfl) (by simp) ?_
                refine AllLate.cons rfl (fun K hK => ?_) ?_
                · skip
                  go_simp
                  refine (HC2.out _ (HE.out.below BL.out)).mono ?_
                  rintro e W17 ⟨rfl, hb⟩
                  clear hHeld
                  replace B := Lib.hid (B.out.below hb)
                  replace BL := Lib.hid (below_then BL.out hb)
                  clear hb
                  have hHeld : W17.cell? ⟨g0, 0, none⟩ = some (.int .i64 r0k) ∧ W17.cell? ⟨g0, 1, none⟩ = some (.int .i64 r0n) ∧ W17.cell? ⟨g0, 2, none⟩ = some (.string ⟨List.toArray r0t⟩) := ⟨(B.out.get 2 rfl).c0, (B.out.get 2 rfl).c1, (B.out.get 2 rfl).c2⟩
                  dsimp only
                  refine hK.out _ _ (fun _ => hHeld) ?_
                  clear hK K
                  try simp only [Act.put, List.setIfInBounds_toArray, List.set_cons_zero, List.set_cons_succ]
                  refine late_pure_at (some 38) (i := 3) (v := (.tuple #[(.agg #[.int .i64 r2k, .int .i64 r2n, .string ⟨List.toArray r2t⟩]), (.int .i64 r2e)])) rfl rfl rfl (by kernel_rfl) (by kernel_rfl) (by kernel_rfl) (fun _ _ _ h => h) (Or.inl ⟨by rfl, by intro w _; go_simp⟩) (fun _ => hHeld) ?_
                  try simp only [Act.put, List.setIfInBounds_toArray, List.set_cons_zero, List.set_cons_succ]
                  refine late_pure_at (some 42) (i := 4) (v := (.agg #[.int .i64 r2k, .int .i64 r2n, .string ⟨List.toArray r2t⟩])) rfl rfl rfl (by kernel_rfl) (by kernel_rfl) (by kernel_rfl) (fun _ _ _ h => h) (Or.inl ⟨by rfl, by intro w _; go_simp⟩) (fun _ => hHeld) ?_
                  try simp only [Act.put, List.setIfInBounds_toArray, List.set_cons_zero, List.set_cons_succ]
                  refine late_pure_at (some 43) (i := 5) (v := (.int .i64 r2e)) rfl rfl rfl (by kernel_rfl) (by kernel_rfl) (by kernel_rfl) (fun _ _ _ h => h) (Or.inl ⟨by rfl, by intro w _; go_simp⟩) (fun _ => hHeld) ?_
                  try simp only [Act.put, List.setIfInBounds_toArray, List.set_cons_zero, List.set_cons_succ]
                  refine late_ready (rs := [7]) (by kernel_rfl) (by simp) ?_
                  refine AllLate.cons rfl (fun K hK => ?_) ?_
                  · skip
                    have cb8_7_4_0 : W17.cell? ⟨g3, 0, none⟩ = some (.int .i64 0) := (B.out.get 0 rfl).c0
                    have cb8_7_4_1 : W17.cell? ⟨g3, 1, none⟩ = some (.int .i64 0) := (B.out.get 0 rfl).c1
                    have cb8_7_4_2 : W17.cell? ⟨g3, 2, none⟩ = some (.string ⟨List.toArray []⟩) := (B.out.get 0 rfl).c2
                    have zb8_7_4_0 : W17.frozen? ⟨g3, 0, none⟩ = false := (B.out.get 0 rfl).f0
                    have zb8_7_4_1 : W17.frozen? ⟨g3, 1, none⟩ = false := (B.out.get 0 rfl).f1
                    have zb8_7_4_2 : W17.frozen? ⟨g3, 2, none⟩ = false := (B.out.get 0 rfl).f2
                    have zb8_7_4_l : g3 < W17.heap.size := (B.out.get 0 rfl).lt
                    go_simp
                    clear cb8_7_4_0 cb8_7_4_1 cb8_7_4_2 zb8_7_4_0 zb8_7_4_1 zb8_7_4_2 zb8_7_4_l
                    have hB : Bxs (((W17.setCell ⟨g3, 0, none⟩ (.int .i64 r2k)).setCell ⟨g3, 1, none⟩ (.int .i64 r2n)).setCell ⟨g3, 2, none⟩ (.string ⟨List.toArray r2t⟩)) [(g3, (⟨r2k, r2n, r2t⟩ : Vl)), (g1, (⟨r1k, r1n, r1t⟩ : Vl)), (g0, (⟨r0k, r0n, r0t⟩ : Vl)), (w.heap.size, (⟨xk, xn, xt⟩ : Vl))] := B.out.put (b := (⟨r2k, r2n, r2t⟩ : Vl)) 0 rfl
                    have hL : Below w.heap.size w (((W17.setCell ⟨g3, 0, none⟩ (.int .i64 r2k)).setCell ⟨g3, 1, none⟩ (.int .i64 r2n)).setCell ⟨g3, 2, none⟩ (.string ⟨List.toArray r2t⟩)) := below_putV BL.out HGb8_7_4.out (⟨r2k, r2n, r2t⟩ : Vl)
                    obtain ⟨W18, hW⟩ : ∃ X, ((W17.setCell ⟨g3, 0, none⟩ (.int .i64 r2k)).setCell ⟨g3, 1, none⟩ (.int .i64 r2n)).setCell ⟨g3, 2, none⟩ (.string ⟨List.toArray r2t⟩) = X := ⟨_, rfl⟩
                    rw [hW] at hB hL ⊢
                    replace B := Lib.hid hB
                    replace BL := Lib.hid hL
                    clear hB hL hW hHeld
                    refine hK.out _ _ (not_clean 7 rfl (by kernel_rfl)) ?_
                    clear hK K
                    try simp only [Act.put, List.setIfInBounds_toArray, List.set_cons_zero, List.set_cons_succ]
                    refine late_pure_at (some 9) (i := 8) (v := (.int .i64 r2e)) rfl rfl rfl (by kernel_rfl) (by kernel_rfl) (by kernel_rfl) (fun _ _ _ h => h) (Or.inl ⟨by rfl, by intro w _; go_simp⟩) (not_clean 7 rfl (by kernel_rfl)) ?_
                    try simp only [Act.put, List.setIfInBounds_toArray, List.set_cons_zero, List.set_cons_succ]
                    refine late_done (by kernel_rfl) ?_ _
                    refine NoPanic.normal ?_
                    go_wp2_with fail
                    go_meet
                    exact ⟨_, rfl, rfl, HGb8_7_4, B, BL⟩
                  exact AllLate.nil
                exact AllLate.nil
              exact AllLate.nil
            refine AllLate.cons rfl (fun K hK => ?_) ?_
            · skip
              go_simp
              have hB : Bxs (W11.alloc (.cells #[.int .i64 0, .int .i64 0, .string ⟨#[]⟩] 23)) ((W11.heap.size, (⟨0, 0, []⟩ : Vl)) :: [(g1, (⟨r1k, r1n, r1t⟩ : Vl)), (g0, (⟨r0k, r0n, r0t⟩ : Vl)), (w.heap.size, (⟨xk, xn, xt⟩ : Vl))]) := B.out.push (⟨0, 0, []⟩ : Vl) 23
              have hL : Below w.heap.size w (W11.alloc (.cells #[.int .i64 0, .int .i64 0, .string ⟨#[]⟩] 23)) := BL.out.alloc BL.out.size _
              have HGb8_7_4 : Hid (w.heap.size ≤ W11.heap.size) := Lib.hid BL.out.size
              obtain ⟨W19, hW⟩ : ∃ X, W11.alloc (.cells #[.int .i64 0, .int .i64 0, .string ⟨#[]⟩] 23) = X := ⟨_, rfl⟩
              obtain ⟨g4, hg⟩ : ∃ g, W11.heap.size = g := ⟨_, rfl⟩
              rw [hW] at hB hL ⊢
              rw [hg] at hB HGb8_7_4 ⊢
              replace B := Lib.hid hB
              replace BL := Lib.hid hL
              clear hB hL hW hg hHeld
              have hHeld : W19.cell? ⟨g0, 0, none⟩ = some (.int .i64 r0k) ∧ W19.cell? ⟨g0, 1, none⟩ = some (.int .i64 r0n) ∧ W19.cell? ⟨g0, 2, none⟩ = some (.string ⟨List.toArray r0t⟩) := ⟨(B.out.get 2 rfl).c0, (B.out.get 2 rfl).c1, (B.out.get 2 rfl).c2⟩
              refine hK.out _ _ (fun _ => hHeld) ?_
              clear hK K
              try simp only [Act.put, List.setIfInBounds_toArray, List.set_cons_zero, List.set_cons_succ]
              refine late_ready (rs := [1]) (by kernel_rfl) (by simp) ?_
              refine AllLate.cons rfl (fun K hK => ?_) ?_
              · skip
                go_simp
                refine (num_calls 1 _).mono ?_
                rintro e W20 ⟨rfl, hb⟩
                clear hHeld
                replace B := Lib.hid (B.out.below hb)
                replace BL := Lib.hid (below_then BL.out hb)
                clear hb
                have hHeld : W20.cell? ⟨g0, 0, none⟩ = some (.int .i64 r0k) ∧ W20.cell? ⟨g0, 1, none⟩ = some (.int .i64 r0n) ∧ W20.cell? ⟨g0, 2, none⟩ = some (.string ⟨List.toArray r0t⟩) := ⟨(B.out.get 2 rfl).c0, (B.out.get 2 rfl).c1, (B.out.get 2 rfl).c2⟩
                dsimp only
                refine hK.out _ _ (fun _ => hHeld) ?_
                clear hK K
                try simp only [Act.put, List.setIfInBounds_toArray, List.set_cons_zero, List.set_cons_succ]
                refine late_ready (rs := [2]) (by kernel_rfl) (by simp) ?_
                refine AllLate.cons rfl (fun K hK => ?_) ?_
                · skip
                  go_simp
                  refine (HC2.out _ (HE.out.below BL.out)).mono ?_
                  rintro e W21 ⟨rfl, hb⟩
                  clear hHeld
                  replace B := Lib.hid (B.out.below hb)
                  replace BL := Lib.hid (below_then BL.out hb)
                  clear hb
                  have hHeld : W21.cell? ⟨g0, 0, none⟩ = some (.int .i64 r0k) ∧ W21.cell? ⟨g0, 1, none⟩ = some (.int .i64 r0n) ∧ W21.cell? ⟨g0, 2, none⟩ = some (.string ⟨List.toArray r0t⟩) := ⟨(B.out.get 2 rfl).c0, (B.out.get 2 rfl).c1, (B.out.get 2 rfl).c2⟩
                  dsimp only
                  refine hK.out _ _ (fun _ => hHeld) ?_
                  clear hK K
                  try simp only [Act.put, List.setIfInBounds_toArray, List.set_cons_zero, List.set_cons_succ]
                  refine late_pure_at (some 38) (i := 3) (v := (.tuple #[(.agg #[.int .i64 r2k, .int .i64 r2n, .string ⟨List.toArray r2t⟩]), (.int .i64 r2e)])) rfl rfl rfl (by kernel_rfl) (by kernel_rfl) (by kernel_rfl) (fun _ _ _ h => h) (Or.inl ⟨by rfl, by intro w _; go_simp⟩) (fun _ => hHeld) ?_
                  try simp only [Act.put, List.setIfInBounds_toArray, List.set_cons_zero, List.set_cons_succ]
                  refine late_pure_at (some 42) (i := 4) (v := (.agg #[.int .i64 r2k, .int .i64 r2n, .string ⟨List.toArray r2t⟩])) rfl rfl rfl (by kernel_rfl) (by kernel_rfl) (by kernel_rfl) (fun _ _ _ h => h) (Or.inl ⟨by rfl, by intro w _; go_simp⟩) (fun _ => hHeld) ?_
                  try simp only [Act.put, List.setIfInBounds_toArray, List.set_cons_zero, List.set_cons_succ]
                  refine late_pure_at (some 43) (i := 5) (v := (.int .i64 r2e)) rfl rfl rfl (by kernel_rfl) (by kernel_rfl) (by kernel_rfl) (fun _ _ _ h => h) (Or.inl ⟨by rfl, by intro w _; go_simp⟩) (fun _ => hHeld) ?_
                  try simp only [Act.put, List.setIfInBounds_toArray, List.set_cons_zero, List.set_cons_succ]
                  refine late_ready (rs := [7]) (by kernel_rfl) (by simp) ?_
                  refine AllLate.cons rfl (fun K hK => ?_) ?_
                  · skip
                    have cb8_7_4_0 : W21.cell? ⟨g4, 0, none⟩ = some (.int .i64 0) := (B.out.get 0 rfl).c0
                    have cb8_7_4_1 : W21.cell? ⟨g4, 1, none⟩ = some (.int .i64 0) := (B.out.get 0 rfl).c1
                    have cb8_7_4_2 : W21.cell? ⟨g4, 2, none⟩ = some (.string ⟨List.toArray []⟩) := (B.out.get 0 rfl).c2
                    have zb8_7_4_0 : W21.frozen? ⟨g4, 0, none⟩ = false := (B.out.get 0 rfl).f0
                    have zb8_7_4_1 : W21.frozen? ⟨g4, 1, none⟩ = false := (B.out.get 0 rfl).f1
                    have zb8_7_4_2 : W21.frozen? ⟨g4, 2, none⟩ = false := (B.out.get 0 rfl).f2
                    have zb8_7_4_l : g4 < W21.heap.size := (B.out.get 0 rfl).lt
                    go_simp
                    clear cb8_7_4_0 cb8_7_4_1 cb8_7_4_2 zb8_7_4_0 zb8_7_4_1 zb8_7_4_2 zb8_7_4_l
                    have hB : Bxs (((W21.setCell ⟨g4, 0, none⟩ (.int .i64 r2k)).setCell ⟨g4, 1, none⟩ (.int .i64 r2n)).setCell ⟨g4, 2, none⟩ (.string ⟨List.toArray r2t⟩)) [(g4, (⟨r2k, r2n, r2t⟩ : Vl)), (g1, (⟨r1k, r1n, r1t⟩ : Vl)), (g0, (⟨r0k, r0n, r0t⟩ : Vl)), (w.heap.size, (⟨xk, xn, xt⟩ : Vl))] := B.out.put (b := (⟨r2k, r2n, r2t⟩ : Vl)) 0 rfl
                    have hL : Below w.heap.size w (((W21.setCell ⟨g4, 0, none⟩ (.int .i64 r2k)).setCell ⟨g4, 1, none⟩ (.int .i64 r2n)).setCell ⟨g4, 2, none⟩ (.string ⟨List.toArray r2t⟩)) := below_putV BL.out HGb8_7_4.out (⟨r2k, r2n, r2t⟩ : Vl)
                    obtain ⟨W22, hW⟩ : ∃ X, ((W21.setCell ⟨g4, 0, none⟩ (.int .i64 r2k)).setCell ⟨g4, 1, none⟩ (.int .i64 r2n)).setCell ⟨g4, 2, none⟩ (.string ⟨List.toArray r2t⟩) = X := ⟨_, rfl⟩
                    rw [hW] at hB hL ⊢
                    replace B := Lib.hid hB
                    replace BL := Lib.hid hL
                    clear hB hL hW hHeld
                    refine hK.out _ _ (not_clean 7 rfl (by kernel_rfl)) ?_
                    clear hK K
                    try simp only [Act.put, List.setIfInBounds_toArray, List.set_cons_zero, List.set_cons_succ]
                    refine late_pure_at (some 9) (i := 8) (v := (.int .i64 r2e)) rfl rfl rfl (by kernel_rfl) (by kernel_rfl) (by kernel_rfl) (fun _ _ _ h => h) (Or.inl ⟨by rfl, by intro w _; go_simp⟩) (not_clean 7 rfl (by kernel_rfl)) ?_
                    try simp only [Act.put, List.setIfInBounds_toArray, List.set_cons_zero, List.set_cons_succ]
                    refine late_done (by kernel_rfl) ?_ _
                    refine NoPanic.normal ?_
                    go_wp2_with fail
                    go_meet
                    exact ⟨_, rfl, rfl, HGb8_7_4, B, BL⟩
                  exact AllLate.nil
                exact AllLate.nil
              exact AllLate.nil
            exact AllLate.nil
          case rest =>
            clear B BL
            obtain ⟨g5, rfl, rfl, HGb8_7_4, B, BL⟩ := hcut
            obtain ⟨W23, hW⟩ : ∃ X, wc = X := ⟨_, rfl⟩
            rw [hW] at B BL ⊢
            clear hW
            replace HL := Lib.hid (show true = BigRoots_s13 (⟨xk, xn, xt⟩ : Vl) ((⟨r0k, r0n, r0t⟩, r0e) : Vl × Int) ((⟨r1k, r1n, r1t⟩, r1e) : Vl × Int) ((⟨r2k, r2n, r2t⟩, r2e) : Vl × Int) from HL.out.trans (by unfold BigRoots_s14; rw [HR2.out]))
            -- region 8
            have cb8_7_4_0 : W23.cell? ⟨g5, 0, none⟩ = some (.int .i64 r2k) := (B.out.get 0 rfl).c0
            have cb8_7_4_1 : W23.cell? ⟨g5, 1, none⟩ = some (.int .i64 r2n) := (B.out.get 0 rfl).c1
            have cb8_7_4_2 : W23.cell? ⟨g5, 2, none⟩ = some (.string ⟨List.toArray r2t⟩) := (B.out.get 0 rfl).c2
            obtain ⟨⟨⟨r3k, r3n, r3t⟩, r3e⟩, hr3⟩ : ∃ p, mulR (⟨r2k, r2n, r2t⟩ : Vl) (⟨r2k, r2n, r2t⟩ : Vl) = p := ⟨_, rfl⟩
            have hc3 := fun (W : World) (hW : Env W) => mul_pub (⟨r2k, r2n, r2t⟩ : Vl) (⟨r2k, r2n, r2t⟩ : Vl) HOr2.out HOr2.out W hW
            have ho3 := mulR_ok (⟨r2k, r2n, r2t⟩ : Vl) (⟨r2k, r2n, r2t⟩ : Vl)
            rw [hr3] at hc3 ho3
            simp only [Vl.val, pr] at hc3
            have HC3 := Lib.hid hc3; have HOr3 : Hid (Vl.ok ⟨r3k, r3n, r3t⟩) := Lib.hid ho3; have HR3 := Lib.hid hr3
            clear hc3 ho3 hr3
            go_wp2_with fail
            refine (HC3.out _ (HE.out.below BL.out)).mono ?_
            rintro e W24 ⟨rfl, hb⟩
            clear cb8_7_4_0 cb8_7_4_1 cb8_7_4_2
            replace B := Lib.hid (B.out.below hb)
            replace BL := Lib.hid (below_then BL.out hb)
            clear hb
            go_upto_region 9 with fail
            have hB : Bxs (W24.alloc (.cells #[.int .i64 r3k, .int .i64 r3n, .string ⟨List.toArray r3t⟩] 23)) ((W24.heap.size, (⟨r3k, r3n, r3t⟩ : Vl)) :: [(g5, (⟨r2k, r2n, r2t⟩ : Vl)), (g1, (⟨r1k, r1n, r1t⟩ : Vl)), (g0, (⟨r0k, r0n, r0t⟩ : Vl)), (w.heap.size, (⟨xk, xn, xt⟩ : Vl))]) := B.out.push (⟨r3k, r3n, r3t⟩ : Vl) 23
            have hL : Below w.heap.size w (W24.alloc (.cells #[.int .i64 r3k, .int .i64 r3n, .string ⟨List.toArray r3t⟩] 23)) := BL.out.alloc BL.out.size _
            obtain ⟨W25, hW⟩ : ∃ X, W24.alloc (.cells #[.int .i64 r3k, .int .i64 r3n, .string ⟨List.toArray r3t⟩] 23) = X := ⟨_, rfl⟩
            obtain ⟨g6, hg⟩ : ∃ g, W24.heap.size = g := ⟨_, rfl⟩
            rw [hW] at hB hL ⊢
            rw [hg] at hB ⊢
            have HGb10_8_5 : Hid (w.heap.size ≤ g6) := Lib.hid (by rw [← hg]; exact BL.out.size)
            replace B := Lib.hid hB
            replace BL := Lib.hid hL
            clear hB hL hW hg
            replace HL := Lib.hid (show true = BigRoots_s12 (⟨xk, xn, xt⟩ : Vl) ((⟨r0k, r0n, r0t⟩, r0e) : Vl × Int) ((⟨r1k, r1n, r1t⟩, r1e) : Vl × Int) ((⟨r2k, r2n, r2t⟩, r2e) : Vl × Int) ((⟨r3k, r3n, r3t⟩, r3e) : Vl × Int) from HL.out.trans (by unfold BigRoots_s13; rw [HR3.out]))
            -- region 9
            have cb1_0 : W25.cell? ⟨w.heap.size, 0, none⟩ = some (.int .i64 xk) := (B.out.get 4 rfl).c0
            have cb1_1 : W25.cell? ⟨w.heap.size, 1, none⟩ = some (.int .i64 xn) := (B.out.get 4 rfl).c1
            have cb1_2 : W25.cell? ⟨w.heap.size, 2, none⟩ = some (.string ⟨List.toArray xt⟩) := (B.out.get 4 rfl).c2
            have cb6_6_3_0 : W25.cell? ⟨g1, 0, none⟩ = some (.int .i64 r1k) := (B.out.get 2 rfl).c0
            have cb6_6_3_1 : W25.cell? ⟨g1, 1, none⟩ = some (.int .i64 r1n) := (B.out.get 2 rfl).c1
            have cb6_6_3_2 : W25.cell? ⟨g1, 2, none⟩ = some (.string ⟨List.toArray r1t⟩) := (B.out.get 2 rfl).c2
            obtain ⟨⟨r4b, r4e⟩, hr4⟩ : ∃ p, lessR (⟨xk, xn, xt⟩ : Vl) (⟨r1k, r1n, r1t⟩ : Vl) = p := ⟨_, rfl⟩
            have hc4 := fun (W : World) (hW : Env W) => lessV (⟨xk, xn, xt⟩ : Vl) (⟨r1k, r1n, r1t⟩ : Vl) HOx.out HOr1.out W hW
            rw [hr4] at hc4
            simp only [Vl.val] at hc4
            have HC4 := Lib.hid hc4; have HR4 := Lib.hid hr4
            clear hc4 hr4
            go_wp2_with fail
            refine (HC4.out _ (HE.out.below BL.out)).mono ?_
            rintro e W26 ⟨rfl, hb⟩
            clear cb1_0 cb1_1 cb1_2 cb6_6_3_0 cb6_6_3_1 cb6_6_3_2
            replace B := Lib.hid (B.out.below hb)
            replace BL := Lib.hid (below_then BL.out hb)
            clear hb
            go_upto_region 10 with fail
            replace HL := Lib.hid (show true = BigRoots_s11 (⟨xk, xn, xt⟩ : Vl) ((⟨r0k, r0n, r0t⟩, r0e) : Vl × Int) ((⟨r1k, r1n, r1t⟩, r1e) : Vl × Int) ((⟨r2k, r2n, r2t⟩, r2e) : Vl × Int) ((⟨r3k, r3n, r3t⟩, r3e) : Vl × Int) ((r4b, r4e) : Bool × Int) from HL.out.trans (by unfold BigRoots_s12; rw [HR4.out]))
            -- region 10
            have cb1_0 : W26.cell? ⟨w.heap.size, 0, none⟩ = some (.int .i64 xk) := (B.out.get 4 rfl).c0
            have cb1_1 : W26.cell? ⟨w.heap.size, 1, none⟩ = some (.int .i64 xn) := (B.out.get 4 rfl).c1
            have cb1_2 : W26.cell? ⟨w.heap.size, 2, none⟩ = some (.string ⟨List.toArray xt⟩) := (B.out.get 4 rfl).c2
            have cb10_8_5_0 : W26.cell? ⟨g6, 0, none⟩ = some (.int .i64 r3k) := (B.out.get 0 rfl).c0
            have cb10_8_5_1 : W26.cell? ⟨g6, 1, none⟩ = some (.int .i64 r3n) := (B.out.get 0 rfl).c1
            have cb10_8_5_2 : W26.cell? ⟨g6, 2, none⟩ = some (.string ⟨List.toArray r3t⟩) := (B.out.get 0 rfl).c2
            obtain ⟨⟨r5b, r5e⟩, hr5⟩ : ∃ p, lessR (⟨xk, xn, xt⟩ : Vl) (⟨r3k, r3n, r3t⟩ : Vl) = p := ⟨_, rfl⟩
            have hc5 := fun (W : World) (hW : Env W) => lessV (⟨xk, xn, xt⟩ : Vl) (⟨r3k, r3n, r3t⟩ : Vl) HOx.out HOr3.out W hW
            rw [hr5] at hc5
            simp only [Vl.val] at hc5
            have HC5 := Lib.hid hc5; have HR5 := Lib.hid hr5
            clear hc5 hr5
            go_wp2_with fail
            refine (HC5.out _ (HE.out.below BL.out)).mono ?_
            rintro e W27 ⟨rfl, hb⟩
            clear cb1_0 cb1_1 cb1_2 cb10_8_5_0 cb10_8_5_1 cb10_8_5_2
            replace B := Lib.hid (B.out.below hb)
            replace BL := Lib.hid (below_then BL.out hb)
            clear hb
            go_upto_region 11 with fail
            replace HL := Lib.hid (show true = BigRoots_s10 (⟨xk, xn, xt⟩ : Vl) ((⟨r0k, r0n, r0t⟩, r0e) : Vl × Int) ((⟨r1k, r1n, r1t⟩, r1e) : Vl × Int) ((⟨r2k, r2n, r2t⟩, r2e) : Vl × Int) ((⟨r3k, r3n, r3t⟩, r3e) : Vl × Int) ((r4b, r4e) : Bool × Int) ((r5b, r5e) : Bool × Int) from HL.out.trans (by unfold BigRoots_s11; rw [HR5.out]))
            -- region 11, a test
            obtain ⟨b2, h⟩ : ∃ b : Bool, (r1e == 0) = b := ⟨_, rfl⟩
            have HA2 := Lib.hid h
            clear h
            obtain ⟨b3, h⟩ : ∃ b : Bool, (r2e == 0) = b := ⟨_, rfl⟩
            have HA3 := Lib.hid h
            clear h
            obtain ⟨b4, h⟩ : ∃ b : Bool, (r4e == 0) = b := ⟨_, rfl⟩
            have HA4 := Lib.hid h
            clear h
            obtain ⟨b5, h⟩ : ∃ b : Bool, (r3e == 0) = b := ⟨_, rfl⟩
            have HA5 := Lib.hid h
            clear h
            obtain ⟨b6, h⟩ : ∃ b : Bool, (r5e == 0) = b := ⟨_, rfl⟩
            have HA6 := Lib.hid h
            clear h
            obtain ⟨b7, h⟩ : ∃ b : Bool, (r3e == 2) = b := ⟨_, rfl⟩
            have HA7 := Lib.hid h
            clear h
            have HCF : ((((((!(r1e == 0)) || (!(r2e == 0))) || (!(r4e == 0))) || r4b) || ((r3e == 0) && ((!(r5e == 0)) || (!r5b)))) || ((!(r3e == 0)) && (!(r3e == 2)))) = false := Bool.eq_false_iff.2 fun h => Bool.noConfusion (show true = false from HL.out.trans (if_pos h))
            have HCB : ((((((!b2) || (!b3)) || (!b4)) || r4b) || (b5 && ((!b6) || (!r5b)))) || ((!b5) && (!b7))) = false := by
              have h := HCF
              rw [HA2.out, HA3.out, HA4.out, HA5.out, HA6.out, HA7.out] at h
              exact h
            have HCW := Lib.hid HCF
            have HCC := Lib.hid HCB
            clear HCF HCB
            go_upto_region 11 with fail
            go_cut [94] from 62 to 94 (fun v wx => v = .bool false ∧ Hid (Bxs wx [(g6, (⟨r3k, r3n, r3t⟩ : Vl)), (g5, (⟨r2k, r2n, r2t⟩ : Vl)), (g1, (⟨r1k, r1n, r1t⟩ : Vl)), (g0, (⟨r0k, r0n, r0t⟩ : Vl)), (w.heap.size, (⟨xk, xn, xt⟩ : Vl))]) ∧ Hid (Below w.heap.size w wx))
            case first =>
              clear HL
              cases b2 with
              | true =>
                cases b3 with
                | true =>
                  cases b4 with
                  | true =>
                    cases r4b with
                    | true =>
                      exact Bool.noConfusion (show true = false from HCC.out)
                    | false =>
                      cases b5 with
                      | true =>
                        cases b6 with
                        | true =>
                          cases r5b with
                          | true =>
                            have f0_0 : ((r1e : Int) == 0) = true := HA2.out
                            have f0_1 : ((r1e : Int) != 0) = false := by have h := HA2.out; simpa using h
                            have f1_0 : ((r2e : Int) == 0) = true := HA3.out
                            have f1_1 : ((r2e : Int) != 0) = false := by have h := HA3.out; simpa using h
                            have f2_0 : ((r4e : Int) == 0) = true := HA4.out
                            have f2_1 : ((r4e : Int) != 0) = false := by have h := HA4.out; simpa using h
                            have f3_0 : ((r3e : Int) == 0) = true := HA5.out
                            have f3_1 : ((r3e : Int) != 0) = false := by have h := HA5.out; simpa using h
                            have f4_0 : ((r5e : Int) == 0) = true := HA6.out
                            have f4_1 : ((r5e : Int) != 0) = false := by have h := HA6.out; simpa using h
                            go_wp2_with fail
                            go_meet
                            exact ⟨rfl, B, BL⟩
                          | false =>
                            exact Bool.noConfusion (show true = false from HCC.out)
                        | false =>
                          exact Bool.noConfusion (show true = false from HCC.out)
                      | false =>
                        cases b7 with
                        | true =>
                          have f0_0 : ((r1e : Int) == 0) = true := HA2.out
                          have f0_1 : ((r1e : Int) != 0) = false := by have h := HA2.out; simpa using h
                          have f1_0 : ((r2e : Int) == 0) = true := HA3.out
                          have f1_1 : ((r2e : Int) != 0) = false := by have h := HA3.out; simpa using h
                          have f2_0 : ((r4e : Int) == 0) = true := HA4.out
                          have f2_1 : ((r4e : Int) != 0) = false := by have h := HA4.out; simpa using h
                          have f3_0 : ((r3e : Int) == 0) = false := HA5.out
                          have f3_1 : ((r3e : Int) != 0) = true := by have h := HA5.out; simpa using h
                          have f5_0 : ((r3e : Int) == 2) = true := HA7.out
                          have f5_1 : ((r3e : Int) != 2) = false := by have h := HA7.out; simpa using h
                          go_wp2_with fail
                          go_meet
                          exact ⟨rfl, B, BL⟩
                        | false =>
                          exact Bool.noConfusion (show true = false from HCC.out)
                  | false =>
                    exact Bool.noConfusion (show true = false from HCC.out)
                | false =>
                  exact Bool.noConfusion (show true = false from HCC.out)
              | false =>
                exact Bool.noConfusion (show true = false from HCC.out)
            case rest =>
              clear B BL
              obtain ⟨rfl, B, BL⟩ := hcut
              obtain ⟨W28, hW⟩ : ∃ X, wc = X := ⟨_, rfl⟩
              rw [hW] at B BL ⊢
              clear hW
              clear HCC HA2 HA3 HA4 HA5 HA6 HA7
              replace HL := Lib.hid (show true = BigRoots_s9 (⟨xk, xn, xt⟩ : Vl) ((⟨r0k, r0n, r0t⟩, r0e) : Vl × Int) ((⟨r1k, r1n, r1t⟩, r1e) : Vl × Int) ((⟨r2k, r2n, r2t⟩, r2e) : Vl × Int) ((⟨r3k, r3n, r3t⟩, r3e) : Vl × Int) ((r4b, r4e) : Bool × Int) ((r5b, r5e) : Bool × Int) from HL.out.trans ((if_neg (fun h => Bool.noConfusion (HCW.out.symm.trans h)))))
              -- region 15
              have cb1_0 : W28.cell? ⟨w.heap.size, 0, none⟩ = some (.int .i64 xk) := (B.out.get 4 rfl).c0
              have cb1_1 : W28.cell? ⟨w.heap.size, 1, none⟩ = some (.int .i64 xn) := (B.out.get 4 rfl).c1
              have cb1_2 : W28.cell? ⟨w.heap.size, 2, none⟩ = some (.string ⟨List.toArray xt⟩) := (B.out.get 4 rfl).c2
              obtain ⟨⟨⟨r6k, r6n, r6t⟩, r6e⟩, hr6⟩ : ∃ p, mulR (⟨xk, xn, xt⟩ : Vl) (⟨xk, xn, xt⟩ : Vl) = p := ⟨_, rfl⟩
              have hc6 := fun (W : World) (hW : Env W) => mul_pub (⟨xk, xn, xt⟩ : Vl) (⟨xk, xn, xt⟩ : Vl) HOx.out HOx.out W hW
              have ho6 := mulR_ok (⟨xk, xn, xt⟩ : Vl) (⟨xk, xn, xt⟩ : Vl)
              rw [hr6] at hc6 ho6
              simp only [Vl.val, pr] at hc6
              have HC6 := Lib.hid hc6; have HOr6 : Hid (Vl.ok ⟨r6k, r6n, r6t⟩) := Lib.hid ho6; have HR6 := Lib.hid hr6
              clear hc6 ho6 hr6
              go_wp2_with fail
              refine (HC6.out _ (HE.out.below BL.out)).mono ?_
              rintro e W29 ⟨rfl, hb⟩
              clear cb1_0 cb1_1 cb1_2
              replace B := Lib.hid (B.out.below hb)
              replace BL := Lib.hid (below_then BL.out hb)
              clear hb
              go_upto_region 16 with fail
              have hB : Bxs (W29.alloc (.cells #[.int .i64 r6k, .int .i64 r6n, .string ⟨List.toArray r6t⟩] 23)) ((W29.heap.size, (⟨r6k, r6n, r6t⟩ : Vl)) :: [(g6, (⟨r3k, r3n, r3t⟩ : Vl)), (g5, (⟨r2k, r2n, r2t⟩ : Vl)), (g1, (⟨r1k, r1n, r1t⟩ : Vl)), (g0, (⟨r0k, r0n, r0t⟩ : Vl)), (w.heap.size, (⟨xk, xn, xt⟩ : Vl))]) := B.out.push (⟨r6k, r6n, r6t⟩ : Vl) 23
              have hL : Below w.heap.size w (W29.alloc (.cells #[.int .i64 r6k, .int .i64 r6n, .string ⟨List.toArray r6t⟩] 23)) := BL.out.alloc BL.out.size _
              obtain ⟨W30, hW⟩ : ∃ X, W29.alloc (.cells #[.int .i64 r6k, .int .i64 r6n, .string ⟨List.toArray r6t⟩] 23) = X := ⟨_, rfl⟩
              obtain ⟨g7, hg⟩ : ∃ g, W29.heap.size = g := ⟨_, rfl⟩
              rw [hW] at hB hL ⊢
              rw [hg] at hB ⊢
              have HGb16_15_7 : Hid (w.heap.size ≤ g7) := Lib.hid (by rw [← hg]; exact BL.out.size)
              replace B := Lib.hid hB
              replace BL := Lib.hid hL
              clear hB hL hW hg
              replace HL := Lib.hid (show true = BigRoots_s8 (⟨xk, xn, xt⟩ : Vl) ((⟨r0k, r0n, r0t⟩, r0e) : Vl × Int) ((⟨r1k, r1n, r1t⟩, r1e) : Vl × Int) ((⟨r2k, r2n, r2t⟩, r2e) : Vl × Int) ((⟨r3k, r3n, r3t⟩, r3e) : Vl × Int) ((r4b, r4e) : Bool × Int) ((r5b, r5e) : Bool × Int) ((⟨r6k, r6n, r6t⟩, r6e) : Vl × Int) from HL.out.trans (by unfold BigRoots_s9; rw [HR6.out]))
              -- region 16, a test
              obtain ⟨b10, h⟩ : ∃ b : Bool, (r6e == 0) = b := ⟨_, rfl⟩
              have HA10 := Lib.hid h
              clear h
              obtain ⟨c9, h⟩ : ∃ c : Bool, (!b10) = c := ⟨_, rfl⟩
              have HCC := Lib.hid h
              clear h
              go_upto_region 16 with fail
              go_cut [113] from 112 to 113 (fun v wx => v = .bool c9 ∧ Hid (Bxs wx [(g7, (⟨r6k, r6n, r6t⟩ : Vl)), (g6, (⟨r3k, r3n, r3t⟩ : Vl)), (g5, (⟨r2k, r2n, r2t⟩ : Vl)), (g1, (⟨r1k, r1n, r1t⟩ : Vl)), (g0, (⟨r0k, r0n, r0t⟩ : Vl)), (w.heap.size, (⟨xk, xn, xt⟩ : Vl))]) ∧ Hid (Below w.heap.size w wx))
              case first =>
                clear HL
                cases b10 with
                | true =>
                  have f0_0 : ((r6e : Int) == 0) = true := HA10.out
                  have f0_1 : ((r6e : Int) != 0) = false := by have h := HA10.out; simpa using h
                  go_wp2_with fail
                  go_meet
                  exact ⟨congrArg Value.bool HCC.out, B, BL⟩
                | false =>
                  have f0_0 : ((r6e : Int) == 0) = false := HA10.out
                  have f0_1 : ((r6e : Int) != 0) = true := by have h := HA10.out; simpa using h
                  go_wp2_with fail
                  go_meet
                  exact ⟨congrArg Value.bool HCC.out, B, BL⟩
              case rest =>
                clear B BL
                obtain ⟨rfl, B, BL⟩ := hcut
                obtain ⟨W31, hW⟩ : ∃ X, wc = X := ⟨_, rfl⟩
                rw [hW] at B BL ⊢
                clear hW
                have HCW : Hid ((!(r6e == 0)) = c9) := Lib.hid (by rw [HA10.out]; exact HCC.out)
                clear HCC HA10
                cases c9 with
                | true =>
                  replace HL := Lib.hid (show true = BigRoots_s2 (⟨xk, xn, xt⟩ : Vl) ((⟨r0k, r0n, r0t⟩, r0e) : Vl × Int) ((⟨r1k, r1n, r1t⟩, r1e) : Vl × Int) ((⟨r2k, r2n, r2t⟩, r2e) : Vl × Int) ((⟨r3k, r3n, r3t⟩, r3e) : Vl × Int) ((r4b, r4e) : Bool × Int) ((r5b, r5e) : Bool × Int) ((⟨r6k, r6n, r6t⟩, r6e) : Vl × Int) from HL.out.trans (if_pos HCW.out))
                  go_wp2_with fail
                  go_ret
                  exact ⟨rfl, BL.out⟩
                | false =>
                  replace HL := Lib.hid (show true = BigRoots_s7 (⟨xk, xn, xt⟩ : Vl) ((⟨r0k, r0n, r0t⟩, r0e) : Vl × Int) ((⟨r1k, r1n, r1t⟩, r1e) : Vl × Int) ((⟨r2k, r2n, r2t⟩, r2e) : Vl × Int) ((⟨r3k, r3n, r3t⟩, r3e) : Vl × Int) ((r4b, r4e) : Bool × Int) ((r5b, r5e) : Bool × Int) ((⟨r6k, r6n, r6t⟩, r6e) : Vl × Int) from HL.out.trans ((if_neg (fun h => Bool.noConfusion (HCW.out.symm.trans h)))))
                  -- region 18
                  have cb16_15_7_0 : W31.cell? ⟨g7, 0, none⟩ = some (.int .i64 r6k) := (B.out.get 0 rfl).c0
                  have cb16_15_7_1 : W31.cell? ⟨g7, 1, none⟩ = some (.int .i64 r6n) := (B.out.get 0 rfl).c1
                  have cb16_15_7_2 : W31.cell? ⟨g7, 2, none⟩ = some (.string ⟨List.toArray r6t⟩) := (B.out.get 0 rfl).c2
                  obtain ⟨⟨⟨r7k, r7n, r7t⟩, r7e⟩, hr7⟩ : ∃ p, rootR (⟨r6k, r6n, r6t⟩ : Vl) = p := ⟨_, rfl⟩
                  have hc7 := fun (W : World) (hW : Env W) => rootV (⟨r6k, r6n, r6t⟩ : Vl) HOr6.out W hW
                  have ho7 := rootR_ok (⟨r6k, r6n, r6t⟩ : Vl) HOr6.out
                  rw [hr7] at hc7 ho7
                  simp only [Vl.val, pr] at hc7
                  have HC7 := Lib.hid hc7; have HOr7 : Hid (Vl.ok ⟨r7k, r7n, r7t⟩) := Lib.hid ho7; have HR7 := Lib.hid hr7
                  clear hc7 ho7 hr7
                  go_wp2_with fail
                  refine (HC7.out _ (HE.out.below BL.out)).mono ?_
                  rintro e W32 ⟨rfl, hb⟩
                  clear cb16_15_7_0 cb16_15_7_1 cb16_15_7_2
                  replace B := Lib.hid (B.out.below hb)
                  replace BL := Lib.hid (below_then BL.out hb)
                  clear hb
                  go_upto_region 19 with fail
                  have hB : Bxs (W32.alloc (.cells #[.int .i64 r7k, .int .i64 r7n, .string ⟨List.toArray r7t⟩] 23)) ((W32.heap.size, (⟨r7k, r7n, r7t⟩ : Vl)) :: [(g7, (⟨r6k, r6n, r6t⟩ : Vl)), (g6, (⟨r3k, r3n, r3t⟩ : Vl)), (g5, (⟨r2k, r2n, r2t⟩ : Vl)), (g1, (⟨r1k, r1n, r1t⟩ : Vl)), (g0, (⟨r0k, r0n, r0t⟩ : Vl)), (w.heap.size, (⟨xk, xn, xt⟩ : Vl))]) := B.out.push (⟨r7k, r7n, r7t⟩ : Vl) 23
                  have hL : Below w.heap.size w (W32.alloc (.cells #[.int .i64 r7k, .int .i64 r7n, .string ⟨List.toArray r7t⟩] 23)) := BL.out.alloc BL.out.size _
                  obtain ⟨W33, hW⟩ : ∃ X, W32.alloc (.cells #[.int .i64 r7k, .int .i64 r7n, .string ⟨List.toArray r7t⟩] 23) = X := ⟨_, rfl⟩
                  obtain ⟨g8, hg⟩ : ∃ g, W32.heap.size = g := ⟨_, rfl⟩
                  rw [hW] at hB hL ⊢
                  rw [hg] at hB ⊢
                  have HGb18_18_9 : Hid (w.heap.size ≤ g8) := Lib.hid (by rw [← hg]; exact BL.out.size)
                  replace B := Lib.hid hB
                  replace BL := Lib.hid hL
                  clear hB hL hW hg
                  replace HL := Lib.hid (show true = BigRoots_s6 (⟨xk, xn, xt⟩ : Vl) ((⟨r0k, r0n, r0t⟩, r0e) : Vl × Int) ((⟨r1k, r1n, r1t⟩, r1e) : Vl × Int) ((⟨r2k, r2n, r2t⟩, r2e) : Vl × Int) ((⟨r3k, r3n, r3t⟩, r3e) : Vl × Int) ((r4b, r4e) : Bool × Int) ((r5b, r5e) : Bool × Int) ((⟨r6k, r6n, r6t⟩, r6e) : Vl × Int) ((⟨r7k, r7n, r7t⟩, r7e) : Vl × Int) from HL.out.trans (by unfold BigRoots_s7; rw [HR7.out]))
                  -- region 19, a test
                  obtain ⟨b11, h⟩ : ∃ b : Bool, (negB (⟨xk, xn, xt⟩ : Vl)) = b := ⟨_, rfl⟩
                  have HA11 := Lib.hid h
                  clear h
                  obtain ⟨c11, h⟩ : ∃ c : Bool, b11 = c := ⟨_, rfl⟩
                  have HCC := Lib.hid h
                  clear h
                  go_upto_region 19 with fail
                  go_cut [121] from 120 to 121 (fun v wx => v = .bool c11 ∧ Hid (Bxs wx [(g8, (⟨r7k, r7n, r7t⟩ : Vl)), (g7, (⟨r6k, r6n, r6t⟩ : Vl)), (g6, (⟨r3k, r3n, r3t⟩ : Vl)), (g5, (⟨r2k, r2n, r2t⟩ : Vl)), (g1, (⟨r1k, r1n, r1t⟩ : Vl)), (g0, (⟨r0k, r0n, r0t⟩ : Vl)), (w.heap.size, (⟨xk, xn, xt⟩ : Vl))]) ∧ Hid (Below w.heap.size w wx))
                  case first =>
                    clear HL
                    cases b11 with
                    | true =>
                      have cb1_0 : W33.cell? ⟨w.heap.size, 0, none⟩ = some (.int .i64 xk) := (B.out.get 6 rfl).c0
                      have cb1_1 : W33.cell? ⟨w.heap.size, 1, none⟩ = some (.int .i64 xn) := (B.out.get 6 rfl).c1
                      have cb1_2 : W33.cell? ⟨w.heap.size, 2, none⟩ = some (.string ⟨List.toArray xt⟩) := (B.out.get 6 rfl).c2
                      go_wp2_with fail
                      refine (negative_calls xk xn xt (Nat.le_trans HOx.out.t (by decide)) _).mono ?_
                      rw [HA11.out]
                      rintro e W34 ⟨rfl, hb⟩
                      clear cb1_0 cb1_1 cb1_2
                      replace B := Lib.hid (B.out.below hb)
                      replace BL := Lib.hid (below_then BL.out hb)
                      clear hb
                      have cb1_0 : W34.cell? ⟨w.heap.size, 0, none⟩ = some (.int .i64 xk) := (B.out.get 6 rfl).c0
                      have cb1_1 : W34.cell? ⟨w.heap.size, 1, none⟩ = some (.int .i64 xn) := (B.out.get 6 rfl).c1
                      have cb1_2 : W34.cell? ⟨w.heap.size, 2, none⟩ = some (.string ⟨List.toArray xt⟩) := (B.out.get 6 rfl).c2
                      go_wp2_with fail
                      go_meet
                      exact ⟨congrArg Value.bool HCC.out, B, BL⟩
                    | false =>
                      have cb1_0 : W33.cell? ⟨w.heap.size, 0, none⟩ = some (.int .i64 xk) := (B.out.get 6 rfl).c0
                      have cb1_1 : W33.cell? ⟨w.heap.size, 1, none⟩ = some (.int .i64 xn) := (B.out.get 6 rfl).c1
                      have cb1_2 : W33.cell? ⟨w.heap.size, 2, none⟩ = some (.string ⟨List.toArray xt⟩) := (B.out.get 6 rfl).c2
                      go_wp2_with fail
                      refine (negative_calls xk xn xt (Nat.le_trans HOx.out.t (by decide)) _).mono ?_
                      rw [HA11.out]
                      rintro e W35 ⟨rfl, hb⟩
                      clear cb1_0 cb1_1 cb1_2
                      replace B := Lib.hid (B.out.below hb)
                      replace BL := Lib.hid (below_then BL.out hb)
                      clear hb
                      have cb1_0 : W35.cell? ⟨w.heap.size, 0, none⟩ = some (.int .i64 xk) := (B.out.get 6 rfl).c0
                      have cb1_1 : W35.cell? ⟨w.heap.size, 1, none⟩ = some (.int .i64 xn) := (B.out.get 6 rfl).c1
                      have cb1_2 : W35.cell? ⟨w.heap.size, 2, none⟩ = some (.string ⟨List.toArray xt⟩) := (B.out.get 6 rfl).c2
                      go_wp2_with fail
                      go_meet
                      exact ⟨congrArg Value.bool HCC.out, B, BL⟩
                  case rest =>
                    clear B BL
                    obtain ⟨rfl, B, BL⟩ := hcut
                    obtain ⟨W36, hW⟩ : ∃ X, wc = X := ⟨_, rfl⟩
                    rw [hW] at B BL ⊢
                    clear hW
                    have HCW : Hid ((negB (⟨xk, xn, xt⟩ : Vl)) = c11) := Lib.hid (by rw [HA11.out]; exact HCC.out)
                    clear HCC HA11
                    cases c11 with
                    | true =>
                      replace HL := Lib.hid (show true = BigRoots_s4 (⟨xk, xn, xt⟩ : Vl) ((⟨r0k, r0n, r0t⟩, r0e) : Vl × Int) ((⟨r1k, r1n, r1t⟩, r1e) : Vl × Int) ((⟨r2k, r2n, r2t⟩, r2e) : Vl × Int) ((⟨r3k, r3n, r3t⟩, r3e) : Vl × Int) ((r4b, r4e) : Bool × Int) ((r5b, r5e) : Bool × Int) ((⟨r6k, r6n, r6t⟩, r6e) : Vl × Int) ((⟨r7k, r7n, r7t⟩, r7e) : Vl × Int) from HL.out.trans (if_pos HCW.out))
                      -- region 20, draws its order
                      obtain ⟨⟨⟨r8k, r8n, r8t⟩, r8e⟩, hr8⟩ : ∃ p, subR (⟨1, 0, []⟩ : Vl) (⟨xk, xn, xt⟩ : Vl) = p := ⟨_, rfl⟩
                      have hc8 := fun (W : World) (hW : Env W) => sub_pub (⟨1, 0, []⟩ : Vl) (⟨xk, xn, xt⟩ : Vl) (num_ok 0 (by unfold Small64; omega)) HOx.out W hW
                      have ho8 := subR_ok (⟨1, 0, []⟩ : Vl) (⟨xk, xn, xt⟩ : Vl)
                      rw [hr8] at hc8 ho8
                      simp only [Vl.val, pr] at hc8
                      have HC8 := Lib.hid hc8; have HOr8 : Hid (Vl.ok ⟨r8k, r8n, r8t⟩) := Lib.hid ho8; have HR8 := Lib.hid hr8
                      clear hc8 ho8 hr8
                      go_upto_region 20 with fail
                      go_cut [17] from 122 to 128 (fun s17 wx => s17 = (.int .i64 r8e) ∧ Hid (Bxs wx [(g8, (⟨r7k, r7n, r7t⟩ : Vl)), (g7, (⟨r6k, r6n, r6t⟩ : Vl)), (g6, (⟨r3k, r3n, r3t⟩ : Vl)), (g5, (⟨r2k, r2n, r2t⟩ : Vl)), (g1, (⟨r1k, r1n, r1t⟩ : Vl)), (g0, (⟨r0k, r0n, r0t⟩ : Vl)), (w.heap.size, (⟨r8k, r8n, r8t⟩ : Vl))]) ∧ Hid (Below w.heap.size w wx))
                      case first =>
                        clear HL
                        refine wp_region_noPanic ?_
                        refine region_late (fun (X : World) => X.cell? ⟨w.heap.size, 0, none⟩ = some (.int .i64 xk) ∧ X.cell? ⟨w.heap.size, 1, none⟩ = some (.int .i64 xn) ∧ X.cell? ⟨w.heap.size, 2, none⟩ = some (.string ⟨List.toArray xt⟩)) (fun i => i == 6) (by kernel_rfl) ?_
                        have hb := (Below.refl W36.heap.size W36).drew
                        obtain ⟨W37, hW⟩ : ∃ X, W36.drew = X := ⟨_, rfl⟩
                        rw [hW] at hb ⊢
                        clear hW
                        replace B := Lib.hid (B.out.below hb)
                        replace BL := Lib.hid (below_then BL.out hb)
                        clear hb
                        have hHeld : W37.cell? ⟨w.heap.size, 0, none⟩ = some (.int .i64 xk) ∧ W37.cell? ⟨w.heap.size, 1, none⟩ = some (.int .i64 xn) ∧ W37.cell? ⟨w.heap.size, 2, none⟩ = some (.string ⟨List.toArray xt⟩) := ⟨(B.out.get 6 rfl).c0, (B.out.get 6 rfl).c1, (B.out.get 6 rfl).c2⟩
                        refine late_take_at (some 124) (i := 1) (v := (.agg #[.int .i64 xk, .int .i64 xn, .string ⟨List.toArray xt⟩])) rfl rfl rfl (by kernel_rfl) (by kernel_rfl) (by kernel_rfl) (by kernel_rfl) (fun _ _ _ h => h) (clean_one (by kernel_rfl)) (Or.inl ⟨by rfl, by intro w hSw; go_split_ands; go_simp⟩) hHeld ?_
                        try simp only [Act.put, List.setIfInBounds_toArray, List.set_cons_zero, List.set_cons_succ]
                        refine late_ready (rs := [0]) (by kernel_rfl) (by simp) ?_
                        refine AllLate.cons rfl (fun K hK => ?_) ?_
                        · skip
                          go_simp
                          refine (num_calls 0 _).mono ?_
                          rintro e W38 ⟨rfl, hb⟩
                          clear hHeld
                          replace B := Lib.hid (B.out.below hb)
                          replace BL := Lib.hid (below_then BL.out hb)
                          clear hb
                          have hHeld : W38.cell? ⟨w.heap.size, 0, none⟩ = some (.int .i64 xk) ∧ W38.cell? ⟨w.heap.size, 1, none⟩ = some (.int .i64 xn) ∧ W38.cell? ⟨w.heap.size, 2, none⟩ = some (.string ⟨List.toArray xt⟩) := ⟨(B.out.get 6 rfl).c0, (B.out.get 6 rfl).c1, (B.out.get 6 rfl).c2⟩
                          dsimp only
                          refine hK.out _ _ (fun _ => hHeld) ?_
                          clear hK K
                          try simp only [Act.put, List.setIfInBounds_toArray, List.set_cons_zero, List.set_cons_succ]
                          refine late_ready (rs := [2]) (by kernel_rfl) (by simp) ?_
                          refine AllLate.cons rfl (fun K hK => ?_) ?_
                          · skip
                            go_simp
                            refine (HC8.out _ (HE.out.below BL.out)).mono ?_
                            rintro e W39 ⟨rfl, hb⟩
                            clear hHeld
                            replace B := Lib.hid (B.out.below hb)
                            replace BL := Lib.hid (below_then BL.out hb)
                            clear hb
                            have hHeld : W39.cell? ⟨w.heap.size, 0, none⟩ = some (.int .i64 xk) ∧ W39.cell? ⟨w.heap.size, 1, none⟩ = some (.int .i64 xn) ∧ W39.cell? ⟨w.heap.size, 2, none⟩ = some (.string ⟨List.toArray xt⟩) := ⟨(B.out.get 6 rfl).c0, (B.out.get 6 rfl).c1, (B.out.get 6 rfl).c2⟩
                            dsimp only
                            refine hK.out _ _ (fun _ => hHeld) ?_
                            clear hK K
                            try simp only [Act.put, List.setIfInBounds_toArray, List.set_cons_zero, List.set_cons_succ]
                            refine late_pure_at (some 122) (i := 3) (v := (.tuple #[(.agg #[.int .i64 r8k, .int .i64 r8n, .string ⟨List.toArray r8t⟩]), (.int .i64 r8e)])) rfl rfl rfl (by kernel_rfl) (by kernel_rfl) (by kernel_rfl) (fun _ _ _ h => h) (Or.inl ⟨by rfl, by intro w _; go_simp⟩) (fun _ => hHeld) ?_
                            try simp only [Act.put, List.setIfInBounds_toArray, List.set_cons_zero, List.set_cons_succ]
                            refine late_pure_at (some 126) (i := 4) (v := (.agg #[.int .i64 r8k, .int .i64 r8n, .string ⟨List.toArray r8t⟩])) rfl rfl rfl (by kernel_rfl) (by kernel_rfl) (by kernel_rfl) (fun _ _ _ h => h) (Or.inl ⟨by rfl, by intro w _; go_simp⟩) (fun _ => hHeld) ?_
                            try simp only [Act.put, List.setIfInBounds_toArray, List.set_cons_zero, List.set_cons_succ]
                            refine late_pure_at (some 127) (i := 5) (v := (.int .i64 r8e)) rfl rfl rfl (by kernel_rfl) (by kernel_rfl) (by kernel_rfl) (fun _ _ _ h => h) (Or.inl ⟨by rfl, by intro w _; go_simp⟩) (fun _ => hHeld) ?_
                            try simp only [Act.put, List.setIfInBounds_toArray, List.set_cons_zero, List.set_cons_succ]
                            refine late_ready (rs := [6]) (by kernel_rfl) (by simp) ?_
                            refine AllLate.cons rfl (fun K hK => ?_) ?_
                            · skip
                              have cb1_0 : W39.cell? ⟨w.heap.size, 0, none⟩ = some (.int .i64 xk) := (B.out.get 6 rfl).c0
                              have cb1_1 : W39.cell? ⟨w.heap.size, 1, none⟩ = some (.int .i64 xn) := (B.out.get 6 rfl).c1
                              have cb1_2 : W39.cell? ⟨w.heap.size, 2, none⟩ = some (.string ⟨List.toArray xt⟩) := (B.out.get 6 rfl).c2
                              have zb1_0 : W39.frozen? ⟨w.heap.size, 0, none⟩ = false := (B.out.get 6 rfl).f0
                              have zb1_1 : W39.frozen? ⟨w.heap.size, 1, none⟩ = false := (B.out.get 6 rfl).f1
                              have zb1_2 : W39.frozen? ⟨w.heap.size, 2, none⟩ = false := (B.out.get 6 rfl).f2
                              have zb1_l : w.heap.size < W39.heap.size := (B.out.get 6 rfl).lt
                              go_simp
                              clear cb1_0 cb1_1 cb1_2 zb1_0 zb1_1 zb1_2 zb1_l
                              have hB : Bxs (((W39.setCell ⟨w.heap.size, 0, none⟩ (.int .i64 r8k)).setCell ⟨w.heap.size, 1, none⟩ (.int .i64 r8n)).setCell ⟨w.heap.size, 2, none⟩ (.string ⟨List.toArray r8t⟩)) [(g8, (⟨r7k, r7n, r7t⟩ : Vl)), (g7, (⟨r6k, r6n, r6t⟩ : Vl)), (g6, (⟨r3k, r3n, r3t⟩ : Vl)), (g5, (⟨r2k, r2n, r2t⟩ : Vl)), (g1, (⟨r1k, r1n, r1t⟩ : Vl)), (g0, (⟨r0k, r0n, r0t⟩ : Vl)), (w.heap.size, (⟨r8k, r8n, r8t⟩ : Vl))] := B.out.put (b := (⟨r8k, r8n, r8t⟩ : Vl)) 6 rfl
                              have hL : Below w.heap.size w (((W39.setCell ⟨w.heap.size, 0, none⟩ (.int .i64 r8k)).setCell ⟨w.heap.size, 1, none⟩ (.int .i64 r8n)).setCell ⟨w.heap.size, 2, none⟩ (.string ⟨List.toArray r8t⟩)) := below_putV BL.out HGb1.out (⟨r8k, r8n, r8t⟩ : Vl)
                              obtain ⟨W40, hW⟩ : ∃ X, ((W39.setCell ⟨w.heap.size, 0, none⟩ (.int .i64 r8k)).setCell ⟨w.heap.size, 1, none⟩ (.int .i64 r8n)).setCell ⟨w.heap.size, 2, none⟩ (.string ⟨List.toArray r8t⟩) = X := ⟨_, rfl⟩
                              rw [hW] at hB hL ⊢
                              replace B := Lib.hid hB
                              replace BL := Lib.hid hL
                              clear hB hL hW hHeld
                              refine hK.out _ _ (not_clean 6 rfl (by kernel_rfl)) ?_
                              clear hK K
                              try simp only [Act.put, List.setIfInBounds_toArray, List.set_cons_zero, List.set_cons_succ]
                              refine late_pure_at (some 17) (i := 7) (v := (.int .i64 r8e)) rfl rfl rfl (by kernel_rfl) (by kernel_rfl) (by kernel_rfl) (fun _ _ _ h => h) (Or.inl ⟨by rfl, by intro w _; go_simp⟩) (not_clean 6 rfl (by kernel_rfl)) ?_
                              try simp only [Act.put, List.setIfInBounds_toArray, List.set_cons_zero, List.set_cons_succ]
                              refine late_done (by kernel_rfl) ?_ _
                              refine NoPanic.normal ?_
                              go_wp2_with fail
                              go_meet
                              exact ⟨rfl, B, BL⟩
                            exact AllLate.nil
                          exact AllLate.nil
                        exact AllLate.nil
                      case rest =>
                        clear B BL
                        obtain ⟨rfl, B, BL⟩ := hcut
                        obtain ⟨W41, hW⟩ : ∃ X, wc = X := ⟨_, rfl⟩
                        rw [hW] at B BL ⊢
                        clear hW
                        replace HL := Lib.hid (show true = BigRoots_s3 (⟨xk, xn, xt⟩ : Vl) ((⟨r0k, r0n, r0t⟩, r0e) : Vl × Int) ((⟨r1k, r1n, r1t⟩, r1e) : Vl × Int) ((⟨r2k, r2n, r2t⟩, r2e) : Vl × Int) ((⟨r3k, r3n, r3t⟩, r3e) : Vl × Int) ((r4b, r4e) : Bool × Int) ((r5b, r5e) : Bool × Int) ((⟨r6k, r6n, r6t⟩, r6e) : Vl × Int) ((⟨r7k, r7n, r7t⟩, r7e) : Vl × Int) ((⟨r8k, r8n, r8t⟩, r8e) : Vl × Int) from HL.out.trans (by unfold BigRoots_s4; rw [HR8.out]))
                        -- region 21, the end
                        obtain ⟨b12, h⟩ : ∃ b : Bool, (r7e == 0) = b := ⟨_, rfl⟩
                        have HA12 := Lib.hid h
                        clear h
                        obtain ⟨b13, h⟩ : ∃ b : Bool, (r8e == 0) = b := ⟨_, rfl⟩
                        have HA13 := Lib.hid h
                        clear h
                        obtain ⟨b14, h⟩ : ∃ b : Bool, (veqB r7k r7n r7t r8k r8n r8t) = b := ⟨_, rfl⟩
                        have HA14 := Lib.hid h
                        clear h
                        cases b12 with
                        | true =>
                          cases b13 with
                          | true =>
                            cases b14 with
                            | true =>
                              clear HL
                              have f0_0 : ((r7e : Int) == 0) = true := HA12.out
                              have f0_1 : ((r7e : Int) != 0) = false := by have h := HA12.out; simpa using h
                              have f1_0 : ((r8e : Int) == 0) = true := HA13.out
                              have f1_1 : ((r8e : Int) != 0) = false := by have h := HA13.out; simpa using h
                              have f2_0 : (veqB r7k r7n r7t r8k r8n r8t) = true := HA14.out
                              have cb18_18_9_0 : W41.cell? ⟨g8, 0, none⟩ = some (.int .i64 r7k) := (B.out.get 0 rfl).c0
                              have cb18_18_9_1 : W41.cell? ⟨g8, 1, none⟩ = some (.int .i64 r7n) := (B.out.get 0 rfl).c1
                              have cb18_18_9_2 : W41.cell? ⟨g8, 2, none⟩ = some (.string ⟨List.toArray r7t⟩) := (B.out.get 0 rfl).c2
                              have cb1_0 : W41.cell? ⟨w.heap.size, 0, none⟩ = some (.int .i64 r8k) := (B.out.get 6 rfl).c0
                              have cb1_1 : W41.cell? ⟨w.heap.size, 1, none⟩ = some (.int .i64 r8n) := (B.out.get 6 rfl).c1
                              have cb1_2 : W41.cell? ⟨w.heap.size, 2, none⟩ = some (.string ⟨List.toArray r8t⟩) := (B.out.get 6 rfl).c2
                              go_wp2_with fail
                              go_ret
                              exact ⟨rfl, BL.out⟩
                            | false =>
                              exact Bool.noConfusion (show true = false from HL.out.trans (by show (((true && (r7e == 0)) && (r8e == 0)) && (veqB r7k r7n r7t r8k r8n r8t)) = false; rw [HA12.out, HA13.out, HA14.out]; rfl))
                          | false =>
                            exact Bool.noConfusion (show true = false from HL.out.trans (by show (((true && (r7e == 0)) && (r8e == 0)) && (veqB r7k r7n r7t r8k r8n r8t)) = false; rw [HA12.out, HA13.out]; rfl))
                        | false =>
                          exact Bool.noConfusion (show true = false from HL.out.trans (by show (((true && (r7e == 0)) && (r8e == 0)) && (veqB r7k r7n r7t r8k r8n r8t)) = false; rw [HA12.out]; rfl))
                    | false =>
                      replace HL := Lib.hid (show true = BigRoots_s5 (⟨xk, xn, xt⟩ : Vl) ((⟨r0k, r0n, r0t⟩, r0e) : Vl × Int) ((⟨r1k, r1n, r1t⟩, r1e) : Vl × Int) ((⟨r2k, r2n, r2t⟩, r2e) : Vl × Int) ((⟨r3k, r3n, r3t⟩, r3e) : Vl × Int) ((r4b, r4e) : Bool × Int) ((r5b, r5e) : Bool × Int) ((⟨r6k, r6n, r6t⟩, r6e) : Vl × Int) ((⟨r7k, r7n, r7t⟩, r7e) : Vl × Int) from HL.out.trans ((if_neg (fun h => Bool.noConfusion (HCW.out.symm.trans h)))))
                      -- region 21, the end
                      obtain ⟨b15, h⟩ : ∃ b : Bool, (r7e == 0) = b := ⟨_, rfl⟩
                      have HA15 := Lib.hid h
                      clear h
                      obtain ⟨b16, h⟩ : ∃ b : Bool, (r6e == 0) = b := ⟨_, rfl⟩
                      have HA16 := Lib.hid h
                      clear h
                      obtain ⟨b17, h⟩ : ∃ b : Bool, (veqB r7k r7n r7t xk xn xt) = b := ⟨_, rfl⟩
                      have HA17 := Lib.hid h
                      clear h
                      cases b15 with
                      | true =>
                        cases b16 with
                        | true =>
                          cases b17 with
                          | true =>
                            clear HL
                            have f0_0 : ((r7e : Int) == 0) = true := HA15.out
                            have f0_1 : ((r7e : Int) != 0) = false := by have h := HA15.out; simpa using h
                            have f1_0 : ((r6e : Int) == 0) = true := HA16.out
                            have f1_1 : ((r6e : Int) != 0) = false := by have h := HA16.out; simpa using h
                            have f2_0 : (veqB r7k r7n r7t xk xn xt) = true := HA17.out
                            have cb18_18_9_0 : W36.cell? ⟨g8, 0, none⟩ = some (.int .i64 r7k) := (B.out.get 0 rfl).c0
                            have cb18_18_9_1 : W36.cell? ⟨g8, 1, none⟩ = some (.int .i64 r7n) := (B.out.get 0 rfl).c1
                            have cb18_18_9_2 : W36.cell? ⟨g8, 2, none⟩ = some (.string ⟨List.toArray r7t⟩) := (B.out.get 0 rfl).c2
                            have cb1_0 : W36.cell? ⟨w.heap.size, 0, none⟩ = some (.int .i64 xk) := (B.out.get 6 rfl).c0
                            have cb1_1 : W36.cell? ⟨w.heap.size, 1, none⟩ = some (.int .i64 xn) := (B.out.get 6 rfl).c1
                            have cb1_2 : W36.cell? ⟨w.heap.size, 2, none⟩ = some (.string ⟨List.toArray xt⟩) := (B.out.get 6 rfl).c2
                            go_wp2_with fail
                            go_ret
                            exact ⟨rfl, BL.out⟩
                          | false =>
                            exact Bool.noConfusion (show true = false from HL.out.trans (by show (((true && (r7e == 0)) && (r6e == 0)) && (veqB r7k r7n r7t xk xn xt)) = false; rw [HA15.out, HA16.out, HA17.out]; rfl))
                        | false =>
                          exact Bool.noConfusion (show true = false from HL.out.trans (by show (((true && (r7e == 0)) && (r6e == 0)) && (veqB r7k r7n r7t xk xn xt)) = false; rw [HA15.out, HA16.out]; rfl))
                      | false =>
                        exact Bool.noConfusion (show true = false from HL.out.trans (by show (((true && (r7e == 0)) && (r6e == 0)) && (veqB r7k r7n r7t xk xn xt)) = false; rw [HA15.out]; rfl))
        | false =>
          replace HL := Lib.hid (show true = BigRoots_s25 (⟨xk, xn, xt⟩ : Vl) ((⟨r0k, r0n, r0t⟩, r0e) : Vl × Int) from HL.out.trans ((if_neg (fun h => Bool.noConfusion (HCW.out.symm.trans h)))))
          -- region 13, a test
          obtain ⟨b18, h⟩ : ∃ b : Bool, (r0e == 31) = b := ⟨_, rfl⟩
          have HA18 := Lib.hid h
          clear h
          obtain ⟨b19, h⟩ : ∃ b : Bool, (r0e == 1) = b := ⟨_, rfl⟩
          have HA19 := Lib.hid h
          clear h
          obtain ⟨b20, h⟩ : ∃ b : Bool, (negB (⟨xk, xn, xt⟩ : Vl)) = b := ⟨_, rfl⟩
          have HA20 := Lib.hid h
          clear h
          have HCF : ((!(r0e == 31)) && ((!(r0e == 1)) || (!(negB (⟨xk, xn, xt⟩ : Vl))))) = false := Bool.eq_false_iff.2 fun h => Bool.noConfusion (show true = false from HL.out.trans (if_pos h))
          have HCB : ((!b18) && ((!b19) || (!b20))) = false := by
            have h := HCF
            rw [HA18.out, HA19.out, HA20.out] at h
            exact h
          have HCW := Lib.hid HCF
          have HCC := Lib.hid HCB
          clear HCF HCB
          go_upto_region 13 with fail
          go_cut [105] from 95 to 105 (fun v wx => v = .bool false ∧ Hid (Bxs wx [(g0, (⟨r0k, r0n, r0t⟩ : Vl)), (w.heap.size, (⟨xk, xn, xt⟩ : Vl))]) ∧ Hid (Below w.heap.size w wx))
          case first =>
            clear HL
            cases b18 with
            | true =>
              have f0_0 : ((r0e : Int) == 31) = true := HA18.out
              have f0_1 : ((r0e : Int) != 31) = false := by have h := HA18.out; simpa using h
              go_wp2_with fail
              go_meet
              exact ⟨rfl, B, BL⟩
            | false =>
              cases b19 with
              | true =>
                cases b20 with
                | true =>
                  have f0_0 : ((r0e : Int) == 31) = false := HA18.out
                  have f0_1 : ((r0e : Int) != 31) = true := by have h := HA18.out; simpa using h
                  have f1_0 : ((r0e : Int) == 1) = true := HA19.out
                  have f1_1 : ((r0e : Int) != 1) = false := by have h := HA19.out; simpa using h
                  have cb1_0 : W8.cell? ⟨w.heap.size, 0, none⟩ = some (.int .i64 xk) := (B.out.get 1 rfl).c0
                  have cb1_1 : W8.cell? ⟨w.heap.size, 1, none⟩ = some (.int .i64 xn) := (B.out.get 1 rfl).c1
                  have cb1_2 : W8.cell? ⟨w.heap.size, 2, none⟩ = some (.string ⟨List.toArray xt⟩) := (B.out.get 1 rfl).c2
                  go_wp2_with fail
                  refine (negative_calls xk xn xt (Nat.le_trans HOx.out.t (by decide)) _).mono ?_
                  rw [HA20.out]
                  rintro e W42 ⟨rfl, hb⟩
                  clear cb1_0 cb1_1 cb1_2
                  replace B := Lib.hid (B.out.below hb)
                  replace BL := Lib.hid (below_then BL.out hb)
                  clear hb
                  have cb1_0 : W42.cell? ⟨w.heap.size, 0, none⟩ = some (.int .i64 xk) := (B.out.get 1 rfl).c0
                  have cb1_1 : W42.cell? ⟨w.heap.size, 1, none⟩ = some (.int .i64 xn) := (B.out.get 1 rfl).c1
                  have cb1_2 : W42.cell? ⟨w.heap.size, 2, none⟩ = some (.string ⟨List.toArray xt⟩) := (B.out.get 1 rfl).c2
                  go_wp2_with fail
                  go_meet
                  exact ⟨rfl, B, BL⟩
                | false =>
                  exact Bool.noConfusion (show true = false from HCC.out)
              | false =>
                exact Bool.noConfusion (show true = false from HCC.out)
          case rest =>
            clear B BL
            obtain ⟨rfl, B, BL⟩ := hcut
            obtain ⟨W43, hW⟩ : ∃ X, wc = X := ⟨_, rfl⟩
            rw [hW] at B BL ⊢
            clear hW
            clear HCC HA18 HA19 HA20
            replace HL := Lib.hid (show true = BigRoots_s24 (⟨xk, xn, xt⟩ : Vl) ((⟨r0k, r0n, r0t⟩, r0e) : Vl × Int) from HL.out.trans ((if_neg (fun h => Bool.noConfusion (HCW.out.symm.trans h)))))
            -- region 15
            have cb1_0 : W43.cell? ⟨w.heap.size, 0, none⟩ = some (.int .i64 xk) := (B.out.get 1 rfl).c0
            have cb1_1 : W43.cell? ⟨w.heap.size, 1, none⟩ = some (.int .i64 xn) := (B.out.get 1 rfl).c1
            have cb1_2 : W43.cell? ⟨w.heap.size, 2, none⟩ = some (.string ⟨List.toArray xt⟩) := (B.out.get 1 rfl).c2
            obtain ⟨⟨⟨r9k, r9n, r9t⟩, r9e⟩, hr9⟩ : ∃ p, mulR (⟨xk, xn, xt⟩ : Vl) (⟨xk, xn, xt⟩ : Vl) = p := ⟨_, rfl⟩
            have hc9 := fun (W : World) (hW : Env W) => mul_pub (⟨xk, xn, xt⟩ : Vl) (⟨xk, xn, xt⟩ : Vl) HOx.out HOx.out W hW
            have ho9 := mulR_ok (⟨xk, xn, xt⟩ : Vl) (⟨xk, xn, xt⟩ : Vl)
            rw [hr9] at hc9 ho9
            simp only [Vl.val, pr] at hc9
            have HC9 := Lib.hid hc9; have HOr9 : Hid (Vl.ok ⟨r9k, r9n, r9t⟩) := Lib.hid ho9; have HR9 := Lib.hid hr9
            clear hc9 ho9 hr9
            go_wp2_with fail
            refine (HC9.out _ (HE.out.below BL.out)).mono ?_
            rintro e W44 ⟨rfl, hb⟩
            clear cb1_0 cb1_1 cb1_2
            replace B := Lib.hid (B.out.below hb)
            replace BL := Lib.hid (below_then BL.out hb)
            clear hb
            go_upto_region 16 with fail
            have hB : Bxs (W44.alloc (.cells #[.int .i64 r9k, .int .i64 r9n, .string ⟨List.toArray r9t⟩] 23)) ((W44.heap.size, (⟨r9k, r9n, r9t⟩ : Vl)) :: [(g0, (⟨r0k, r0n, r0t⟩ : Vl)), (w.heap.size, (⟨xk, xn, xt⟩ : Vl))]) := B.out.push (⟨r9k, r9n, r9t⟩ : Vl) 23
            have hL : Below w.heap.size w (W44.alloc (.cells #[.int .i64 r9k, .int .i64 r9n, .string ⟨List.toArray r9t⟩] 23)) := BL.out.alloc BL.out.size _
            obtain ⟨W45, hW⟩ : ∃ X, W44.alloc (.cells #[.int .i64 r9k, .int .i64 r9n, .string ⟨List.toArray r9t⟩] 23) = X := ⟨_, rfl⟩
            obtain ⟨g9, hg⟩ : ∃ g, W44.heap.size = g := ⟨_, rfl⟩
            rw [hW] at hB hL ⊢
            rw [hg] at hB ⊢
            have HGb16_15_12 : Hid (w.heap.size ≤ g9) := Lib.hid (by rw [← hg]; exact BL.out.size)
            replace B := Lib.hid hB
            replace BL := Lib.hid hL
            clear hB hL hW hg
            replace HL := Lib.hid (show true = BigRoots_s23 (⟨xk, xn, xt⟩ : Vl) ((⟨r0k, r0n, r0t⟩, r0e) : Vl × Int) ((⟨r9k, r9n, r9t⟩, r9e) : Vl × Int) from HL.out.trans (by unfold BigRoots_s24; rw [HR9.out]))
            -- region 16, a test
            obtain ⟨b21, h⟩ : ∃ b : Bool, (r9e == 0) = b := ⟨_, rfl⟩
            have HA21 := Lib.hid h
            clear h
            obtain ⟨c14, h⟩ : ∃ c : Bool, (!b21) = c := ⟨_, rfl⟩
            have HCC := Lib.hid h
            clear h
            go_upto_region 16 with fail
            go_cut [113] from 112 to 113 (fun v wx => v = .bool c14 ∧ Hid (Bxs wx [(g9, (⟨r9k, r9n, r9t⟩ : Vl)), (g0, (⟨r0k, r0n, r0t⟩ : Vl)), (w.heap.size, (⟨xk, xn, xt⟩ : Vl))]) ∧ Hid (Below w.heap.size w wx))
            case first =>
              clear HL
              cases b21 with
              | true =>
                have f0_0 : ((r9e : Int) == 0) = true := HA21.out
                have f0_1 : ((r9e : Int) != 0) = false := by have h := HA21.out; simpa using h
                go_wp2_with fail
                go_meet
                exact ⟨congrArg Value.bool HCC.out, B, BL⟩
              | false =>
                have f0_0 : ((r9e : Int) == 0) = false := HA21.out
                have f0_1 : ((r9e : Int) != 0) = true := by have h := HA21.out; simpa using h
                go_wp2_with fail
                go_meet
                exact ⟨congrArg Value.bool HCC.out, B, BL⟩
            case rest =>
              clear B BL
              obtain ⟨rfl, B, BL⟩ := hcut
              obtain ⟨W46, hW⟩ : ∃ X, wc = X := ⟨_, rfl⟩
              rw [hW] at B BL ⊢
              clear hW
              have HCW : Hid ((!(r9e == 0)) = c14) := Lib.hid (by rw [HA21.out]; exact HCC.out)
              clear HCC HA21
              cases c14 with
              | true =>
                replace HL := Lib.hid (show true = BigRoots_s17 (⟨xk, xn, xt⟩ : Vl) ((⟨r0k, r0n, r0t⟩, r0e) : Vl × Int) ((⟨r9k, r9n, r9t⟩, r9e) : Vl × Int) from HL.out.trans (if_pos HCW.out))
                go_wp2_with fail
                go_ret
                exact ⟨rfl, BL.out⟩
              | false =>
                replace HL := Lib.hid (show true = BigRoots_s22 (⟨xk, xn, xt⟩ : Vl) ((⟨r0k, r0n, r0t⟩, r0e) : Vl × Int) ((⟨r9k, r9n, r9t⟩, r9e) : Vl × Int) from HL.out.trans ((if_neg (fun h => Bool.noConfusion (HCW.out.symm.trans h)))))
                -- region 18
                have cb16_15_12_0 : W46.cell? ⟨g9, 0, none⟩ = some (.int .i64 r9k) := (B.out.get 0 rfl).c0
                have cb16_15_12_1 : W46.cell? ⟨g9, 1, none⟩ = some (.int .i64 r9n) := (B.out.get 0 rfl).c1
                have cb16_15_12_2 : W46.cell? ⟨g9, 2, none⟩ = some (.string ⟨List.toArray r9t⟩) := (B.out.get 0 rfl).c2
                obtain ⟨⟨⟨r10k, r10n, r10t⟩, r10e⟩, hr10⟩ : ∃ p, rootR (⟨r9k, r9n, r9t⟩ : Vl) = p := ⟨_, rfl⟩
                have hc10 := fun (W : World) (hW : Env W) => rootV (⟨r9k, r9n, r9t⟩ : Vl) HOr9.out W hW
                have ho10 := rootR_ok (⟨r9k, r9n, r9t⟩ : Vl) HOr9.out
                rw [hr10] at hc10 ho10
                simp only [Vl.val, pr] at hc10
                have HC10 := Lib.hid hc10; have HOr10 : Hid (Vl.ok ⟨r10k, r10n, r10t⟩) := Lib.hid ho10; have HR10 := Lib.hid hr10
                clear hc10 ho10 hr10
                go_wp2_with fail
                refine (HC10.out _ (HE.out.below BL.out)).mono ?_
                rintro e W47 ⟨rfl, hb⟩
                clear cb16_15_12_0 cb16_15_12_1 cb16_15_12_2
                replace B := Lib.hid (B.out.below hb)
                replace BL := Lib.hid (below_then BL.out hb)
                clear hb
                go_upto_region 19 with fail
                have hB : Bxs (W47.alloc (.cells #[.int .i64 r10k, .int .i64 r10n, .string ⟨List.toArray r10t⟩] 23)) ((W47.heap.size, (⟨r10k, r10n, r10t⟩ : Vl)) :: [(g9, (⟨r9k, r9n, r9t⟩ : Vl)), (g0, (⟨r0k, r0n, r0t⟩ : Vl)), (w.heap.size, (⟨xk, xn, xt⟩ : Vl))]) := B.out.push (⟨r10k, r10n, r10t⟩ : Vl) 23
                have hL : Below w.heap.size w (W47.alloc (.cells #[.int .i64 r10k, .int .i64 r10n, .string ⟨List.toArray r10t⟩] 23)) := BL.out.alloc BL.out.size _
                obtain ⟨W48, hW⟩ : ∃ X, W47.alloc (.cells #[.int .i64 r10k, .int .i64 r10n, .string ⟨List.toArray r10t⟩] 23) = X := ⟨_, rfl⟩
                obtain ⟨g10, hg⟩ : ∃ g, W47.heap.size = g := ⟨_, rfl⟩
                rw [hW] at hB hL ⊢
                rw [hg] at hB ⊢
                have HGb18_18_14 : Hid (w.heap.size ≤ g10) := Lib.hid (by rw [← hg]; exact BL.out.size)
                replace B := Lib.hid hB
                replace BL := Lib.hid hL
                clear hB hL hW hg
                replace HL := Lib.hid (show true = BigRoots_s21 (⟨xk, xn, xt⟩ : Vl) ((⟨r0k, r0n, r0t⟩, r0e) : Vl × Int) ((⟨r9k, r9n, r9t⟩, r9e) : Vl × Int) ((⟨r10k, r10n, r10t⟩, r10e) : Vl × Int) from HL.out.trans (by unfold BigRoots_s22; rw [HR10.out]))
                -- region 19, a test
                obtain ⟨b22, h⟩ : ∃ b : Bool, (negB (⟨xk, xn, xt⟩ : Vl)) = b := ⟨_, rfl⟩
                have HA22 := Lib.hid h
                clear h
                obtain ⟨c16, h⟩ : ∃ c : Bool, b22 = c := ⟨_, rfl⟩
                have HCC := Lib.hid h
                clear h
                go_upto_region 19 with fail
                go_cut [121] from 120 to 121 (fun v wx => v = .bool c16 ∧ Hid (Bxs wx [(g10, (⟨r10k, r10n, r10t⟩ : Vl)), (g9, (⟨r9k, r9n, r9t⟩ : Vl)), (g0, (⟨r0k, r0n, r0t⟩ : Vl)), (w.heap.size, (⟨xk, xn, xt⟩ : Vl))]) ∧ Hid (Below w.heap.size w wx))
                case first =>
                  clear HL
                  cases b22 with
                  | true =>
                    have cb1_0 : W48.cell? ⟨w.heap.size, 0, none⟩ = some (.int .i64 xk) := (B.out.get 3 rfl).c0
                    have cb1_1 : W48.cell? ⟨w.heap.size, 1, none⟩ = some (.int .i64 xn) := (B.out.get 3 rfl).c1
                    have cb1_2 : W48.cell? ⟨w.heap.size, 2, none⟩ = some (.string ⟨List.toArray xt⟩) := (B.out.get 3 rfl).c2
                    go_wp2_with fail
                    refine (negative_calls xk xn xt (Nat.le_trans HOx.out.t (by decide)) _).mono ?_
                    rw [HA22.out]
                    rintro e W49 ⟨rfl, hb⟩
                    clear cb1_0 cb1_1 cb1_2
                    replace B := Lib.hid (B.out.below hb)
                    replace BL := Lib.hid (below_then BL.out hb)
                    clear hb
                    have cb1_0 : W49.cell? ⟨w.heap.size, 0, none⟩ = some (.int .i64 xk) := (B.out.get 3 rfl).c0
                    have cb1_1 : W49.cell? ⟨w.heap.size, 1, none⟩ = some (.int .i64 xn) := (B.out.get 3 rfl).c1
                    have cb1_2 : W49.cell? ⟨w.heap.size, 2, none⟩ = some (.string ⟨List.toArray xt⟩) := (B.out.get 3 rfl).c2
                    go_wp2_with fail
                    go_meet
                    exact ⟨congrArg Value.bool HCC.out, B, BL⟩
                  | false =>
                    have cb1_0 : W48.cell? ⟨w.heap.size, 0, none⟩ = some (.int .i64 xk) := (B.out.get 3 rfl).c0
                    have cb1_1 : W48.cell? ⟨w.heap.size, 1, none⟩ = some (.int .i64 xn) := (B.out.get 3 rfl).c1
                    have cb1_2 : W48.cell? ⟨w.heap.size, 2, none⟩ = some (.string ⟨List.toArray xt⟩) := (B.out.get 3 rfl).c2
                    go_wp2_with fail
                    refine (negative_calls xk xn xt (Nat.le_trans HOx.out.t (by decide)) _).mono ?_
                    rw [HA22.out]
                    rintro e W50 ⟨rfl, hb⟩
                    clear cb1_0 cb1_1 cb1_2
                    replace B := Lib.hid (B.out.below hb)
                    replace BL := Lib.hid (below_then BL.out hb)
                    clear hb
                    have cb1_0 : W50.cell? ⟨w.heap.size, 0, none⟩ = some (.int .i64 xk) := (B.out.get 3 rfl).c0
                    have cb1_1 : W50.cell? ⟨w.heap.size, 1, none⟩ = some (.int .i64 xn) := (B.out.get 3 rfl).c1
                    have cb1_2 : W50.cell? ⟨w.heap.size, 2, none⟩ = some (.string ⟨List.toArray xt⟩) := (B.out.get 3 rfl).c2
                    go_wp2_with fail
                    go_meet
                    exact ⟨congrArg Value.bool HCC.out, B, BL⟩
                case rest =>
                  clear B BL
                  obtain ⟨rfl, B, BL⟩ := hcut
                  obtain ⟨W51, hW⟩ : ∃ X, wc = X := ⟨_, rfl⟩
                  rw [hW] at B BL ⊢
                  clear hW
                  have HCW : Hid ((negB (⟨xk, xn, xt⟩ : Vl)) = c16) := Lib.hid (by rw [HA22.out]; exact HCC.out)
                  clear HCC HA22
                  cases c16 with
                  | true =>
                    replace HL := Lib.hid (show true = BigRoots_s19 (⟨xk, xn, xt⟩ : Vl) ((⟨r0k, r0n, r0t⟩, r0e) : Vl × Int) ((⟨r9k, r9n, r9t⟩, r9e) : Vl × Int) ((⟨r10k, r10n, r10t⟩, r10e) : Vl × Int) from HL.out.trans (if_pos HCW.out))
                    -- region 20, draws its order
                    obtain ⟨⟨⟨r11k, r11n, r11t⟩, r11e⟩, hr11⟩ : ∃ p, subR (⟨1, 0, []⟩ : Vl) (⟨xk, xn, xt⟩ : Vl) = p := ⟨_, rfl⟩
                    have hc11 := fun (W : World) (hW : Env W) => sub_pub (⟨1, 0, []⟩ : Vl) (⟨xk, xn, xt⟩ : Vl) (num_ok 0 (by unfold Small64; omega)) HOx.out W hW
                    have ho11 := subR_ok (⟨1, 0, []⟩ : Vl) (⟨xk, xn, xt⟩ : Vl)
                    rw [hr11] at hc11 ho11
                    simp only [Vl.val, pr] at hc11
                    have HC11 := Lib.hid hc11; have HOr11 : Hid (Vl.ok ⟨r11k, r11n, r11t⟩) := Lib.hid ho11; have HR11 := Lib.hid hr11
                    clear hc11 ho11 hr11
                    go_upto_region 20 with fail
                    go_cut [17] from 122 to 128 (fun s17 wx => s17 = (.int .i64 r11e) ∧ Hid (Bxs wx [(g10, (⟨r10k, r10n, r10t⟩ : Vl)), (g9, (⟨r9k, r9n, r9t⟩ : Vl)), (g0, (⟨r0k, r0n, r0t⟩ : Vl)), (w.heap.size, (⟨r11k, r11n, r11t⟩ : Vl))]) ∧ Hid (Below w.heap.size w wx))
                    case first =>
                      clear HL
                      refine wp_region_noPanic ?_
                      refine region_late (fun (X : World) => X.cell? ⟨w.heap.size, 0, none⟩ = some (.int .i64 xk) ∧ X.cell? ⟨w.heap.size, 1, none⟩ = some (.int .i64 xn) ∧ X.cell? ⟨w.heap.size, 2, none⟩ = some (.string ⟨List.toArray xt⟩)) (fun i => i == 6) (by kernel_rfl) ?_
                      have hb := (Below.refl W51.heap.size W51).drew
                      obtain ⟨W52, hW⟩ : ∃ X, W51.drew = X := ⟨_, rfl⟩
                      rw [hW] at hb ⊢
                      clear hW
                      replace B := Lib.hid (B.out.below hb)
                      replace BL := Lib.hid (below_then BL.out hb)
                      clear hb
                      have hHeld : W52.cell? ⟨w.heap.size, 0, none⟩ = some (.int .i64 xk) ∧ W52.cell? ⟨w.heap.size, 1, none⟩ = some (.int .i64 xn) ∧ W52.cell? ⟨w.heap.size, 2, none⟩ = some (.string ⟨List.toArray xt⟩) := ⟨(B.out.get 3 rfl).c0, (B.out.get 3 rfl).c1, (B.out.get 3 rfl).c2⟩
                      refine late_take_at (some 124) (i := 1) (v := (.agg #[.int .i64 xk, .int .i64 xn, .string ⟨List.toArray xt⟩])) rfl rfl rfl (by kernel_rfl) (by kernel_rfl) (by kernel_rfl) (by kernel_rfl) (fun _ _ _ h => h) (clean_one (by kernel_rfl)) (Or.inl ⟨by rfl, by intro w hSw; go_split_ands; go_simp⟩) hHeld ?_
                      try simp only [Act.put, List.setIfInBounds_toArray, List.set_cons_zero, List.set_cons_succ]
                      refine late_ready (rs := [0]) (by kernel_rfl) (by simp) ?_
                      refine AllLate.cons rfl (fun K hK => ?_) ?_
                      · skip
                        go_simp
                        refine (num_calls 0 _).mono ?_
                        rintro e W53 ⟨rfl, hb⟩
                        clear hHeld
                        replace B := Lib.hid (B.out.below hb)
                        replace BL := Lib.hid (below_then BL.out hb)
                        clear hb
                        have hHeld : W53.cell? ⟨w.heap.size, 0, none⟩ = some (.int .i64 xk) ∧ W53.cell? ⟨w.heap.size, 1, none⟩ = some (.int .i64 xn) ∧ W53.cell? ⟨w.heap.size, 2, none⟩ = some (.string ⟨List.toArray xt⟩) := ⟨(B.out.get 3 rfl).c0, (B.out.get 3 rfl).c1, (B.out.get 3 rfl).c2⟩
                        dsimp only
                        refine hK.out _ _ (fun _ => hHeld) ?_
                        clear hK K
                        try simp only [Act.put, List.setIfInBounds_toArray, List.set_cons_zero, List.set_cons_succ]
                        refine late_ready (rs := [2]) (by kernel_rfl) (by simp) ?_
                        refine AllLate.cons rfl (fun K hK => ?_) ?_
                        · skip
                          go_simp
                          refine (HC11.out _ (HE.out.below BL.out)).mono ?_
                          rintro e W54 ⟨rfl, hb⟩
                          clear hHeld
                          replace B := Lib.hid (B.out.below hb)
                          replace BL := Lib.hid (below_then BL.out hb)
                          clear hb
                          have hHeld : W54.cell? ⟨w.heap.size, 0, none⟩ = some (.int .i64 xk) ∧ W54.cell? ⟨w.heap.size, 1, none⟩ = some (.int .i64 xn) ∧ W54.cell? ⟨w.heap.size, 2, none⟩ = some (.string ⟨List.toArray xt⟩) := ⟨(B.out.get 3 rfl).c0, (B.out.get 3 rfl).c1, (B.out.get 3 rfl).c2⟩
                          dsimp only
                          refine hK.out _ _ (fun _ => hHeld) ?_
                          clear hK K
                          try simp only [Act.put, List.setIfInBounds_toArray, List.set_cons_zero, List.set_cons_succ]
                          refine late_pure_at (some 122) (i := 3) (v := (.tuple #[(.agg #[.int .i64 r11k, .int .i64 r11n, .string ⟨List.toArray r11t⟩]), (.int .i64 r11e)])) rfl rfl rfl (by kernel_rfl) (by kernel_rfl) (by kernel_rfl) (fun _ _ _ h => h) (Or.inl ⟨by rfl, by intro w _; go_simp⟩) (fun _ => hHeld) ?_
                          try simp only [Act.put, List.setIfInBounds_toArray, List.set_cons_zero, List.set_cons_succ]
                          refine late_pure_at (some 126) (i := 4) (v := (.agg #[.int .i64 r11k, .int .i64 r11n, .string ⟨List.toArray r11t⟩])) rfl rfl rfl (by kernel_rfl) (by kernel_rfl) (by kernel_rfl) (fun _ _ _ h => h) (Or.inl ⟨by rfl, by intro w _; go_simp⟩) (fun _ => hHeld) ?_
                          try simp only [Act.put, List.setIfInBounds_toArray, List.set_cons_zero, List.set_cons_succ]
                          refine late_pure_at (some 127) (i := 5) (v := (.int .i64 r11e)) rfl rfl rfl (by kernel_rfl) (by kernel_rfl) (by kernel_rfl) (fun _ _ _ h => h) (Or.inl ⟨by rfl, by intro w _; go_simp⟩) (fun _ => hHeld) ?_
                          try simp only [Act.put, List.setIfInBounds_toArray, List.set_cons_zero, List.set_cons_succ]
                          refine late_ready (rs := [6]) (by kernel_rfl) (by simp) ?_
                          refine AllLate.cons rfl (fun K hK => ?_) ?_
                          · skip
                            have cb1_0 : W54.cell? ⟨w.heap.size, 0, none⟩ = some (.int .i64 xk) := (B.out.get 3 rfl).c0
                            have cb1_1 : W54.cell? ⟨w.heap.size, 1, none⟩ = some (.int .i64 xn) := (B.out.get 3 rfl).c1
                            have cb1_2 : W54.cell? ⟨w.heap.size, 2, none⟩ = some (.string ⟨List.toArray xt⟩) := (B.out.get 3 rfl).c2
                            have zb1_0 : W54.frozen? ⟨w.heap.size, 0, none⟩ = false := (B.out.get 3 rfl).f0
                            have zb1_1 : W54.frozen? ⟨w.heap.size, 1, none⟩ = false := (B.out.get 3 rfl).f1
                            have zb1_2 : W54.frozen? ⟨w.heap.size, 2, none⟩ = false := (B.out.get 3 rfl).f2
                            have zb1_l : w.heap.size < W54.heap.size := (B.out.get 3 rfl).lt
                            go_simp
                            clear cb1_0 cb1_1 cb1_2 zb1_0 zb1_1 zb1_2 zb1_l
                            have hB : Bxs (((W54.setCell ⟨w.heap.size, 0, none⟩ (.int .i64 r11k)).setCell ⟨w.heap.size, 1, none⟩ (.int .i64 r11n)).setCell ⟨w.heap.size, 2, none⟩ (.string ⟨List.toArray r11t⟩)) [(g10, (⟨r10k, r10n, r10t⟩ : Vl)), (g9, (⟨r9k, r9n, r9t⟩ : Vl)), (g0, (⟨r0k, r0n, r0t⟩ : Vl)), (w.heap.size, (⟨r11k, r11n, r11t⟩ : Vl))] := B.out.put (b := (⟨r11k, r11n, r11t⟩ : Vl)) 3 rfl
                            have hL : Below w.heap.size w (((W54.setCell ⟨w.heap.size, 0, none⟩ (.int .i64 r11k)).setCell ⟨w.heap.size, 1, none⟩ (.int .i64 r11n)).setCell ⟨w.heap.size, 2, none⟩ (.string ⟨List.toArray r11t⟩)) := below_putV BL.out HGb1.out (⟨r11k, r11n, r11t⟩ : Vl)
                            obtain ⟨W55, hW⟩ : ∃ X, ((W54.setCell ⟨w.heap.size, 0, none⟩ (.int .i64 r11k)).setCell ⟨w.heap.size, 1, none⟩ (.int .i64 r11n)).setCell ⟨w.heap.size, 2, none⟩ (.string ⟨List.toArray r11t⟩) = X := ⟨_, rfl⟩
                            rw [hW] at hB hL ⊢
                            replace B := Lib.hid hB
                            replace BL := Lib.hid hL
                            clear hB hL hW hHeld
                            refine hK.out _ _ (not_clean 6 rfl (by kernel_rfl)) ?_
                            clear hK K
                            try simp only [Act.put, List.setIfInBounds_toArray, List.set_cons_zero, List.set_cons_succ]
                            refine late_pure_at (some 17) (i := 7) (v := (.int .i64 r11e)) rfl rfl rfl (by kernel_rfl) (by kernel_rfl) (by kernel_rfl) (fun _ _ _ h => h) (Or.inl ⟨by rfl, by intro w _; go_simp⟩) (not_clean 6 rfl (by kernel_rfl)) ?_
                            try simp only [Act.put, List.setIfInBounds_toArray, List.set_cons_zero, List.set_cons_succ]
                            refine late_done (by kernel_rfl) ?_ _
                            refine NoPanic.normal ?_
                            go_wp2_with fail
                            go_meet
                            exact ⟨rfl, B, BL⟩
                          exact AllLate.nil
                        exact AllLate.nil
                      exact AllLate.nil
                    case rest =>
                      clear B BL
                      obtain ⟨rfl, B, BL⟩ := hcut
                      obtain ⟨W56, hW⟩ : ∃ X, wc = X := ⟨_, rfl⟩
                      rw [hW] at B BL ⊢
                      clear hW
                      replace HL := Lib.hid (show true = BigRoots_s18 (⟨xk, xn, xt⟩ : Vl) ((⟨r0k, r0n, r0t⟩, r0e) : Vl × Int) ((⟨r9k, r9n, r9t⟩, r9e) : Vl × Int) ((⟨r10k, r10n, r10t⟩, r10e) : Vl × Int) ((⟨r11k, r11n, r11t⟩, r11e) : Vl × Int) from HL.out.trans (by unfold BigRoots_s19; rw [HR11.out]))
                      -- region 21, the end
                      obtain ⟨b23, h⟩ : ∃ b : Bool, (r10e == 0) = b := ⟨_, rfl⟩
                      have HA23 := Lib.hid h
                      clear h
                      obtain ⟨b24, h⟩ : ∃ b : Bool, (r11e == 0) = b := ⟨_, rfl⟩
                      have HA24 := Lib.hid h
                      clear h
                      obtain ⟨b25, h⟩ : ∃ b : Bool, (veqB r10k r10n r10t r11k r11n r11t) = b := ⟨_, rfl⟩
                      have HA25 := Lib.hid h
                      clear h
                      cases b23 with
                      | true =>
                        cases b24 with
                        | true =>
                          cases b25 with
                          | true =>
                            clear HL
                            have f0_0 : ((r10e : Int) == 0) = true := HA23.out
                            have f0_1 : ((r10e : Int) != 0) = false := by have h := HA23.out; simpa using h
                            have f1_0 : ((r11e : Int) == 0) = true := HA24.out
                            have f1_1 : ((r11e : Int) != 0) = false := by have h := HA24.out; simpa using h
                            have f2_0 : (veqB r10k r10n r10t r11k r11n r11t) = true := HA25.out
                            have cb18_18_14_0 : W56.cell? ⟨g10, 0, none⟩ = some (.int .i64 r10k) := (B.out.get 0 rfl).c0
                            have cb18_18_14_1 : W56.cell? ⟨g10, 1, none⟩ = some (.int .i64 r10n) := (B.out.get 0 rfl).c1
                            have cb18_18_14_2 : W56.cell? ⟨g10, 2, none⟩ = some (.string ⟨List.toArray r10t⟩) := (B.out.get 0 rfl).c2
                            have cb1_0 : W56.cell? ⟨w.heap.size, 0, none⟩ = some (.int .i64 r11k) := (B.out.get 3 rfl).c0
                            have cb1_1 : W56.cell? ⟨w.heap.size, 1, none⟩ = some (.int .i64 r11n) := (B.out.get 3 rfl).c1
                            have cb1_2 : W56.cell? ⟨w.heap.size, 2, none⟩ = some (.string ⟨List.toArray r11t⟩) := (B.out.get 3 rfl).c2
                            go_wp2_with fail
                            go_ret
                            exact ⟨rfl, BL.out⟩
                          | false =>
                            exact Bool.noConfusion (show true = false from HL.out.trans (by show (((true && (r10e == 0)) && (r11e == 0)) && (veqB r10k r10n r10t r11k r11n r11t)) = false; rw [HA23.out, HA24.out, HA25.out]; rfl))
                        | false =>
                          exact Bool.noConfusion (show true = false from HL.out.trans (by show (((true && (r10e == 0)) && (r11e == 0)) && (veqB r10k r10n r10t r11k r11n r11t)) = false; rw [HA23.out, HA24.out]; rfl))
                      | false =>
                        exact Bool.noConfusion (show true = false from HL.out.trans (by show (((true && (r10e == 0)) && (r11e == 0)) && (veqB r10k r10n r10t r11k r11n r11t)) = false; rw [HA23.out]; rfl))
                  | false =>
                    replace HL := Lib.hid (show true = BigRoots_s20 (⟨xk, xn, xt⟩ : Vl) ((⟨r0k, r0n, r0t⟩, r0e) : Vl × Int) ((⟨r9k, r9n, r9t⟩, r9e) : Vl × Int) ((⟨r10k, r10n, r10t⟩, r10e) : Vl × Int) from HL.out.trans ((if_neg (fun h => Bool.noConfusion (HCW.out.symm.trans h)))))
                    -- region 21, the end
                    obtain ⟨b26, h⟩ : ∃ b : Bool, (r10e == 0) = b := ⟨_, rfl⟩
                    have HA26 := Lib.hid h
                    clear h
                    obtain ⟨b27, h⟩ : ∃ b : Bool, (r9e == 0) = b := ⟨_, rfl⟩
                    have HA27 := Lib.hid h
                    clear h
                    obtain ⟨b28, h⟩ : ∃ b : Bool, (veqB r10k r10n r10t xk xn xt) = b := ⟨_, rfl⟩
                    have HA28 := Lib.hid h
                    clear h
                    cases b26 with
                    | true =>
                      cases b27 with
                      | true =>
                        cases b28 with
                        | true =>
                          clear HL
                          have f0_0 : ((r10e : Int) == 0) = true := HA26.out
                          have f0_1 : ((r10e : Int) != 0) = false := by have h := HA26.out; simpa using h
                          have f1_0 : ((r9e : Int) == 0) = true := HA27.out
                          have f1_1 : ((r9e : Int) != 0) = false := by have h := HA27.out; simpa using h
                          have f2_0 : (veqB r10k r10n r10t xk xn xt) = true := HA28.out
                          have cb18_18_14_0 : W51.cell? ⟨g10, 0, none⟩ = some (.int .i64 r10k) := (B.out.get 0 rfl).c0
                          have cb18_18_14_1 : W51.cell? ⟨g10, 1, none⟩ = some (.int .i64 r10n) := (B.out.get 0 rfl).c1
                          have cb18_18_14_2 : W51.cell? ⟨g10, 2, none⟩ = some (.string ⟨List.toArray r10t⟩) := (B.out.get 0 rfl).c2
                          have cb1_0 : W51.cell? ⟨w.heap.size, 0, none⟩ = some (.int .i64 xk) := (B.out.get 3 rfl).c0
                          have cb1_1 : W51.cell? ⟨w.heap.size, 1, none⟩ = some (.int .i64 xn) := (B.out.get 3 rfl).c1
                          have cb1_2 : W51.cell? ⟨w.heap.size, 2, none⟩ = some (.string ⟨List.toArray xt⟩) := (B.out.get 3 rfl).c2
                          go_wp2_with fail
                          go_ret
                          exact ⟨rfl, BL.out⟩
                        | false =>
                          exact Bool.noConfusion (show true = false from HL.out.trans (by show (((true && (r10e == 0)) && (r9e == 0)) && (veqB r10k r10n r10t xk xn xt)) = false; rw [HA26.out, HA27.out, HA28.out]; rfl))
                      | false =>
                        exact Bool.noConfusion (show true = false from HL.out.trans (by show (((true && (r10e == 0)) && (r9e == 0)) && (veqB r10k r10n r10t xk xn xt)) = false; rw [HA26.out, HA27.out]; rfl))
                    | false =>
                      exact Bool.noConfusion (show true = false from HL.out.trans (by show (((true && (r10e == 0)) && (r9e == 0)) && (veqB r10k r10n r10t xk xn xt)) = false; rw [HA26.out]; rfl))
end Go.Proofs.YthjpbbbmnmhmmaaGreatDoor
