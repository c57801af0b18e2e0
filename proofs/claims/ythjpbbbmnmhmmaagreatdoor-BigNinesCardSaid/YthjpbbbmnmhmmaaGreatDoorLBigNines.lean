import Derived.Test.YthjpbbbmnmhmmaaGreatDoorA31
import Derived.Test.YthjpbbbmnmhmmaaGreatDoorN1
set_option linter.unusedVariables false
set_option linter.unusedSimpArgs false
namespace Go.Proofs.YthjpbbbmnmhmmaaGreatDoor
open Go.RowKit Go.Shelf Go.Lib
attribute [local go_sem ↓] run_val_eql run_val_neq

def BigNines_s0 (x : Vl) (y : Vl) : Bool := true
def BigNines_s1 (x : Vl) (y : Vl) (r0 : List UInt8 × Int) (r1 : List UInt8 × Int) : Bool := true
def BigNines_s2 (x : Vl) (y : Vl) (r0 : List UInt8 × Int) (r1 : List UInt8 × Int) (r2 : Vl × Int) (r3 : Vl × Int) (r4 : List UInt8 × Int) (r5 : List UInt8 × Int) : Bool := false
def BigNines_s3 (x : Vl) (y : Vl) (r0 : List UInt8 × Int) (r1 : List UInt8 × Int) (r2 : Vl × Int) (r3 : Vl × Int) (r4 : List UInt8 × Int) (r5 : List UInt8 × Int) : Bool := (true && ((!(r3.2 == 0)) || ((r5.2 == 0) && (nineI r5.1 == ((((nineI r0.1) * nineI r1.1)) % 9)))))
def BigNines_s4 (x : Vl) (y : Vl) (r0 : List UInt8 × Int) (r1 : List UInt8 × Int) (r2 : Vl × Int) (r3 : Vl × Int) (r4 : List UInt8 × Int) (r5 : List UInt8 × Int) : Bool := if ((r2.2 == 0) && ((!(r4.2 == 0)) || (!(nineI r4.1 == ((((nineI r0.1) + nineI r1.1)) % 9))))) = true then BigNines_s2 x y r0 r1 r2 r3 r4 r5 else BigNines_s3 x y r0 r1 r2 r3 r4 r5
def BigNines_s5 (x : Vl) (y : Vl) (r0 : List UInt8 × Int) (r1 : List UInt8 × Int) (r2 : Vl × Int) (r3 : Vl × Int) (r4 : List UInt8 × Int) : Bool := BigNines_s4 x y r0 r1 r2 r3 r4 (textR r3.1)
def BigNines_s6 (x : Vl) (y : Vl) (r0 : List UInt8 × Int) (r1 : List UInt8 × Int) (r2 : Vl × Int) (r3 : Vl × Int) : Bool := BigNines_s5 x y r0 r1 r2 r3 (textR r2.1)
def BigNines_s7 (x : Vl) (y : Vl) (r0 : List UInt8 × Int) (r1 : List UInt8 × Int) (r2 : Vl × Int) : Bool := BigNines_s6 x y r0 r1 r2 (mulR x y)
def BigNines_s8 (x : Vl) (y : Vl) (r0 : List UInt8 × Int) (r1 : List UInt8 × Int) : Bool := BigNines_s7 x y r0 r1 (addR x y)
def BigNines_s9 (x : Vl) (y : Vl) (r0 : List UInt8 × Int) (r1 : List UInt8 × Int) : Bool := if ((!(r0.2 == 0)) || (!(r1.2 == 0))) = true then BigNines_s1 x y r0 r1 else BigNines_s8 x y r0 r1
def BigNines_s10 (x : Vl) (y : Vl) (r0 : List UInt8 × Int) : Bool := BigNines_s9 x y r0 (textR y)
def BigNines_s11 (x : Vl) (y : Vl) : Bool := BigNines_s10 x y (textR x)
def BigNines_s12 (x : Vl) (y : Vl) : Bool := if ((!(shortB x)) || (!(shortB y))) = true then BigNines_s0 x y else BigNines_s11 x y

set_option maxRecDepth 100000 in
set_option maxHeartbeats 16000000 in
theorem walk_BigNines (x : Vl) (y : Vl) (hx : x.inp) (hy : y.inp) (w : World) (hE : Env w) (hr : true = BigNines_s12 x y) :
    Calls Tryz.prog 8 #[x.val, y.val] w fun e w' => e = .returned (.bool true) ∧ Below w.heap.size w w' := by
  obtain ⟨xk, xn, xt⟩ := x
  obtain ⟨yk, yn, yt⟩ := y
  have HIx := Lib.hid hx
  have HIy := Lib.hid hy
  have HE := Lib.hid hE
  have HL := Lib.hid hr
  clear hE hr hx hy
  simp only [Vl.val]
  go_enter Tryz.func8, Tryz.ntmps8
  go_upto_region 1 with fail
  have hB : Bxs ((w.alloc (.cells #[.int .i64 xk, .int .i64 xn, .string ⟨List.toArray xt⟩] 23)).alloc (.cells #[.int .i64 yk, .int .i64 yn, .string ⟨List.toArray yt⟩] 23)) [(w.heap.size + 1, (⟨yk, yn, yt⟩ : Vl)), (w.heap.size, (⟨xk, xn, xt⟩ : Vl))] := by
    have h := (((show Bxs w [] from trivial).push (⟨xk, xn, xt⟩ : Vl) 23).push (⟨yk, yn, yt⟩ : Vl) 23)
    simpa only [World.size_alloc] using h
  have hL : Below w.heap.size w ((w.alloc (.cells #[.int .i64 xk, .int .i64 xn, .string ⟨List.toArray xt⟩] 23)).alloc (.cells #[.int .i64 yk, .int .i64 yn, .string ⟨List.toArray yt⟩] 23)) := (((Below.refl w.heap.size w).alloc (Nat.le_refl _) (.cells #[.int .i64 xk, .int .i64 xn, .string ⟨List.toArray xt⟩] 23)).alloc (by simp <;> omega) (.cells #[.int .i64 yk, .int .i64 yn, .string ⟨List.toArray yt⟩] 23))
  obtain ⟨W1, hW⟩ : ∃ X, ((w.alloc (.cells #[.int .i64 xk, .int .i64 xn, .string ⟨List.toArray xt⟩] 23)).alloc (.cells #[.int .i64 yk, .int .i64 yn, .string ⟨List.toArray yt⟩] 23)) = X := ⟨_, rfl⟩
  rw [hW] at hB hL ⊢
  clear hW
  obtain ⟨gb3, hg⟩ : ∃ g, w.heap.size + 1 = g := ⟨_, rfl⟩
  have HGb3 : Hid (w.heap.size ≤ gb3) := Lib.hid (by omega)
  rw [hg] at hB ⊢
  clear hg
  have HGb2 : Hid (w.heap.size ≤ w.heap.size) := Lib.hid (Nat.le_refl _)
  have B := Lib.hid hB
  have BL := Lib.hid hL
  clear hB hL
  -- region 1
  go_wp2_with fail
  refine (awakeV _ (HE.out.below BL.out)).mono ?_
  rintro e W2 ⟨rfl, hb⟩
  replace B := Lib.hid (B.out.below hb)
  replace BL := Lib.hid (below_then BL.out hb)
  clear hb
  go_upto_region 2 with fail
  -- region 2, a test
  obtain ⟨b0, h⟩ : ∃ b : Bool, (shortB (⟨xk, xn, xt⟩ : Vl)) = b := ⟨_, rfl⟩
  have HA0 := Lib.hid h
  clear h
  obtain ⟨b1, h⟩ : ∃ b : Bool, (shortB (⟨yk, yn, yt⟩ : Vl)) = b := ⟨_, rfl⟩
  have HA1 := Lib.hid h
  clear h
  obtain ⟨c1, h⟩ : ∃ c : Bool, ((!b0) || (!b1)) = c := ⟨_, rfl⟩
  have HCC := Lib.hid h
  clear h
  go_upto_region 2 with fail
  go_cut [24] from 17 to 24 (fun v wx => v = .bool c1 ∧ Hid (Bxs wx [(gb3, (⟨yk, yn, yt⟩ : Vl)), (w.heap.size, (⟨xk, xn, xt⟩ : Vl))]) ∧ Hid (Below w.heap.size w wx))
  case first =>
    clear HL
    cases b0 with
    | true =>
      cases b1 with
      | true =>
        have cb2_0 : W2.cell? ⟨w.heap.size, 0, none⟩ = some (.int .i64 xk) := (B.out.get 1 rfl).c0
        have cb2_1 : W2.cell? ⟨w.heap.size, 1, none⟩ = some (.int .i64 xn) := (B.out.get 1 rfl).c1
        have cb2_2 : W2.cell? ⟨w.heap.size, 2, none⟩ = some (.string ⟨List.toArray xt⟩) := (B.out.get 1 rfl).c2
        have cb3_0 : W2.cell? ⟨gb3, 0, none⟩ = some (.int .i64 yk) := (B.out.get 0 rfl).c0
        have cb3_1 : W2.cell? ⟨gb3, 1, none⟩ = some (.int .i64 yn) := (B.out.get 0 rfl).c1
        have cb3_2 : W2.cell? ⟨gb3, 2, none⟩ = some (.string ⟨List.toArray yt⟩) := (B.out.get 0 rfl).c2
        go_wp2_with fail
        refine (short_calls xk xn xt HIx.out.2 _).mono ?_
        rw [HA0.out]
        rintro e W3 ⟨rfl, hb⟩
        clear cb2_0 cb2_1 cb2_2 cb3_0 cb3_1 cb3_2
        replace B := Lib.hid (B.out.below hb)
        replace BL := Lib.hid (below_then BL.out hb)
        clear hb
        have cb2_0 : W3.cell? ⟨w.heap.size, 0, none⟩ = some (.int .i64 xk) := (B.out.get 1 rfl).c0
        have cb2_1 : W3.cell? ⟨w.heap.size, 1, none⟩ = some (.int .i64 xn) := (B.out.get 1 rfl).c1
        have cb2_2 : W3.cell? ⟨w.heap.size, 2, none⟩ = some (.string ⟨List.toArray xt⟩) := (B.out.get 1 rfl).c2
        have cb3_0 : W3.cell? ⟨gb3, 0, none⟩ = some (.int .i64 yk) := (B.out.get 0 rfl).c0
        have cb3_1 : W3.cell? ⟨gb3, 1, none⟩ = some (.int .i64 yn) := (B.out.get 0 rfl).c1
        have cb3_2 : W3.cell? ⟨gb3, 2, none⟩ = some (.string ⟨List.toArray yt⟩) := (B.out.get 0 rfl).c2
        go_wp2_with fail
        refine (short_calls yk yn yt HIy.out.2 _).mono ?_
        rw [HA1.out]
        rintro e W4 ⟨rfl, hb⟩
        clear cb2_0 cb2_1 cb2_2 cb3_0 cb3_1 cb3_2
        replace B := Lib.hid (B.out.below hb)
        replace BL := Lib.hid (below_then BL.out hb)
        clear hb
        have cb2_0 : W4.cell? ⟨w.heap.size, 0, none⟩ = some (.int .i64 xk) := (B.out.get 1 rfl).c0
        have cb2_1 : W4.cell? ⟨w.heap.size, 1, none⟩ = some (.int .i64 xn) := (B.out.get 1 rfl).c1
        have cb2_2 : W4.cell? ⟨w.heap.size, 2, none⟩ = some (.string ⟨List.toArray xt⟩) := (B.out.get 1 rfl).c2
        have cb3_0 : W4.cell? ⟨gb3, 0, none⟩ = some (.int .i64 yk) := (B.out.get 0 rfl).c0
        have cb3_1 : W4.cell? ⟨gb3, 1, none⟩ = some (.int .i64 yn) := (B.out.get 0 rfl).c1
        have cb3_2 : W4.cell? ⟨gb3, 2, none⟩ = some (.string ⟨List.toArray yt⟩) := (B.out.get 0 rfl).c2
        go_wp2_with fail
        go_meet
        exact ⟨congrArg Value.bool HCC.out, B, BL⟩
      | false =>
        have cb2_0 : W2.cell? ⟨w.heap.size, 0, none⟩ = some (.int .i64 xk) := (B.out.get 1 rfl).c0
        have cb2_1 : W2.cell? ⟨w.heap.size, 1, none⟩ = some (.int .i64 xn) := (B.out.get 1 rfl).c1
        have cb2_2 : W2.cell? ⟨w.heap.size, 2, none⟩ = some (.string ⟨List.toArray xt⟩) := (B.out.get 1 rfl).c2
        have cb3_0 : W2.cell? ⟨gb3, 0, none⟩ = some (.int .i64 yk) := (B.out.get 0 rfl).c0
        have cb3_1 : W2.cell? ⟨gb3, 1, none⟩ = some (.int .i64 yn) := (B.out.get 0 rfl).c1
        have cb3_2 : W2.cell? ⟨gb3, 2, none⟩ = some (.string ⟨List.toArray yt⟩) := (B.out.get 0 rfl).c2
        go_wp2_with fail
        refine (short_calls xk xn xt HIx.out.2 _).mono ?_
        rw [HA0.out]
        rintro e W5 ⟨rfl, hb⟩
        clear cb2_0 cb2_1 cb2_2 cb3_0 cb3_1 cb3_2
        replace B := Lib.hid (B.out.below hb)
        replace BL := Lib.hid (below_then BL.out hb)
        clear hb
        have cb2_0 : W5.cell? ⟨w.heap.size, 0, none⟩ = some (.int .i64 xk) := (B.out.get 1 rfl).c0
        have cb2_1 : W5.cell? ⟨w.heap.size, 1, none⟩ = some (.int .i64 xn) := (B.out.get 1 rfl).c1
        have cb2_2 : W5.cell? ⟨w.heap.size, 2, none⟩ = some (.string ⟨List.toArray xt⟩) := (B.out.get 1 rfl).c2
        have cb3_0 : W5.cell? ⟨gb3, 0, none⟩ = some (.int .i64 yk) := (B.out.get 0 rfl).c0
        have cb3_1 : W5.cell? ⟨gb3, 1, none⟩ = some (.int .i64 yn) := (B.out.get 0 rfl).c1
        have cb3_2 : W5.cell? ⟨gb3, 2, none⟩ = some (.string ⟨List.toArray yt⟩) := (B.out.get 0 rfl).c2
        go_wp2_with fail
        refine (short_calls yk yn yt HIy.out.2 _).mono ?_
        rw [HA1.out]
        rintro e W6 ⟨rfl, hb⟩
        clear cb2_0 cb2_1 cb2_2 cb3_0 cb3_1 cb3_2
        replace B := Lib.hid (B.out.below hb)
        replace BL := Lib.hid (below_then BL.out hb)
        clear hb
        have cb2_0 : W6.cell? ⟨w.heap.size, 0, none⟩ = some (.int .i64 xk) := (B.out.get 1 rfl).c0
        have cb2_1 : W6.cell? ⟨w.heap.size, 1, none⟩ = some (.int .i64 xn) := (B.out.get 1 rfl).c1
        have cb2_2 : W6.cell? ⟨w.heap.size, 2, none⟩ = some (.string ⟨List.toArray xt⟩) := (B.out.get 1 rfl).c2
        have cb3_0 : W6.cell? ⟨gb3, 0, none⟩ = some (.int .i64 yk) := (B.out.get 0 rfl).c0
        have cb3_1 : W6.cell? ⟨gb3, 1, none⟩ = some (.int .i64 yn) := (B.out.get 0 rfl).c1
        have cb3_2 : W6.cell? ⟨gb3, 2, none⟩ = some (.string ⟨List.toArray yt⟩) := (B.out.get 0 rfl).c2
        go_wp2_with fail
        go_meet
        exact ⟨congrArg Value.bool HCC.out, B, BL⟩
    | false =>
      have cb2_0 : W2.cell? ⟨w.heap.size, 0, none⟩ = some (.int .i64 xk) := (B.out.get 1 rfl).c0
      have cb2_1 : W2.cell? ⟨w.heap.size, 1, none⟩ = some (.int .i64 xn) := (B.out.get 1 rfl).c1
      have cb2_2 : W2.cell? ⟨w.heap.size, 2, none⟩ = some (.string ⟨List.toArray xt⟩) := (B.out.get 1 rfl).c2
      go_wp2_with fail
      refine (short_calls xk xn xt HIx.out.2 _).mono ?_
      rw [HA0.out]
      rintro e W7 ⟨rfl, hb⟩
      clear cb2_0 cb2_1 cb2_2
      replace B := Lib.hid (B.out.below hb)
      replace BL := Lib.hid (below_then BL.out hb)
      clear hb
      have cb2_0 : W7.cell? ⟨w.heap.size, 0, none⟩ = some (.int .i64 xk) := (B.out.get 1 rfl).c0
      have cb2_1 : W7.cell? ⟨w.heap.size, 1, none⟩ = some (.int .i64 xn) := (B.out.get 1 rfl).c1
      have cb2_2 : W7.cell? ⟨w.heap.size, 2, none⟩ = some (.string ⟨List.toArray xt⟩) := (B.out.get 1 rfl).c2
      go_wp2_with fail
      go_meet
      exact ⟨congrArg Value.bool HCC.out, B, BL⟩
  case rest =>
    clear B BL
    obtain ⟨rfl, B, BL⟩ := hcut
    obtain ⟨W8, hW⟩ : ∃ X, wc = X := ⟨_, rfl⟩
    rw [hW] at B BL ⊢
    clear hW
    have HCW : Hid (((!(shortB (⟨xk, xn, xt⟩ : Vl))) || (!(shortB (⟨yk, yn, yt⟩ : Vl)))) = c1) := Lib.hid (by rw [HA0.out, HA1.out]; exact HCC.out)
    clear HCC HA0 HA1
    cases c1 with
    | true =>
      replace HL := Lib.hid (show true = BigNines_s0 (⟨xk, xn, xt⟩ : Vl) (⟨yk, yn, yt⟩ : Vl) from HL.out.trans (if_pos HCW.out))
      go_wp2_with fail
      go_ret
      exact ⟨rfl, BL.out⟩
    | false =>
      have HOx : Hid (Vl.ok (⟨xk, xn, xt⟩ : Vl)) := Lib.hid ⟨HIx.out.1, by have h := HCW.out; simp [shortB] at h; show xt.length ≤ 100000; omega⟩
      have HOy : Hid (Vl.ok (⟨yk, yn, yt⟩ : Vl)) := Lib.hid ⟨HIy.out.1, by have h := HCW.out; simp [shortB] at h; show yt.length ≤ 100000; omega⟩
      replace HL := Lib.hid (show true = BigNines_s11 (⟨xk, xn, xt⟩ : Vl) (⟨yk, yn, yt⟩ : Vl) from HL.out.trans ((if_neg (fun h => Bool.noConfusion (HCW.out.symm.trans h)))))
      -- region 4
      have cb2_0 : W8.cell? ⟨w.heap.size, 0, none⟩ = some (.int .i64 xk) := (B.out.get 1 rfl).c0
      have cb2_1 : W8.cell? ⟨w.heap.size, 1, none⟩ = some (.int .i64 xn) := (B.out.get 1 rfl).c1
      have cb2_2 : W8.cell? ⟨w.heap.size, 2, none⟩ = some (.string ⟨List.toArray xt⟩) := (B.out.get 1 rfl).c2
      obtain ⟨⟨r0s, r0e⟩, hr0⟩ : ∃ p, textR (⟨xk, xn, xt⟩ : Vl) = p := ⟨_, rfl⟩
      have hc0 := fun (W : World) (hW : Env W) => textV (⟨xk, xn, xt⟩ : Vl) HOx.out W hW
      have hl0 := textR_len (⟨xk, xn, xt⟩ : Vl) HOx.out
      rw [hr0] at hc0 hl0
      simp only [Vl.val] at hc0 hl0
      have HC0 := Lib.hid hc0; have HR0 := Lib.hid hr0; have HLr0 := Lib.hid hl0
      clear hc0 hr0 hl0
      go_wp2_with fail
      refine (HC0.out _ (HE.out.below BL.out)).mono ?_
      rintro e W9 ⟨rfl, hb⟩
      clear cb2_0 cb2_1 cb2_2
      replace B := Lib.hid (B.out.below hb)
      replace BL := Lib.hid (below_then BL.out hb)
      clear hb
      go_upto_region 5 with fail
      replace HL := Lib.hid (show true = BigNines_s10 (⟨xk, xn, xt⟩ : Vl) (⟨yk, yn, yt⟩ : Vl) ((r0s, r0e) : List UInt8 × Int) from HL.out.trans (by unfold BigNines_s11; rw [HR0.out]))
      -- region 5
      have cb3_0 : W9.cell? ⟨gb3, 0, none⟩ = some (.int .i64 yk) := (B.out.get 0 rfl).c0
      have cb3_1 : W9.cell? ⟨gb3, 1, none⟩ = some (.int .i64 yn) := (B.out.get 0 rfl).c1
      have cb3_2 : W9.cell? ⟨gb3, 2, none⟩ = some (.string ⟨List.toArray yt⟩) := (B.out.get 0 rfl).c2
      obtain ⟨⟨r1s, r1e⟩, hr1⟩ : ∃ p, textR (⟨yk, yn, yt⟩ : Vl) = p := ⟨_, rfl⟩
      have hc1 := fun (W : World) (hW : Env W) => textV (⟨yk, yn, yt⟩ : Vl) HOy.out W hW
      have hl1 := textR_len (⟨yk, yn, yt⟩ : Vl) HOy.out
      rw [hr1] at hc1 hl1
      simp only [Vl.val] at hc1 hl1
      have HC1 := Lib.hid hc1; have HR1 := Lib.hid hr1; have HLr1 := Lib.hid hl1
      clear hc1 hr1 hl1
      go_wp2_with fail
      refine (HC1.out _ (HE.out.below BL.out)).mono ?_
      rintro e W10 ⟨rfl, hb⟩
      clear cb3_0 cb3_1 cb3_2
      replace B := Lib.hid (B.out.below hb)
      replace BL := Lib.hid (below_then BL.out hb)
      clear hb
      go_upto_region 6 with fail
      replace HL := Lib.hid (show true = BigNines_s9 (⟨xk, xn, xt⟩ : Vl) (⟨yk, yn, yt⟩ : Vl) ((r0s, r0e) : List UInt8 × Int) ((r1s, r1e) : List UInt8 × Int) from HL.out.trans (by unfold BigNines_s10; rw [HR1.out]))
      -- region 6, a test
      obtain ⟨b2, h⟩ : ∃ b : Bool, (r0e == 0) = b := ⟨_, rfl⟩
      have HA2 := Lib.hid h
      clear h
      obtain ⟨b3, h⟩ : ∃ b : Bool, (r1e == 0) = b := ⟨_, rfl⟩
      have HA3 := Lib.hid h
      clear h
      obtain ⟨c2, h⟩ : ∃ c : Bool, ((!b2) || (!b3)) = c := ⟨_, rfl⟩
      have HCC := Lib.hid h
      clear h
      go_upto_region 6 with fail
      go_cut [41] from 36 to 41 (fun v wx => v = .bool c2 ∧ Hid (Bxs wx [(gb3, (⟨yk, yn, yt⟩ : Vl)), (w.heap.size, (⟨xk, xn, xt⟩ : Vl))]) ∧ Hid (Below w.heap.size w wx))
      case first =>
        clear HL
        cases b2 with
        | true =>
          cases b3 with
          | true =>
            have f0_0 : ((r0e : Int) == 0) = true := HA2.out
            have f0_1 : ((r0e : Int) != 0) = false := by have h := HA2.out; simpa using h
            have f1_0 : ((r1e : Int) == 0) = true := HA3.out
            have f1_1 : ((r1e : Int) != 0) = false := by have h := HA3.out; simpa using h
            go_wp2_with fail
            go_meet
            exact ⟨congrArg Value.bool HCC.out, B, BL⟩
          | false =>
            have f0_0 : ((r0e : Int) == 0) = true := HA2.out
            have f0_1 : ((r0e : Int) != 0) = false := by have h := HA2.out; simpa using h
            have f1_0 : ((r1e : Int) == 0) = false := HA3.out
            have f1_1 : ((r1e : Int) != 0) = true := by have h := HA3.out; simpa using h
            go_wp2_with fail
            go_meet
            exact ⟨congrArg Value.bool HCC.out, B, BL⟩
        | false =>
          have f0_0 : ((r0e : Int) == 0) = false := HA2.out
          have f0_1 : ((r0e : Int) != 0) = true := by have h := HA2.out; simpa using h
          go_wp2_with fail
          go_meet
          exact ⟨congrArg Value.bool HCC.out, B, BL⟩
      case rest =>
        clear B BL
        obtain ⟨rfl, B, BL⟩ := hcut
        obtain ⟨W11, hW⟩ : ∃ X, wc = X := ⟨_, rfl⟩
        rw [hW] at B BL ⊢
        clear hW
        have HCW : Hid (((!(r0e == 0)) || (!(r1e == 0))) = c2) := Lib.hid (by rw [HA2.out, HA3.out]; exact HCC.out)
        clear HCC HA2 HA3
        cases c2 with
        | true =>
          replace HL := Lib.hid (show true = BigNines_s1 (⟨xk, xn, xt⟩ : Vl) (⟨yk, yn, yt⟩ : Vl) ((r0s, r0e) : List UInt8 × Int) ((r1s, r1e) : List UInt8 × Int) from HL.out.trans (if_pos HCW.out))
          go_wp2_with fail
          go_ret
          exact ⟨rfl, BL.out⟩
        | false =>
          replace HL := Lib.hid (show true = BigNines_s8 (⟨xk, xn, xt⟩ : Vl) (⟨yk, yn, yt⟩ : Vl) ((r0s, r0e) : List UInt8 × Int) ((r1s, r1e) : List UInt8 × Int) from HL.out.trans ((if_neg (fun h => Bool.noConfusion (HCW.out.symm.trans h)))))
          -- region 8
          have cb2_0 : W11.cell? ⟨w.heap.size, 0, none⟩ = some (.int .i64 xk) := (B.out.get 1 rfl).c0
          have cb2_1 : W11.cell? ⟨w.heap.size, 1, none⟩ = some (.int .i64 xn) := (B.out.get 1 rfl).c1
          have cb2_2 : W11.cell? ⟨w.heap.size, 2, none⟩ = some (.string ⟨List.toArray xt⟩) := (B.out.get 1 rfl).c2
          have cb3_0 : W11.cell? ⟨gb3, 0, none⟩ = some (.int .i64 yk) := (B.out.get 0 rfl).c0
          have cb3_1 : W11.cell? ⟨gb3, 1, none⟩ = some (.int .i64 yn) := (B.out.get 0 rfl).c1
          have cb3_2 : W11.cell? ⟨gb3, 2, none⟩ = some (.string ⟨List.toArray yt⟩) := (B.out.get 0 rfl).c2
          obtain ⟨⟨⟨r2k, r2n, r2t⟩, r2e⟩, hr2⟩ : ∃ p, addR (⟨xk, xn, xt⟩ : Vl) (⟨yk, yn, yt⟩ : Vl) = p := ⟨_, rfl⟩
          have hc2 := fun (W : World) (hW : Env W) => add_pub (⟨xk, xn, xt⟩ : Vl) (⟨yk, yn, yt⟩ : Vl) HOx.out HOy.out W hW
          have ho2 := addR_ok (⟨xk, xn, xt⟩ : Vl) (⟨yk, yn, yt⟩ : Vl)
          rw [hr2] at hc2 ho2
          simp only [Vl.val, pr] at hc2
          have HC2 := Lib.hid hc2; have HOr2 : Hid (Vl.ok ⟨r2k, r2n, r2t⟩) := Lib.hid ho2; have HR2 := Lib.hid hr2
          clear hc2 ho2 hr2
          go_wp2_with fail
          refine (HC2.out _ (HE.out.below BL.out)).mono ?_
          rintro e W12 ⟨rfl, hb⟩
          clear cb2_0 cb2_1 cb2_2 cb3_0 cb3_1 cb3_2
          replace B := Lib.hid (B.out.below hb)
          replace BL := Lib.hid (below_then BL.out hb)
          clear hb
          go_upto_region 9 with fail
          have hB : Bxs (W12.alloc (.cells #[.int .i64 r2k, .int .i64 r2n, .string ⟨List.toArray r2t⟩] 23)) ((W12.heap.size, (⟨r2k, r2n, r2t⟩ : Vl)) :: [(gb3, (⟨yk, yn, yt⟩ : Vl)), (w.heap.size, (⟨xk, xn, xt⟩ : Vl))]) := B.out.push (⟨r2k, r2n, r2t⟩ : Vl) 23
          have hL : Below w.heap.size w (W12.alloc (.cells #[.int .i64 r2k, .int .i64 r2n, .string ⟨List.toArray r2t⟩] 23)) := BL.out.alloc BL.out.size _
          obtain ⟨W13, hW⟩ : ∃ X, W12.alloc (.cells #[.int .i64 r2k, .int .i64 r2n, .string ⟨List.toArray r2t⟩] 23) = X := ⟨_, rfl⟩
          obtain ⟨g0, hg⟩ : ∃ g, W12.heap.size = g := ⟨_, rfl⟩
          rw [hW] at hB hL ⊢
          rw [hg] at hB ⊢
          have HGb10_8_2 : Hid (w.heap.size ≤ g0) := Lib.hid (by rw [← hg]; exact BL.out.size)
          replace B := Lib.hid hB
          replace BL := Lib.hid hL
          clear hB hL hW hg
          replace HL := Lib.hid (show true = BigNines_s7 (⟨xk, xn, xt⟩ : Vl) (⟨yk, yn, yt⟩ : Vl) ((r0s, r0e) : List UInt8 × Int) ((r1s, r1e) : List UInt8 × Int) ((⟨r2k, r2n, r2t⟩, r2e) : Vl × Int) from HL.out.trans (by unfold BigNines_s8; rw [HR2.out]))
          -- region 9
          have cb2_0 : W13.cell? ⟨w.heap.size, 0, none⟩ = some (.int .i64 xk) := (B.out.get 2 rfl).c0
          have cb2_1 : W13.cell? ⟨w.heap.size, 1, none⟩ = some (.int .i64 xn) := (B.out.get 2 rfl).c1
          have cb2_2 : W13.cell? ⟨w.heap.size, 2, none⟩ = some (.string ⟨List.toArray xt⟩) := (B.out.get 2 rfl).c2
          have cb3_0 : W13.cell? ⟨gb3, 0, none⟩ = some (.int .i64 yk) := (B.out.get 1 rfl).c0
          have cb3_1 : W13.cell? ⟨gb3, 1, none⟩ = some (.int .i64 yn) := (B.out.get 1 rfl).c1
          have cb3_2 : W13.cell? ⟨gb3, 2, none⟩ = some (.string ⟨List.toArray yt⟩) := (B.out.get 1 rfl).c2
          obtain ⟨⟨⟨r3k, r3n, r3t⟩, r3e⟩, hr3⟩ : ∃ p, mulR (⟨xk, xn, xt⟩ : Vl) (⟨yk, yn, yt⟩ : Vl) = p := ⟨_, rfl⟩
          have hc3 := fun (W : World) (hW : Env W) => mul_pub (⟨xk, xn, xt⟩ : Vl) (⟨yk, yn, yt⟩ : Vl) HOx.out HOy.out W hW
          have ho3 := mulR_ok (⟨xk, xn, xt⟩ : Vl) (⟨yk, yn, yt⟩ : Vl)
          rw [hr3] at hc3 ho3
          simp only [Vl.val, pr] at hc3
          have HC3 := Lib.hid hc3; have HOr3 : Hid (Vl.ok ⟨r3k, r3n, r3t⟩) := Lib.hid ho3; have HR3 := Lib.hid hr3
          clear hc3 ho3 hr3
          go_wp2_with fail
          refine (HC3.out _ (HE.out.below BL.out)).mono ?_
          rintro e W14 ⟨rfl, hb⟩
          clear cb2_0 cb2_1 cb2_2 cb3_0 cb3_1 cb3_2
          replace B := Lib.hid (B.out.below hb)
          replace BL := Lib.hid (below_then BL.out hb)
          clear hb
          go_upto_region 10 with fail
          have hB : Bxs (W14.alloc (.cells #[.int .i64 r3k, .int .i64 r3n, .string ⟨List.toArray r3t⟩] 23)) ((W14.heap.size, (⟨r3k, r3n, r3t⟩ : Vl)) :: [(g0, (⟨r2k, r2n, r2t⟩ : Vl)), (gb3, (⟨yk, yn, yt⟩ : Vl)), (w.heap.size, (⟨xk, xn, xt⟩ : Vl))]) := B.out.push (⟨r3k, r3n, r3t⟩ : Vl) 23
          have hL : Below w.heap.size w (W14.alloc (.cells #[.int .i64 r3k, .int .i64 r3n, .string ⟨List.toArray r3t⟩] 23)) := BL.out.alloc BL.out.size _
          obtain ⟨W15, hW⟩ : ∃ X, W14.alloc (.cells #[.int .i64 r3k, .int .i64 r3n, .string ⟨List.toArray r3t⟩] 23) = X := ⟨_, rfl⟩
          obtain ⟨g1, hg⟩ : ∃ g, W14.heap.size = g := ⟨_, rfl⟩
          rw [hW] at hB hL ⊢
          rw [hg] at hB ⊢
          have HGb11_9_3 : Hid (w.heap.size ≤ g1) := Lib.hid (by rw [← hg]; exact BL.out.size)
          replace B := Lib.hid hB
          replace BL := Lib.hid hL
          clear hB hL hW hg
          replace HL := Lib.hid (show true = BigNines_s6 (⟨xk, xn, xt⟩ : Vl) (⟨yk, yn, yt⟩ : Vl) ((r0s, r0e) : List UInt8 × Int) ((r1s, r1e) : List UInt8 × Int) ((⟨r2k, r2n, r2t⟩, r2e) : Vl × Int) ((⟨r3k, r3n, r3t⟩, r3e) : Vl × Int) from HL.out.trans (by unfold BigNines_s7; rw [HR3.out]))
          -- region 10
          have cb10_8_2_0 : W15.cell? ⟨g0, 0, none⟩ = some (.int .i64 r2k) := (B.out.get 1 rfl).c0
          have cb10_8_2_1 : W15.cell? ⟨g0, 1, none⟩ = some (.int .i64 r2n) := (B.out.get 1 rfl).c1
          have cb10_8_2_2 : W15.cell? ⟨g0, 2, none⟩ = some (.string ⟨List.toArray r2t⟩) := (B.out.get 1 rfl).c2
          obtain ⟨⟨r4s, r4e⟩, hr4⟩ : ∃ p, textR (⟨r2k, r2n, r2t⟩ : Vl) = p := ⟨_, rfl⟩
          have hc4 := fun (W : World) (hW : Env W) => textV (⟨r2k, r2n, r2t⟩ : Vl) HOr2.out W hW
          have hl4 := textR_len (⟨r2k, r2n, r2t⟩ : Vl) HOr2.out
          rw [hr4] at hc4 hl4
          simp only [Vl.val] at hc4 hl4
          have HC4 := Lib.hid hc4; have HR4 := Lib.hid hr4; have HLr4 := Lib.hid hl4
          clear hc4 hr4 hl4
          go_wp2_with fail
          refine (HC4.out _ (HE.out.below BL.out)).mono ?_
          rintro e W16 ⟨rfl, hb⟩
          clear cb10_8_2_0 cb10_8_2_1 cb10_8_2_2
          replace B := Lib.hid (B.out.below hb)
          replace BL := Lib.hid (below_then BL.out hb)
          clear hb
          go_upto_region 11 with fail
          replace HL := Lib.hid (show true = BigNines_s5 (⟨xk, xn, xt⟩ : Vl) (⟨yk, yn, yt⟩ : Vl) ((r0s, r0e) : List UInt8 × Int) ((r1s, r1e) : List UInt8 × Int) ((⟨r2k, r2n, r2t⟩, r2e) : Vl × Int) ((⟨r3k, r3n, r3t⟩, r3e) : Vl × Int) ((r4s, r4e) : List UInt8 × Int) from HL.out.trans (by unfold BigNines_s6; rw [HR4.out]))
          -- region 11
          have cb11_9_3_0 : W16.cell? ⟨g1, 0, none⟩ = some (.int .i64 r3k) := (B.out.get 0 rfl).c0
          have cb11_9_3_1 : W16.cell? ⟨g1, 1, none⟩ = some (.int .i64 r3n) := (B.out.get 0 rfl).c1
          have cb11_9_3_2 : W16.cell? ⟨g1, 2, none⟩ = some (.string ⟨List.toArray r3t⟩) := (B.out.get 0 rfl).c2
          obtain ⟨⟨r5s, r5e⟩, hr5⟩ : ∃ p, textR (⟨r3k, r3n, r3t⟩ : Vl) = p := ⟨_, rfl⟩
          have hc5 := fun (W : World) (hW : Env W) => textV (⟨r3k, r3n, r3t⟩ : Vl) HOr3.out W hW
          have hl5 := textR_len (⟨r3k, r3n, r3t⟩ : Vl) HOr3.out
          rw [hr5] at hc5 hl5
          simp only [Vl.val] at hc5 hl5
          have HC5 := Lib.hid hc5; have HR5 := Lib.hid hr5; have HLr5 := Lib.hid hl5
          clear hc5 hr5 hl5
          go_wp2_with fail
          refine (HC5.out _ (HE.out.below BL.out)).mono ?_
          rintro e W17 ⟨rfl, hb⟩
          clear cb11_9_3_0 cb11_9_3_1 cb11_9_3_2
          replace B := Lib.hid (B.out.below hb)
          replace BL := Lib.hid (below_then BL.out hb)
          clear hb
          go_upto_region 12 with fail
          replace HL := Lib.hid (show true = BigNines_s4 (⟨xk, xn, xt⟩ : Vl) (⟨yk, yn, yt⟩ : Vl) ((r0s, r0e) : List UInt8 × Int) ((r1s, r1e) : List UInt8 × Int) ((⟨r2k, r2n, r2t⟩, r2e) : Vl × Int) ((⟨r3k, r3n, r3t⟩, r3e) : Vl × Int) ((r4s, r4e) : List UInt8 × Int) ((r5s, r5e) : List UInt8 × Int) from HL.out.trans (by unfold BigNines_s5; rw [HR5.out]))
          -- region 12, a test
          have hq4 := nineI_bd r4s
          have hq4a := hq4.1; have hq4b := hq4.2
          clear hq4
          have hq5 := nineI_bd r0s
          have hq5a := hq5.1; have hq5b := hq5.2
          clear hq5
          have hq6 := nineI_bd r1s
          have hq6a := hq6.1; have hq6b := hq6.2
          clear hq6
          obtain ⟨b4, h⟩ : ∃ b : Bool, (r2e == 0) = b := ⟨_, rfl⟩
          have HA4 := Lib.hid h
          clear h
          obtain ⟨b5, h⟩ : ∃ b : Bool, (r4e == 0) = b := ⟨_, rfl⟩
          have HA5 := Lib.hid h
          clear h
          obtain ⟨b6, h⟩ : ∃ b : Bool, (nineI r4s == ((((nineI r0s) + nineI r1s)) % 9)) = b := ⟨_, rfl⟩
          have HA6 := Lib.hid h
          clear h
          have HCF : ((r2e == 0) && ((!(r4e == 0)) || (!(nineI r4s == ((((nineI r0s) + nineI r1s)) % 9))))) = false := Bool.eq_false_iff.2 fun h => Bool.noConfusion (show true = false from HL.out.trans (if_pos h))
          have HCB : (b4 && ((!b5) || (!b6))) = false := by
            have h := HCF
            rw [HA4.out, HA5.out, HA6.out] at h
            exact h
          have HCW := Lib.hid HCF
          have HCC := Lib.hid HCB
          clear HCF HCB
          go_upto_region 12 with fail
          go_cut [81] from 65 to 81 (fun v wx => v = .bool false ∧ Hid (Bxs wx [(g1, (⟨r3k, r3n, r3t⟩ : Vl)), (g0, (⟨r2k, r2n, r2t⟩ : Vl)), (gb3, (⟨yk, yn, yt⟩ : Vl)), (w.heap.size, (⟨xk, xn, xt⟩ : Vl))]) ∧ Hid (Below w.heap.size w wx))
          case first =>
            clear HL
            cases b4 with
            | true =>
              cases b5 with
              | true =>
                cases b6 with
                | true =>
                  have f0_0 : ((r2e : Int) == 0) = true := HA4.out
                  have f0_1 : ((r2e : Int) != 0) = false := by have h := HA4.out; simpa using h
                  have f1_0 : ((r4e : Int) == 0) = true := HA5.out
                  have f1_1 : ((r4e : Int) != 0) = false := by have h := HA5.out; simpa using h
                  have f2_0 : ((nineI r4s : Int) == ((((nineI r0s) + nineI r1s)) % 9)) = true := HA6.out
                  have f2_1 : ((nineI r4s : Int) != ((((nineI r0s) + nineI r1s)) % 9)) = false := by have h := HA6.out; simpa using h
                  go_wp2_with fail
                  refine (nines_calls r4s HLr4.out _).mono ?_
                  rintro e W18 ⟨rfl, hb⟩
                  replace B := Lib.hid (B.out.below hb)
                  replace BL := Lib.hid (below_then BL.out hb)
                  clear hb
                  go_wp2_with fail
                  refine (nines_calls r0s HLr0.out _).mono ?_
                  rintro e W19 ⟨rfl, hb⟩
                  replace B := Lib.hid (B.out.below hb)
                  replace BL := Lib.hid (below_then BL.out hb)
                  clear hb
                  go_wp2_with fail
                  refine (nines_calls r1s HLr1.out _).mono ?_
                  rintro e W20 ⟨rfl, hb⟩
                  replace B := Lib.hid (B.out.below hb)
                  replace BL := Lib.hid (below_then BL.out hb)
                  clear hb
                  go_wp2_with fail
                  go_meet
                  exact ⟨rfl, B, BL⟩
                | false =>
                  exact Bool.noConfusion (show true = false from HCC.out)
              | false =>
                exact Bool.noConfusion (show true = false from HCC.out)
            | false =>
              have f0_0 : ((r2e : Int) == 0) = false := HA4.out
              have f0_1 : ((r2e : Int) != 0) = true := by have h := HA4.out; simpa using h
              go_wp2_with fail
              go_meet
              exact ⟨rfl, B, BL⟩
          case rest =>
            clear B BL
            obtain ⟨rfl, B, BL⟩ := hcut
            obtain ⟨W21, hW⟩ : ∃ X, wc = X := ⟨_, rfl⟩
            rw [hW] at B BL ⊢
            clear hW
            clear HCC HA4 HA5 HA6
            replace HL := Lib.hid (show true = BigNines_s3 (⟨xk, xn, xt⟩ : Vl) (⟨yk, yn, yt⟩ : Vl) ((r0s, r0e) : List UInt8 × Int) ((r1s, r1e) : List UInt8 × Int) ((⟨r2k, r2n, r2t⟩, r2e) : Vl × Int) ((⟨r3k, r3n, r3t⟩, r3e) : Vl × Int) ((r4s, r4e) : List UInt8 × Int) ((r5s, r5e) : List UInt8 × Int) from HL.out.trans ((if_neg (fun h => Bool.noConfusion (HCW.out.symm.trans h)))))
            -- region 14, the end
            have hq8 := nineI_bd r5s
            have hq8a := hq8.1; have hq8b := hq8.2
            clear hq8
            have hq9 := nineI_bd r0s
            have hq9a := hq9.1; have hq9b := hq9.2
            clear hq9
            have hq10 := nineI_bd r1s
            have hq10a := hq10.1; have hq10b := hq10.2
            clear hq10
            have hq11 := nine_mul r0s r1s
            have hq11a := hq11.1; have hq11b := hq11.2
            clear hq11
            obtain ⟨b7, h⟩ : ∃ b : Bool, (r3e == 0) = b := ⟨_, rfl⟩
            have HA7 := Lib.hid h
            clear h
            obtain ⟨b8, h⟩ : ∃ b : Bool, (r5e == 0) = b := ⟨_, rfl⟩
            have HA8 := Lib.hid h
            clear h
            obtain ⟨b9, h⟩ : ∃ b : Bool, (nineI r5s == ((((nineI r0s) * nineI r1s)) % 9)) = b := ⟨_, rfl⟩
            have HA9 := Lib.hid h
            clear h
            cases b7 with
            | true =>
              cases b8 with
              | true =>
                cases b9 with
                | true =>
                  clear HL
                  have f0_0 : ((r3e : Int) == 0) = true := HA7.out
                  have f0_1 : ((r3e : Int) != 0) = false := by have h := HA7.out; simpa using h
                  have f1_0 : ((r5e : Int) == 0) = true := HA8.out
                  have f1_1 : ((r5e : Int) != 0) = false := by have h := HA8.out; simpa using h
                  have f2_0 : ((nineI r5s : Int) == ((((nineI r0s) * nineI r1s)) % 9)) = true := HA9.out
                  have f2_1 : ((nineI r5s : Int) != ((((nineI r0s) * nineI r1s)) % 9)) = false := by have h := HA9.out; simpa using h
                  go_wp2_with fail
                  refine (nines_calls r5s HLr5.out _).mono ?_
                  rintro e W22 ⟨rfl, hb⟩
                  replace B := Lib.hid (B.out.below hb)
                  replace BL := Lib.hid (below_then BL.out hb)
                  clear hb
                  go_wp2_with fail
                  refine (nines_calls r0s HLr0.out _).mono ?_
                  rintro e W23 ⟨rfl, hb⟩
                  replace B := Lib.hid (B.out.below hb)
                  replace BL := Lib.hid (below_then BL.out hb)
                  clear hb
                  go_wp2_with fail
                  refine (nines_calls r1s HLr1.out _).mono ?_
                  rintro e W24 ⟨rfl, hb⟩
                  replace B := Lib.hid (B.out.below hb)
                  replace BL := Lib.hid (below_then BL.out hb)
                  clear hb
                  go_wp2_with fail
                  go_ret
                  exact ⟨rfl, BL.out⟩
                | false =>
                  exact Bool.noConfusion (show true = false from HL.out.trans (by show (true && ((!(r3e == 0)) || ((r5e == 0) && (nineI r5s == ((((nineI r0s) * nineI r1s)) % 9))))) = false; rw [HA7.out, HA8.out, HA9.out]; rfl))
              | false =>
                exact Bool.noConfusion (show true = false from HL.out.trans (by show (true && ((!(r3e == 0)) || ((r5e == 0) && (nineI r5s == ((((nineI r0s) * nineI r1s)) % 9))))) = false; rw [HA7.out, HA8.out]; rfl))
            | false =>
              clear HL
              have f0_0 : ((r3e : Int) == 0) = false := HA7.out
              have f0_1 : ((r3e : Int) != 0) = true := by have h := HA7.out; simpa using h
              go_wp2_with fail
              go_ret
              exact ⟨rfl, BL.out⟩
end Go.Proofs.YthjpbbbmnmhmmaaGreatDoor
