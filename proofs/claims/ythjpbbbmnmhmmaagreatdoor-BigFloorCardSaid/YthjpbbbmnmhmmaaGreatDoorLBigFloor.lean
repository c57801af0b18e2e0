import Derived.Test.YthjpbbbmnmhmmaaGreatDoorA31
set_option linter.unusedVariables false
set_option linter.unusedSimpArgs false
namespace Go.Proofs.YthjpbbbmnmhmmaaGreatDoor
open Go.RowKit Go.Shelf Go.Lib
attribute [local go_sem ↓] run_val_eql run_val_neq

def BigFloor_s0 (x : Vl) (y : Vl) : Bool := true
def BigFloor_s1 (x : Vl) (y : Vl) (r0 : Vl × Int) (r1 : Vl × Int) (r2 : Vl × Int) : Bool := false
def BigFloor_s2 (x : Vl) (y : Vl) (r0 : Vl × Int) (r1 : Vl × Int) (r2 : Vl × Int) : Bool := (true && ((r2.2 == 31) || ((r2.2 == 30) && (veq y (⟨1, 0, []⟩ : Vl)))))
def BigFloor_s3 (x : Vl) (y : Vl) (r0 : Vl × Int) (r1 : Vl × Int) (r2 : Vl × Int) : Bool := false
def BigFloor_s4 (x : Vl) (y : Vl) (r0 : Vl × Int) (r1 : Vl × Int) (r2 : Vl × Int) (r3 : Bool × Int) (r4 : Bool × Int) : Bool := false
def BigFloor_s5 (x : Vl) (y : Vl) (r0 : Vl × Int) (r1 : Vl × Int) (r2 : Vl × Int) (r3 : Bool × Int) (r4 : Bool × Int) (r5 : Vl × Int) (r6 : Vl × Int) : Bool := false
def BigFloor_s6 (x : Vl) (y : Vl) (r0 : Vl × Int) (r1 : Vl × Int) (r2 : Vl × Int) (r3 : Bool × Int) (r4 : Bool × Int) (r5 : Vl × Int) (r6 : Vl × Int) : Bool := true
def BigFloor_s7 (x : Vl) (y : Vl) (r0 : Vl × Int) (r1 : Vl × Int) (r2 : Vl × Int) (r3 : Bool × Int) (r4 : Bool × Int) (r5 : Vl × Int) (r6 : Vl × Int) (r7 : Vl × Int) (r8 : Vl × Int) : Bool := ((((true && (r7.2 == 0)) && (r8.2 == 0)) && (veq r7.1 x)) && (veq r8.1 (⟨1, 0, []⟩ : Vl)))
def BigFloor_s8 (x : Vl) (y : Vl) (r0 : Vl × Int) (r1 : Vl × Int) (r2 : Vl × Int) (r3 : Bool × Int) (r4 : Bool × Int) (r5 : Vl × Int) (r6 : Vl × Int) (r7 : Vl × Int) : Bool := BigFloor_s7 x y r0 r1 r2 r3 r4 r5 r6 r7 (modR r0.1 y)
def BigFloor_s9 (x : Vl) (y : Vl) (r0 : Vl × Int) (r1 : Vl × Int) (r2 : Vl × Int) (r3 : Bool × Int) (r4 : Bool × Int) (r5 : Vl × Int) (r6 : Vl × Int) : Bool := BigFloor_s8 x y r0 r1 r2 r3 r4 r5 r6 (divR r0.1 y)
def BigFloor_s10 (x : Vl) (y : Vl) (r0 : Vl × Int) (r1 : Vl × Int) (r2 : Vl × Int) (r3 : Bool × Int) (r4 : Bool × Int) (r5 : Vl × Int) (r6 : Vl × Int) : Bool := if (!(r0.2 == 0)) = true then BigFloor_s6 x y r0 r1 r2 r3 r4 r5 r6 else BigFloor_s9 x y r0 r1 r2 r3 r4 r5 r6
def BigFloor_s11 (x : Vl) (y : Vl) (r0 : Vl × Int) (r1 : Vl × Int) (r2 : Vl × Int) (r3 : Bool × Int) (r4 : Bool × Int) (r5 : Vl × Int) (r6 : Vl × Int) : Bool := if (((r5.2 == 0) && (r6.2 == 0)) && (!(veq r5.1 r6.1))) = true then BigFloor_s5 x y r0 r1 r2 r3 r4 r5 r6 else BigFloor_s10 x y r0 r1 r2 r3 r4 r5 r6
def BigFloor_s12 (x : Vl) (y : Vl) (r0 : Vl × Int) (r1 : Vl × Int) (r2 : Vl × Int) (r3 : Bool × Int) (r4 : Bool × Int) (r5 : Vl × Int) : Bool := BigFloor_s11 x y r0 r1 r2 r3 r4 r5 (mulR y r1.1)
def BigFloor_s13 (x : Vl) (y : Vl) (r0 : Vl × Int) (r1 : Vl × Int) (r2 : Vl × Int) (r3 : Bool × Int) (r4 : Bool × Int) : Bool := BigFloor_s12 x y r0 r1 r2 r3 r4 (subR x r2.1)
def BigFloor_s14 (x : Vl) (y : Vl) (r0 : Vl × Int) (r1 : Vl × Int) (r2 : Vl × Int) (r3 : Bool × Int) (r4 : Bool × Int) : Bool := true
def BigFloor_s15 (x : Vl) (y : Vl) (r0 : Vl × Int) (r1 : Vl × Int) (r2 : Vl × Int) (r3 : Bool × Int) (r4 : Bool × Int) (r9 : Vl × Int) (r10 : Vl × Int) : Bool := ((((true && (r9.2 == 0)) && (r10.2 == 0)) && (veq r9.1 x)) && (veq r10.1 (⟨1, 0, []⟩ : Vl)))
def BigFloor_s16 (x : Vl) (y : Vl) (r0 : Vl × Int) (r1 : Vl × Int) (r2 : Vl × Int) (r3 : Bool × Int) (r4 : Bool × Int) (r9 : Vl × Int) : Bool := BigFloor_s15 x y r0 r1 r2 r3 r4 r9 (modR r0.1 y)
def BigFloor_s17 (x : Vl) (y : Vl) (r0 : Vl × Int) (r1 : Vl × Int) (r2 : Vl × Int) (r3 : Bool × Int) (r4 : Bool × Int) : Bool := BigFloor_s16 x y r0 r1 r2 r3 r4 (divR r0.1 y)
def BigFloor_s18 (x : Vl) (y : Vl) (r0 : Vl × Int) (r1 : Vl × Int) (r2 : Vl × Int) (r3 : Bool × Int) (r4 : Bool × Int) : Bool := if (!(r0.2 == 0)) = true then BigFloor_s14 x y r0 r1 r2 r3 r4 else BigFloor_s17 x y r0 r1 r2 r3 r4
def BigFloor_s19 (x : Vl) (y : Vl) (r0 : Vl × Int) (r1 : Vl × Int) (r2 : Vl × Int) (r3 : Bool × Int) (r4 : Bool × Int) : Bool := if (r1.2 == 0) = true then BigFloor_s13 x y r0 r1 r2 r3 r4 else BigFloor_s18 x y r0 r1 r2 r3 r4
def BigFloor_s20 (x : Vl) (y : Vl) (r0 : Vl × Int) (r1 : Vl × Int) (r2 : Vl × Int) (r3 : Bool × Int) (r4 : Bool × Int) : Bool := if ((!(r4.2 == 0)) || (!r4.1)) = true then BigFloor_s4 x y r0 r1 r2 r3 r4 else BigFloor_s19 x y r0 r1 r2 r3 r4
def BigFloor_s21 (x : Vl) (y : Vl) (r0 : Vl × Int) (r1 : Vl × Int) (r2 : Vl × Int) (r3 : Bool × Int) : Bool := BigFloor_s20 x y r0 r1 r2 r3 (lessR y r2.1)
def BigFloor_s22 (x : Vl) (y : Vl) (r0 : Vl × Int) (r1 : Vl × Int) (r2 : Vl × Int) (r3 : Bool × Int) : Bool := false
def BigFloor_s23 (x : Vl) (y : Vl) (r0 : Vl × Int) (r1 : Vl × Int) (r2 : Vl × Int) (r3 : Bool × Int) (r11 : Vl × Int) (r12 : Vl × Int) : Bool := false
def BigFloor_s24 (x : Vl) (y : Vl) (r0 : Vl × Int) (r1 : Vl × Int) (r2 : Vl × Int) (r3 : Bool × Int) (r11 : Vl × Int) (r12 : Vl × Int) : Bool := true
def BigFloor_s25 (x : Vl) (y : Vl) (r0 : Vl × Int) (r1 : Vl × Int) (r2 : Vl × Int) (r3 : Bool × Int) (r11 : Vl × Int) (r12 : Vl × Int) (r13 : Vl × Int) (r14 : Vl × Int) : Bool := ((((true && (r13.2 == 0)) && (r14.2 == 0)) && (veq r13.1 x)) && (veq r14.1 (⟨1, 0, []⟩ : Vl)))
def BigFloor_s26 (x : Vl) (y : Vl) (r0 : Vl × Int) (r1 : Vl × Int) (r2 : Vl × Int) (r3 : Bool × Int) (r11 : Vl × Int) (r12 : Vl × Int) (r13 : Vl × Int) : Bool := BigFloor_s25 x y r0 r1 r2 r3 r11 r12 r13 (modR r0.1 y)
def BigFloor_s27 (x : Vl) (y : Vl) (r0 : Vl × Int) (r1 : Vl × Int) (r2 : Vl × Int) (r3 : Bool × Int) (r11 : Vl × Int) (r12 : Vl × Int) : Bool := BigFloor_s26 x y r0 r1 r2 r3 r11 r12 (divR r0.1 y)
def BigFloor_s28 (x : Vl) (y : Vl) (r0 : Vl × Int) (r1 : Vl × Int) (r2 : Vl × Int) (r3 : Bool × Int) (r11 : Vl × Int) (r12 : Vl × Int) : Bool := if (!(r0.2 == 0)) = true then BigFloor_s24 x y r0 r1 r2 r3 r11 r12 else BigFloor_s27 x y r0 r1 r2 r3 r11 r12
def BigFloor_s29 (x : Vl) (y : Vl) (r0 : Vl × Int) (r1 : Vl × Int) (r2 : Vl × Int) (r3 : Bool × Int) (r11 : Vl × Int) (r12 : Vl × Int) : Bool := if (((r11.2 == 0) && (r12.2 == 0)) && (!(veq r11.1 r12.1))) = true then BigFloor_s23 x y r0 r1 r2 r3 r11 r12 else BigFloor_s28 x y r0 r1 r2 r3 r11 r12
def BigFloor_s30 (x : Vl) (y : Vl) (r0 : Vl × Int) (r1 : Vl × Int) (r2 : Vl × Int) (r3 : Bool × Int) (r11 : Vl × Int) : Bool := BigFloor_s29 x y r0 r1 r2 r3 r11 (mulR y r1.1)
def BigFloor_s31 (x : Vl) (y : Vl) (r0 : Vl × Int) (r1 : Vl × Int) (r2 : Vl × Int) (r3 : Bool × Int) : Bool := BigFloor_s30 x y r0 r1 r2 r3 (subR x r2.1)
def BigFloor_s32 (x : Vl) (y : Vl) (r0 : Vl × Int) (r1 : Vl × Int) (r2 : Vl × Int) (r3 : Bool × Int) : Bool := true
def BigFloor_s33 (x : Vl) (y : Vl) (r0 : Vl × Int) (r1 : Vl × Int) (r2 : Vl × Int) (r3 : Bool × Int) (r15 : Vl × Int) (r16 : Vl × Int) : Bool := ((((true && (r15.2 == 0)) && (r16.2 == 0)) && (veq r15.1 x)) && (veq r16.1 (⟨1, 0, []⟩ : Vl)))
def BigFloor_s34 (x : Vl) (y : Vl) (r0 : Vl × Int) (r1 : Vl × Int) (r2 : Vl × Int) (r3 : Bool × Int) (r15 : Vl × Int) : Bool := BigFloor_s33 x y r0 r1 r2 r3 r15 (modR r0.1 y)
def BigFloor_s35 (x : Vl) (y : Vl) (r0 : Vl × Int) (r1 : Vl × Int) (r2 : Vl × Int) (r3 : Bool × Int) : Bool := BigFloor_s34 x y r0 r1 r2 r3 (divR r0.1 y)
def BigFloor_s36 (x : Vl) (y : Vl) (r0 : Vl × Int) (r1 : Vl × Int) (r2 : Vl × Int) (r3 : Bool × Int) : Bool := if (!(r0.2 == 0)) = true then BigFloor_s32 x y r0 r1 r2 r3 else BigFloor_s35 x y r0 r1 r2 r3
def BigFloor_s37 (x : Vl) (y : Vl) (r0 : Vl × Int) (r1 : Vl × Int) (r2 : Vl × Int) (r3 : Bool × Int) : Bool := if (r1.2 == 0) = true then BigFloor_s31 x y r0 r1 r2 r3 else BigFloor_s36 x y r0 r1 r2 r3
def BigFloor_s38 (x : Vl) (y : Vl) (r0 : Vl × Int) (r1 : Vl × Int) (r2 : Vl × Int) (r3 : Bool × Int) : Bool := if ((!(r3.2 == 0)) || (!r3.1)) = true then BigFloor_s22 x y r0 r1 r2 r3 else BigFloor_s37 x y r0 r1 r2 r3
def BigFloor_s39 (x : Vl) (y : Vl) (r0 : Vl × Int) (r1 : Vl × Int) (r2 : Vl × Int) (r3 : Bool × Int) : Bool := if (negB y) = true then BigFloor_s21 x y r0 r1 r2 r3 else BigFloor_s38 x y r0 r1 r2 r3
def BigFloor_s40 (x : Vl) (y : Vl) (r0 : Vl × Int) (r1 : Vl × Int) (r2 : Vl × Int) : Bool := BigFloor_s39 x y r0 r1 r2 (lessR r2.1 y)
def BigFloor_s41 (x : Vl) (y : Vl) (r0 : Vl × Int) (r1 : Vl × Int) (r2 : Vl × Int) : Bool := if ((!(veq r2.1 (⟨1, 0, []⟩ : Vl))) && ((negB r2.1) != (negB y))) = true then BigFloor_s3 x y r0 r1 r2 else BigFloor_s40 x y r0 r1 r2
def BigFloor_s42 (x : Vl) (y : Vl) (r0 : Vl × Int) (r1 : Vl × Int) (r2 : Vl × Int) : Bool := if (!(r2.2 == 0)) = true then BigFloor_s2 x y r0 r1 r2 else BigFloor_s41 x y r0 r1 r2
def BigFloor_s43 (x : Vl) (y : Vl) (r0 : Vl × Int) (r1 : Vl × Int) (r2 : Vl × Int) : Bool := if ((!(r1.2 == r2.2)) && (!(r1.2 == 2))) = true then BigFloor_s1 x y r0 r1 r2 else BigFloor_s42 x y r0 r1 r2
def BigFloor_s44 (x : Vl) (y : Vl) (r0 : Vl × Int) (r1 : Vl × Int) : Bool := BigFloor_s43 x y r0 r1 (modR x y)
def BigFloor_s45 (x : Vl) (y : Vl) (r0 : Vl × Int) : Bool := BigFloor_s44 x y r0 (divR x y)
def BigFloor_s46 (x : Vl) (y : Vl) : Bool := BigFloor_s45 x y (mulR x y)
def BigFloor_s47 (x : Vl) (y : Vl) : Bool := if ((!(shortB x)) || (!(shortB y))) = true then BigFloor_s0 x y else BigFloor_s46 x y

set_option maxRecDepth 100000 in
set_option maxHeartbeats 16000000 in
theorem walk_BigFloor (x : Vl) (y : Vl) (hx : x.inp) (hy : y.inp) (w : World) (hE : Env w) (hr : true = BigFloor_s47 x y) :
    Calls Tryz.prog 10 #[x.val, y.val] w fun e w' => e = .returned (.bool true) ∧ Below w.heap.size w w' := by
  obtain ⟨xk, xn, xt⟩ := x
  obtain ⟨yk, yn, yt⟩ := y
  have HIx := Lib.hid hx
  have HIy := Lib.hid hy
  have HE := Lib.hid hE
  have HL := Lib.hid hr
  clear hE hr hx hy
  simp only [Vl.val]
  go_enter Tryz.func10, Tryz.ntmps10
  go_upto_region 1 with fail
  have hB : Bxs ((w.alloc (.cells #[.int .i64 xk, .int .i64 xn, .string ⟨List.toArray xt⟩] 23)).alloc (.cells #[.int .i64 yk, .int .i64 yn, .string ⟨List.toArray yt⟩] 23)) [(w.heap.size + 1, (⟨yk, yn, yt⟩ : Vl)), (w.heap.size, (⟨xk, xn, xt⟩ : Vl))] := by
    have h := (((show Bxs w [] from trivial).push (⟨xk, xn, xt⟩ : Vl) 23).push (⟨yk, yn, yt⟩ : Vl) 23)
    simpa only [World.size_alloc] using h
  have hL : Below w.heap.size w ((w.alloc (.cells #[.int .i64 xk, .int .i64 xn, .string ⟨List.toArray xt⟩] 23)).alloc (.cells #[.int .i64 yk, .int .i64 yn, .string ⟨List.toArray yt⟩] 23)) := (((Below.refl w.heap.size w).alloc (Nat.le_refl _) (.cells #[.int .i64 xk, .int .i64 xn, .string ⟨List.toArray xt⟩] 23)).alloc (by simp <;> omega) (.cells #[.int .i64 yk, .int .i64 yn, .string ⟨List.toArray yt⟩] 23))
  obtain ⟨W1, hW⟩ : ∃ X, ((w.alloc (.cells #[.int .i64 xk, .int .i64 xn, .string ⟨List.toArray xt⟩] 23)).alloc (.cells #[.int .i64 yk, .int .i64 yn, .string ⟨List.toArray yt⟩] 23)) = X := ⟨_, rfl⟩
  rw [hW] at hB hL ⊢
  clear hW
  obtain ⟨gb3, hg⟩ : ∃ g, w.heap.size + 1 = g := ⟨_, rfl⟩
  have HGb3 : Hid (w.heap.size ≤ gb3) := Lib.hid (by omega)
  rw [hg] at hB ⊢
  clear hg
  have HGb2 : Hid (w.heap.size ≤ w.heap.size) := Lib.hid (Nat.le_refl _)
  have B := Lib.hid hB
  have BL := Lib.hid hL
  clear hB hL
  -- region 1
  go_wp2_with fail
  refine (awakeV _ (HE.out.below BL.out)).mono ?_
  rintro e W2 ⟨rfl, hb⟩
  replace B := Lib.hid (B.out.below hb)
  replace BL := Lib.hid (below_then BL.out hb)
  clear hb
  go_upto_region 2 with fail
  -- region 2, a test
  obtain ⟨b0, h⟩ : ∃ b : Bool, (shortB (⟨xk, xn, xt⟩ : Vl)) = b := ⟨_, rfl⟩
  have HA0 := Lib.hid h
  clear h
  obtain ⟨b1, h⟩ : ∃ b : Bool, (shortB (⟨yk, yn, yt⟩ : Vl)) = b := ⟨_, rfl⟩
  have HA1 := Lib.hid h
  clear h
  obtain ⟨c1, h⟩ : ∃ c : Bool, ((!b0) || (!b1)) = c := ⟨_, rfl⟩
  have HCC := Lib.hid h
  clear h
  go_upto_region 2 with fail
  go_cut [30] from 23 to 30 (fun v wx => v = .bool c1 ∧ Hid (Bxs wx [(gb3, (⟨yk, yn, yt⟩ : Vl)), (w.heap.size, (⟨xk, xn, xt⟩ : Vl))]) ∧ Hid (Below w.heap.size w wx))
  case first =>
    clear HL
    cases b0 with
    | true =>
      cases b1 with
      | true =>
        have cb2_0 : W2.cell? ⟨w.heap.size, 0, none⟩ = some (.int .i64 xk) := (B.out.get 1 rfl).c0
        have cb2_1 : W2.cell? ⟨w.heap.size, 1, none⟩ = some (.int .i64 xn) := (B.out.get 1 rfl).c1
        have cb2_2 : W2.cell? ⟨w.heap.size, 2, none⟩ = some (.string ⟨List.toArray xt⟩) := (B.out.get 1 rfl).c2
        have cb3_0 : W2.cell? ⟨gb3, 0, none⟩ = some (.int .i64 yk) := (B.out.get 0 rfl).c0
        have cb3_1 : W2.cell? ⟨gb3, 1, none⟩ = some (.int .i64 yn) := (B.out.get 0 rfl).c1
        have cb3_2 : W2.cell? ⟨gb3, 2, none⟩ = some (.string ⟨List.toArray yt⟩) := (B.out.get 0 rfl).c2
        go_wp2_with fail
        refine (short_calls xk xn xt HIx.out.2 _).mono ?_
        rw [HA0.out]
        rintro e W3 ⟨rfl, hb⟩
        clear cb2_0 cb2_1 cb2_2 cb3_0 cb3_1 cb3_2
        replace B := Lib.hid (B.out.below hb)
        replace BL := Lib.hid (below_then BL.out hb)
        clear hb
        have cb2_0 : W3.cell? ⟨w.heap.size, 0, none⟩ = some (.int .i64 xk) := (B.out.get 1 rfl).c0
        have cb2_1 : W3.cell? ⟨w.heap.size, 1, none⟩ = some (.int .i64 xn) := (B.out.get 1 rfl).c1
        have cb2_2 : W3.cell? ⟨w.heap.size, 2, none⟩ = some (.string ⟨List.toArray xt⟩) := (B.out.get 1 rfl).c2
        have cb3_0 : W3.cell? ⟨gb3, 0, none⟩ = some (.int .i64 yk) := (B.out.get 0 rfl).c0
        have cb3_1 : W3.cell? ⟨gb3, 1, none⟩ = some (.int .i64 yn) := (B.out.get 0 rfl).c1
        have cb3_2 : W3.cell? ⟨gb3, 2, none⟩ = some (.string ⟨List.toArray yt⟩) := (B.out.get 0 rfl).c2
        go_wp2_with fail
        refine (short_calls yk yn yt HIy.out.2 _).mono ?_
        rw [HA1.out]
        rintro e W4 ⟨rfl, hb⟩
        clear cb2_0 cb2_1 cb2_2 cb3_0 cb3_1 cb3_2
        replace B := Lib.hid (B.out.below hb)
        replace BL := Lib.hid (below_then BL.out hb)
        clear hb
        have cb2_0 : W4.cell? ⟨w.heap.size, 0, none⟩ = some (.int .i64 xk) := (B.out.get 1 rfl).c0
        have cb2_1 : W4.cell? ⟨w.heap.size, 1, none⟩ = some (.int .i64 xn) := (B.out.get 1 rfl).c1
        have cb2_2 : W4.cell? ⟨w.heap.size, 2, none⟩ = some (.string ⟨List.toArray xt⟩) := (B.out.get 1 rfl).c2
        have cb3_0 : W4.cell? ⟨gb3, 0, none⟩ = some (.int .i64 yk) := (B.out.get 0 rfl).c0
        have cb3_1 : W4.cell? ⟨gb3, 1, none⟩ = some (.int .i64 yn) := (B.out.get 0 rfl).c1
        have cb3_2 : W4.cell? ⟨gb3, 2, none⟩ = some (.string ⟨List.toArray yt⟩) := (B.out.get 0 rfl).c2
        go_wp2_with fail
        go_meet
        exact ⟨congrArg Value.bool HCC.out, B, BL⟩
      | false =>
        have cb2_0 : W2.cell? ⟨w.heap.size, 0, none⟩ = some (.int .i64 xk) := (B.out.get 1 rfl).c0
        have cb2_1 : W2.cell? ⟨w.heap.size, 1, none⟩ = some (.int .i64 xn) := (B.out.get 1 rfl).c1
        have cb2_2 : W2.cell? ⟨w.heap.size, 2, none⟩ = some (.string ⟨List.toArray xt⟩) := (B.out.get 1 rfl).c2
        have cb3_0 : W2.cell? ⟨gb3, 0, none⟩ = some (.int .i64 yk) := (B.out.get 0 rfl).c0
        have cb3_1 : W2.cell? ⟨gb3, 1, none⟩ = some (.int .i64 yn) := (B.out.get 0 rfl).c1
        have cb3_2 : W2.cell? ⟨gb3, 2, none⟩ = some (.string ⟨List.toArray yt⟩) := (B.out.get 0 rfl).c2
        go_wp2_with fail
        refine (short_calls xk xn xt HIx.out.2 _).mono ?_
        rw [HA0.out]
        rintro e W5 ⟨rfl, hb⟩
        clear cb2_0 cb2_1 cb2_2 cb3_0 cb3_1 cb3_2
        replace B := Lib.hid (B.out.below hb)
        replace BL := Lib.hid (below_then BL.out hb)
        clear hb
        have cb2_0 : W5.cell? ⟨w.heap.size, 0, none⟩ = some (.int .i64 xk) := (B.out.get 1 rfl).c0
        have cb2_1 : W5.cell? ⟨w.heap.size, 1, none⟩ = some (.int .i64 xn) := (B.out.get 1 rfl).c1
        have cb2_2 : W5.cell? ⟨w.heap.size, 2, none⟩ = some (.string ⟨List.toArray xt⟩) := (B.out.get 1 rfl).c2
        have cb3_0 : W5.cell? ⟨gb3, 0, none⟩ = some (.int .i64 yk) := (B.out.get 0 rfl).c0
        have cb3_1 : W5.cell? ⟨gb3, 1, none⟩ = some (.int .i64 yn) := (B.out.get 0 rfl).c1
        have cb3_2 : W5.cell? ⟨gb3, 2, none⟩ = some (.string ⟨List.toArray yt⟩) := (B.out.get 0 rfl).c2
        go_wp2_with fail
        refine (short_calls yk yn yt HIy.out.2 _).mono ?_
        rw [HA1.out]
        rintro e W6 ⟨rfl, hb⟩
        clear cb2_0 cb2_1 cb2_2 cb3_0 cb3_1 cb3_2
        replace B := Lib.hid (B.out.below hb)
        replace BL := Lib.hid (below_then BL.out hb)
        clear hb
        have cb2_0 : W6.cell? ⟨w.heap.size, 0, none⟩ = some (.int .i64 xk) := (B.out.get 1 rfl).c0
        have cb2_1 : W6.cell? ⟨w.heap.size, 1, none⟩ = some (.int .i64 xn) := (B.out.get 1 rfl).c1
        have cb2_2 : W6.cell? ⟨w.heap.size, 2, none⟩ = some (.string ⟨List.toArray xt⟩) := (B.out.get 1 rfl).c2
        have cb3_0 : W6.cell? ⟨gb3, 0, none⟩ = some (.int .i64 yk) := (B.out.get 0 rfl).c0
        have cb3_1 : W6.cell? ⟨gb3, 1, none⟩ = some (.int .i64 yn) := (B.out.get 0 rfl).c1
        have cb3_2 : W6.cell? ⟨gb3, 2, none⟩ = some (.string ⟨List.toArray yt⟩) := (B.out.get 0 rfl).c2
        go_wp2_with fail
        go_meet
        exact ⟨congrArg Value.bool HCC.out, B, BL⟩
    | false =>
      have cb2_0 : W2.cell? ⟨w.heap.size, 0, none⟩ = some (.int .i64 xk) := (B.out.get 1 rfl).c0
      have cb2_1 : W2.cell? ⟨w.heap.size, 1, none⟩ = some (.int .i64 xn) := (B.out.get 1 rfl).c1
      have cb2_2 : W2.cell? ⟨w.heap.size, 2, none⟩ = some (.string ⟨List.toArray xt⟩) := (B.out.get 1 rfl).c2
      go_wp2_with fail
      refine (short_calls xk xn xt HIx.out.2 _).mono ?_
      rw [HA0.out]
      rintro e W7 ⟨rfl, hb⟩
      clear cb2_0 cb2_1 cb2_2
      replace B := Lib.hid (B.out.below hb)
      replace BL := Lib.hid (below_then BL.out hb)
      clear hb
      have cb2_0 : W7.cell? ⟨w.heap.size, 0, none⟩ = some (.int .i64 xk) := (B.out.get 1 rfl).c0
      have cb2_1 : W7.cell? ⟨w.heap.size, 1, none⟩ = some (.int .i64 xn) := (B.out.get 1 rfl).c1
      have cb2_2 : W7.cell? ⟨w.heap.size, 2, none⟩ = some (.string ⟨List.toArray xt⟩) := (B.out.get 1 rfl).c2
      go_wp2_with fail
      go_meet
      exact ⟨congrArg Value.bool HCC.out, B, BL⟩
  case rest =>
    clear B BL
    obtain ⟨rfl, B, BL⟩ := hcut
    obtain ⟨W8, hW⟩ : ∃ X, wc = X := ⟨_, rfl⟩
    rw [hW] at B BL ⊢
    clear hW
    have HCW : Hid (((!(shortB (⟨xk, xn, xt⟩ : Vl))) || (!(shortB (⟨yk, yn, yt⟩ : Vl)))) = c1) := Lib.hid (by rw [HA0.out, HA1.out]; exact HCC.out)
    clear HCC HA0 HA1
    cases c1 with
    | true =>
      replace HL := Lib.hid (show true = BigFloor_s0 (⟨xk, xn, xt⟩ : Vl) (⟨yk, yn, yt⟩ : Vl) from HL.out.trans (if_pos HCW.out))
      go_wp2_with fail
      go_ret
      exact ⟨rfl, BL.out⟩
    | false =>
      have HOx : Hid (Vl.ok (⟨xk, xn, xt⟩ : Vl)) := Lib.hid ⟨HIx.out.1, by have h := HCW.out; simp [shortB] at h; show xt.length ≤ 100000; omega⟩
      have HOy : Hid (Vl.ok (⟨yk, yn, yt⟩ : Vl)) := Lib.hid ⟨HIy.out.1, by have h := HCW.out; simp [shortB] at h; show yt.length ≤ 100000; omega⟩
      replace HL := Lib.hid (show true = BigFloor_s46 (⟨xk, xn, xt⟩ : Vl) (⟨yk, yn, yt⟩ : Vl) from HL.out.trans ((if_neg (fun h => Bool.noConfusion (HCW.out.symm.trans h)))))
      -- region 4
      have cb2_0 : W8.cell? ⟨w.heap.size, 0, none⟩ = some (.int .i64 xk) := (B.out.get 1 rfl).c0
      have cb2_1 : W8.cell? ⟨w.heap.size, 1, none⟩ = some (.int .i64 xn) := (B.out.get 1 rfl).c1
      have cb2_2 : W8.cell? ⟨w.heap.size, 2, none⟩ = some (.string ⟨List.toArray xt⟩) := (B.out.get 1 rfl).c2
      have cb3_0 : W8.cell? ⟨gb3, 0, none⟩ = some (.int .i64 yk) := (B.out.get 0 rfl).c0
      have cb3_1 : W8.cell? ⟨gb3, 1, none⟩ = some (.int .i64 yn) := (B.out.get 0 rfl).c1
      have cb3_2 : W8.cell? ⟨gb3, 2, none⟩ = some (.string ⟨List.toArray yt⟩) := (B.out.get 0 rfl).c2
      obtain ⟨⟨⟨r0k, r0n, r0t⟩, r0e⟩, hr0⟩ : ∃ p, mulR (⟨xk, xn, xt⟩ : Vl) (⟨yk, yn, yt⟩ : Vl) = p := ⟨_, rfl⟩
      have hc0 := fun (W : World) (hW : Env W) => mul_pub (⟨xk, xn, xt⟩ : Vl) (⟨yk, yn, yt⟩ : Vl) HOx.out HOy.out W hW
      have ho0 := mulR_ok (⟨xk, xn, xt⟩ : Vl) (⟨yk, yn, yt⟩ : Vl)
      rw [hr0] at hc0 ho0
      simp only [Vl.val, pr] at hc0
      have HC0 := Lib.hid hc0; have HOr0 : Hid (Vl.ok ⟨r0k, r0n, r0t⟩) := Lib.hid ho0; have HR0 := Lib.hid hr0
      clear hc0 ho0 hr0
      go_wp2_with fail
      refine (HC0.out _ (HE.out.below BL.out)).mono ?_
      rintro e W9 ⟨rfl, hb⟩
      clear cb2_0 cb2_1 cb2_2 cb3_0 cb3_1 cb3_2
      replace B := Lib.hid (B.out.below hb)
      replace BL := Lib.hid (below_then BL.out hb)
      clear hb
      go_upto_region 5 with fail
      have hB : Bxs (W9.alloc (.cells #[.int .i64 r0k, .int .i64 r0n, .string ⟨List.toArray r0t⟩] 23)) ((W9.heap.size, (⟨r0k, r0n, r0t⟩ : Vl)) :: [(gb3, (⟨yk, yn, yt⟩ : Vl)), (w.heap.size, (⟨xk, xn, xt⟩ : Vl))]) := B.out.push (⟨r0k, r0n, r0t⟩ : Vl) 23
      have hL : Below w.heap.size w (W9.alloc (.cells #[.int .i64 r0k, .int .i64 r0n, .string ⟨List.toArray r0t⟩] 23)) := BL.out.alloc BL.out.size _
      obtain ⟨W10, hW⟩ : ∃ X, W9.alloc (.cells #[.int .i64 r0k, .int .i64 r0n, .string ⟨List.toArray r0t⟩] 23) = X := ⟨_, rfl⟩
      obtain ⟨g0, hg⟩ : ∃ g, W9.heap.size = g := ⟨_, rfl⟩
      rw [hW] at hB hL ⊢
      rw [hg] at hB ⊢
      have HGb6_4_1 : Hid (w.heap.size ≤ g0) := Lib.hid (by rw [← hg]; exact BL.out.size)
      replace B := Lib.hid hB
      replace BL := Lib.hid hL
      clear hB hL hW hg
      replace HL := Lib.hid (show true = BigFloor_s45 (⟨xk, xn, xt⟩ : Vl) (⟨yk, yn, yt⟩ : Vl) ((⟨r0k, r0n, r0t⟩, r0e) : Vl × Int) from HL.out.trans (by unfold BigFloor_s46; rw [HR0.out]))
      -- region 5
      have cb2_0 : W10.cell? ⟨w.heap.size, 0, none⟩ = some (.int .i64 xk) := (B.out.get 2 rfl).c0
      have cb2_1 : W10.cell? ⟨w.heap.size, 1, none⟩ = some (.int .i64 xn) := (B.out.get 2 rfl).c1
      have cb2_2 : W10.cell? ⟨w.heap.size, 2, none⟩ = some (.string ⟨List.toArray xt⟩) := (B.out.get 2 rfl).c2
      have cb3_0 : W10.cell? ⟨gb3, 0, none⟩ = some (.int .i64 yk) := (B.out.get 1 rfl).c0
      have cb3_1 : W10.cell? ⟨gb3, 1, none⟩ = some (.int .i64 yn) := (B.out.get 1 rfl).c1
      have cb3_2 : W10.cell? ⟨gb3, 2, none⟩ = some (.string ⟨List.toArray yt⟩) := (B.out.get 1 rfl).c2
      obtain ⟨⟨⟨r1k, r1n, r1t⟩, r1e⟩, hr1⟩ : ∃ p, divR (⟨xk, xn, xt⟩ : Vl) (⟨yk, yn, yt⟩ : Vl) = p := ⟨_, rfl⟩
      have hc1 := fun (W : World) (hW : Env W) => div_pub (⟨xk, xn, xt⟩ : Vl) (⟨yk, yn, yt⟩ : Vl) HOx.out HOy.out W hW
      have ho1 := divR_ok (⟨xk, xn, xt⟩ : Vl) (⟨yk, yn, yt⟩ : Vl)
      rw [hr1] at hc1 ho1
      simp only [Vl.val, pr] at hc1
      have HC1 := Lib.hid hc1; have HOr1 : Hid (Vl.ok ⟨r1k, r1n, r1t⟩) := Lib.hid ho1; have HR1 := Lib.hid hr1
      clear hc1 ho1 hr1
      go_wp2_with fail
      refine (HC1.out _ (HE.out.below BL.out)).mono ?_
      rintro e W11 ⟨rfl, hb⟩
      clear cb2_0 cb2_1 cb2_2 cb3_0 cb3_1 cb3_2
      replace B := Lib.hid (B.out.below hb)
      replace BL := Lib.hid (below_then BL.out hb)
      clear hb
      go_upto_region 6 with fail
      have hB : Bxs (W11.alloc (.cells #[.int .i64 r1k, .int .i64 r1n, .string ⟨List.toArray r1t⟩] 23)) ((W11.heap.size, (⟨r1k, r1n, r1t⟩ : Vl)) :: [(g0, (⟨r0k, r0n, r0t⟩ : Vl)), (gb3, (⟨yk, yn, yt⟩ : Vl)), (w.heap.size, (⟨xk, xn, xt⟩ : Vl))]) := B.out.push (⟨r1k, r1n, r1t⟩ : Vl) 23
      have hL : Below w.heap.size w (W11.alloc (.cells #[.int .i64 r1k, .int .i64 r1n, .string ⟨List.toArray r1t⟩] 23)) := BL.out.alloc BL.out.size _
      obtain ⟨W12, hW⟩ : ∃ X, W11.alloc (.cells #[.int .i64 r1k, .int .i64 r1n, .string ⟨List.toArray r1t⟩] 23) = X := ⟨_, rfl⟩
      obtain ⟨g1, hg⟩ : ∃ g, W11.heap.size = g := ⟨_, rfl⟩
      rw [hW] at hB hL ⊢
      rw [hg] at hB ⊢
      have HGb8_5_2 : Hid (w.heap.size ≤ g1) := Lib.hid (by rw [← hg]; exact BL.out.size)
      replace B := Lib.hid hB
      replace BL := Lib.hid hL
      clear hB hL hW hg
      replace HL := Lib.hid (show true = BigFloor_s44 (⟨xk, xn, xt⟩ : Vl) (⟨yk, yn, yt⟩ : Vl) ((⟨r0k, r0n, r0t⟩, r0e) : Vl × Int) ((⟨r1k, r1n, r1t⟩, r1e) : Vl × Int) from HL.out.trans (by unfold BigFloor_s45; rw [HR1.out]))
      -- region 6
      have cb2_0 : W12.cell? ⟨w.heap.size, 0, none⟩ = some (.int .i64 xk) := (B.out.get 3 rfl).c0
      have cb2_1 : W12.cell? ⟨w.heap.size, 1, none⟩ = some (.int .i64 xn) := (B.out.get 3 rfl).c1
      have cb2_2 : W12.cell? ⟨w.heap.size, 2, none⟩ = some (.string ⟨List.toArray xt⟩) := (B.out.get 3 rfl).c2
      have cb3_0 : W12.cell? ⟨gb3, 0, none⟩ = some (.int .i64 yk) := (B.out.get 2 rfl).c0
      have cb3_1 : W12.cell? ⟨gb3, 1, none⟩ = some (.int .i64 yn) := (B.out.get 2 rfl).c1
      have cb3_2 : W12.cell? ⟨gb3, 2, none⟩ = some (.string ⟨List.toArray yt⟩) := (B.out.get 2 rfl).c2
      obtain ⟨⟨⟨r2k, r2n, r2t⟩, r2e⟩, hr2⟩ : ∃ p, modR (⟨xk, xn, xt⟩ : Vl) (⟨yk, yn, yt⟩ : Vl) = p := ⟨_, rfl⟩
      have hc2 := fun (W : World) (hW : Env W) => mod_pub (⟨xk, xn, xt⟩ : Vl) (⟨yk, yn, yt⟩ : Vl) HOx.out HOy.out W hW
      have ho2 := modR_ok (⟨xk, xn, xt⟩ : Vl) (⟨yk, yn, yt⟩ : Vl)
      rw [hr2] at hc2 ho2
      simp only [Vl.val, pr] at hc2
      have HC2 := Lib.hid hc2; have HOr2 : Hid (Vl.ok ⟨r2k, r2n, r2t⟩) := Lib.hid ho2; have HR2 := Lib.hid hr2
      clear hc2 ho2 hr2
      go_wp2_with fail
      refine (HC2.out _ (HE.out.below BL.out)).mono ?_
      rintro e W13 ⟨rfl, hb⟩
      clear cb2_0 cb2_1 cb2_2 cb3_0 cb3_1 cb3_2
      replace B := Lib.hid (B.out.below hb)
      replace BL := Lib.hid (below_then BL.out hb)
      clear hb
      go_upto_region 7 with fail
      have hB : Bxs (W13.alloc (.cells #[.int .i64 r2k, .int .i64 r2n, .string ⟨List.toArray r2t⟩] 23)) ((W13.heap.size, (⟨r2k, r2n, r2t⟩ : Vl)) :: [(g1, (⟨r1k, r1n, r1t⟩ : Vl)), (g0, (⟨r0k, r0n, r0t⟩ : Vl)), (gb3, (⟨yk, yn, yt⟩ : Vl)), (w.heap.size, (⟨xk, xn, xt⟩ : Vl))]) := B.out.push (⟨r2k, r2n, r2t⟩ : Vl) 23
      have hL : Below w.heap.size w (W13.alloc (.cells #[.int .i64 r2k, .int .i64 r2n, .string ⟨List.toArray r2t⟩] 23)) := BL.out.alloc BL.out.size _
      obtain ⟨W14, hW⟩ : ∃ X, W13.alloc (.cells #[.int .i64 r2k, .int .i64 r2n, .string ⟨List.toArray r2t⟩] 23) = X := ⟨_, rfl⟩
      obtain ⟨g2, hg⟩ : ∃ g, W13.heap.size = g := ⟨_, rfl⟩
      rw [hW] at hB hL ⊢
      rw [hg] at hB ⊢
      have HGb10_6_3 : Hid (w.heap.size ≤ g2) := Lib.hid (by rw [← hg]; exact BL.out.size)
      replace B := Lib.hid hB
      replace BL := Lib.hid hL
      clear hB hL hW hg
      replace HL := Lib.hid (show true = BigFloor_s43 (⟨xk, xn, xt⟩ : Vl) (⟨yk, yn, yt⟩ : Vl) ((⟨r0k, r0n, r0t⟩, r0e) : Vl × Int) ((⟨r1k, r1n, r1t⟩, r1e) : Vl × Int) ((⟨r2k, r2n, r2t⟩, r2e) : Vl × Int) from HL.out.trans (by unfold BigFloor_s44; rw [HR2.out]))
      -- region 7, a test
      obtain ⟨b2, h⟩ : ∃ b : Bool, (r1e == r2e) = b := ⟨_, rfl⟩
      have HA2 := Lib.hid h
      clear h
      obtain ⟨b3, h⟩ : ∃ b : Bool, (r1e == 2) = b := ⟨_, rfl⟩
      have HA3 := Lib.hid h
      clear h
      have HCF : ((!(r1e == r2e)) && (!(r1e == 2))) = false := Bool.eq_false_iff.2 fun h => Bool.noConfusion (show true = false from HL.out.trans (if_pos h))
      have HCB : ((!b2) && (!b3)) = false := by
        have h := HCF
        rw [HA2.out, HA3.out] at h
        exact h
      have HCW := Lib.hid HCF
      have HCC := Lib.hid HCB
      clear HCF HCB
      go_upto_region 7 with fail
      go_cut [56] from 50 to 56 (fun v wx => v = .bool false ∧ Hid (Bxs wx [(g2, (⟨r2k, r2n, r2t⟩ : Vl)), (g1, (⟨r1k, r1n, r1t⟩ : Vl)), (g0, (⟨r0k, r0n, r0t⟩ : Vl)), (gb3, (⟨yk, yn, yt⟩ : Vl)), (w.heap.size, (⟨xk, xn, xt⟩ : Vl))]) ∧ Hid (Below w.heap.size w wx))
      case first =>
        clear HL
        cases b2 with
        | true =>
          have f0_0 : ((r1e : Int) == r2e) = true := HA2.out
          have f0_1 : ((r1e : Int) != r2e) = false := by have h := HA2.out; simpa using h
          go_wp2_with fail
          go_meet
          exact ⟨rfl, B, BL⟩
        | false =>
          cases b3 with
          | true =>
            have f0_0 : ((r1e : Int) == r2e) = false := HA2.out
            have f0_1 : ((r1e : Int) != r2e) = true := by have h := HA2.out; simpa using h
            have f1_0 : ((r1e : Int) == 2) = true := HA3.out
            have f1_1 : ((r1e : Int) != 2) = false := by have h := HA3.out; simpa using h
            go_wp2_with fail
            go_meet
            exact ⟨rfl, B, BL⟩
          | false =>
            exact Bool.noConfusion (show true = false from HCC.out)
      case rest =>
        clear B BL
        obtain ⟨rfl, B, BL⟩ := hcut
        obtain ⟨W15, hW⟩ : ∃ X, wc = X := ⟨_, rfl⟩
        rw [hW] at B BL ⊢
        clear hW
        clear HCC HA2 HA3
        replace HL := Lib.hid (show true = BigFloor_s42 (⟨xk, xn, xt⟩ : Vl) (⟨yk, yn, yt⟩ : Vl) ((⟨r0k, r0n, r0t⟩, r0e) : Vl × Int) ((⟨r1k, r1n, r1t⟩, r1e) : Vl × Int) ((⟨r2k, r2n, r2t⟩, r2e) : Vl × Int) from HL.out.trans ((if_neg (fun h => Bool.noConfusion (HCW.out.symm.trans h)))))
        -- region 9, a test
        obtain ⟨b4, h⟩ : ∃ b : Bool, (r2e == 0) = b := ⟨_, rfl⟩
        have HA4 := Lib.hid h
        clear h
        obtain ⟨c6, h⟩ : ∃ c : Bool, (!b4) = c := ⟨_, rfl⟩
        have HCC := Lib.hid h
        clear h
        go_upto_region 9 with fail
        go_cut [58] from 57 to 58 (fun v wx => v = .bool c6 ∧ Hid (Bxs wx [(g2, (⟨r2k, r2n, r2t⟩ : Vl)), (g1, (⟨r1k, r1n, r1t⟩ : Vl)), (g0, (⟨r0k, r0n, r0t⟩ : Vl)), (gb3, (⟨yk, yn, yt⟩ : Vl)), (w.heap.size, (⟨xk, xn, xt⟩ : Vl))]) ∧ Hid (Below w.heap.size w wx))
        case first =>
          clear HL
          cases b4 with
          | true =>
            have f0_0 : ((r2e : Int) == 0) = true := HA4.out
            have f0_1 : ((r2e : Int) != 0) = false := by have h := HA4.out; simpa using h
            go_wp2_with fail
            go_meet
            exact ⟨congrArg Value.bool HCC.out, B, BL⟩
          | false =>
            have f0_0 : ((r2e : Int) == 0) = false := HA4.out
            have f0_1 : ((r2e : Int) != 0) = true := by have h := HA4.out; simpa using h
            go_wp2_with fail
            go_meet
            exact ⟨congrArg Value.bool HCC.out, B, BL⟩
        case rest =>
          clear B BL
          obtain ⟨rfl, B, BL⟩ := hcut
          obtain ⟨W16, hW⟩ : ∃ X, wc = X := ⟨_, rfl⟩
          rw [hW] at B BL ⊢
          clear hW
          have HCW : Hid ((!(r2e == 0)) = c6) := Lib.hid (by rw [HA4.out]; exact HCC.out)
          clear HCC HA4
          cases c6 with
          | true =>
            replace HL := Lib.hid (show true = BigFloor_s2 (⟨xk, xn, xt⟩ : Vl) (⟨yk, yn, yt⟩ : Vl) ((⟨r0k, r0n, r0t⟩, r0e) : Vl × Int) ((⟨r1k, r1n, r1t⟩, r1e) : Vl × Int) ((⟨r2k, r2n, r2t⟩, r2e) : Vl × Int) from HL.out.trans (if_pos HCW.out))
            -- region 10, the end
            obtain ⟨b5, h⟩ : ∃ b : Bool, (r2e == 31) = b := ⟨_, rfl⟩
            have HA5 := Lib.hid h
            clear h
            obtain ⟨b6, h⟩ : ∃ b : Bool, (r2e == 30) = b := ⟨_, rfl⟩
            have HA6 := Lib.hid h
            clear h
            obtain ⟨b7, h⟩ : ∃ b : Bool, (veqB yk yn yt 1 0 []) = b := ⟨_, rfl⟩
            have HA7 := Lib.hid h
            clear h
            cases b5 with
            | true =>
              clear HL
              go_upto_region 10 with fail
              have f0_0 : ((r2e : Int) == 31) = true := HA5.out
              have f0_1 : ((r2e : Int) != 31) = false := by have h := HA5.out; simpa using h
              refine wp_region_noPanic ?_
              refine region_late (fun (X : World) => True) (fun _ => false) (by kernel_rfl) ?_
              have hb := (Below.refl W16.heap.size W16).drew
              obtain ⟨W17, hW⟩ : ∃ X, W16.drew = X := ⟨_, rfl⟩
              rw [hW] at hb ⊢
              clear hW
              replace B := Lib.hid (B.out.below hb)
              replace BL := Lib.hid (below_then BL.out hb)
              clear hb
              have hHeld : True := trivial
              refine late_pure_at (some 59) (i := 0) (v := (.bool true)) rfl rfl rfl (by kernel_rfl) (by kernel_rfl) (by kernel_rfl) (fun _ _ _ h => h) (Or.inl ⟨by rfl, by intro w _; go_simp⟩) (fun _ => hHeld) ?_
              try simp only [Act.put, List.setIfInBounds_toArray, List.set_cons_zero, List.set_cons_succ]
              refine late_pure_at (some 60) (i := 1) (v := (.bool true)) rfl rfl rfl (by kernel_rfl) (by kernel_rfl) (by kernel_rfl) (fun _ _ _ h => h) (Or.inl ⟨by rfl, by intro w _; go_simp⟩) (fun _ => hHeld) ?_
              try simp only [Act.put, List.setIfInBounds_toArray, List.set_cons_zero, List.set_cons_succ]
              refine late_pure_at (some 61) (i := 2) (v := (.int .i64 r2e)) rfl rfl rfl (by kernel_rfl) (by kernel_rfl) (by kernel_rfl) (fun _ _ _ h => h) (Or.inl ⟨by rfl, by intro w _; go_simp⟩) (fun _ => hHeld) ?_
              try simp only [Act.put, List.setIfInBounds_toArray, List.set_cons_zero, List.set_cons_succ]
              refine late_pure_at (some 62) (i := 3) (v := (.bool true)) rfl rfl rfl (by kernel_rfl) (by kernel_rfl) (by kernel_rfl) (fun _ _ _ h => h) (Or.inl ⟨by rfl, by intro w _; go_simp⟩) (fun _ => hHeld) ?_
              try simp only [Act.put, List.setIfInBounds_toArray, List.set_cons_zero, List.set_cons_succ]
              refine late_pure_at (some 63) (i := 4) (v := (.bool true)) rfl rfl rfl (by kernel_rfl) (by kernel_rfl) (by kernel_rfl) (fun _ _ _ h => h) (Or.inl ⟨by rfl, by intro w _; go_simp⟩) (fun _ => hHeld) ?_
              try simp only [Act.put, List.setIfInBounds_toArray, List.set_cons_zero, List.set_cons_succ]
              refine late_pure_at (some 64) (i := 5) (v := undef) rfl rfl rfl (by kernel_rfl) (by kernel_rfl) (by kernel_rfl) (fun _ _ _ h => h) (Or.inr ⟨by rfl, rfl⟩) (fun _ => hHeld) ?_
              try simp only [Act.put, List.setIfInBounds_toArray, List.set_cons_zero, List.set_cons_succ]
              refine late_pure_at (some 65) (i := 6) (v := undef) rfl rfl rfl (by kernel_rfl) (by kernel_rfl) (by kernel_rfl) (fun _ _ _ h => h) (Or.inr ⟨by rfl, rfl⟩) (fun _ => hHeld) ?_
              try simp only [Act.put, List.setIfInBounds_toArray, List.set_cons_zero, List.set_cons_succ]
              refine late_pure_at (some 66) (i := 7) (v := undef) rfl rfl rfl (by kernel_rfl) (by kernel_rfl) (by kernel_rfl) (fun _ _ _ h => h) (Or.inr ⟨by rfl, rfl⟩) (fun _ => hHeld) ?_
              try simp only [Act.put, List.setIfInBounds_toArray, List.set_cons_zero, List.set_cons_succ]
              refine late_pure_at (some 67) (i := 8) (v := undef) rfl rfl rfl (by kernel_rfl) (by kernel_rfl) (by kernel_rfl) (fun _ _ _ h => h) (Or.inr ⟨by rfl, rfl⟩) (fun _ => hHeld) ?_
              try simp only [Act.put, List.setIfInBounds_toArray, List.set_cons_zero, List.set_cons_succ]
              refine late_pure_at (some 68) (i := 9) (v := undef) rfl rfl rfl (by kernel_rfl) (by kernel_rfl) (by kernel_rfl) (fun _ _ _ h => h) (Or.inr ⟨by rfl, rfl⟩) (fun _ => hHeld) ?_
              try simp only [Act.put, List.setIfInBounds_toArray, List.set_cons_zero, List.set_cons_succ]
              refine late_pure_at (some 69) (i := 10) (v := undef) rfl rfl rfl (by kernel_rfl) (by kernel_rfl) (by kernel_rfl) (fun _ _ _ h => h) (Or.inr ⟨by rfl, rfl⟩) (fun _ => hHeld) ?_
              try simp only [Act.put, List.setIfInBounds_toArray, List.set_cons_zero, List.set_cons_succ]
              refine late_pure_at (some 70) (i := 11) (v := undef) rfl rfl rfl (by kernel_rfl) (by kernel_rfl) (by kernel_rfl) (fun _ _ _ h => h) (Or.inr ⟨by rfl, rfl⟩) (fun _ => hHeld) ?_
              try simp only [Act.put, List.setIfInBounds_toArray, List.set_cons_zero, List.set_cons_succ]
              refine late_pure_at (some 71) (i := 12) (v := (.bool true)) rfl rfl rfl (by kernel_rfl) (by kernel_rfl) (by kernel_rfl) (fun _ _ _ h => h) (Or.inl ⟨by rfl, by intro w _; go_simp⟩) (fun _ => hHeld) ?_
              try simp only [Act.put, List.setIfInBounds_toArray, List.set_cons_zero, List.set_cons_succ]
              refine late_pure_at (some 72) (i := 13) (v := (.bool true)) rfl rfl rfl (by kernel_rfl) (by kernel_rfl) (by kernel_rfl) (fun _ _ _ h => h) (Or.inl ⟨by rfl, by intro w _; go_simp⟩) (fun _ => hHeld) ?_
              try simp only [Act.put, List.setIfInBounds_toArray, List.set_cons_zero, List.set_cons_succ]
              refine late_pure_at (some 4) (i := 14) (v := (.bool true)) rfl rfl rfl (by kernel_rfl) (by kernel_rfl) (by kernel_rfl) (fun _ _ _ h => h) (Or.inl ⟨by rfl, by intro w _; go_simp⟩) (fun _ => hHeld) ?_
              try simp only [Act.put, List.setIfInBounds_toArray, List.set_cons_zero, List.set_cons_succ]
              refine late_done (by kernel_rfl) ?_ _
              refine NoPanic.normal ?_
              go_wp2_with fail
              go_ret
              exact ⟨rfl, BL.out⟩
            | false =>
              cases b6 with
              | true =>
                cases b7 with
                | true =>
                  clear HL
                  go_upto_region 10 with fail
                  have f0_0 : ((r2e : Int) == 31) = false := HA5.out
                  have f0_1 : ((r2e : Int) != 31) = true := by have h := HA5.out; simpa using h
                  have f1_0 : ((r2e : Int) == 30) = true := HA6.out
                  have f1_1 : ((r2e : Int) != 30) = false := by have h := HA6.out; simpa using h
                  have f2_0 : (veqB yk yn yt 1 0 []) = true := HA7.out
                  refine wp_region_noPanic ?_
                  refine region_late (fun (X : World) => X.cell? ⟨gb3, 0, none⟩ = some (.int .i64 yk) ∧ X.cell? ⟨gb3, 1, none⟩ = some (.int .i64 yn) ∧ X.cell? ⟨gb3, 2, none⟩ = some (.string ⟨List.toArray yt⟩)) (fun _ => false) (by kernel_rfl) ?_
                  have hb := (Below.refl W16.heap.size W16).drew
                  obtain ⟨W18, hW⟩ : ∃ X, W16.drew = X := ⟨_, rfl⟩
                  rw [hW] at hb ⊢
                  clear hW
                  replace B := Lib.hid (B.out.below hb)
                  replace BL := Lib.hid (below_then BL.out hb)
                  clear hb
                  have hHeld : W18.cell? ⟨gb3, 0, none⟩ = some (.int .i64 yk) ∧ W18.cell? ⟨gb3, 1, none⟩ = some (.int .i64 yn) ∧ W18.cell? ⟨gb3, 2, none⟩ = some (.string ⟨List.toArray yt⟩) := ⟨(B.out.get 3 rfl).c0, (B.out.get 3 rfl).c1, (B.out.get 3 rfl).c2⟩
                  refine late_pure_at (some 59) (i := 0) (v := (.bool true)) rfl rfl rfl (by kernel_rfl) (by kernel_rfl) (by kernel_rfl) (fun _ _ _ h => h) (Or.inl ⟨by rfl, by intro w _; go_simp⟩) (fun _ => hHeld) ?_
                  try simp only [Act.put, List.setIfInBounds_toArray, List.set_cons_zero, List.set_cons_succ]
                  refine late_pure_at (some 60) (i := 1) (v := (.bool true)) rfl rfl rfl (by kernel_rfl) (by kernel_rfl) (by kernel_rfl) (fun _ _ _ h => h) (Or.inl ⟨by rfl, by intro w _; go_simp⟩) (fun _ => hHeld) ?_
                  try simp only [Act.put, List.setIfInBounds_toArray, List.set_cons_zero, List.set_cons_succ]
                  refine late_pure_at (some 61) (i := 2) (v := (.int .i64 r2e)) rfl rfl rfl (by kernel_rfl) (by kernel_rfl) (by kernel_rfl) (fun _ _ _ h => h) (Or.inl ⟨by rfl, by intro w _; go_simp⟩) (fun _ => hHeld) ?_
                  try simp only [Act.put, List.setIfInBounds_toArray, List.set_cons_zero, List.set_cons_succ]
                  refine late_pure_at (some 62) (i := 3) (v := (.bool false)) rfl rfl rfl (by kernel_rfl) (by kernel_rfl) (by kernel_rfl) (fun _ _ _ h => h) (Or.inl ⟨by rfl, by intro w _; go_simp⟩) (fun _ => hHeld) ?_
                  try simp only [Act.put, List.setIfInBounds_toArray, List.set_cons_zero, List.set_cons_succ]
                  refine late_pure_at (some 63) (i := 4) (v := (.bool false)) rfl rfl rfl (by kernel_rfl) (by kernel_rfl) (by kernel_rfl) (fun _ _ _ h => h) (Or.inl ⟨by rfl, by intro w _; go_simp⟩) (fun _ => hHeld) ?_
                  try simp only [Act.put, List.setIfInBounds_toArray, List.set_cons_zero, List.set_cons_succ]
                  refine late_pure_at (some 64) (i := 5) (v := (.int .i64 r2e)) rfl rfl rfl (by kernel_rfl) (by kernel_rfl) (by kernel_rfl) (fun _ _ _ h => h) (Or.inl ⟨by rfl, by intro w _; go_simp⟩) (fun _ => hHeld) ?_
                  try simp only [Act.put, List.setIfInBounds_toArray, List.set_cons_zero, List.set_cons_succ]
                  refine late_pure_at (some 65) (i := 6) (v := (.bool true)) rfl rfl rfl (by kernel_rfl) (by kernel_rfl) (by kernel_rfl) (fun _ _ _ h => h) (Or.inl ⟨by rfl, by intro w _; go_simp⟩) (fun _ => hHeld) ?_
                  try simp only [Act.put, List.setIfInBounds_toArray, List.set_cons_zero, List.set_cons_succ]
                  refine late_pure_at (some 66) (i := 7) (v := (.bool true)) rfl rfl rfl (by kernel_rfl) (by kernel_rfl) (by kernel_rfl) (fun _ _ _ h => h) (Or.inl ⟨by rfl, by intro w _; go_simp⟩) (fun _ => hHeld) ?_
                  try simp only [Act.put, List.setIfInBounds_toArray, List.set_cons_zero, List.set_cons_succ]
                  refine late_take_at (some 67) (i := 8) (v := (.agg #[.int .i64 yk, .int .i64 yn, .string ⟨List.toArray yt⟩])) rfl rfl rfl (by kernel_rfl) (by kernel_rfl) (by kernel_rfl) (by kernel_rfl) (fun _ _ _ h => h) clean_none (Or.inl ⟨by rfl, by intro w hSw; go_split_ands; go_simp⟩) hHeld ?_
                  try simp only [Act.put, List.setIfInBounds_toArray, List.set_cons_zero, List.set_cons_succ]
                  refine late_ready (rs := [9]) (by kernel_rfl) (by simp) ?_
                  refine AllLate.cons rfl (fun K hK => ?_) ?_
                  · skip
                    go_simp
                    refine (num_calls 0 _).mono ?_
                    rintro e W19 ⟨rfl, hb⟩
                    clear hHeld
                    replace B := Lib.hid (B.out.below hb)
                    replace BL := Lib.hid (below_then BL.out hb)
                    clear hb
                    have hHeld : W19.cell? ⟨gb3, 0, none⟩ = some (.int .i64 yk) ∧ W19.cell? ⟨gb3, 1, none⟩ = some (.int .i64 yn) ∧ W19.cell? ⟨gb3, 2, none⟩ = some (.string ⟨List.toArray yt⟩) := ⟨(B.out.get 3 rfl).c0, (B.out.get 3 rfl).c1, (B.out.get 3 rfl).c2⟩
                    dsimp only
                    refine hK.out _ _ (fun _ => hHeld) ?_
                    clear hK K
                    try simp only [Act.put, List.setIfInBounds_toArray, List.set_cons_zero, List.set_cons_succ]
                    refine late_pure_at (some 69) (i := 10) (v := (.bool true)) rfl rfl rfl (by kernel_rfl) (by kernel_rfl) (by kernel_rfl) (fun _ _ _ h => h) (Or.inl ⟨by rfl, by intro w _; go_simp⟩) (fun _ => hHeld) ?_
                    try simp only [Act.put, List.setIfInBounds_toArray, List.set_cons_zero, List.set_cons_succ]
                    refine late_pure_at (some 70) (i := 11) (v := (.bool true)) rfl rfl rfl (by kernel_rfl) (by kernel_rfl) (by kernel_rfl) (fun _ _ _ h => h) (Or.inl ⟨by rfl, by intro w _; go_simp⟩) (fun _ => hHeld) ?_
                    try simp only [Act.put, List.setIfInBounds_toArray, List.set_cons_zero, List.set_cons_succ]
                    refine late_pure_at (some 71) (i := 12) (v := (.bool true)) rfl rfl rfl (by kernel_rfl) (by kernel_rfl) (by kernel_rfl) (fun _ _ _ h => h) (Or.inl ⟨by rfl, by intro w _; go_simp⟩) (fun _ => hHeld) ?_
                    try simp only [Act.put, List.setIfInBounds_toArray, List.set_cons_zero, List.set_cons_succ]
                    refine late_pure_at (some 72) (i := 13) (v := (.bool true)) rfl rfl rfl (by kernel_rfl) (by kernel_rfl) (by kernel_rfl) (fun _ _ _ h => h) (Or.inl ⟨by rfl, by intro w _; go_simp⟩) (fun _ => hHeld) ?_
                    try simp only [Act.put, List.setIfInBounds_toArray, List.set_cons_zero, List.set_cons_succ]
                    refine late_pure_at (some 4) (i := 14) (v := (.bool true)) rfl rfl rfl (by kernel_rfl) (by kernel_rfl) (by kernel_rfl) (fun _ _ _ h => h) (Or.inl ⟨by rfl, by intro w _; go_simp⟩) (fun _ => hHeld) ?_
                    try simp only [Act.put, List.setIfInBounds_toArray, List.set_cons_zero, List.set_cons_succ]
                    refine late_done (by kernel_rfl) ?_ _
                    refine NoPanic.normal ?_
                    go_wp2_with fail
                    go_ret
                    exact ⟨rfl, BL.out⟩
                  exact AllLate.nil
                | false =>
                  exact Bool.noConfusion (show true = false from HL.out.trans (by show (true && ((r2e == 31) || ((r2e == 30) && (veqB yk yn yt 1 0 [])))) = false; rw [HA5.out, HA6.out, HA7.out]; rfl))
              | false =>
                exact Bool.noConfusion (show true = false from HL.out.trans (by show (true && ((r2e == 31) || ((r2e == 30) && (veqB yk yn yt 1 0 [])))) = false; rw [HA5.out, HA6.out]; rfl))
          | false =>
            replace HL := Lib.hid (show true = BigFloor_s41 (⟨xk, xn, xt⟩ : Vl) (⟨yk, yn, yt⟩ : Vl) ((⟨r0k, r0n, r0t⟩, r0e) : Vl × Int) ((⟨r1k, r1n, r1t⟩, r1e) : Vl × Int) ((⟨r2k, r2n, r2t⟩, r2e) : Vl × Int) from HL.out.trans ((if_neg (fun h => Bool.noConfusion (HCW.out.symm.trans h)))))
            -- region 11, a test
            obtain ⟨b8, h⟩ : ∃ b : Bool, (veqB r2k r2n r2t 1 0 []) = b := ⟨_, rfl⟩
            have HA8 := Lib.hid h
            clear h
            obtain ⟨b9, h⟩ : ∃ b : Bool, (negB (⟨r2k, r2n, r2t⟩ : Vl)) = b := ⟨_, rfl⟩
            have HA9 := Lib.hid h
            clear h
            obtain ⟨b10, h⟩ : ∃ b : Bool, (negB (⟨yk, yn, yt⟩ : Vl)) = b := ⟨_, rfl⟩
            have HA10 := Lib.hid h
            clear h
            have HCF : ((!(veqB r2k r2n r2t 1 0 [])) && ((negB (⟨r2k, r2n, r2t⟩ : Vl)) != (negB (⟨yk, yn, yt⟩ : Vl)))) = false := Bool.eq_false_iff.2 fun h => Bool.noConfusion (show true = false from HL.out.trans (if_pos h))
            have HCB : ((!b8) && (b9 != b10)) = false := by
              have h := HCF
              rw [HA8.out, HA9.out, HA10.out] at h
              exact h
            have HCW := Lib.hid HCF
            have HCC := Lib.hid HCB
            clear HCF HCB
            go_upto_region 11 with fail
            go_cut [82] from 73 to 82 (fun v wx => v = .bool false ∧ Hid (Bxs wx [(g2, (⟨r2k, r2n, r2t⟩ : Vl)), (g1, (⟨r1k, r1n, r1t⟩ : Vl)), (g0, (⟨r0k, r0n, r0t⟩ : Vl)), (gb3, (⟨yk, yn, yt⟩ : Vl)), (w.heap.size, (⟨xk, xn, xt⟩ : Vl))]) ∧ Hid (Below w.heap.size w wx))
            case first =>
              clear HL
              cases b8 with
              | true =>
                have f0_0 : (veqB r2k r2n r2t 1 0 []) = true := HA8.out
                refine wp_region_noPanic ?_
                refine region_late (fun (X : World) => X.cell? ⟨g2, 0, none⟩ = some (.int .i64 r2k) ∧ X.cell? ⟨g2, 1, none⟩ = some (.int .i64 r2n) ∧ X.cell? ⟨g2, 2, none⟩ = some (.string ⟨List.toArray r2t⟩)) (fun _ => false) (by kernel_rfl) ?_
                have hb := (Below.refl W16.heap.size W16).drew
                obtain ⟨W20, hW⟩ : ∃ X, W16.drew = X := ⟨_, rfl⟩
                rw [hW] at hb ⊢
                clear hW
                replace B := Lib.hid (B.out.below hb)
                replace BL := Lib.hid (below_then BL.out hb)
                clear hb
                have hHeld : W20.cell? ⟨g2, 0, none⟩ = some (.int .i64 r2k) ∧ W20.cell? ⟨g2, 1, none⟩ = some (.int .i64 r2n) ∧ W20.cell? ⟨g2, 2, none⟩ = some (.string ⟨List.toArray r2t⟩) := ⟨(B.out.get 0 rfl).c0, (B.out.get 0 rfl).c1, (B.out.get 0 rfl).c2⟩
                refine late_take_at (some 73) (i := 0) (v := (.agg #[.int .i64 r2k, .int .i64 r2n, .string ⟨List.toArray r2t⟩])) rfl rfl rfl (by kernel_rfl) (by kernel_rfl) (by kernel_rfl) (by kernel_rfl) (fun _ _ _ h => h) clean_none (Or.inl ⟨by rfl, by intro w hSw; go_split_ands; go_simp⟩) hHeld ?_
                try simp only [Act.put, List.setIfInBounds_toArray, List.set_cons_zero, List.set_cons_succ]
                refine late_ready (rs := [1]) (by kernel_rfl) (by simp) ?_
                refine AllLate.cons rfl (fun K hK => ?_) ?_
                · skip
                  go_simp
                  refine (num_calls 0 _).mono ?_
                  rintro e W21 ⟨rfl, hb⟩
                  clear hHeld
                  replace B := Lib.hid (B.out.below hb)
                  replace BL := Lib.hid (below_then BL.out hb)
                  clear hb
                  have hHeld : W21.cell? ⟨g2, 0, none⟩ = some (.int .i64 r2k) ∧ W21.cell? ⟨g2, 1, none⟩ = some (.int .i64 r2n) ∧ W21.cell? ⟨g2, 2, none⟩ = some (.string ⟨List.toArray r2t⟩) := ⟨(B.out.get 0 rfl).c0, (B.out.get 0 rfl).c1, (B.out.get 0 rfl).c2⟩
                  dsimp only
                  refine hK.out _ _ (fun _ => hHeld) ?_
                  clear hK K
                  try simp only [Act.put, List.setIfInBounds_toArray, List.set_cons_zero, List.set_cons_succ]
                  refine late_pure_at (some 75) (i := 2) (v := (.bool false)) rfl rfl rfl (by kernel_rfl) (by kernel_rfl) (by kernel_rfl) (fun _ _ _ h => h) (Or.inl ⟨by rfl, by intro w _; go_simp⟩) (fun _ => hHeld) ?_
                  try simp only [Act.put, List.setIfInBounds_toArray, List.set_cons_zero, List.set_cons_succ]
                  refine late_pure_at (some 76) (i := 3) (v := (.bool false)) rfl rfl rfl (by kernel_rfl) (by kernel_rfl) (by kernel_rfl) (fun _ _ _ h => h) (Or.inl ⟨by rfl, by intro w _; go_simp⟩) (fun _ => hHeld) ?_
                  try simp only [Act.put, List.setIfInBounds_toArray, List.set_cons_zero, List.set_cons_succ]
                  refine late_pure_at (some 77) (i := 4) (v := undef) rfl rfl rfl (by kernel_rfl) (by kernel_rfl) (by kernel_rfl) (fun _ _ _ h => h) (Or.inr ⟨by rfl, rfl⟩) (fun _ => hHeld) ?_
                  try simp only [Act.put, List.setIfInBounds_toArray, List.set_cons_zero, List.set_cons_succ]
                  refine late_pure_at (some 78) (i := 5) (v := undef) rfl rfl rfl (by kernel_rfl) (by kernel_rfl) (by kernel_rfl) (fun _ _ _ h => h) (Or.inr ⟨by rfl, rfl⟩) (fun _ => hHeld) ?_
                  try simp only [Act.put, List.setIfInBounds_toArray, List.set_cons_zero, List.set_cons_succ]
                  refine late_pure_at (some 79) (i := 6) (v := undef) rfl rfl rfl (by kernel_rfl) (by kernel_rfl) (by kernel_rfl) (fun _ _ _ h => h) (Or.inr ⟨by rfl, rfl⟩) (fun _ => hHeld) ?_
                  try simp only [Act.put, List.setIfInBounds_toArray, List.set_cons_zero, List.set_cons_succ]
                  refine late_pure_at (some 80) (i := 7) (v := undef) rfl rfl rfl (by kernel_rfl) (by kernel_rfl) (by kernel_rfl) (fun _ _ _ h => h) (Or.inr ⟨by rfl, rfl⟩) (fun _ => hHeld) ?_
                  try simp only [Act.put, List.setIfInBounds_toArray, List.set_cons_zero, List.set_cons_succ]
                  refine late_pure_at (some 81) (i := 8) (v := undef) rfl rfl rfl (by kernel_rfl) (by kernel_rfl) (by kernel_rfl) (fun _ _ _ h => h) (Or.inr ⟨by rfl, rfl⟩) (fun _ => hHeld) ?_
                  try simp only [Act.put, List.setIfInBounds_toArray, List.set_cons_zero, List.set_cons_succ]
                  refine late_pure_at (some 82) (i := 9) (v := (.bool false)) rfl rfl rfl (by kernel_rfl) (by kernel_rfl) (by kernel_rfl) (fun _ _ _ h => h) (Or.inl ⟨by rfl, by intro w _; go_simp⟩) (fun _ => hHeld) ?_
                  try simp only [Act.put, List.setIfInBounds_toArray, List.set_cons_zero, List.set_cons_succ]
                  refine late_done (by kernel_rfl) ?_ _
                  refine NoPanic.normal ?_
                  go_wp2_with fail
                  go_meet
                  exact ⟨rfl, B, BL⟩
                exact AllLate.nil
              | false =>
                cases b9 with
                | true =>
                  cases b10 with
                  | true =>
                    have f0_0 : (veqB r2k r2n r2t 1 0 []) = false := HA8.out
                    refine wp_region_noPanic ?_
                    refine region_late (fun (X : World) => X.cell? ⟨g2, 0, none⟩ = some (.int .i64 r2k) ∧ X.cell? ⟨g2, 1, none⟩ = some (.int .i64 r2n) ∧ X.cell? ⟨g2, 2, none⟩ = some (.string ⟨List.toArray r2t⟩) ∧ X.cell? ⟨gb3, 0, none⟩ = some (.int .i64 yk) ∧ X.cell? ⟨gb3, 1, none⟩ = some (.int .i64 yn) ∧ X.cell? ⟨gb3, 2, none⟩ = some (.string ⟨List.toArray yt⟩)) (fun _ => false) (by kernel_rfl) ?_
                    have hb := (Below.refl W16.heap.size W16).drew
                    obtain ⟨W22, hW⟩ : ∃ X, W16.drew = X := ⟨_, rfl⟩
                    rw [hW] at hb ⊢
                    clear hW
                    replace B := Lib.hid (B.out.below hb)
                    replace BL := Lib.hid (below_then BL.out hb)
                    clear hb
                    have hHeld : W22.cell? ⟨g2, 0, none⟩ = some (.int .i64 r2k) ∧ W22.cell? ⟨g2, 1, none⟩ = some (.int .i64 r2n) ∧ W22.cell? ⟨g2, 2, none⟩ = some (.string ⟨List.toArray r2t⟩) ∧ W22.cell? ⟨gb3, 0, none⟩ = some (.int .i64 yk) ∧ W22.cell? ⟨gb3, 1, none⟩ = some (.int .i64 yn) ∧ W22.cell? ⟨gb3, 2, none⟩ = some (.string ⟨List.toArray yt⟩) := ⟨(B.out.get 0 rfl).c0, (B.out.get 0 rfl).c1, (B.out.get 0 rfl).c2, (B.out.get 3 rfl).c0, (B.out.get 3 rfl).c1, (B.out.get 3 rfl).c2⟩
                    refine late_take_at (some 73) (i := 0) (v := (.agg #[.int .i64 r2k, .int .i64 r2n, .string ⟨List.toArray r2t⟩])) rfl rfl rfl (by kernel_rfl) (by kernel_rfl) (by kernel_rfl) (by kernel_rfl) (fun _ _ _ h => h) clean_none (Or.inl ⟨by rfl, by intro w hSw; go_split_ands; go_simp⟩) hHeld ?_
                    try simp only [Act.put, List.setIfInBounds_toArray, List.set_cons_zero, List.set_cons_succ]
                    refine late_ready (rs := [1]) (by kernel_rfl) (by simp) ?_
                    refine AllLate.cons rfl (fun K hK => ?_) ?_
                    · skip
                      go_simp
                      refine (num_calls 0 _).mono ?_
                      rintro e W23 ⟨rfl, hb⟩
                      clear hHeld
                      replace B := Lib.hid (B.out.below hb)
                      replace BL := Lib.hid (below_then BL.out hb)
                      clear hb
                      have hHeld : W23.cell? ⟨g2, 0, none⟩ = some (.int .i64 r2k) ∧ W23.cell? ⟨g2, 1, none⟩ = some (.int .i64 r2n) ∧ W23.cell? ⟨g2, 2, none⟩ = some (.string ⟨List.toArray r2t⟩) ∧ W23.cell? ⟨gb3, 0, none⟩ = some (.int .i64 yk) ∧ W23.cell? ⟨gb3, 1, none⟩ = some (.int .i64 yn) ∧ W23.cell? ⟨gb3, 2, none⟩ = some (.string ⟨List.toArray yt⟩) := ⟨(B.out.get 0 rfl).c0, (B.out.get 0 rfl).c1, (B.out.get 0 rfl).c2, (B.out.get 3 rfl).c0, (B.out.get 3 rfl).c1, (B.out.get 3 rfl).c2⟩
                      dsimp only
                      refine hK.out _ _ (fun _ => hHeld) ?_
                      clear hK K
                      try simp only [Act.put, List.setIfInBounds_toArray, List.set_cons_zero, List.set_cons_succ]
                      refine late_pure_at (some 75) (i := 2) (v := (.bool true)) rfl rfl rfl (by kernel_rfl) (by kernel_rfl) (by kernel_rfl) (fun _ _ _ h => h) (Or.inl ⟨by rfl, by intro w _; go_simp⟩) (fun _ => hHeld) ?_
                      try simp only [Act.put, List.setIfInBounds_toArray, List.set_cons_zero, List.set_cons_succ]
                      refine late_pure_at (some 76) (i := 3) (v := (.bool true)) rfl rfl rfl (by kernel_rfl) (by kernel_rfl) (by kernel_rfl) (fun _ _ _ h => h) (Or.inl ⟨by rfl, by intro w _; go_simp⟩) (fun _ => hHeld) ?_
                      try simp only [Act.put, List.setIfInBounds_toArray, List.set_cons_zero, List.set_cons_succ]
                      refine late_take_at (some 77) (i := 4) (v := (.agg #[.int .i64 r2k, .int .i64 r2n, .string ⟨List.toArray r2t⟩])) rfl rfl rfl (by kernel_rfl) (by kernel_rfl) (by kernel_rfl) (by kernel_rfl) (fun _ _ _ h => h) clean_none (Or.inl ⟨by rfl, by intro w hSw; go_split_ands; go_simp⟩) hHeld ?_
                      try simp only [Act.put, List.setIfInBounds_toArray, List.set_cons_zero, List.set_cons_succ]
                      refine late_take_at (some 79) (i := 6) (v := (.agg #[.int .i64 yk, .int .i64 yn, .string ⟨List.toArray yt⟩])) rfl rfl rfl (by kernel_rfl) (by kernel_rfl) (by kernel_rfl) (by kernel_rfl) (fun _ _ _ h => h) clean_none (Or.inl ⟨by rfl, by intro w hSw; go_split_ands; go_simp⟩) hHeld ?_
                      try simp only [Act.put, List.setIfInBounds_toArray, List.set_cons_zero, List.set_cons_succ]
                      refine late_ready (rs := [5]) (by kernel_rfl) (by simp) ?_
                      refine AllLate.cons rfl (fun K hK => ?_) ?_
                      · skip
                        go_simp
                        refine (negative_calls r2k r2n r2t (Nat.le_trans HOr2.out.t (by decide)) _).mono ?_
                        rw [HA9.out]
                        rintro e W24 ⟨rfl, hb⟩
                        clear hHeld
                        replace B := Lib.hid (B.out.below hb)
                        replace BL := Lib.hid (below_then BL.out hb)
                        clear hb
                        have hHeld : W24.cell? ⟨g2, 0, none⟩ = some (.int .i64 r2k) ∧ W24.cell? ⟨g2, 1, none⟩ = some (.int .i64 r2n) ∧ W24.cell? ⟨g2, 2, none⟩ = some (.string ⟨List.toArray r2t⟩) ∧ W24.cell? ⟨gb3, 0, none⟩ = some (.int .i64 yk) ∧ W24.cell? ⟨gb3, 1, none⟩ = some (.int .i64 yn) ∧ W24.cell? ⟨gb3, 2, none⟩ = some (.string ⟨List.toArray yt⟩) := ⟨(B.out.get 0 rfl).c0, (B.out.get 0 rfl).c1, (B.out.get 0 rfl).c2, (B.out.get 3 rfl).c0, (B.out.get 3 rfl).c1, (B.out.get 3 rfl).c2⟩
                        dsimp only
                        refine hK.out _ _ (fun _ => hHeld) ?_
                        clear hK K
                        try simp only [Act.put, List.setIfInBounds_toArray, List.set_cons_zero, List.set_cons_succ]
                        refine late_ready (rs := [7]) (by kernel_rfl) (by simp) ?_
                        refine AllLate.cons rfl (fun K hK => ?_) ?_
                        · skip
                          go_simp
                          refine (negative_calls yk yn yt (Nat.le_trans HOy.out.t (by decide)) _).mono ?_
                          rw [HA10.out]
                          rintro e W25 ⟨rfl, hb⟩
                          clear hHeld
                          replace B := Lib.hid (B.out.below hb)
                          replace BL := Lib.hid (below_then BL.out hb)
                          clear hb
                          have hHeld : W25.cell? ⟨g2, 0, none⟩ = some (.int .i64 r2k) ∧ W25.cell? ⟨g2, 1, none⟩ = some (.int .i64 r2n) ∧ W25.cell? ⟨g2, 2, none⟩ = some (.string ⟨List.toArray r2t⟩) ∧ W25.cell? ⟨gb3, 0, none⟩ = some (.int .i64 yk) ∧ W25.cell? ⟨gb3, 1, none⟩ = some (.int .i64 yn) ∧ W25.cell? ⟨gb3, 2, none⟩ = some (.string ⟨List.toArray yt⟩) := ⟨(B.out.get 0 rfl).c0, (B.out.get 0 rfl).c1, (B.out.get 0 rfl).c2, (B.out.get 3 rfl).c0, (B.out.get 3 rfl).c1, (B.out.get 3 rfl).c2⟩
                          dsimp only
                          refine hK.out _ _ (fun _ => hHeld) ?_
                          clear hK K
                          try simp only [Act.put, List.setIfInBounds_toArray, List.set_cons_zero, List.set_cons_succ]
                          refine late_pure_at (some 81) (i := 8) (v := (.bool false)) rfl rfl rfl (by kernel_rfl) (by kernel_rfl) (by kernel_rfl) (fun _ _ _ h => h) (Or.inl ⟨by rfl, by intro w _; go_simp⟩) (fun _ => hHeld) ?_
                          try simp only [Act.put, List.setIfInBounds_toArray, List.set_cons_zero, List.set_cons_succ]
                          refine late_pure_at (some 82) (i := 9) (v := (.bool false)) rfl rfl rfl (by kernel_rfl) (by kernel_rfl) (by kernel_rfl) (fun _ _ _ h => h) (Or.inl ⟨by rfl, by intro w _; go_simp⟩) (fun _ => hHeld) ?_
                          try simp only [Act.put, List.setIfInBounds_toArray, List.set_cons_zero, List.set_cons_succ]
                          refine late_done (by kernel_rfl) ?_ _
                          refine NoPanic.normal ?_
                          go_wp2_with fail
                          go_meet
                          exact ⟨rfl, B, BL⟩
                        exact AllLate.nil
                      exact AllLate.nil
                    exact AllLate.nil
                  | false =>
                    exact Bool.noConfusion (show true = false from HCC.out)
                | false =>
                  cases b10 with
                  | true =>
                    exact Bool.noConfusion (show true = false from HCC.out)
                  | false =>
                    have f0_0 : (veqB r2k r2n r2t 1 0 []) = false := HA8.out
                    refine wp_region_noPanic ?_
                    refine region_late (fun (X : World) => X.cell? ⟨g2, 0, none⟩ = some (.int .i64 r2k) ∧ X.cell? ⟨g2, 1, none⟩ = some (.int .i64 r2n) ∧ X.cell? ⟨g2, 2, none⟩ = some (.string ⟨List.toArray r2t⟩) ∧ X.cell? ⟨gb3, 0, none⟩ = some (.int .i64 yk) ∧ X.cell? ⟨gb3, 1, none⟩ = some (.int .i64 yn) ∧ X.cell? ⟨gb3, 2, none⟩ = some (.string ⟨List.toArray yt⟩)) (fun _ => false) (by kernel_rfl) ?_
                    have hb := (Below.refl W16.heap.size W16).drew
                    obtain ⟨W26, hW⟩ : ∃ X, W16.drew = X := ⟨_, rfl⟩
                    rw [hW] at hb ⊢
                    clear hW
                    replace B := Lib.hid (B.out.below hb)
                    replace BL := Lib.hid (below_then BL.out hb)
                    clear hb
                    have hHeld : W26.cell? ⟨g2, 0, none⟩ = some (.int .i64 r2k) ∧ W26.cell? ⟨g2, 1, none⟩ = some (.int .i64 r2n) ∧ W26.cell? ⟨g2, 2, none⟩ = some (.string ⟨List.toArray r2t⟩) ∧ W26.cell? ⟨gb3, 0, none⟩ = some (.int .i64 yk) ∧ W26.cell? ⟨gb3, 1, none⟩ = some (.int .i64 yn) ∧ W26.cell? ⟨gb3, 2, none⟩ = some (.string ⟨List.toArray yt⟩) := ⟨(B.out.get 0 rfl).c0, (B.out.get 0 rfl).c1, (B.out.get 0 rfl).c2, (B.out.get 3 rfl).c0, (B.out.get 3 rfl).c1, (B.out.get 3 rfl).c2⟩
                    refine late_take_at (some 73) (i := 0) (v := (.agg #[.int .i64 r2k, .int .i64 r2n, .string ⟨List.toArray r2t⟩])) rfl rfl rfl (by kernel_rfl) (by kernel_rfl) (by kernel_rfl) (by kernel_rfl) (fun _ _ _ h => h) clean_none (Or.inl ⟨by rfl, by intro w hSw; go_split_ands; go_simp⟩) hHeld ?_
                    try simp only [Act.put, List.setIfInBounds_toArray, List.set_cons_zero, List.set_cons_succ]
                    refine late_ready (rs := [1]) (by kernel_rfl) (by simp) ?_
                    refine AllLate.cons rfl (fun K hK => ?_) ?_
                    · skip
                      go_simp
                      refine (num_calls 0 _).mono ?_
                      rintro e W27 ⟨rfl, hb⟩
                      clear hHeld
                      replace B := Lib.hid (B.out.below hb)
                      replace BL := Lib.hid (below_then BL.out hb)
                      clear hb
                      have hHeld : W27.cell? ⟨g2, 0, none⟩ = some (.int .i64 r2k) ∧ W27.cell? ⟨g2, 1, none⟩ = some (.int .i64 r2n) ∧ W27.cell? ⟨g2, 2, none⟩ = some (.string ⟨List.toArray r2t⟩) ∧ W27.cell? ⟨gb3, 0, none⟩ = some (.int .i64 yk) ∧ W27.cell? ⟨gb3, 1, none⟩ = some (.int .i64 yn) ∧ W27.cell? ⟨gb3, 2, none⟩ = some (.string ⟨List.toArray yt⟩) := ⟨(B.out.get 0 rfl).c0, (B.out.get 0 rfl).c1, (B.out.get 0 rfl).c2, (B.out.get 3 rfl).c0, (B.out.get 3 rfl).c1, (B.out.get 3 rfl).c2⟩
                      dsimp only
                      refine hK.out _ _ (fun _ => hHeld) ?_
                      clear hK K
                      try simp only [Act.put, List.setIfInBounds_toArray, List.set_cons_zero, List.set_cons_succ]
                      refine late_pure_at (some 75) (i := 2) (v := (.bool true)) rfl rfl rfl (by kernel_rfl) (by kernel_rfl) (by kernel_rfl) (fun _ _ _ h => h) (Or.inl ⟨by rfl, by intro w _; go_simp⟩) (fun _ => hHeld) ?_
                      try simp only [Act.put, List.setIfInBounds_toArray, List.set_cons_zero, List.set_cons_succ]
                      refine late_pure_at (some 76) (i := 3) (v := (.bool true)) rfl rfl rfl (by kernel_rfl) (by kernel_rfl) (by kernel_rfl) (fun _ _ _ h => h) (Or.inl ⟨by rfl, by intro w _; go_simp⟩) (fun _ => hHeld) ?_
                      try simp only [Act.put, List.setIfInBounds_toArray, List.set_cons_zero, List.set_cons_succ]
                      refine late_take_at (some 77) (i := 4) (v := (.agg #[.int .i64 r2k, .int .i64 r2n, .string ⟨List.toArray r2t⟩])) rfl rfl rfl (by kernel_rfl) (by kernel_rfl) (by kernel_rfl) (by kernel_rfl) (fun _ _ _ h => h) clean_none (Or.inl ⟨by rfl, by intro w hSw; go_split_ands; go_simp⟩) hHeld ?_
                      try simp only [Act.put, List.setIfInBounds_toArray, List.set_cons_zero, List.set_cons_succ]
                      refine late_take_at (some 79) (i := 6) (v := (.agg #[.int .i64 yk, .int .i64 yn, .string ⟨List.toArray yt⟩])) rfl rfl rfl (by kernel_rfl) (by kernel_rfl) (by kernel_rfl) (by kernel_rfl) (fun _ _ _ h => h) clean_none (Or.inl ⟨by rfl, by intro w hSw; go_split_ands; go_simp⟩) hHeld ?_
                      try simp only [Act.put, List.setIfInBounds_toArray, List.set_cons_zero, List.set_cons_succ]
                      refine late_ready (rs := [5]) (by kernel_rfl) (by simp) ?_
                      refine AllLate.cons rfl (fun K hK => ?_) ?_
                      · skip
                        go_simp
                        refine (negative_calls r2k r2n r2t (Nat.le_trans HOr2.out.t (by decide)) _).mono ?_
                        rw [HA9.out]
                        rintro e W28 ⟨rfl, hb⟩
                        clear hHeld
                        replace B := Lib.hid (B.out.below hb)
                        replace BL := Lib.hid (below_then BL.out hb)
                        clear hb
                        have hHeld : W28.cell? ⟨g2, 0, none⟩ = some (.int .i64 r2k) ∧ W28.cell? ⟨g2, 1, none⟩ = some (.int .i64 r2n) ∧ W28.cell? ⟨g2, 2, none⟩ = some (.string ⟨List.toArray r2t⟩) ∧ W28.cell? ⟨gb3, 0, none⟩ = some (.int .i64 yk) ∧ W28.cell? ⟨gb3, 1, none⟩ = some (.int .i64 yn) ∧ W28.cell? ⟨gb3, 2, none⟩ = some (.string ⟨List.toArray yt⟩) := ⟨(B.out.get 0 rfl).c0, (B.out.get 0 rfl).c1, (B.out.get 0 rfl).c2, (B.out.get 3 rfl).c0, (B.out.get 3 rfl).c1, (B.out.get 3 rfl).c2⟩
                        dsimp only
                        refine hK.out _ _ (fun _ => hHeld) ?_
                        clear hK K
                        try simp only [Act.put, List.setIfInBounds_toArray, List.set_cons_zero, List.set_cons_succ]
                        refine late_ready (rs := [7]) (by kernel_rfl) (by simp) ?_
                        refine AllLate.cons rfl (fun K hK => ?_) ?_
                        · skip
                          go_simp
                          refine (negative_calls yk yn yt (Nat.le_trans HOy.out.t (by decide)) _).mono ?_
                          rw [HA10.out]
                          rintro e W29 ⟨rfl, hb⟩
                          clear hHeld
                          replace B := Lib.hid (B.out.below hb)
                          replace BL := Lib.hid (below_then BL.out hb)
                          clear hb
                          have hHeld : W29.cell? ⟨g2, 0, none⟩ = some (.int .i64 r2k) ∧ W29.cell? ⟨g2, 1, none⟩ = some (.int .i64 r2n) ∧ W29.cell? ⟨g2, 2, none⟩ = some (.string ⟨List.toArray r2t⟩) ∧ W29.cell? ⟨gb3, 0, none⟩ = some (.int .i64 yk) ∧ W29.cell? ⟨gb3, 1, none⟩ = some (.int .i64 yn) ∧ W29.cell? ⟨gb3, 2, none⟩ = some (.string ⟨List.toArray yt⟩) := ⟨(B.out.get 0 rfl).c0, (B.out.get 0 rfl).c1, (B.out.get 0 rfl).c2, (B.out.get 3 rfl).c0, (B.out.get 3 rfl).c1, (B.out.get 3 rfl).c2⟩
                          dsimp only
                          refine hK.out _ _ (fun _ => hHeld) ?_
                          clear hK K
                          try simp only [Act.put, List.setIfInBounds_toArray, List.set_cons_zero, List.set_cons_succ]
                          refine late_pure_at (some 81) (i := 8) (v := (.bool false)) rfl rfl rfl (by kernel_rfl) (by kernel_rfl) (by kernel_rfl) (fun _ _ _ h => h) (Or.inl ⟨by rfl, by intro w _; go_simp⟩) (fun _ => hHeld) ?_
                          try simp only [Act.put, List.setIfInBounds_toArray, List.set_cons_zero, List.set_cons_succ]
                          refine late_pure_at (some 82) (i := 9) (v := (.bool false)) rfl rfl rfl (by kernel_rfl) (by kernel_rfl) (by kernel_rfl) (fun _ _ _ h => h) (Or.inl ⟨by rfl, by intro w _; go_simp⟩) (fun _ => hHeld) ?_
                          try simp only [Act.put, List.setIfInBounds_toArray, List.set_cons_zero, List.set_cons_succ]
                          refine late_done (by kernel_rfl) ?_ _
                          refine NoPanic.normal ?_
                          go_wp2_with fail
                          go_meet
                          exact ⟨rfl, B, BL⟩
                        exact AllLate.nil
                      exact AllLate.nil
                    exact AllLate.nil
            case rest =>
              clear B BL
              obtain ⟨rfl, B, BL⟩ := hcut
              obtain ⟨W30, hW⟩ : ∃ X, wc = X := ⟨_, rfl⟩
              rw [hW] at B BL ⊢
              clear hW
              clear HCC HA8 HA9 HA10
              replace HL := Lib.hid (show true = BigFloor_s40 (⟨xk, xn, xt⟩ : Vl) (⟨yk, yn, yt⟩ : Vl) ((⟨r0k, r0n, r0t⟩, r0e) : Vl × Int) ((⟨r1k, r1n, r1t⟩, r1e) : Vl × Int) ((⟨r2k, r2n, r2t⟩, r2e) : Vl × Int) from HL.out.trans ((if_neg (fun h => Bool.noConfusion (HCW.out.symm.trans h)))))
              -- region 13
              have cb10_6_3_0 : W30.cell? ⟨g2, 0, none⟩ = some (.int .i64 r2k) := (B.out.get 0 rfl).c0
              have cb10_6_3_1 : W30.cell? ⟨g2, 1, none⟩ = some (.int .i64 r2n) := (B.out.get 0 rfl).c1
              have cb10_6_3_2 : W30.cell? ⟨g2, 2, none⟩ = some (.string ⟨List.toArray r2t⟩) := (B.out.get 0 rfl).c2
              have cb3_0 : W30.cell? ⟨gb3, 0, none⟩ = some (.int .i64 yk) := (B.out.get 3 rfl).c0
              have cb3_1 : W30.cell? ⟨gb3, 1, none⟩ = some (.int .i64 yn) := (B.out.get 3 rfl).c1
              have cb3_2 : W30.cell? ⟨gb3, 2, none⟩ = some (.string ⟨List.toArray yt⟩) := (B.out.get 3 rfl).c2
              obtain ⟨⟨r3b, r3e⟩, hr3⟩ : ∃ p, lessR (⟨r2k, r2n, r2t⟩ : Vl) (⟨yk, yn, yt⟩ : Vl) = p := ⟨_, rfl⟩
              have hc3 := fun (W : World) (hW : Env W) => lessV (⟨r2k, r2n, r2t⟩ : Vl) (⟨yk, yn, yt⟩ : Vl) HOr2.out HOy.out W hW
              rw [hr3] at hc3
              simp only [Vl.val] at hc3
              have HC3 := Lib.hid hc3; have HR3 := Lib.hid hr3
              clear hc3 hr3
              go_wp2_with fail
              refine (HC3.out _ (HE.out.below BL.out)).mono ?_
              rintro e W31 ⟨rfl, hb⟩
              clear cb10_6_3_0 cb10_6_3_1 cb10_6_3_2 cb3_0 cb3_1 cb3_2
              replace B := Lib.hid (B.out.below hb)
              replace BL := Lib.hid (below_then BL.out hb)
              clear hb
              go_upto_region 14 with fail
              replace HL := Lib.hid (show true = BigFloor_s39 (⟨xk, xn, xt⟩ : Vl) (⟨yk, yn, yt⟩ : Vl) ((⟨r0k, r0n, r0t⟩, r0e) : Vl × Int) ((⟨r1k, r1n, r1t⟩, r1e) : Vl × Int) ((⟨r2k, r2n, r2t⟩, r2e) : Vl × Int) ((r3b, r3e) : Bool × Int) from HL.out.trans (by unfold BigFloor_s40; rw [HR3.out]))
              -- region 14, a test
              obtain ⟨b11, h⟩ : ∃ b : Bool, (negB (⟨yk, yn, yt⟩ : Vl)) = b := ⟨_, rfl⟩
              have HA11 := Lib.hid h
              clear h
              obtain ⟨c8, h⟩ : ∃ c : Bool, b11 = c := ⟨_, rfl⟩
              have HCC := Lib.hid h
              clear h
              go_upto_region 14 with fail
              go_cut [90] from 89 to 90 (fun v wx => v = .bool c8 ∧ Hid (Bxs wx [(g2, (⟨r2k, r2n, r2t⟩ : Vl)), (g1, (⟨r1k, r1n, r1t⟩ : Vl)), (g0, (⟨r0k, r0n, r0t⟩ : Vl)), (gb3, (⟨yk, yn, yt⟩ : Vl)), (w.heap.size, (⟨xk, xn, xt⟩ : Vl))]) ∧ Hid (Below w.heap.size w wx))
              case first =>
                clear HL
                cases b11 with
                | true =>
                  have cb3_0 : W31.cell? ⟨gb3, 0, none⟩ = some (.int .i64 yk) := (B.out.get 3 rfl).c0
                  have cb3_1 : W31.cell? ⟨gb3, 1, none⟩ = some (.int .i64 yn) := (B.out.get 3 rfl).c1
                  have cb3_2 : W31.cell? ⟨gb3, 2, none⟩ = some (.string ⟨List.toArray yt⟩) := (B.out.get 3 rfl).c2
                  go_wp2_with fail
                  refine (negative_calls yk yn yt (Nat.le_trans HOy.out.t (by decide)) _).mono ?_
                  rw [HA11.out]
                  rintro e W32 ⟨rfl, hb⟩
                  clear cb3_0 cb3_1 cb3_2
                  replace B := Lib.hid (B.out.below hb)
                  replace BL := Lib.hid (below_then BL.out hb)
                  clear hb
                  have cb3_0 : W32.cell? ⟨gb3, 0, none⟩ = some (.int .i64 yk) := (B.out.get 3 rfl).c0
                  have cb3_1 : W32.cell? ⟨gb3, 1, none⟩ = some (.int .i64 yn) := (B.out.get 3 rfl).c1
                  have cb3_2 : W32.cell? ⟨gb3, 2, none⟩ = some (.string ⟨List.toArray yt⟩) := (B.out.get 3 rfl).c2
                  go_wp2_with fail
                  go_meet
                  exact ⟨congrArg Value.bool HCC.out, B, BL⟩
                | false =>
                  have cb3_0 : W31.cell? ⟨gb3, 0, none⟩ = some (.int .i64 yk) := (B.out.get 3 rfl).c0
                  have cb3_1 : W31.cell? ⟨gb3, 1, none⟩ = some (.int .i64 yn) := (B.out.get 3 rfl).c1
                  have cb3_2 : W31.cell? ⟨gb3, 2, none⟩ = some (.string ⟨List.toArray yt⟩) := (B.out.get 3 rfl).c2
                  go_wp2_with fail
                  refine (negative_calls yk yn yt (Nat.le_trans HOy.out.t (by decide)) _).mono ?_
                  rw [HA11.out]
                  rintro e W33 ⟨rfl, hb⟩
                  clear cb3_0 cb3_1 cb3_2
                  replace B := Lib.hid (B.out.below hb)
                  replace BL := Lib.hid (below_then BL.out hb)
                  clear hb
                  have cb3_0 : W33.cell? ⟨gb3, 0, none⟩ = some (.int .i64 yk) := (B.out.get 3 rfl).c0
                  have cb3_1 : W33.cell? ⟨gb3, 1, none⟩ = some (.int .i64 yn) := (B.out.get 3 rfl).c1
                  have cb3_2 : W33.cell? ⟨gb3, 2, none⟩ = some (.string ⟨List.toArray yt⟩) := (B.out.get 3 rfl).c2
                  go_wp2_with fail
                  go_meet
                  exact ⟨congrArg Value.bool HCC.out, B, BL⟩
              case rest =>
                clear B BL
                obtain ⟨rfl, B, BL⟩ := hcut
                obtain ⟨W34, hW⟩ : ∃ X, wc = X := ⟨_, rfl⟩
                rw [hW] at B BL ⊢
                clear hW
                have HCW : Hid ((negB (⟨yk, yn, yt⟩ : Vl)) = c8) := Lib.hid (by rw [HA11.out]; exact HCC.out)
                clear HCC HA11
                cases c8 with
                | true =>
                  replace HL := Lib.hid (show true = BigFloor_s21 (⟨xk, xn, xt⟩ : Vl) (⟨yk, yn, yt⟩ : Vl) ((⟨r0k, r0n, r0t⟩, r0e) : Vl × Int) ((⟨r1k, r1n, r1t⟩, r1e) : Vl × Int) ((⟨r2k, r2n, r2t⟩, r2e) : Vl × Int) ((r3b, r3e) : Bool × Int) from HL.out.trans (if_pos HCW.out))
                  -- region 15
                  have cb3_0 : W34.cell? ⟨gb3, 0, none⟩ = some (.int .i64 yk) := (B.out.get 3 rfl).c0
                  have cb3_1 : W34.cell? ⟨gb3, 1, none⟩ = some (.int .i64 yn) := (B.out.get 3 rfl).c1
                  have cb3_2 : W34.cell? ⟨gb3, 2, none⟩ = some (.string ⟨List.toArray yt⟩) := (B.out.get 3 rfl).c2
                  have cb10_6_3_0 : W34.cell? ⟨g2, 0, none⟩ = some (.int .i64 r2k) := (B.out.get 0 rfl).c0
                  have cb10_6_3_1 : W34.cell? ⟨g2, 1, none⟩ = some (.int .i64 r2n) := (B.out.get 0 rfl).c1
                  have cb10_6_3_2 : W34.cell? ⟨g2, 2, none⟩ = some (.string ⟨List.toArray r2t⟩) := (B.out.get 0 rfl).c2
                  obtain ⟨⟨r4b, r4e⟩, hr4⟩ : ∃ p, lessR (⟨yk, yn, yt⟩ : Vl) (⟨r2k, r2n, r2t⟩ : Vl) = p := ⟨_, rfl⟩
                  have hc4 := fun (W : World) (hW : Env W) => lessV (⟨yk, yn, yt⟩ : Vl) (⟨r2k, r2n, r2t⟩ : Vl) HOy.out HOr2.out W hW
                  rw [hr4] at hc4
                  simp only [Vl.val] at hc4
                  have HC4 := Lib.hid hc4; have HR4 := Lib.hid hr4
                  clear hc4 hr4
                  go_wp2_with fail
                  refine (HC4.out _ (HE.out.below BL.out)).mono ?_
                  rintro e W35 ⟨rfl, hb⟩
                  clear cb3_0 cb3_1 cb3_2 cb10_6_3_0 cb10_6_3_1 cb10_6_3_2
                  replace B := Lib.hid (B.out.below hb)
                  replace BL := Lib.hid (below_then BL.out hb)
                  clear hb
                  go_upto_region 16 with fail
                  replace HL := Lib.hid (show true = BigFloor_s20 (⟨xk, xn, xt⟩ : Vl) (⟨yk, yn, yt⟩ : Vl) ((⟨r0k, r0n, r0t⟩, r0e) : Vl × Int) ((⟨r1k, r1n, r1t⟩, r1e) : Vl × Int) ((⟨r2k, r2n, r2t⟩, r2e) : Vl × Int) ((r3b, r3e) : Bool × Int) ((r4b, r4e) : Bool × Int) from HL.out.trans (by unfold BigFloor_s21; rw [HR4.out]))
                  -- region 16, a test
                  obtain ⟨b12, h⟩ : ∃ b : Bool, (r4e == 0) = b := ⟨_, rfl⟩
                  have HA12 := Lib.hid h
                  clear h
                  have HCF : ((!(r4e == 0)) || (!r4b)) = false := Bool.eq_false_iff.2 fun h => Bool.noConfusion (show true = false from HL.out.trans (if_pos h))
                  have HCB : ((!b12) || (!r4b)) = false := by
                    have h := HCF
                    rw [HA12.out] at h
                    exact h
                  have HCW := Lib.hid HCF
                  have HCC := Lib.hid HCB
                  clear HCF HCB
                  go_upto_region 16 with fail
                  go_cut [102] from 97 to 102 (fun v wx => v = .bool false ∧ Hid (Bxs wx [(g2, (⟨r2k, r2n, r2t⟩ : Vl)), (g1, (⟨r1k, r1n, r1t⟩ : Vl)), (g0, (⟨r0k, r0n, r0t⟩ : Vl)), (gb3, (⟨yk, yn, yt⟩ : Vl)), (w.heap.size, (⟨xk, xn, xt⟩ : Vl))]) ∧ Hid (Below w.heap.size w wx))
                  case first =>
                    clear HL
                    cases b12 with
                    | true =>
                      cases r4b with
                      | true =>
                        have f0_0 : ((r4e : Int) == 0) = true := HA12.out
                        have f0_1 : ((r4e : Int) != 0) = false := by have h := HA12.out; simpa using h
                        go_wp2_with fail
                        go_meet
                        exact ⟨rfl, B, BL⟩
                      | false =>
                        exact Bool.noConfusion (show true = false from HCC.out)
                    | false =>
                      exact Bool.noConfusion (show true = false from HCC.out)
                  case rest =>
                    clear B BL
                    obtain ⟨rfl, B, BL⟩ := hcut
                    obtain ⟨W36, hW⟩ : ∃ X, wc = X := ⟨_, rfl⟩
                    rw [hW] at B BL ⊢
                    clear hW
                    clear HCC HA12
                    replace HL := Lib.hid (show true = BigFloor_s19 (⟨xk, xn, xt⟩ : Vl) (⟨yk, yn, yt⟩ : Vl) ((⟨r0k, r0n, r0t⟩, r0e) : Vl × Int) ((⟨r1k, r1n, r1t⟩, r1e) : Vl × Int) ((⟨r2k, r2n, r2t⟩, r2e) : Vl × Int) ((r3b, r3e) : Bool × Int) ((r4b, r4e) : Bool × Int) from HL.out.trans ((if_neg (fun h => Bool.noConfusion (HCW.out.symm.trans h)))))
                    -- region 18, a test
                    obtain ⟨b14, h⟩ : ∃ b : Bool, (r1e == 0) = b := ⟨_, rfl⟩
                    have HA14 := Lib.hid h
                    clear h
                    obtain ⟨c10, h⟩ : ∃ c : Bool, b14 = c := ⟨_, rfl⟩
                    have HCC := Lib.hid h
                    clear h
                    go_upto_region 18 with fail
                    go_cut [104] from 103 to 104 (fun v wx => v = .bool c10 ∧ Hid (Bxs wx [(g2, (⟨r2k, r2n, r2t⟩ : Vl)), (g1, (⟨r1k, r1n, r1t⟩ : Vl)), (g0, (⟨r0k, r0n, r0t⟩ : Vl)), (gb3, (⟨yk, yn, yt⟩ : Vl)), (w.heap.size, (⟨xk, xn, xt⟩ : Vl))]) ∧ Hid (Below w.heap.size w wx))
                    case first =>
                      clear HL
                      cases b14 with
                      | true =>
                        have f0_0 : ((r1e : Int) == 0) = true := HA14.out
                        have f0_1 : ((r1e : Int) != 0) = false := by have h := HA14.out; simpa using h
                        go_wp2_with fail
                        go_meet
                        exact ⟨congrArg Value.bool HCC.out, B, BL⟩
                      | false =>
                        have f0_0 : ((r1e : Int) == 0) = false := HA14.out
                        have f0_1 : ((r1e : Int) != 0) = true := by have h := HA14.out; simpa using h
                        go_wp2_with fail
                        go_meet
                        exact ⟨congrArg Value.bool HCC.out, B, BL⟩
                    case rest =>
                      clear B BL
                      obtain ⟨rfl, B, BL⟩ := hcut
                      obtain ⟨W37, hW⟩ : ∃ X, wc = X := ⟨_, rfl⟩
                      rw [hW] at B BL ⊢
                      clear hW
                      have HCW : Hid ((r1e == 0) = c10) := Lib.hid (by rw [HA14.out]; exact HCC.out)
                      clear HCC HA14
                      cases c10 with
                      | true =>
                        replace HL := Lib.hid (show true = BigFloor_s13 (⟨xk, xn, xt⟩ : Vl) (⟨yk, yn, yt⟩ : Vl) ((⟨r0k, r0n, r0t⟩, r0e) : Vl × Int) ((⟨r1k, r1n, r1t⟩, r1e) : Vl × Int) ((⟨r2k, r2n, r2t⟩, r2e) : Vl × Int) ((r3b, r3e) : Bool × Int) ((r4b, r4e) : Bool × Int) from HL.out.trans (if_pos HCW.out))
                        -- region 19
                        have cb2_0 : W37.cell? ⟨w.heap.size, 0, none⟩ = some (.int .i64 xk) := (B.out.get 4 rfl).c0
                        have cb2_1 : W37.cell? ⟨w.heap.size, 1, none⟩ = some (.int .i64 xn) := (B.out.get 4 rfl).c1
                        have cb2_2 : W37.cell? ⟨w.heap.size, 2, none⟩ = some (.string ⟨List.toArray xt⟩) := (B.out.get 4 rfl).c2
                        have cb10_6_3_0 : W37.cell? ⟨g2, 0, none⟩ = some (.int .i64 r2k) := (B.out.get 0 rfl).c0
                        have cb10_6_3_1 : W37.cell? ⟨g2, 1, none⟩ = some (.int .i64 r2n) := (B.out.get 0 rfl).c1
                        have cb10_6_3_2 : W37.cell? ⟨g2, 2, none⟩ = some (.string ⟨List.toArray r2t⟩) := (B.out.get 0 rfl).c2
                        obtain ⟨⟨⟨r5k, r5n, r5t⟩, r5e⟩, hr5⟩ : ∃ p, subR (⟨xk, xn, xt⟩ : Vl) (⟨r2k, r2n, r2t⟩ : Vl) = p := ⟨_, rfl⟩
                        have hc5 := fun (W : World) (hW : Env W) => sub_pub (⟨xk, xn, xt⟩ : Vl) (⟨r2k, r2n, r2t⟩ : Vl) HOx.out HOr2.out W hW
                        have ho5 := subR_ok (⟨xk, xn, xt⟩ : Vl) (⟨r2k, r2n, r2t⟩ : Vl)
                        rw [hr5] at hc5 ho5
                        simp only [Vl.val, pr] at hc5
                        have HC5 := Lib.hid hc5; have HOr5 : Hid (Vl.ok ⟨r5k, r5n, r5t⟩) := Lib.hid ho5; have HR5 := Lib.hid hr5
                        clear hc5 ho5 hr5
                        go_wp2_with fail
                        refine (HC5.out _ (HE.out.below BL.out)).mono ?_
                        rintro e W38 ⟨rfl, hb⟩
                        clear cb2_0 cb2_1 cb2_2 cb10_6_3_0 cb10_6_3_1 cb10_6_3_2
                        replace B := Lib.hid (B.out.below hb)
                        replace BL := Lib.hid (below_then BL.out hb)
                        clear hb
                        go_upto_region 20 with fail
                        have hB : Bxs (W38.alloc (.cells #[.int .i64 r5k, .int .i64 r5n, .string ⟨List.toArray r5t⟩] 23)) ((W38.heap.size, (⟨r5k, r5n, r5t⟩ : Vl)) :: [(g2, (⟨r2k, r2n, r2t⟩ : Vl)), (g1, (⟨r1k, r1n, r1t⟩ : Vl)), (g0, (⟨r0k, r0n, r0t⟩ : Vl)), (gb3, (⟨yk, yn, yt⟩ : Vl)), (w.heap.size, (⟨xk, xn, xt⟩ : Vl))]) := B.out.push (⟨r5k, r5n, r5t⟩ : Vl) 23
                        have hL : Below w.heap.size w (W38.alloc (.cells #[.int .i64 r5k, .int .i64 r5n, .string ⟨List.toArray r5t⟩] 23)) := BL.out.alloc BL.out.size _
                        obtain ⟨W39, hW⟩ : ∃ X, W38.alloc (.cells #[.int .i64 r5k, .int .i64 r5n, .string ⟨List.toArray r5t⟩] 23) = X := ⟨_, rfl⟩
                        obtain ⟨g3, hg⟩ : ∃ g, W38.heap.size = g := ⟨_, rfl⟩
                        rw [hW] at hB hL ⊢
                        rw [hg] at hB ⊢
                        have HGb14_19_10 : Hid (w.heap.size ≤ g3) := Lib.hid (by rw [← hg]; exact BL.out.size)
                        replace B := Lib.hid hB
                        replace BL := Lib.hid hL
                        clear hB hL hW hg
                        replace HL := Lib.hid (show true = BigFloor_s12 (⟨xk, xn, xt⟩ : Vl) (⟨yk, yn, yt⟩ : Vl) ((⟨r0k, r0n, r0t⟩, r0e) : Vl × Int) ((⟨r1k, r1n, r1t⟩, r1e) : Vl × Int) ((⟨r2k, r2n, r2t⟩, r2e) : Vl × Int) ((r3b, r3e) : Bool × Int) ((r4b, r4e) : Bool × Int) ((⟨r5k, r5n, r5t⟩, r5e) : Vl × Int) from HL.out.trans (by unfold BigFloor_s13; rw [HR5.out]))
                        -- region 20
                        have cb3_0 : W39.cell? ⟨gb3, 0, none⟩ = some (.int .i64 yk) := (B.out.get 4 rfl).c0
                        have cb3_1 : W39.cell? ⟨gb3, 1, none⟩ = some (.int .i64 yn) := (B.out.get 4 rfl).c1
                        have cb3_2 : W39.cell? ⟨gb3, 2, none⟩ = some (.string ⟨List.toArray yt⟩) := (B.out.get 4 rfl).c2
                        have cb8_5_2_0 : W39.cell? ⟨g1, 0, none⟩ = some (.int .i64 r1k) := (B.out.get 2 rfl).c0
                        have cb8_5_2_1 : W39.cell? ⟨g1, 1, none⟩ = some (.int .i64 r1n) := (B.out.get 2 rfl).c1
                        have cb8_5_2_2 : W39.cell? ⟨g1, 2, none⟩ = some (.string ⟨List.toArray r1t⟩) := (B.out.get 2 rfl).c2
                        obtain ⟨⟨⟨r6k, r6n, r6t⟩, r6e⟩, hr6⟩ : ∃ p, mulR (⟨yk, yn, yt⟩ : Vl) (⟨r1k, r1n, r1t⟩ : Vl) = p := ⟨_, rfl⟩
                        have hc6 := fun (W : World) (hW : Env W) => mul_pub (⟨yk, yn, yt⟩ : Vl) (⟨r1k, r1n, r1t⟩ : Vl) HOy.out HOr1.out W hW
                        have ho6 := mulR_ok (⟨yk, yn, yt⟩ : Vl) (⟨r1k, r1n, r1t⟩ : Vl)
                        rw [hr6] at hc6 ho6
                        simp only [Vl.val, pr] at hc6
                        have HC6 := Lib.hid hc6; have HOr6 : Hid (Vl.ok ⟨r6k, r6n, r6t⟩) := Lib.hid ho6; have HR6 := Lib.hid hr6
                        clear hc6 ho6 hr6
                        go_wp2_with fail
                        refine (HC6.out _ (HE.out.below BL.out)).mono ?_
                        rintro e W40 ⟨rfl, hb⟩
                        clear cb3_0 cb3_1 cb3_2 cb8_5_2_0 cb8_5_2_1 cb8_5_2_2
                        replace B := Lib.hid (B.out.below hb)
                        replace BL := Lib.hid (below_then BL.out hb)
                        clear hb
                        go_upto_region 21 with fail
                        have hB : Bxs (W40.alloc (.cells #[.int .i64 r6k, .int .i64 r6n, .string ⟨List.toArray r6t⟩] 23)) ((W40.heap.size, (⟨r6k, r6n, r6t⟩ : Vl)) :: [(g3, (⟨r5k, r5n, r5t⟩ : Vl)), (g2, (⟨r2k, r2n, r2t⟩ : Vl)), (g1, (⟨r1k, r1n, r1t⟩ : Vl)), (g0, (⟨r0k, r0n, r0t⟩ : Vl)), (gb3, (⟨yk, yn, yt⟩ : Vl)), (w.heap.size, (⟨xk, xn, xt⟩ : Vl))]) := B.out.push (⟨r6k, r6n, r6t⟩ : Vl) 23
                        have hL : Below w.heap.size w (W40.alloc (.cells #[.int .i64 r6k, .int .i64 r6n, .string ⟨List.toArray r6t⟩] 23)) := BL.out.alloc BL.out.size _
                        obtain ⟨W41, hW⟩ : ∃ X, W40.alloc (.cells #[.int .i64 r6k, .int .i64 r6n, .string ⟨List.toArray r6t⟩] 23) = X := ⟨_, rfl⟩
                        obtain ⟨g4, hg⟩ : ∃ g, W40.heap.size = g := ⟨_, rfl⟩
                        rw [hW] at hB hL ⊢
                        rw [hg] at hB ⊢
                        have HGb16_20_11 : Hid (w.heap.size ≤ g4) := Lib.hid (by rw [← hg]; exact BL.out.size)
                        replace B := Lib.hid hB
                        replace BL := Lib.hid hL
                        clear hB hL hW hg
                        replace HL := Lib.hid (show true = BigFloor_s11 (⟨xk, xn, xt⟩ : Vl) (⟨yk, yn, yt⟩ : Vl) ((⟨r0k, r0n, r0t⟩, r0e) : Vl × Int) ((⟨r1k, r1n, r1t⟩, r1e) : Vl × Int) ((⟨r2k, r2n, r2t⟩, r2e) : Vl × Int) ((r3b, r3e) : Bool × Int) ((r4b, r4e) : Bool × Int) ((⟨r5k, r5n, r5t⟩, r5e) : Vl × Int) ((⟨r6k, r6n, r6t⟩, r6e) : Vl × Int) from HL.out.trans (by unfold BigFloor_s12; rw [HR6.out]))
                        -- region 21, a test
                        obtain ⟨b15, h⟩ : ∃ b : Bool, (r5e == 0) = b := ⟨_, rfl⟩
                        have HA15 := Lib.hid h
                        clear h
                        obtain ⟨b16, h⟩ : ∃ b : Bool, (r6e == 0) = b := ⟨_, rfl⟩
                        have HA16 := Lib.hid h
                        clear h
                        obtain ⟨b17, h⟩ : ∃ b : Bool, (veqB r5k r5n r5t r6k r6n r6t) = b := ⟨_, rfl⟩
                        have HA17 := Lib.hid h
                        clear h
                        have HCF : (((r5e == 0) && (r6e == 0)) && (!(veqB r5k r5n r5t r6k r6n r6t))) = false := Bool.eq_false_iff.2 fun h => Bool.noConfusion (show true = false from HL.out.trans (if_pos h))
                        have HCB : ((b15 && b16) && (!b17)) = false := by
                          have h := HCF
                          rw [HA15.out, HA16.out, HA17.out] at h
                          exact h
                        have HCW := Lib.hid HCF
                        have HCC := Lib.hid HCB
                        clear HCF HCB
                        go_upto_region 21 with fail
                        go_cut [127] from 117 to 127 (fun v wx => v = .bool false ∧ Hid (Bxs wx [(g4, (⟨r6k, r6n, r6t⟩ : Vl)), (g3, (⟨r5k, r5n, r5t⟩ : Vl)), (g2, (⟨r2k, r2n, r2t⟩ : Vl)), (g1, (⟨r1k, r1n, r1t⟩ : Vl)), (g0, (⟨r0k, r0n, r0t⟩ : Vl)), (gb3, (⟨yk, yn, yt⟩ : Vl)), (w.heap.size, (⟨xk, xn, xt⟩ : Vl))]) ∧ Hid (Below w.heap.size w wx))
                        case first =>
                          clear HL
                          cases b15 with
                          | true =>
                            cases b16 with
                            | true =>
                              cases b17 with
                              | true =>
                                have f0_0 : ((r5e : Int) == 0) = true := HA15.out
                                have f0_1 : ((r5e : Int) != 0) = false := by have h := HA15.out; simpa using h
                                have f1_0 : ((r6e : Int) == 0) = true := HA16.out
                                have f1_1 : ((r6e : Int) != 0) = false := by have h := HA16.out; simpa using h
                                have f2_0 : (veqB r5k r5n r5t r6k r6n r6t) = true := HA17.out
                                have cb14_19_10_0 : W41.cell? ⟨g3, 0, none⟩ = some (.int .i64 r5k) := (B.out.get 1 rfl).c0
                                have cb14_19_10_1 : W41.cell? ⟨g3, 1, none⟩ = some (.int .i64 r5n) := (B.out.get 1 rfl).c1
                                have cb14_19_10_2 : W41.cell? ⟨g3, 2, none⟩ = some (.string ⟨List.toArray r5t⟩) := (B.out.get 1 rfl).c2
                                have cb16_20_11_0 : W41.cell? ⟨g4, 0, none⟩ = some (.int .i64 r6k) := (B.out.get 0 rfl).c0
                                have cb16_20_11_1 : W41.cell? ⟨g4, 1, none⟩ = some (.int .i64 r6n) := (B.out.get 0 rfl).c1
                                have cb16_20_11_2 : W41.cell? ⟨g4, 2, none⟩ = some (.string ⟨List.toArray r6t⟩) := (B.out.get 0 rfl).c2
                                go_wp2_with fail
                                go_meet
                                exact ⟨rfl, B, BL⟩
                              | false =>
                                exact Bool.noConfusion (show true = false from HCC.out)
                            | false =>
                              have f0_0 : ((r5e : Int) == 0) = true := HA15.out
                              have f0_1 : ((r5e : Int) != 0) = false := by have h := HA15.out; simpa using h
                              have f1_0 : ((r6e : Int) == 0) = false := HA16.out
                              have f1_1 : ((r6e : Int) != 0) = true := by have h := HA16.out; simpa using h
                              go_wp2_with fail
                              go_meet
                              exact ⟨rfl, B, BL⟩
                          | false =>
                            have f0_0 : ((r5e : Int) == 0) = false := HA15.out
                            have f0_1 : ((r5e : Int) != 0) = true := by have h := HA15.out; simpa using h
                            go_wp2_with fail
                            go_meet
                            exact ⟨rfl, B, BL⟩
                        case rest =>
                          clear B BL
                          obtain ⟨rfl, B, BL⟩ := hcut
                          obtain ⟨W42, hW⟩ : ∃ X, wc = X := ⟨_, rfl⟩
                          rw [hW] at B BL ⊢
                          clear hW
                          clear HCC HA15 HA16 HA17
                          replace HL := Lib.hid (show true = BigFloor_s10 (⟨xk, xn, xt⟩ : Vl) (⟨yk, yn, yt⟩ : Vl) ((⟨r0k, r0n, r0t⟩, r0e) : Vl × Int) ((⟨r1k, r1n, r1t⟩, r1e) : Vl × Int) ((⟨r2k, r2n, r2t⟩, r2e) : Vl × Int) ((r3b, r3e) : Bool × Int) ((r4b, r4e) : Bool × Int) ((⟨r5k, r5n, r5t⟩, r5e) : Vl × Int) ((⟨r6k, r6n, r6t⟩, r6e) : Vl × Int) from HL.out.trans ((if_neg (fun h => Bool.noConfusion (HCW.out.symm.trans h)))))
                          -- region 23, a test
                          obtain ⟨b18, h⟩ : ∃ b : Bool, (r0e == 0) = b := ⟨_, rfl⟩
                          have HA18 := Lib.hid h
                          clear h
                          obtain ⟨c14, h⟩ : ∃ c : Bool, (!b18) = c := ⟨_, rfl⟩
                          have HCC := Lib.hid h
                          clear h
                          go_upto_region 23 with fail
                          go_cut [129] from 128 to 129 (fun v wx => v = .bool c14 ∧ Hid (Bxs wx [(g4, (⟨r6k, r6n, r6t⟩ : Vl)), (g3, (⟨r5k, r5n, r5t⟩ : Vl)), (g2, (⟨r2k, r2n, r2t⟩ : Vl)), (g1, (⟨r1k, r1n, r1t⟩ : Vl)), (g0, (⟨r0k, r0n, r0t⟩ : Vl)), (gb3, (⟨yk, yn, yt⟩ : Vl)), (w.heap.size, (⟨xk, xn, xt⟩ : Vl))]) ∧ Hid (Below w.heap.size w wx))
                          case first =>
                            clear HL
                            cases b18 with
                            | true =>
                              have f0_0 : ((r0e : Int) == 0) = true := HA18.out
                              have f0_1 : ((r0e : Int) != 0) = false := by have h := HA18.out; simpa using h
                              go_wp2_with fail
                              go_meet
                              exact ⟨congrArg Value.bool HCC.out, B, BL⟩
                            | false =>
                              have f0_0 : ((r0e : Int) == 0) = false := HA18.out
                              have f0_1 : ((r0e : Int) != 0) = true := by have h := HA18.out; simpa using h
                              go_wp2_with fail
                              go_meet
                              exact ⟨congrArg Value.bool HCC.out, B, BL⟩
                          case rest =>
                            clear B BL
                            obtain ⟨rfl, B, BL⟩ := hcut
                            obtain ⟨W43, hW⟩ : ∃ X, wc = X := ⟨_, rfl⟩
                            rw [hW] at B BL ⊢
                            clear hW
                            have HCW : Hid ((!(r0e == 0)) = c14) := Lib.hid (by rw [HA18.out]; exact HCC.out)
                            clear HCC HA18
                            cases c14 with
                            | true =>
                              replace HL := Lib.hid (show true = BigFloor_s6 (⟨xk, xn, xt⟩ : Vl) (⟨yk, yn, yt⟩ : Vl) ((⟨r0k, r0n, r0t⟩, r0e) : Vl × Int) ((⟨r1k, r1n, r1t⟩, r1e) : Vl × Int) ((⟨r2k, r2n, r2t⟩, r2e) : Vl × Int) ((r3b, r3e) : Bool × Int) ((r4b, r4e) : Bool × Int) ((⟨r5k, r5n, r5t⟩, r5e) : Vl × Int) ((⟨r6k, r6n, r6t⟩, r6e) : Vl × Int) from HL.out.trans (if_pos HCW.out))
                              go_wp2_with fail
                              go_ret
                              exact ⟨rfl, BL.out⟩
                            | false =>
                              replace HL := Lib.hid (show true = BigFloor_s9 (⟨xk, xn, xt⟩ : Vl) (⟨yk, yn, yt⟩ : Vl) ((⟨r0k, r0n, r0t⟩, r0e) : Vl × Int) ((⟨r1k, r1n, r1t⟩, r1e) : Vl × Int) ((⟨r2k, r2n, r2t⟩, r2e) : Vl × Int) ((r3b, r3e) : Bool × Int) ((r4b, r4e) : Bool × Int) ((⟨r5k, r5n, r5t⟩, r5e) : Vl × Int) ((⟨r6k, r6n, r6t⟩, r6e) : Vl × Int) from HL.out.trans ((if_neg (fun h => Bool.noConfusion (HCW.out.symm.trans h)))))
                              -- region 25
                              have cb6_4_1_0 : W43.cell? ⟨g0, 0, none⟩ = some (.int .i64 r0k) := (B.out.get 4 rfl).c0
                              have cb6_4_1_1 : W43.cell? ⟨g0, 1, none⟩ = some (.int .i64 r0n) := (B.out.get 4 rfl).c1
                              have cb6_4_1_2 : W43.cell? ⟨g0, 2, none⟩ = some (.string ⟨List.toArray r0t⟩) := (B.out.get 4 rfl).c2
                              have cb3_0 : W43.cell? ⟨gb3, 0, none⟩ = some (.int .i64 yk) := (B.out.get 5 rfl).c0
                              have cb3_1 : W43.cell? ⟨gb3, 1, none⟩ = some (.int .i64 yn) := (B.out.get 5 rfl).c1
                              have cb3_2 : W43.cell? ⟨gb3, 2, none⟩ = some (.string ⟨List.toArray yt⟩) := (B.out.get 5 rfl).c2
                              obtain ⟨⟨⟨r7k, r7n, r7t⟩, r7e⟩, hr7⟩ : ∃ p, divR (⟨r0k, r0n, r0t⟩ : Vl) (⟨yk, yn, yt⟩ : Vl) = p := ⟨_, rfl⟩
                              have hc7 := fun (W : World) (hW : Env W) => div_pub (⟨r0k, r0n, r0t⟩ : Vl) (⟨yk, yn, yt⟩ : Vl) HOr0.out HOy.out W hW
                              have ho7 := divR_ok (⟨r0k, r0n, r0t⟩ : Vl) (⟨yk, yn, yt⟩ : Vl)
                              rw [hr7] at hc7 ho7
                              simp only [Vl.val, pr] at hc7
                              have HC7 := Lib.hid hc7; have HOr7 : Hid (Vl.ok ⟨r7k, r7n, r7t⟩) := Lib.hid ho7; have HR7 := Lib.hid hr7
                              clear hc7 ho7 hr7
                              go_wp2_with fail
                              refine (HC7.out _ (HE.out.below BL.out)).mono ?_
                              rintro e W44 ⟨rfl, hb⟩
                              clear cb6_4_1_0 cb6_4_1_1 cb6_4_1_2 cb3_0 cb3_1 cb3_2
                              replace B := Lib.hid (B.out.below hb)
                              replace BL := Lib.hid (below_then BL.out hb)
                              clear hb
                              go_upto_region 26 with fail
                              have hB : Bxs (W44.alloc (.cells #[.int .i64 r7k, .int .i64 r7n, .string ⟨List.toArray r7t⟩] 23)) ((W44.heap.size, (⟨r7k, r7n, r7t⟩ : Vl)) :: [(g4, (⟨r6k, r6n, r6t⟩ : Vl)), (g3, (⟨r5k, r5n, r5t⟩ : Vl)), (g2, (⟨r2k, r2n, r2t⟩ : Vl)), (g1, (⟨r1k, r1n, r1t⟩ : Vl)), (g0, (⟨r0k, r0n, r0t⟩ : Vl)), (gb3, (⟨yk, yn, yt⟩ : Vl)), (w.heap.size, (⟨xk, xn, xt⟩ : Vl))]) := B.out.push (⟨r7k, r7n, r7t⟩ : Vl) 23
                              have hL : Below w.heap.size w (W44.alloc (.cells #[.int .i64 r7k, .int .i64 r7n, .string ⟨List.toArray r7t⟩] 23)) := BL.out.alloc BL.out.size _
                              obtain ⟨W45, hW⟩ : ∃ X, W44.alloc (.cells #[.int .i64 r7k, .int .i64 r7n, .string ⟨List.toArray r7t⟩] 23) = X := ⟨_, rfl⟩
                              obtain ⟨g5, hg⟩ : ∃ g, W44.heap.size = g := ⟨_, rfl⟩
                              rw [hW] at hB hL ⊢
                              rw [hg] at hB ⊢
                              have HGb18_25_14 : Hid (w.heap.size ≤ g5) := Lib.hid (by rw [← hg]; exact BL.out.size)
                              replace B := Lib.hid hB
                              replace BL := Lib.hid hL
                              clear hB hL hW hg
                              replace HL := Lib.hid (show true = BigFloor_s8 (⟨xk, xn, xt⟩ : Vl) (⟨yk, yn, yt⟩ : Vl) ((⟨r0k, r0n, r0t⟩, r0e) : Vl × Int) ((⟨r1k, r1n, r1t⟩, r1e) : Vl × Int) ((⟨r2k, r2n, r2t⟩, r2e) : Vl × Int) ((r3b, r3e) : Bool × Int) ((r4b, r4e) : Bool × Int) ((⟨r5k, r5n, r5t⟩, r5e) : Vl × Int) ((⟨r6k, r6n, r6t⟩, r6e) : Vl × Int) ((⟨r7k, r7n, r7t⟩, r7e) : Vl × Int) from HL.out.trans (by unfold BigFloor_s9; rw [HR7.out]))
                              -- region 26
                              have cb6_4_1_0 : W45.cell? ⟨g0, 0, none⟩ = some (.int .i64 r0k) := (B.out.get 5 rfl).c0
                              have cb6_4_1_1 : W45.cell? ⟨g0, 1, none⟩ = some (.int .i64 r0n) := (B.out.get 5 rfl).c1
                              have cb6_4_1_2 : W45.cell? ⟨g0, 2, none⟩ = some (.string ⟨List.toArray r0t⟩) := (B.out.get 5 rfl).c2
                              have cb3_0 : W45.cell? ⟨gb3, 0, none⟩ = some (.int .i64 yk) := (B.out.get 6 rfl).c0
                              have cb3_1 : W45.cell? ⟨gb3, 1, none⟩ = some (.int .i64 yn) := (B.out.get 6 rfl).c1
                              have cb3_2 : W45.cell? ⟨gb3, 2, none⟩ = some (.string ⟨List.toArray yt⟩) := (B.out.get 6 rfl).c2
                              obtain ⟨⟨⟨r8k, r8n, r8t⟩, r8e⟩, hr8⟩ : ∃ p, modR (⟨r0k, r0n, r0t⟩ : Vl) (⟨yk, yn, yt⟩ : Vl) = p := ⟨_, rfl⟩
                              have hc8 := fun (W : World) (hW : Env W) => mod_pub (⟨r0k, r0n, r0t⟩ : Vl) (⟨yk, yn, yt⟩ : Vl) HOr0.out HOy.out W hW
                              have ho8 := modR_ok (⟨r0k, r0n, r0t⟩ : Vl) (⟨yk, yn, yt⟩ : Vl)
                              rw [hr8] at hc8 ho8
                              simp only [Vl.val, pr] at hc8
                              have HC8 := Lib.hid hc8; have HOr8 : Hid (Vl.ok ⟨r8k, r8n, r8t⟩) := Lib.hid ho8; have HR8 := Lib.hid hr8
                              clear hc8 ho8 hr8
                              go_wp2_with fail
                              refine (HC8.out _ (HE.out.below BL.out)).mono ?_
                              rintro e W46 ⟨rfl, hb⟩
                              clear cb6_4_1_0 cb6_4_1_1 cb6_4_1_2 cb3_0 cb3_1 cb3_2
                              replace B := Lib.hid (B.out.below hb)
                              replace BL := Lib.hid (below_then BL.out hb)
                              clear hb
                              go_upto_region 27 with fail
                              have hB : Bxs (W46.alloc (.cells #[.int .i64 r8k, .int .i64 r8n, .string ⟨List.toArray r8t⟩] 23)) ((W46.heap.size, (⟨r8k, r8n, r8t⟩ : Vl)) :: [(g5, (⟨r7k, r7n, r7t⟩ : Vl)), (g4, (⟨r6k, r6n, r6t⟩ : Vl)), (g3, (⟨r5k, r5n, r5t⟩ : Vl)), (g2, (⟨r2k, r2n, r2t⟩ : Vl)), (g1, (⟨r1k, r1n, r1t⟩ : Vl)), (g0, (⟨r0k, r0n, r0t⟩ : Vl)), (gb3, (⟨yk, yn, yt⟩ : Vl)), (w.heap.size, (⟨xk, xn, xt⟩ : Vl))]) := B.out.push (⟨r8k, r8n, r8t⟩ : Vl) 23
                              have hL : Below w.heap.size w (W46.alloc (.cells #[.int .i64 r8k, .int .i64 r8n, .string ⟨List.toArray r8t⟩] 23)) := BL.out.alloc BL.out.size _
                              obtain ⟨W47, hW⟩ : ∃ X, W46.alloc (.cells #[.int .i64 r8k, .int .i64 r8n, .string ⟨List.toArray r8t⟩] 23) = X := ⟨_, rfl⟩
                              obtain ⟨g6, hg⟩ : ∃ g, W46.heap.size = g := ⟨_, rfl⟩
                              rw [hW] at hB hL ⊢
                              rw [hg] at hB ⊢
                              have HGb20_26_15 : Hid (w.heap.size ≤ g6) := Lib.hid (by rw [← hg]; exact BL.out.size)
                              replace B := Lib.hid hB
                              replace BL := Lib.hid hL
                              clear hB hL hW hg
                              replace HL := Lib.hid (show true = BigFloor_s7 (⟨xk, xn, xt⟩ : Vl) (⟨yk, yn, yt⟩ : Vl) ((⟨r0k, r0n, r0t⟩, r0e) : Vl × Int) ((⟨r1k, r1n, r1t⟩, r1e) : Vl × Int) ((⟨r2k, r2n, r2t⟩, r2e) : Vl × Int) ((r3b, r3e) : Bool × Int) ((r4b, r4e) : Bool × Int) ((⟨r5k, r5n, r5t⟩, r5e) : Vl × Int) ((⟨r6k, r6n, r6t⟩, r6e) : Vl × Int) ((⟨r7k, r7n, r7t⟩, r7e) : Vl × Int) ((⟨r8k, r8n, r8t⟩, r8e) : Vl × Int) from HL.out.trans (by unfold BigFloor_s8; rw [HR8.out]))
                              -- region 27, the end
                              obtain ⟨b19, h⟩ : ∃ b : Bool, (r7e == 0) = b := ⟨_, rfl⟩
                              have HA19 := Lib.hid h
                              clear h
                              obtain ⟨b20, h⟩ : ∃ b : Bool, (r8e == 0) = b := ⟨_, rfl⟩
                              have HA20 := Lib.hid h
                              clear h
                              obtain ⟨b21, h⟩ : ∃ b : Bool, (veqB r7k r7n r7t xk xn xt) = b := ⟨_, rfl⟩
                              have HA21 := Lib.hid h
                              clear h
                              obtain ⟨b22, h⟩ : ∃ b : Bool, (veqB r8k r8n r8t 1 0 []) = b := ⟨_, rfl⟩
                              have HA22 := Lib.hid h
                              clear h
                              cases b19 with
                              | true =>
                                cases b20 with
                                | true =>
                                  cases b21 with
                                  | true =>
                                    cases b22 with
                                    | true =>
                                      clear HL
                                      go_upto_region 27 with fail
                                      have f0_0 : ((r7e : Int) == 0) = true := HA19.out
                                      have f0_1 : ((r7e : Int) != 0) = false := by have h := HA19.out; simpa using h
                                      have f1_0 : ((r8e : Int) == 0) = true := HA20.out
                                      have f1_1 : ((r8e : Int) != 0) = false := by have h := HA20.out; simpa using h
                                      have f2_0 : (veqB r7k r7n r7t xk xn xt) = true := HA21.out
                                      have f3_0 : (veqB r8k r8n r8t 1 0 []) = true := HA22.out
                                      refine wp_region_noPanic ?_
                                      refine region_late (fun (X : World) => X.cell? ⟨g5, 0, none⟩ = some (.int .i64 r7k) ∧ X.cell? ⟨g5, 1, none⟩ = some (.int .i64 r7n) ∧ X.cell? ⟨g5, 2, none⟩ = some (.string ⟨List.toArray r7t⟩) ∧ X.cell? ⟨w.heap.size, 0, none⟩ = some (.int .i64 xk) ∧ X.cell? ⟨w.heap.size, 1, none⟩ = some (.int .i64 xn) ∧ X.cell? ⟨w.heap.size, 2, none⟩ = some (.string ⟨List.toArray xt⟩) ∧ X.cell? ⟨g6, 0, none⟩ = some (.int .i64 r8k) ∧ X.cell? ⟨g6, 1, none⟩ = some (.int .i64 r8n) ∧ X.cell? ⟨g6, 2, none⟩ = some (.string ⟨List.toArray r8t⟩)) (fun _ => false) (by kernel_rfl) ?_
                                      have hb := (Below.refl W47.heap.size W47).drew
                                      obtain ⟨W48, hW⟩ : ∃ X, W47.drew = X := ⟨_, rfl⟩
                                      rw [hW] at hb ⊢
                                      clear hW
                                      replace B := Lib.hid (B.out.below hb)
                                      replace BL := Lib.hid (below_then BL.out hb)
                                      clear hb
                                      have hHeld : W48.cell? ⟨g5, 0, none⟩ = some (.int .i64 r7k) ∧ W48.cell? ⟨g5, 1, none⟩ = some (.int .i64 r7n) ∧ W48.cell? ⟨g5, 2, none⟩ = some (.string ⟨List.toArray r7t⟩) ∧ W48.cell? ⟨w.heap.size, 0, none⟩ = some (.int .i64 xk) ∧ W48.cell? ⟨w.heap.size, 1, none⟩ = some (.int .i64 xn) ∧ W48.cell? ⟨w.heap.size, 2, none⟩ = some (.string ⟨List.toArray xt⟩) ∧ W48.cell? ⟨g6, 0, none⟩ = some (.int .i64 r8k) ∧ W48.cell? ⟨g6, 1, none⟩ = some (.int .i64 r8n) ∧ W48.cell? ⟨g6, 2, none⟩ = some (.string ⟨List.toArray r8t⟩) := ⟨(B.out.get 1 rfl).c0, (B.out.get 1 rfl).c1, (B.out.get 1 rfl).c2, (B.out.get 8 rfl).c0, (B.out.get 8 rfl).c1, (B.out.get 8 rfl).c2, (B.out.get 0 rfl).c0, (B.out.get 0 rfl).c1, (B.out.get 0 rfl).c2⟩
                                      refine late_pure_at (some 143) (i := 0) (v := (.bool true)) rfl rfl rfl (by kernel_rfl) (by kernel_rfl) (by kernel_rfl) (fun _ _ _ h => h) (Or.inl ⟨by rfl, by intro w _; go_simp⟩) (fun _ => hHeld) ?_
                                      try simp only [Act.put, List.setIfInBounds_toArray, List.set_cons_zero, List.set_cons_succ]
                                      refine late_pure_at (some 144) (i := 1) (v := (.bool true)) rfl rfl rfl (by kernel_rfl) (by kernel_rfl) (by kernel_rfl) (fun _ _ _ h => h) (Or.inl ⟨by rfl, by intro w _; go_simp⟩) (fun _ => hHeld) ?_
                                      try simp only [Act.put, List.setIfInBounds_toArray, List.set_cons_zero, List.set_cons_succ]
                                      refine late_pure_at (some 145) (i := 2) (v := (.int .i64 r7e)) rfl rfl rfl (by kernel_rfl) (by kernel_rfl) (by kernel_rfl) (fun _ _ _ h => h) (Or.inl ⟨by rfl, by intro w _; go_simp⟩) (fun _ => hHeld) ?_
                                      try simp only [Act.put, List.setIfInBounds_toArray, List.set_cons_zero, List.set_cons_succ]
                                      refine late_pure_at (some 146) (i := 3) (v := (.bool true)) rfl rfl rfl (by kernel_rfl) (by kernel_rfl) (by kernel_rfl) (fun _ _ _ h => h) (Or.inl ⟨by rfl, by intro w _; go_simp⟩) (fun _ => hHeld) ?_
                                      try simp only [Act.put, List.setIfInBounds_toArray, List.set_cons_zero, List.set_cons_succ]
                                      refine late_pure_at (some 147) (i := 4) (v := (.bool true)) rfl rfl rfl (by kernel_rfl) (by kernel_rfl) (by kernel_rfl) (fun _ _ _ h => h) (Or.inl ⟨by rfl, by intro w _; go_simp⟩) (fun _ => hHeld) ?_
                                      try simp only [Act.put, List.setIfInBounds_toArray, List.set_cons_zero, List.set_cons_succ]
                                      refine late_pure_at (some 148) (i := 5) (v := (.bool true)) rfl rfl rfl (by kernel_rfl) (by kernel_rfl) (by kernel_rfl) (fun _ _ _ h => h) (Or.inl ⟨by rfl, by intro w _; go_simp⟩) (fun _ => hHeld) ?_
                                      try simp only [Act.put, List.setIfInBounds_toArray, List.set_cons_zero, List.set_cons_succ]
                                      refine late_pure_at (some 149) (i := 6) (v := (.int .i64 r8e)) rfl rfl rfl (by kernel_rfl) (by kernel_rfl) (by kernel_rfl) (fun _ _ _ h => h) (Or.inl ⟨by rfl, by intro w _; go_simp⟩) (fun _ => hHeld) ?_
                                      try simp only [Act.put, List.setIfInBounds_toArray, List.set_cons_zero, List.set_cons_succ]
                                      refine late_pure_at (some 150) (i := 7) (v := (.bool true)) rfl rfl rfl (by kernel_rfl) (by kernel_rfl) (by kernel_rfl) (fun _ _ _ h => h) (Or.inl ⟨by rfl, by intro w _; go_simp⟩) (fun _ => hHeld) ?_
                                      try simp only [Act.put, List.setIfInBounds_toArray, List.set_cons_zero, List.set_cons_succ]
                                      refine late_pure_at (some 151) (i := 8) (v := (.bool true)) rfl rfl rfl (by kernel_rfl) (by kernel_rfl) (by kernel_rfl) (fun _ _ _ h => h) (Or.inl ⟨by rfl, by intro w _; go_simp⟩) (fun _ => hHeld) ?_
                                      try simp only [Act.put, List.setIfInBounds_toArray, List.set_cons_zero, List.set_cons_succ]
                                      refine late_pure_at (some 152) (i := 9) (v := (.bool true)) rfl rfl rfl (by kernel_rfl) (by kernel_rfl) (by kernel_rfl) (fun _ _ _ h => h) (Or.inl ⟨by rfl, by intro w _; go_simp⟩) (fun _ => hHeld) ?_
                                      try simp only [Act.put, List.setIfInBounds_toArray, List.set_cons_zero, List.set_cons_succ]
                                      refine late_take_at (some 153) (i := 10) (v := (.agg #[.int .i64 r7k, .int .i64 r7n, .string ⟨List.toArray r7t⟩])) rfl rfl rfl (by kernel_rfl) (by kernel_rfl) (by kernel_rfl) (by kernel_rfl) (fun _ _ _ h => h) clean_none (Or.inl ⟨by rfl, by intro w hSw; go_split_ands; go_simp⟩) hHeld ?_
                                      try simp only [Act.put, List.setIfInBounds_toArray, List.set_cons_zero, List.set_cons_succ]
                                      refine late_take_at (some 154) (i := 11) (v := (.agg #[.int .i64 xk, .int .i64 xn, .string ⟨List.toArray xt⟩])) rfl rfl rfl (by kernel_rfl) (by kernel_rfl) (by kernel_rfl) (by kernel_rfl) (fun _ _ _ h => h) clean_none (Or.inl ⟨by rfl, by intro w hSw; go_split_ands; go_simp⟩) hHeld ?_
                                      try simp only [Act.put, List.setIfInBounds_toArray, List.set_cons_zero, List.set_cons_succ]
                                      refine late_pure_at (some 155) (i := 12) (v := (.bool true)) rfl rfl rfl (by kernel_rfl) (by kernel_rfl) (by kernel_rfl) (fun _ _ _ h => h) (Or.inl ⟨by rfl, by intro w _; go_simp⟩) (fun _ => hHeld) ?_
                                      try simp only [Act.put, List.setIfInBounds_toArray, List.set_cons_zero, List.set_cons_succ]
                                      refine late_pure_at (some 156) (i := 13) (v := (.bool true)) rfl rfl rfl (by kernel_rfl) (by kernel_rfl) (by kernel_rfl) (fun _ _ _ h => h) (Or.inl ⟨by rfl, by intro w _; go_simp⟩) (fun _ => hHeld) ?_
                                      try simp only [Act.put, List.setIfInBounds_toArray, List.set_cons_zero, List.set_cons_succ]
                                      refine late_pure_at (some 157) (i := 14) (v := (.bool true)) rfl rfl rfl (by kernel_rfl) (by kernel_rfl) (by kernel_rfl) (fun _ _ _ h => h) (Or.inl ⟨by rfl, by intro w _; go_simp⟩) (fun _ => hHeld) ?_
                                      try simp only [Act.put, List.setIfInBounds_toArray, List.set_cons_zero, List.set_cons_succ]
                                      refine late_take_at (some 158) (i := 15) (v := (.agg #[.int .i64 r8k, .int .i64 r8n, .string ⟨List.toArray r8t⟩])) rfl rfl rfl (by kernel_rfl) (by kernel_rfl) (by kernel_rfl) (by kernel_rfl) (fun _ _ _ h => h) clean_none (Or.inl ⟨by rfl, by intro w hSw; go_split_ands; go_simp⟩) hHeld ?_
                                      try simp only [Act.put, List.setIfInBounds_toArray, List.set_cons_zero, List.set_cons_succ]
                                      refine late_ready (rs := [16]) (by kernel_rfl) (by simp) ?_
                                      refine AllLate.cons rfl (fun K hK => ?_) ?_
                                      · skip
                                        go_simp
                                        refine (num_calls 0 _).mono ?_
                                        rintro e W49 ⟨rfl, hb⟩
                                        clear hHeld
                                        replace B := Lib.hid (B.out.below hb)
                                        replace BL := Lib.hid (below_then BL.out hb)
                                        clear hb
                                        have hHeld : W49.cell? ⟨g5, 0, none⟩ = some (.int .i64 r7k) ∧ W49.cell? ⟨g5, 1, none⟩ = some (.int .i64 r7n) ∧ W49.cell? ⟨g5, 2, none⟩ = some (.string ⟨List.toArray r7t⟩) ∧ W49.cell? ⟨w.heap.size, 0, none⟩ = some (.int .i64 xk) ∧ W49.cell? ⟨w.heap.size, 1, none⟩ = some (.int .i64 xn) ∧ W49.cell? ⟨w.heap.size, 2, none⟩ = some (.string ⟨List.toArray xt⟩) ∧ W49.cell? ⟨g6, 0, none⟩ = some (.int .i64 r8k) ∧ W49.cell? ⟨g6, 1, none⟩ = some (.int .i64 r8n) ∧ W49.cell? ⟨g6, 2, none⟩ = some (.string ⟨List.toArray r8t⟩) := ⟨(B.out.get 1 rfl).c0, (B.out.get 1 rfl).c1, (B.out.get 1 rfl).c2, (B.out.get 8 rfl).c0, (B.out.get 8 rfl).c1, (B.out.get 8 rfl).c2, (B.out.get 0 rfl).c0, (B.out.get 0 rfl).c1, (B.out.get 0 rfl).c2⟩
                                        dsimp only
                                        refine hK.out _ _ (fun _ => hHeld) ?_
                                        clear hK K
                                        try simp only [Act.put, List.setIfInBounds_toArray, List.set_cons_zero, List.set_cons_succ]
                                        refine late_pure_at (some 160) (i := 17) (v := (.bool true)) rfl rfl rfl (by kernel_rfl) (by kernel_rfl) (by kernel_rfl) (fun _ _ _ h => h) (Or.inl ⟨by rfl, by intro w _; go_simp⟩) (fun _ => hHeld) ?_
                                        try simp only [Act.put, List.setIfInBounds_toArray, List.set_cons_zero, List.set_cons_succ]
                                        refine late_pure_at (some 161) (i := 18) (v := (.bool true)) rfl rfl rfl (by kernel_rfl) (by kernel_rfl) (by kernel_rfl) (fun _ _ _ h => h) (Or.inl ⟨by rfl, by intro w _; go_simp⟩) (fun _ => hHeld) ?_
                                        try simp only [Act.put, List.setIfInBounds_toArray, List.set_cons_zero, List.set_cons_succ]
                                        refine late_pure_at (some 4) (i := 19) (v := (.bool true)) rfl rfl rfl (by kernel_rfl) (by kernel_rfl) (by kernel_rfl) (fun _ _ _ h => h) (Or.inl ⟨by rfl, by intro w _; go_simp⟩) (fun _ => hHeld) ?_
                                        try simp only [Act.put, List.setIfInBounds_toArray, List.set_cons_zero, List.set_cons_succ]
                                        refine late_done (by kernel_rfl) ?_ _
                                        refine NoPanic.normal ?_
                                        go_wp2_with fail
                                        go_ret
                                        exact ⟨rfl, BL.out⟩
                                      exact AllLate.nil
                                    | false =>
                                      exact Bool.noConfusion (show true = false from HL.out.trans (by show ((((true && (r7e == 0)) && (r8e == 0)) && (veqB r7k r7n r7t xk xn xt)) && (veqB r8k r8n r8t 1 0 [])) = false; rw [HA19.out, HA20.out, HA21.out, HA22.out]; rfl))
                                  | false =>
                                    exact Bool.noConfusion (show true = false from HL.out.trans (by show ((((true && (r7e == 0)) && (r8e == 0)) && (veqB r7k r7n r7t xk xn xt)) && (veqB r8k r8n r8t 1 0 [])) = false; rw [HA19.out, HA20.out, HA21.out]; rfl))
                                | false =>
                                  exact Bool.noConfusion (show true = false from HL.out.trans (by show ((((true && (r7e == 0)) && (r8e == 0)) && (veqB r7k r7n r7t xk xn xt)) && (veqB r8k r8n r8t 1 0 [])) = false; rw [HA19.out, HA20.out]; rfl))
                              | false =>
                                exact Bool.noConfusion (show true = false from HL.out.trans (by show ((((true && (r7e == 0)) && (r8e == 0)) && (veqB r7k r7n r7t xk xn xt)) && (veqB r8k r8n r8t 1 0 [])) = false; rw [HA19.out]; rfl))
                      | false =>
                        replace HL := Lib.hid (show true = BigFloor_s18 (⟨xk, xn, xt⟩ : Vl) (⟨yk, yn, yt⟩ : Vl) ((⟨r0k, r0n, r0t⟩, r0e) : Vl × Int) ((⟨r1k, r1n, r1t⟩, r1e) : Vl × Int) ((⟨r2k, r2n, r2t⟩, r2e) : Vl × Int) ((r3b, r3e) : Bool × Int) ((r4b, r4e) : Bool × Int) from HL.out.trans ((if_neg (fun h => Bool.noConfusion (HCW.out.symm.trans h)))))
                        -- region 23, a test
                        obtain ⟨b23, h⟩ : ∃ b : Bool, (r0e == 0) = b := ⟨_, rfl⟩
                        have HA23 := Lib.hid h
                        clear h
                        obtain ⟨c17, h⟩ : ∃ c : Bool, (!b23) = c := ⟨_, rfl⟩
                        have HCC := Lib.hid h
                        clear h
                        go_upto_region 23 with fail
                        go_cut [129] from 128 to 129 (fun v wx => v = .bool c17 ∧ Hid (Bxs wx [(g2, (⟨r2k, r2n, r2t⟩ : Vl)), (g1, (⟨r1k, r1n, r1t⟩ : Vl)), (g0, (⟨r0k, r0n, r0t⟩ : Vl)), (gb3, (⟨yk, yn, yt⟩ : Vl)), (w.heap.size, (⟨xk, xn, xt⟩ : Vl))]) ∧ Hid (Below w.heap.size w wx))
                        case first =>
                          clear HL
                          cases b23 with
                          | true =>
                            have f0_0 : ((r0e : Int) == 0) = true := HA23.out
                            have f0_1 : ((r0e : Int) != 0) = false := by have h := HA23.out; simpa using h
                            go_wp2_with fail
                            go_meet
                            exact ⟨congrArg Value.bool HCC.out, B, BL⟩
                          | false =>
                            have f0_0 : ((r0e : Int) == 0) = false := HA23.out
                            have f0_1 : ((r0e : Int) != 0) = true := by have h := HA23.out; simpa using h
                            go_wp2_with fail
                            go_meet
                            exact ⟨congrArg Value.bool HCC.out, B, BL⟩
                        case rest =>
                          clear B BL
                          obtain ⟨rfl, B, BL⟩ := hcut
                          obtain ⟨W50, hW⟩ : ∃ X, wc = X := ⟨_, rfl⟩
                          rw [hW] at B BL ⊢
                          clear hW
                          have HCW : Hid ((!(r0e == 0)) = c17) := Lib.hid (by rw [HA23.out]; exact HCC.out)
                          clear HCC HA23
                          cases c17 with
                          | true =>
                            replace HL := Lib.hid (show true = BigFloor_s14 (⟨xk, xn, xt⟩ : Vl) (⟨yk, yn, yt⟩ : Vl) ((⟨r0k, r0n, r0t⟩, r0e) : Vl × Int) ((⟨r1k, r1n, r1t⟩, r1e) : Vl × Int) ((⟨r2k, r2n, r2t⟩, r2e) : Vl × Int) ((r3b, r3e) : Bool × Int) ((r4b, r4e) : Bool × Int) from HL.out.trans (if_pos HCW.out))
                            go_wp2_with fail
                            go_ret
                            exact ⟨rfl, BL.out⟩
                          | false =>
                            replace HL := Lib.hid (show true = BigFloor_s17 (⟨xk, xn, xt⟩ : Vl) (⟨yk, yn, yt⟩ : Vl) ((⟨r0k, r0n, r0t⟩, r0e) : Vl × Int) ((⟨r1k, r1n, r1t⟩, r1e) : Vl × Int) ((⟨r2k, r2n, r2t⟩, r2e) : Vl × Int) ((r3b, r3e) : Bool × Int) ((r4b, r4e) : Bool × Int) from HL.out.trans ((if_neg (fun h => Bool.noConfusion (HCW.out.symm.trans h)))))
                            -- region 25
                            have cb6_4_1_0 : W50.cell? ⟨g0, 0, none⟩ = some (.int .i64 r0k) := (B.out.get 2 rfl).c0
                            have cb6_4_1_1 : W50.cell? ⟨g0, 1, none⟩ = some (.int .i64 r0n) := (B.out.get 2 rfl).c1
                            have cb6_4_1_2 : W50.cell? ⟨g0, 2, none⟩ = some (.string ⟨List.toArray r0t⟩) := (B.out.get 2 rfl).c2
                            have cb3_0 : W50.cell? ⟨gb3, 0, none⟩ = some (.int .i64 yk) := (B.out.get 3 rfl).c0
                            have cb3_1 : W50.cell? ⟨gb3, 1, none⟩ = some (.int .i64 yn) := (B.out.get 3 rfl).c1
                            have cb3_2 : W50.cell? ⟨gb3, 2, none⟩ = some (.string ⟨List.toArray yt⟩) := (B.out.get 3 rfl).c2
                            obtain ⟨⟨⟨r9k, r9n, r9t⟩, r9e⟩, hr9⟩ : ∃ p, divR (⟨r0k, r0n, r0t⟩ : Vl) (⟨yk, yn, yt⟩ : Vl) = p := ⟨_, rfl⟩
                            have hc9 := fun (W : World) (hW : Env W) => div_pub (⟨r0k, r0n, r0t⟩ : Vl) (⟨yk, yn, yt⟩ : Vl) HOr0.out HOy.out W hW
                            have ho9 := divR_ok (⟨r0k, r0n, r0t⟩ : Vl) (⟨yk, yn, yt⟩ : Vl)
                            rw [hr9] at hc9 ho9
                            simp only [Vl.val, pr] at hc9
                            have HC9 := Lib.hid hc9; have HOr9 : Hid (Vl.ok ⟨r9k, r9n, r9t⟩) := Lib.hid ho9; have HR9 := Lib.hid hr9
                            clear hc9 ho9 hr9
                            go_wp2_with fail
                            refine (HC9.out _ (HE.out.below BL.out)).mono ?_
                            rintro e W51 ⟨rfl, hb⟩
                            clear cb6_4_1_0 cb6_4_1_1 cb6_4_1_2 cb3_0 cb3_1 cb3_2
                            replace B := Lib.hid (B.out.below hb)
                            replace BL := Lib.hid (below_then BL.out hb)
                            clear hb
                            go_upto_region 26 with fail
                            have hB : Bxs (W51.alloc (.cells #[.int .i64 r9k, .int .i64 r9n, .string ⟨List.toArray r9t⟩] 23)) ((W51.heap.size, (⟨r9k, r9n, r9t⟩ : Vl)) :: [(g2, (⟨r2k, r2n, r2t⟩ : Vl)), (g1, (⟨r1k, r1n, r1t⟩ : Vl)), (g0, (⟨r0k, r0n, r0t⟩ : Vl)), (gb3, (⟨yk, yn, yt⟩ : Vl)), (w.heap.size, (⟨xk, xn, xt⟩ : Vl))]) := B.out.push (⟨r9k, r9n, r9t⟩ : Vl) 23
                            have hL : Below w.heap.size w (W51.alloc (.cells #[.int .i64 r9k, .int .i64 r9n, .string ⟨List.toArray r9t⟩] 23)) := BL.out.alloc BL.out.size _
                            obtain ⟨W52, hW⟩ : ∃ X, W51.alloc (.cells #[.int .i64 r9k, .int .i64 r9n, .string ⟨List.toArray r9t⟩] 23) = X := ⟨_, rfl⟩
                            obtain ⟨g7, hg⟩ : ∃ g, W51.heap.size = g := ⟨_, rfl⟩
                            rw [hW] at hB hL ⊢
                            rw [hg] at hB ⊢
                            have HGb18_25_17 : Hid (w.heap.size ≤ g7) := Lib.hid (by rw [← hg]; exact BL.out.size)
                            replace B := Lib.hid hB
                            replace BL := Lib.hid hL
                            clear hB hL hW hg
                            replace HL := Lib.hid (show true = BigFloor_s16 (⟨xk, xn, xt⟩ : Vl) (⟨yk, yn, yt⟩ : Vl) ((⟨r0k, r0n, r0t⟩, r0e) : Vl × Int) ((⟨r1k, r1n, r1t⟩, r1e) : Vl × Int) ((⟨r2k, r2n, r2t⟩, r2e) : Vl × Int) ((r3b, r3e) : Bool × Int) ((r4b, r4e) : Bool × Int) ((⟨r9k, r9n, r9t⟩, r9e) : Vl × Int) from HL.out.trans (by unfold BigFloor_s17; rw [HR9.out]))
                            -- region 26
                            have cb6_4_1_0 : W52.cell? ⟨g0, 0, none⟩ = some (.int .i64 r0k) := (B.out.get 3 rfl).c0
                            have cb6_4_1_1 : W52.cell? ⟨g0, 1, none⟩ = some (.int .i64 r0n) := (B.out.get 3 rfl).c1
                            have cb6_4_1_2 : W52.cell? ⟨g0, 2, none⟩ = some (.string ⟨List.toArray r0t⟩) := (B.out.get 3 rfl).c2
                            have cb3_0 : W52.cell? ⟨gb3, 0, none⟩ = some (.int .i64 yk) := (B.out.get 4 rfl).c0
                            have cb3_1 : W52.cell? ⟨gb3, 1, none⟩ = some (.int .i64 yn) := (B.out.get 4 rfl).c1
                            have cb3_2 : W52.cell? ⟨gb3, 2, none⟩ = some (.string ⟨List.toArray yt⟩) := (B.out.get 4 rfl).c2
                            obtain ⟨⟨⟨r10k, r10n, r10t⟩, r10e⟩, hr10⟩ : ∃ p, modR (⟨r0k, r0n, r0t⟩ : Vl) (⟨yk, yn, yt⟩ : Vl) = p := ⟨_, rfl⟩
                            have hc10 := fun (W : World) (hW : Env W) => mod_pub (⟨r0k, r0n, r0t⟩ : Vl) (⟨yk, yn, yt⟩ : Vl) HOr0.out HOy.out W hW
                            have ho10 := modR_ok (⟨r0k, r0n, r0t⟩ : Vl) (⟨yk, yn, yt⟩ : Vl)
                            rw [hr10] at hc10 ho10
                            simp only [Vl.val, pr] at hc10
                            have HC10 := Lib.hid hc10; have HOr10 : Hid (Vl.ok ⟨r10k, r10n, r10t⟩) := Lib.hid ho10; have HR10 := Lib.hid hr10
                            clear hc10 ho10 hr10
                            go_wp2_with fail
                            refine (HC10.out _ (HE.out.below BL.out)).mono ?_
                            rintro e W53 ⟨rfl, hb⟩
                            clear cb6_4_1_0 cb6_4_1_1 cb6_4_1_2 cb3_0 cb3_1 cb3_2
                            replace B := Lib.hid (B.out.below hb)
                            replace BL := Lib.hid (below_then BL.out hb)
                            clear hb
                            go_upto_region 27 with fail
                            have hB : Bxs (W53.alloc (.cells #[.int .i64 r10k, .int .i64 r10n, .string ⟨List.toArray r10t⟩] 23)) ((W53.heap.size, (⟨r10k, r10n, r10t⟩ : Vl)) :: [(g7, (⟨r9k, r9n, r9t⟩ : Vl)), (g2, (⟨r2k, r2n, r2t⟩ : Vl)), (g1, (⟨r1k, r1n, r1t⟩ : Vl)), (g0, (⟨r0k, r0n, r0t⟩ : Vl)), (gb3, (⟨yk, yn, yt⟩ : Vl)), (w.heap.size, (⟨xk, xn, xt⟩ : Vl))]) := B.out.push (⟨r10k, r10n, r10t⟩ : Vl) 23
                            have hL : Below w.heap.size w (W53.alloc (.cells #[.int .i64 r10k, .int .i64 r10n, .string ⟨List.toArray r10t⟩] 23)) := BL.out.alloc BL.out.size _
                            obtain ⟨W54, hW⟩ : ∃ X, W53.alloc (.cells #[.int .i64 r10k, .int .i64 r10n, .string ⟨List.toArray r10t⟩] 23) = X := ⟨_, rfl⟩
                            obtain ⟨g8, hg⟩ : ∃ g, W53.heap.size = g := ⟨_, rfl⟩
                            rw [hW] at hB hL ⊢
                            rw [hg] at hB ⊢
                            have HGb20_26_18 : Hid (w.heap.size ≤ g8) := Lib.hid (by rw [← hg]; exact BL.out.size)
                            replace B := Lib.hid hB
                            replace BL := Lib.hid hL
                            clear hB hL hW hg
                            replace HL := Lib.hid (show true = BigFloor_s15 (⟨xk, xn, xt⟩ : Vl) (⟨yk, yn, yt⟩ : Vl) ((⟨r0k, r0n, r0t⟩, r0e) : Vl × Int) ((⟨r1k, r1n, r1t⟩, r1e) : Vl × Int) ((⟨r2k, r2n, r2t⟩, r2e) : Vl × Int) ((r3b, r3e) : Bool × Int) ((r4b, r4e) : Bool × Int) ((⟨r9k, r9n, r9t⟩, r9e) : Vl × Int) ((⟨r10k, r10n, r10t⟩, r10e) : Vl × Int) from HL.out.trans (by unfold BigFloor_s16; rw [HR10.out]))
                            -- region 27, the end
                            obtain ⟨b24, h⟩ : ∃ b : Bool, (r9e == 0) = b := ⟨_, rfl⟩
                            have HA24 := Lib.hid h
                            clear h
                            obtain ⟨b25, h⟩ : ∃ b : Bool, (r10e == 0) = b := ⟨_, rfl⟩
                            have HA25 := Lib.hid h
                            clear h
                            obtain ⟨b26, h⟩ : ∃ b : Bool, (veqB r9k r9n r9t xk xn xt) = b := ⟨_, rfl⟩
                            have HA26 := Lib.hid h
                            clear h
                            obtain ⟨b27, h⟩ : ∃ b : Bool, (veqB r10k r10n r10t 1 0 []) = b := ⟨_, rfl⟩
                            have HA27 := Lib.hid h
                            clear h
                            cases b24 with
                            | true =>
                              cases b25 with
                              | true =>
                                cases b26 with
                                | true =>
                                  cases b27 with
                                  | true =>
                                    clear HL
                                    go_upto_region 27 with fail
                                    have f0_0 : ((r9e : Int) == 0) = true := HA24.out
                                    have f0_1 : ((r9e : Int) != 0) = false := by have h := HA24.out; simpa using h
                                    have f1_0 : ((r10e : Int) == 0) = true := HA25.out
                                    have f1_1 : ((r10e : Int) != 0) = false := by have h := HA25.out; simpa using h
                                    have f2_0 : (veqB r9k r9n r9t xk xn xt) = true := HA26.out
                                    have f3_0 : (veqB r10k r10n r10t 1 0 []) = true := HA27.out
                                    refine wp_region_noPanic ?_
                                    refine region_late (fun (X : World) => X.cell? ⟨g7, 0, none⟩ = some (.int .i64 r9k) ∧ X.cell? ⟨g7, 1, none⟩ = some (.int .i64 r9n) ∧ X.cell? ⟨g7, 2, none⟩ = some (.string ⟨List.toArray r9t⟩) ∧ X.cell? ⟨w.heap.size, 0, none⟩ = some (.int .i64 xk) ∧ X.cell? ⟨w.heap.size, 1, none⟩ = some (.int .i64 xn) ∧ X.cell? ⟨w.heap.size, 2, none⟩ = some (.string ⟨List.toArray xt⟩) ∧ X.cell? ⟨g8, 0, none⟩ = some (.int .i64 r10k) ∧ X.cell? ⟨g8, 1, none⟩ = some (.int .i64 r10n) ∧ X.cell? ⟨g8, 2, none⟩ = some (.string ⟨List.toArray r10t⟩)) (fun _ => false) (by kernel_rfl) ?_
                                    have hb := (Below.refl W54.heap.size W54).drew
                                    obtain ⟨W55, hW⟩ : ∃ X, W54.drew = X := ⟨_, rfl⟩
                                    rw [hW] at hb ⊢
                                    clear hW
                                    replace B := Lib.hid (B.out.below hb)
                                    replace BL := Lib.hid (below_then BL.out hb)
                                    clear hb
                                    have hHeld : W55.cell? ⟨g7, 0, none⟩ = some (.int .i64 r9k) ∧ W55.cell? ⟨g7, 1, none⟩ = some (.int .i64 r9n) ∧ W55.cell? ⟨g7, 2, none⟩ = some (.string ⟨List.toArray r9t⟩) ∧ W55.cell? ⟨w.heap.size, 0, none⟩ = some (.int .i64 xk) ∧ W55.cell? ⟨w.heap.size, 1, none⟩ = some (.int .i64 xn) ∧ W55.cell? ⟨w.heap.size, 2, none⟩ = some (.string ⟨List.toArray xt⟩) ∧ W55.cell? ⟨g8, 0, none⟩ = some (.int .i64 r10k) ∧ W55.cell? ⟨g8, 1, none⟩ = some (.int .i64 r10n) ∧ W55.cell? ⟨g8, 2, none⟩ = some (.string ⟨List.toArray r10t⟩) := ⟨(B.out.get 1 rfl).c0, (B.out.get 1 rfl).c1, (B.out.get 1 rfl).c2, (B.out.get 6 rfl).c0, (B.out.get 6 rfl).c1, (B.out.get 6 rfl).c2, (B.out.get 0 rfl).c0, (B.out.get 0 rfl).c1, (B.out.get 0 rfl).c2⟩
                                    refine late_pure_at (some 143) (i := 0) (v := (.bool true)) rfl rfl rfl (by kernel_rfl) (by kernel_rfl) (by kernel_rfl) (fun _ _ _ h => h) (Or.inl ⟨by rfl, by intro w _; go_simp⟩) (fun _ => hHeld) ?_
                                    try simp only [Act.put, List.setIfInBounds_toArray, List.set_cons_zero, List.set_cons_succ]
                                    refine late_pure_at (some 144) (i := 1) (v := (.bool true)) rfl rfl rfl (by kernel_rfl) (by kernel_rfl) (by kernel_rfl) (fun _ _ _ h => h) (Or.inl ⟨by rfl, by intro w _; go_simp⟩) (fun _ => hHeld) ?_
                                    try simp only [Act.put, List.setIfInBounds_toArray, List.set_cons_zero, List.set_cons_succ]
                                    refine late_pure_at (some 145) (i := 2) (v := (.int .i64 r9e)) rfl rfl rfl (by kernel_rfl) (by kernel_rfl) (by kernel_rfl) (fun _ _ _ h => h) (Or.inl ⟨by rfl, by intro w _; go_simp⟩) (fun _ => hHeld) ?_
                                    try simp only [Act.put, List.setIfInBounds_toArray, List.set_cons_zero, List.set_cons_succ]
                                    refine late_pure_at (some 146) (i := 3) (v := (.bool true)) rfl rfl rfl (by kernel_rfl) (by kernel_rfl) (by kernel_rfl) (fun _ _ _ h => h) (Or.inl ⟨by rfl, by intro w _; go_simp⟩) (fun _ => hHeld) ?_
                                    try simp only [Act.put, List.setIfInBounds_toArray, List.set_cons_zero, List.set_cons_succ]
                                    refine late_pure_at (some 147) (i := 4) (v := (.bool true)) rfl rfl rfl (by kernel_rfl) (by kernel_rfl) (by kernel_rfl) (fun _ _ _ h => h) (Or.inl ⟨by rfl, by intro w _; go_simp⟩) (fun _ => hHeld) ?_
                                    try simp only [Act.put, List.setIfInBounds_toArray, List.set_cons_zero, List.set_cons_succ]
                                    refine late_pure_at (some 148) (i := 5) (v := (.bool true)) rfl rfl rfl (by kernel_rfl) (by kernel_rfl) (by kernel_rfl) (fun _ _ _ h => h) (Or.inl ⟨by rfl, by intro w _; go_simp⟩) (fun _ => hHeld) ?_
                                    try simp only [Act.put, List.setIfInBounds_toArray, List.set_cons_zero, List.set_cons_succ]
                                    refine late_pure_at (some 149) (i := 6) (v := (.int .i64 r10e)) rfl rfl rfl (by kernel_rfl) (by kernel_rfl) (by kernel_rfl) (fun _ _ _ h => h) (Or.inl ⟨by rfl, by intro w _; go_simp⟩) (fun _ => hHeld) ?_
                                    try simp only [Act.put, List.setIfInBounds_toArray, List.set_cons_zero, List.set_cons_succ]
                                    refine late_pure_at (some 150) (i := 7) (v := (.bool true)) rfl rfl rfl (by kernel_rfl) (by kernel_rfl) (by kernel_rfl) (fun _ _ _ h => h) (Or.inl ⟨by rfl, by intro w _; go_simp⟩) (fun _ => hHeld) ?_
                                    try simp only [Act.put, List.setIfInBounds_toArray, List.set_cons_zero, List.set_cons_succ]
                                    refine late_pure_at (some 151) (i := 8) (v := (.bool true)) rfl rfl rfl (by kernel_rfl) (by kernel_rfl) (by kernel_rfl) (fun _ _ _ h => h) (Or.inl ⟨by rfl, by intro w _; go_simp⟩) (fun _ => hHeld) ?_
                                    try simp only [Act.put, List.setIfInBounds_toArray, List.set_cons_zero, List.set_cons_succ]
                                    refine late_pure_at (some 152) (i := 9) (v := (.bool true)) rfl rfl rfl (by kernel_rfl) (by kernel_rfl) (by kernel_rfl) (fun _ _ _ h => h) (Or.inl ⟨by rfl, by intro w _; go_simp⟩) (fun _ => hHeld) ?_
                                    try simp only [Act.put, List.setIfInBounds_toArray, List.set_cons_zero, List.set_cons_succ]
                                    refine late_take_at (some 153) (i := 10) (v := (.agg #[.int .i64 r9k, .int .i64 r9n, .string ⟨List.toArray r9t⟩])) rfl rfl rfl (by kernel_rfl) (by kernel_rfl) (by kernel_rfl) (by kernel_rfl) (fun _ _ _ h => h) clean_none (Or.inl ⟨by rfl, by intro w hSw; go_split_ands; go_simp⟩) hHeld ?_
                                    try simp only [Act.put, List.setIfInBounds_toArray, List.set_cons_zero, List.set_cons_succ]
                                    refine late_take_at (some 154) (i := 11) (v := (.agg #[.int .i64 xk, .int .i64 xn, .string ⟨List.toArray xt⟩])) rfl rfl rfl (by kernel_rfl) (by kernel_rfl) (by kernel_rfl) (by kernel_rfl) (fun _ _ _ h => h) clean_none (Or.inl ⟨by rfl, by intro w hSw; go_split_ands; go_simp⟩) hHeld ?_
                                    try simp only [Act.put, List.setIfInBounds_toArray, List.set_cons_zero, List.set_cons_succ]
                                    refine late_pure_at (some 155) (i := 12) (v := (.bool true)) rfl rfl rfl (by kernel_rfl) (by kernel_rfl) (by kernel_rfl) (fun _ _ _ h => h) (Or.inl ⟨by rfl, by intro w _; go_simp⟩) (fun _ => hHeld) ?_
                                    try simp only [Act.put, List.setIfInBounds_toArray, List.set_cons_zero, List.set_cons_succ]
                                    refine late_pure_at (some 156) (i := 13) (v := (.bool true)) rfl rfl rfl (by kernel_rfl) (by kernel_rfl) (by kernel_rfl) (fun _ _ _ h => h) (Or.inl ⟨by rfl, by intro w _; go_simp⟩) (fun _ => hHeld) ?_
                                    try simp only [Act.put, List.setIfInBounds_toArray, List.set_cons_zero, List.set_cons_succ]
                                    refine late_pure_at (some 157) (i := 14) (v := (.bool true)) rfl rfl rfl (by kernel_rfl) (by kernel_rfl) (by kernel_rfl) (fun _ _ _ h => h) (Or.inl ⟨by rfl, by intro w _; go_simp⟩) (fun _ => hHeld) ?_
                                    try simp only [Act.put, List.setIfInBounds_toArray, List.set_cons_zero, List.set_cons_succ]
                                    refine late_take_at (some 158) (i := 15) (v := (.agg #[.int .i64 r10k, .int .i64 r10n, .string ⟨List.toArray r10t⟩])) rfl rfl rfl (by kernel_rfl) (by kernel_rfl) (by kernel_rfl) (by kernel_rfl) (fun _ _ _ h => h) clean_none (Or.inl ⟨by rfl, by intro w hSw; go_split_ands; go_simp⟩) hHeld ?_
                                    try simp only [Act.put, List.setIfInBounds_toArray, List.set_cons_zero, List.set_cons_succ]
                                    refine late_ready (rs := [16]) (by kernel_rfl) (by simp) ?_
                                    refine AllLate.cons rfl (fun K hK => ?_) ?_
                                    · skip
                                      go_simp
                                      refine (num_calls 0 _).mono ?_
                                      rintro e W56 ⟨rfl, hb⟩
                                      clear hHeld
                                      replace B := Lib.hid (B.out.below hb)
                                      replace BL := Lib.hid (below_then BL.out hb)
                                      clear hb
                                      have hHeld : W56.cell? ⟨g7, 0, none⟩ = some (.int .i64 r9k) ∧ W56.cell? ⟨g7, 1, none⟩ = some (.int .i64 r9n) ∧ W56.cell? ⟨g7, 2, none⟩ = some (.string ⟨List.toArray r9t⟩) ∧ W56.cell? ⟨w.heap.size, 0, none⟩ = some (.int .i64 xk) ∧ W56.cell? ⟨w.heap.size, 1, none⟩ = some (.int .i64 xn) ∧ W56.cell? ⟨w.heap.size, 2, none⟩ = some (.string ⟨List.toArray xt⟩) ∧ W56.cell? ⟨g8, 0, none⟩ = some (.int .i64 r10k) ∧ W56.cell? ⟨g8, 1, none⟩ = some (.int .i64 r10n) ∧ W56.cell? ⟨g8, 2, none⟩ = some (.string ⟨List.toArray r10t⟩) := ⟨(B.out.get 1 rfl).c0, (B.out.get 1 rfl).c1, (B.out.get 1 rfl).c2, (B.out.get 6 rfl).c0, (B.out.get 6 rfl).c1, (B.out.get 6 rfl).c2, (B.out.get 0 rfl).c0, (B.out.get 0 rfl).c1, (B.out.get 0 rfl).c2⟩
                                      dsimp only
                                      refine hK.out _ _ (fun _ => hHeld) ?_
                                      clear hK K
                                      try simp only [Act.put, List.setIfInBounds_toArray, List.set_cons_zero, List.set_cons_succ]
                                      refine late_pure_at (some 160) (i := 17) (v := (.bool true)) rfl rfl rfl (by kernel_rfl) (by kernel_rfl) (by kernel_rfl) (fun _ _ _ h => h) (Or.inl ⟨by rfl, by intro w _; go_simp⟩) (fun _ => hHeld) ?_
                                      try simp only [Act.put, List.setIfInBounds_toArray, List.set_cons_zero, List.set_cons_succ]
                                      refine late_pure_at (some 161) (i := 18) (v := (.bool true)) rfl rfl rfl (by kernel_rfl) (by kernel_rfl) (by kernel_rfl) (fun _ _ _ h => h) (Or.inl ⟨by rfl, by intro w _; go_simp⟩) (fun _ => hHeld) ?_
                                      try simp only [Act.put, List.setIfInBounds_toArray, List.set_cons_zero, List.set_cons_succ]
                                      refine late_pure_at (some 4) (i := 19) (v := (.bool true)) rfl rfl rfl (by kernel_rfl) (by kernel_rfl) (by kernel_rfl) (fun _ _ _ h => h) (Or.inl ⟨by rfl, by intro w _; go_simp⟩) (fun _ => hHeld) ?_
                                      try simp only [Act.put, List.setIfInBounds_toArray, List.set_cons_zero, List.set_cons_succ]
                                      refine late_done (by kernel_rfl) ?_ _
                                      refine NoPanic.normal ?_
                                      go_wp2_with fail
                                      go_ret
                                      exact ⟨rfl, BL.out⟩
                                    exact AllLate.nil
                                  | false =>
                                    exact Bool.noConfusion (show true = false from HL.out.trans (by show ((((true && (r9e == 0)) && (r10e == 0)) && (veqB r9k r9n r9t xk xn xt)) && (veqB r10k r10n r10t 1 0 [])) = false; rw [HA24.out, HA25.out, HA26.out, HA27.out]; rfl))
                                | false =>
                                  exact Bool.noConfusion (show true = false from HL.out.trans (by show ((((true && (r9e == 0)) && (r10e == 0)) && (veqB r9k r9n r9t xk xn xt)) && (veqB r10k r10n r10t 1 0 [])) = false; rw [HA24.out, HA25.out, HA26.out]; rfl))
                              | false =>
                                exact Bool.noConfusion (show true = false from HL.out.trans (by show ((((true && (r9e == 0)) && (r10e == 0)) && (veqB r9k r9n r9t xk xn xt)) && (veqB r10k r10n r10t 1 0 [])) = false; rw [HA24.out, HA25.out]; rfl))
                            | false =>
                              exact Bool.noConfusion (show true = false from HL.out.trans (by show ((((true && (r9e == 0)) && (r10e == 0)) && (veqB r9k r9n r9t xk xn xt)) && (veqB r10k r10n r10t 1 0 [])) = false; rw [HA24.out]; rfl))
                | false =>
                  replace HL := Lib.hid (show true = BigFloor_s38 (⟨xk, xn, xt⟩ : Vl) (⟨yk, yn, yt⟩ : Vl) ((⟨r0k, r0n, r0t⟩, r0e) : Vl × Int) ((⟨r1k, r1n, r1t⟩, r1e) : Vl × Int) ((⟨r2k, r2n, r2t⟩, r2e) : Vl × Int) ((r3b, r3e) : Bool × Int) from HL.out.trans ((if_neg (fun h => Bool.noConfusion (HCW.out.symm.trans h)))))
                  -- region 16, a test
                  obtain ⟨b28, h⟩ : ∃ b : Bool, (r3e == 0) = b := ⟨_, rfl⟩
                  have HA28 := Lib.hid h
                  clear h
                  have HCF : ((!(r3e == 0)) || (!r3b)) = false := Bool.eq_false_iff.2 fun h => Bool.noConfusion (show true = false from HL.out.trans (if_pos h))
                  have HCB : ((!b28) || (!r3b)) = false := by
                    have h := HCF
                    rw [HA28.out] at h
                    exact h
                  have HCW := Lib.hid HCF
                  have HCC := Lib.hid HCB
                  clear HCF HCB
                  go_upto_region 16 with fail
                  go_cut [102] from 97 to 102 (fun v wx => v = .bool false ∧ Hid (Bxs wx [(g2, (⟨r2k, r2n, r2t⟩ : Vl)), (g1, (⟨r1k, r1n, r1t⟩ : Vl)), (g0, (⟨r0k, r0n, r0t⟩ : Vl)), (gb3, (⟨yk, yn, yt⟩ : Vl)), (w.heap.size, (⟨xk, xn, xt⟩ : Vl))]) ∧ Hid (Below w.heap.size w wx))
                  case first =>
                    clear HL
                    cases b28 with
                    | true =>
                      cases r3b with
                      | true =>
                        have f0_0 : ((r3e : Int) == 0) = true := HA28.out
                        have f0_1 : ((r3e : Int) != 0) = false := by have h := HA28.out; simpa using h
                        go_wp2_with fail
                        go_meet
                        exact ⟨rfl, B, BL⟩
                      | false =>
                        exact Bool.noConfusion (show true = false from HCC.out)
                    | false =>
                      exact Bool.noConfusion (show true = false from HCC.out)
                  case rest =>
                    clear B BL
                    obtain ⟨rfl, B, BL⟩ := hcut
                    obtain ⟨W57, hW⟩ : ∃ X, wc = X := ⟨_, rfl⟩
                    rw [hW] at B BL ⊢
                    clear hW
                    clear HCC HA28
                    replace HL := Lib.hid (show true = BigFloor_s37 (⟨xk, xn, xt⟩ : Vl) (⟨yk, yn, yt⟩ : Vl) ((⟨r0k, r0n, r0t⟩, r0e) : Vl × Int) ((⟨r1k, r1n, r1t⟩, r1e) : Vl × Int) ((⟨r2k, r2n, r2t⟩, r2e) : Vl × Int) ((r3b, r3e) : Bool × Int) from HL.out.trans ((if_neg (fun h => Bool.noConfusion (HCW.out.symm.trans h)))))
                    -- region 18, a test
                    obtain ⟨b30, h⟩ : ∃ b : Bool, (r1e == 0) = b := ⟨_, rfl⟩
                    have HA30 := Lib.hid h
                    clear h
                    obtain ⟨c21, h⟩ : ∃ c : Bool, b30 = c := ⟨_, rfl⟩
                    have HCC := Lib.hid h
                    clear h
                    go_upto_region 18 with fail
                    go_cut [104] from 103 to 104 (fun v wx => v = .bool c21 ∧ Hid (Bxs wx [(g2, (⟨r2k, r2n, r2t⟩ : Vl)), (g1, (⟨r1k, r1n, r1t⟩ : Vl)), (g0, (⟨r0k, r0n, r0t⟩ : Vl)), (gb3, (⟨yk, yn, yt⟩ : Vl)), (w.heap.size, (⟨xk, xn, xt⟩ : Vl))]) ∧ Hid (Below w.heap.size w wx))
                    case first =>
                      clear HL
                      cases b30 with
                      | true =>
                        have f0_0 : ((r1e : Int) == 0) = true := HA30.out
                        have f0_1 : ((r1e : Int) != 0) = false := by have h := HA30.out; simpa using h
                        go_wp2_with fail
                        go_meet
                        exact ⟨congrArg Value.bool HCC.out, B, BL⟩
                      | false =>
                        have f0_0 : ((r1e : Int) == 0) = false := HA30.out
                        have f0_1 : ((r1e : Int) != 0) = true := by have h := HA30.out; simpa using h
                        go_wp2_with fail
                        go_meet
                        exact ⟨congrArg Value.bool HCC.out, B, BL⟩
                    case rest =>
                      clear B BL
                      obtain ⟨rfl, B, BL⟩ := hcut
                      obtain ⟨W58, hW⟩ : ∃ X, wc = X := ⟨_, rfl⟩
                      rw [hW] at B BL ⊢
                      clear hW
                      have HCW : Hid ((r1e == 0) = c21) := Lib.hid (by rw [HA30.out]; exact HCC.out)
                      clear HCC HA30
                      cases c21 with
                      | true =>
                        replace HL := Lib.hid (show true = BigFloor_s31 (⟨xk, xn, xt⟩ : Vl) (⟨yk, yn, yt⟩ : Vl) ((⟨r0k, r0n, r0t⟩, r0e) : Vl × Int) ((⟨r1k, r1n, r1t⟩, r1e) : Vl × Int) ((⟨r2k, r2n, r2t⟩, r2e) : Vl × Int) ((r3b, r3e) : Bool × Int) from HL.out.trans (if_pos HCW.out))
                        -- region 19
                        have cb2_0 : W58.cell? ⟨w.heap.size, 0, none⟩ = some (.int .i64 xk) := (B.out.get 4 rfl).c0
                        have cb2_1 : W58.cell? ⟨w.heap.size, 1, none⟩ = some (.int .i64 xn) := (B.out.get 4 rfl).c1
                        have cb2_2 : W58.cell? ⟨w.heap.size, 2, none⟩ = some (.string ⟨List.toArray xt⟩) := (B.out.get 4 rfl).c2
                        have cb10_6_3_0 : W58.cell? ⟨g2, 0, none⟩ = some (.int .i64 r2k) := (B.out.get 0 rfl).c0
                        have cb10_6_3_1 : W58.cell? ⟨g2, 1, none⟩ = some (.int .i64 r2n) := (B.out.get 0 rfl).c1
                        have cb10_6_3_2 : W58.cell? ⟨g2, 2, none⟩ = some (.string ⟨List.toArray r2t⟩) := (B.out.get 0 rfl).c2
                        obtain ⟨⟨⟨r11k, r11n, r11t⟩, r11e⟩, hr11⟩ : ∃ p, subR (⟨xk, xn, xt⟩ : Vl) (⟨r2k, r2n, r2t⟩ : Vl) = p := ⟨_, rfl⟩
                        have hc11 := fun (W : World) (hW : Env W) => sub_pub (⟨xk, xn, xt⟩ : Vl) (⟨r2k, r2n, r2t⟩ : Vl) HOx.out HOr2.out W hW
                        have ho11 := subR_ok (⟨xk, xn, xt⟩ : Vl) (⟨r2k, r2n, r2t⟩ : Vl)
                        rw [hr11] at hc11 ho11
                        simp only [Vl.val, pr] at hc11
                        have HC11 := Lib.hid hc11; have HOr11 : Hid (Vl.ok ⟨r11k, r11n, r11t⟩) := Lib.hid ho11; have HR11 := Lib.hid hr11
                        clear hc11 ho11 hr11
                        go_wp2_with fail
                        refine (HC11.out _ (HE.out.below BL.out)).mono ?_
                        rintro e W59 ⟨rfl, hb⟩
                        clear cb2_0 cb2_1 cb2_2 cb10_6_3_0 cb10_6_3_1 cb10_6_3_2
                        replace B := Lib.hid (B.out.below hb)
                        replace BL := Lib.hid (below_then BL.out hb)
                        clear hb
                        go_upto_region 20 with fail
                        have hB : Bxs (W59.alloc (.cells #[.int .i64 r11k, .int .i64 r11n, .string ⟨List.toArray r11t⟩] 23)) ((W59.heap.size, (⟨r11k, r11n, r11t⟩ : Vl)) :: [(g2, (⟨r2k, r2n, r2t⟩ : Vl)), (g1, (⟨r1k, r1n, r1t⟩ : Vl)), (g0, (⟨r0k, r0n, r0t⟩ : Vl)), (gb3, (⟨yk, yn, yt⟩ : Vl)), (w.heap.size, (⟨xk, xn, xt⟩ : Vl))]) := B.out.push (⟨r11k, r11n, r11t⟩ : Vl) 23
                        have hL : Below w.heap.size w (W59.alloc (.cells #[.int .i64 r11k, .int .i64 r11n, .string ⟨List.toArray r11t⟩] 23)) := BL.out.alloc BL.out.size _
                        obtain ⟨W60, hW⟩ : ∃ X, W59.alloc (.cells #[.int .i64 r11k, .int .i64 r11n, .string ⟨List.toArray r11t⟩] 23) = X := ⟨_, rfl⟩
                        obtain ⟨g9, hg⟩ : ∃ g, W59.heap.size = g := ⟨_, rfl⟩
                        rw [hW] at hB hL ⊢
                        rw [hg] at hB ⊢
                        have HGb14_19_21 : Hid (w.heap.size ≤ g9) := Lib.hid (by rw [← hg]; exact BL.out.size)
                        replace B := Lib.hid hB
                        replace BL := Lib.hid hL
                        clear hB hL hW hg
                        replace HL := Lib.hid (show true = BigFloor_s30 (⟨xk, xn, xt⟩ : Vl) (⟨yk, yn, yt⟩ : Vl) ((⟨r0k, r0n, r0t⟩, r0e) : Vl × Int) ((⟨r1k, r1n, r1t⟩, r1e) : Vl × Int) ((⟨r2k, r2n, r2t⟩, r2e) : Vl × Int) ((r3b, r3e) : Bool × Int) ((⟨r11k, r11n, r11t⟩, r11e) : Vl × Int) from HL.out.trans (by unfold BigFloor_s31; rw [HR11.out]))
                        -- region 20
                        have cb3_0 : W60.cell? ⟨gb3, 0, none⟩ = some (.int .i64 yk) := (B.out.get 4 rfl).c0
                        have cb3_1 : W60.cell? ⟨gb3, 1, none⟩ = some (.int .i64 yn) := (B.out.get 4 rfl).c1
                        have cb3_2 : W60.cell? ⟨gb3, 2, none⟩ = some (.string ⟨List.toArray yt⟩) := (B.out.get 4 rfl).c2
                        have cb8_5_2_0 : W60.cell? ⟨g1, 0, none⟩ = some (.int .i64 r1k) := (B.out.get 2 rfl).c0
                        have cb8_5_2_1 : W60.cell? ⟨g1, 1, none⟩ = some (.int .i64 r1n) := (B.out.get 2 rfl).c1
                        have cb8_5_2_2 : W60.cell? ⟨g1, 2, none⟩ = some (.string ⟨List.toArray r1t⟩) := (B.out.get 2 rfl).c2
                        obtain ⟨⟨⟨r12k, r12n, r12t⟩, r12e⟩, hr12⟩ : ∃ p, mulR (⟨yk, yn, yt⟩ : Vl) (⟨r1k, r1n, r1t⟩ : Vl) = p := ⟨_, rfl⟩
                        have hc12 := fun (W : World) (hW : Env W) => mul_pub (⟨yk, yn, yt⟩ : Vl) (⟨r1k, r1n, r1t⟩ : Vl) HOy.out HOr1.out W hW
                        have ho12 := mulR_ok (⟨yk, yn, yt⟩ : Vl) (⟨r1k, r1n, r1t⟩ : Vl)
                        rw [hr12] at hc12 ho12
                        simp only [Vl.val, pr] at hc12
                        have HC12 := Lib.hid hc12; have HOr12 : Hid (Vl.ok ⟨r12k, r12n, r12t⟩) := Lib.hid ho12; have HR12 := Lib.hid hr12
                        clear hc12 ho12 hr12
                        go_wp2_with fail
                        refine (HC12.out _ (HE.out.below BL.out)).mono ?_
                        rintro e W61 ⟨rfl, hb⟩
                        clear cb3_0 cb3_1 cb3_2 cb8_5_2_0 cb8_5_2_1 cb8_5_2_2
                        replace B := Lib.hid (B.out.below hb)
                        replace BL := Lib.hid (below_then BL.out hb)
                        clear hb
                        go_upto_region 21 with fail
                        have hB : Bxs (W61.alloc (.cells #[.int .i64 r12k, .int .i64 r12n, .string ⟨List.toArray r12t⟩] 23)) ((W61.heap.size, (⟨r12k, r12n, r12t⟩ : Vl)) :: [(g9, (⟨r11k, r11n, r11t⟩ : Vl)), (g2, (⟨r2k, r2n, r2t⟩ : Vl)), (g1, (⟨r1k, r1n, r1t⟩ : Vl)), (g0, (⟨r0k, r0n, r0t⟩ : Vl)), (gb3, (⟨yk, yn, yt⟩ : Vl)), (w.heap.size, (⟨xk, xn, xt⟩ : Vl))]) := B.out.push (⟨r12k, r12n, r12t⟩ : Vl) 23
                        have hL : Below w.heap.size w (W61.alloc (.cells #[.int .i64 r12k, .int .i64 r12n, .string ⟨List.toArray r12t⟩] 23)) := BL.out.alloc BL.out.size _
                        obtain ⟨W62, hW⟩ : ∃ X, W61.alloc (.cells #[.int .i64 r12k, .int .i64 r12n, .string ⟨List.toArray r12t⟩] 23) = X := ⟨_, rfl⟩
                        obtain ⟨g10, hg⟩ : ∃ g, W61.heap.size = g := ⟨_, rfl⟩
                        rw [hW] at hB hL ⊢
                        rw [hg] at hB ⊢
                        have HGb16_20_22 : Hid (w.heap.size ≤ g10) := Lib.hid (by rw [← hg]; exact BL.out.size)
                        replace B := Lib.hid hB
                        replace BL := Lib.hid hL
                        clear hB hL hW hg
                        replace HL := Lib.hid (show true = BigFloor_s29 (⟨xk, xn, xt⟩ : Vl) (⟨yk, yn, yt⟩ : Vl) ((⟨r0k, r0n, r0t⟩, r0e) : Vl × Int) ((⟨r1k, r1n, r1t⟩, r1e) : Vl × Int) ((⟨r2k, r2n, r2t⟩, r2e) : Vl × Int) ((r3b, r3e) : Bool × Int) ((⟨r11k, r11n, r11t⟩, r11e) : Vl × Int) ((⟨r12k, r12n, r12t⟩, r12e) : Vl × Int) from HL.out.trans (by unfold BigFloor_s30; rw [HR12.out]))
                        -- region 21, a test
                        obtain ⟨b31, h⟩ : ∃ b : Bool, (r11e == 0) = b := ⟨_, rfl⟩
                        have HA31 := Lib.hid h
                        clear h
                        obtain ⟨b32, h⟩ : ∃ b : Bool, (r12e == 0) = b := ⟨_, rfl⟩
                        have HA32 := Lib.hid h
                        clear h
                        obtain ⟨b33, h⟩ : ∃ b : Bool, (veqB r11k r11n r11t r12k r12n r12t) = b := ⟨_, rfl⟩
                        have HA33 := Lib.hid h
                        clear h
                        have HCF : (((r11e == 0) && (r12e == 0)) && (!(veqB r11k r11n r11t r12k r12n r12t))) = false := Bool.eq_false_iff.2 fun h => Bool.noConfusion (show true = false from HL.out.trans (if_pos h))
                        have HCB : ((b31 && b32) && (!b33)) = false := by
                          have h := HCF
                          rw [HA31.out, HA32.out, HA33.out] at h
                          exact h
                        have HCW := Lib.hid HCF
                        have HCC := Lib.hid HCB
                        clear HCF HCB
                        go_upto_region 21 with fail
                        go_cut [127] from 117 to 127 (fun v wx => v = .bool false ∧ Hid (Bxs wx [(g10, (⟨r12k, r12n, r12t⟩ : Vl)), (g9, (⟨r11k, r11n, r11t⟩ : Vl)), (g2, (⟨r2k, r2n, r2t⟩ : Vl)), (g1, (⟨r1k, r1n, r1t⟩ : Vl)), (g0, (⟨r0k, r0n, r0t⟩ : Vl)), (gb3, (⟨yk, yn, yt⟩ : Vl)), (w.heap.size, (⟨xk, xn, xt⟩ : Vl))]) ∧ Hid (Below w.heap.size w wx))
                        case first =>
                          clear HL
                          cases b31 with
                          | true =>
                            cases b32 with
                            | true =>
                              cases b33 with
                              | true =>
                                have f0_0 : ((r11e : Int) == 0) = true := HA31.out
                                have f0_1 : ((r11e : Int) != 0) = false := by have h := HA31.out; simpa using h
                                have f1_0 : ((r12e : Int) == 0) = true := HA32.out
                                have f1_1 : ((r12e : Int) != 0) = false := by have h := HA32.out; simpa using h
                                have f2_0 : (veqB r11k r11n r11t r12k r12n r12t) = true := HA33.out
                                have cb14_19_21_0 : W62.cell? ⟨g9, 0, none⟩ = some (.int .i64 r11k) := (B.out.get 1 rfl).c0
                                have cb14_19_21_1 : W62.cell? ⟨g9, 1, none⟩ = some (.int .i64 r11n) := (B.out.get 1 rfl).c1
                                have cb14_19_21_2 : W62.cell? ⟨g9, 2, none⟩ = some (.string ⟨List.toArray r11t⟩) := (B.out.get 1 rfl).c2
                                have cb16_20_22_0 : W62.cell? ⟨g10, 0, none⟩ = some (.int .i64 r12k) := (B.out.get 0 rfl).c0
                                have cb16_20_22_1 : W62.cell? ⟨g10, 1, none⟩ = some (.int .i64 r12n) := (B.out.get 0 rfl).c1
                                have cb16_20_22_2 : W62.cell? ⟨g10, 2, none⟩ = some (.string ⟨List.toArray r12t⟩) := (B.out.get 0 rfl).c2
                                go_wp2_with fail
                                go_meet
                                exact ⟨rfl, B, BL⟩
                              | false =>
                                exact Bool.noConfusion (show true = false from HCC.out)
                            | false =>
                              have f0_0 : ((r11e : Int) == 0) = true := HA31.out
                              have f0_1 : ((r11e : Int) != 0) = false := by have h := HA31.out; simpa using h
                              have f1_0 : ((r12e : Int) == 0) = false := HA32.out
                              have f1_1 : ((r12e : Int) != 0) = true := by have h := HA32.out; simpa using h
                              go_wp2_with fail
                              go_meet
                              exact ⟨rfl, B, BL⟩
                          | false =>
                            have f0_0 : ((r11e : Int) == 0) = false := HA31.out
                            have f0_1 : ((r11e : Int) != 0) = true := by have h := HA31.out; simpa using h
                            go_wp2_with fail
                            go_meet
                            exact ⟨rfl, B, BL⟩
                        case rest =>
                          clear B BL
                          obtain ⟨rfl, B, BL⟩ := hcut
                          obtain ⟨W63, hW⟩ : ∃ X, wc = X := ⟨_, rfl⟩
                          rw [hW] at B BL ⊢
                          clear hW
                          clear HCC HA31 HA32 HA33
                          replace HL := Lib.hid (show true = BigFloor_s28 (⟨xk, xn, xt⟩ : Vl) (⟨yk, yn, yt⟩ : Vl) ((⟨r0k, r0n, r0t⟩, r0e) : Vl × Int) ((⟨r1k, r1n, r1t⟩, r1e) : Vl × Int) ((⟨r2k, r2n, r2t⟩, r2e) : Vl × Int) ((r3b, r3e) : Bool × Int) ((⟨r11k, r11n, r11t⟩, r11e) : Vl × Int) ((⟨r12k, r12n, r12t⟩, r12e) : Vl × Int) from HL.out.trans ((if_neg (fun h => Bool.noConfusion (HCW.out.symm.trans h)))))
                          -- region 23, a test
                          obtain ⟨b34, h⟩ : ∃ b : Bool, (r0e == 0) = b := ⟨_, rfl⟩
                          have HA34 := Lib.hid h
                          clear h
                          obtain ⟨c25, h⟩ : ∃ c : Bool, (!b34) = c := ⟨_, rfl⟩
                          have HCC := Lib.hid h
                          clear h
                          go_upto_region 23 with fail
                          go_cut [129] from 128 to 129 (fun v wx => v = .bool c25 ∧ Hid (Bxs wx [(g10, (⟨r12k, r12n, r12t⟩ : Vl)), (g9, (⟨r11k, r11n, r11t⟩ : Vl)), (g2, (⟨r2k, r2n, r2t⟩ : Vl)), (g1, (⟨r1k, r1n, r1t⟩ : Vl)), (g0, (⟨r0k, r0n, r0t⟩ : Vl)), (gb3, (⟨yk, yn, yt⟩ : Vl)), (w.heap.size, (⟨xk, xn, xt⟩ : Vl))]) ∧ Hid (Below w.heap.size w wx))
                          case first =>
                            clear HL
                            cases b34 with
                            | true =>
                              have f0_0 : ((r0e : Int) == 0) = true := HA34.out
                              have f0_1 : ((r0e : Int) != 0) = false := by have h := HA34.out; simpa using h
                              go_wp2_with fail
                              go_meet
                              exact ⟨congrArg Value.bool HCC.out, B, BL⟩
                            | false =>
                              have f0_0 : ((r0e : Int) == 0) = false := HA34.out
                              have f0_1 : ((r0e : Int) != 0) = true := by have h := HA34.out; simpa using h
                              go_wp2_with fail
                              go_meet
                              exact ⟨congrArg Value.bool HCC.out, B, BL⟩
                          case rest =>
                            clear B BL
                            obtain ⟨rfl, B, BL⟩ := hcut
                            obtain ⟨W64, hW⟩ : ∃ X, wc = X := ⟨_, rfl⟩
                            rw [hW] at B BL ⊢
                            clear hW
                            have HCW : Hid ((!(r0e == 0)) = c25) := Lib.hid (by rw [HA34.out]; exact HCC.out)
                            clear HCC HA34
                            cases c25 with
                            | true =>
                              replace HL := Lib.hid (show true = BigFloor_s24 (⟨xk, xn, xt⟩ : Vl) (⟨yk, yn, yt⟩ : Vl) ((⟨r0k, r0n, r0t⟩, r0e) : Vl × Int) ((⟨r1k, r1n, r1t⟩, r1e) : Vl × Int) ((⟨r2k, r2n, r2t⟩, r2e) : Vl × Int) ((r3b, r3e) : Bool × Int) ((⟨r11k, r11n, r11t⟩, r11e) : Vl × Int) ((⟨r12k, r12n, r12t⟩, r12e) : Vl × Int) from HL.out.trans (if_pos HCW.out))
                              go_wp2_with fail
                              go_ret
                              exact ⟨rfl, BL.out⟩
                            | false =>
                              replace HL := Lib.hid (show true = BigFloor_s27 (⟨xk, xn, xt⟩ : Vl) (⟨yk, yn, yt⟩ : Vl) ((⟨r0k, r0n, r0t⟩, r0e) : Vl × Int) ((⟨r1k, r1n, r1t⟩, r1e) : Vl × Int) ((⟨r2k, r2n, r2t⟩, r2e) : Vl × Int) ((r3b, r3e) : Bool × Int) ((⟨r11k, r11n, r11t⟩, r11e) : Vl × Int) ((⟨r12k, r12n, r12t⟩, r12e) : Vl × Int) from HL.out.trans ((if_neg (fun h => Bool.noConfusion (HCW.out.symm.trans h)))))
                              -- region 25
                              have cb6_4_1_0 : W64.cell? ⟨g0, 0, none⟩ = some (.int .i64 r0k) := (B.out.get 4 rfl).c0
                              have cb6_4_1_1 : W64.cell? ⟨g0, 1, none⟩ = some (.int .i64 r0n) := (B.out.get 4 rfl).c1
                              have cb6_4_1_2 : W64.cell? ⟨g0, 2, none⟩ = some (.string ⟨List.toArray r0t⟩) := (B.out.get 4 rfl).c2
                              have cb3_0 : W64.cell? ⟨gb3, 0, none⟩ = some (.int .i64 yk) := (B.out.get 5 rfl).c0
                              have cb3_1 : W64.cell? ⟨gb3, 1, none⟩ = some (.int .i64 yn) := (B.out.get 5 rfl).c1
                              have cb3_2 : W64.cell? ⟨gb3, 2, none⟩ = some (.string ⟨List.toArray yt⟩) := (B.out.get 5 rfl).c2
                              obtain ⟨⟨⟨r13k, r13n, r13t⟩, r13e⟩, hr13⟩ : ∃ p, divR (⟨r0k, r0n, r0t⟩ : Vl) (⟨yk, yn, yt⟩ : Vl) = p := ⟨_, rfl⟩
                              have hc13 := fun (W : World) (hW : Env W) => div_pub (⟨r0k, r0n, r0t⟩ : Vl) (⟨yk, yn, yt⟩ : Vl) HOr0.out HOy.out W hW
                              have ho13 := divR_ok (⟨r0k, r0n, r0t⟩ : Vl) (⟨yk, yn, yt⟩ : Vl)
                              rw [hr13] at hc13 ho13
                              simp only [Vl.val, pr] at hc13
                              have HC13 := Lib.hid hc13; have HOr13 : Hid (Vl.ok ⟨r13k, r13n, r13t⟩) := Lib.hid ho13; have HR13 := Lib.hid hr13
                              clear hc13 ho13 hr13
                              go_wp2_with fail
                              refine (HC13.out _ (HE.out.below BL.out)).mono ?_
                              rintro e W65 ⟨rfl, hb⟩
                              clear cb6_4_1_0 cb6_4_1_1 cb6_4_1_2 cb3_0 cb3_1 cb3_2
                              replace B := Lib.hid (B.out.below hb)
                              replace BL := Lib.hid (below_then BL.out hb)
                              clear hb
                              go_upto_region 26 with fail
                              have hB : Bxs (W65.alloc (.cells #[.int .i64 r13k, .int .i64 r13n, .string ⟨List.toArray r13t⟩] 23)) ((W65.heap.size, (⟨r13k, r13n, r13t⟩ : Vl)) :: [(g10, (⟨r12k, r12n, r12t⟩ : Vl)), (g9, (⟨r11k, r11n, r11t⟩ : Vl)), (g2, (⟨r2k, r2n, r2t⟩ : Vl)), (g1, (⟨r1k, r1n, r1t⟩ : Vl)), (g0, (⟨r0k, r0n, r0t⟩ : Vl)), (gb3, (⟨yk, yn, yt⟩ : Vl)), (w.heap.size, (⟨xk, xn, xt⟩ : Vl))]) := B.out.push (⟨r13k, r13n, r13t⟩ : Vl) 23
                              have hL : Below w.heap.size w (W65.alloc (.cells #[.int .i64 r13k, .int .i64 r13n, .string ⟨List.toArray r13t⟩] 23)) := BL.out.alloc BL.out.size _
                              obtain ⟨W66, hW⟩ : ∃ X, W65.alloc (.cells #[.int .i64 r13k, .int .i64 r13n, .string ⟨List.toArray r13t⟩] 23) = X := ⟨_, rfl⟩
                              obtain ⟨g11, hg⟩ : ∃ g, W65.heap.size = g := ⟨_, rfl⟩
                              rw [hW] at hB hL ⊢
                              rw [hg] at hB ⊢
                              have HGb18_25_25 : Hid (w.heap.size ≤ g11) := Lib.hid (by rw [← hg]; exact BL.out.size)
                              replace B := Lib.hid hB
                              replace BL := Lib.hid hL
                              clear hB hL hW hg
                              replace HL := Lib.hid (show true = BigFloor_s26 (⟨xk, xn, xt⟩ : Vl) (⟨yk, yn, yt⟩ : Vl) ((⟨r0k, r0n, r0t⟩, r0e) : Vl × Int) ((⟨r1k, r1n, r1t⟩, r1e) : Vl × Int) ((⟨r2k, r2n, r2t⟩, r2e) : Vl × Int) ((r3b, r3e) : Bool × Int) ((⟨r11k, r11n, r11t⟩, r11e) : Vl × Int) ((⟨r12k, r12n, r12t⟩, r12e) : Vl × Int) ((⟨r13k, r13n, r13t⟩, r13e) : Vl × Int) from HL.out.trans (by unfold BigFloor_s27; rw [HR13.out]))
                              -- region 26
                              have cb6_4_1_0 : W66.cell? ⟨g0, 0, none⟩ = some (.int .i64 r0k) := (B.out.get 5 rfl).c0
                              have cb6_4_1_1 : W66.cell? ⟨g0, 1, none⟩ = some (.int .i64 r0n) := (B.out.get 5 rfl).c1
                              have cb6_4_1_2 : W66.cell? ⟨g0, 2, none⟩ = some (.string ⟨List.toArray r0t⟩) := (B.out.get 5 rfl).c2
                              have cb3_0 : W66.cell? ⟨gb3, 0, none⟩ = some (.int .i64 yk) := (B.out.get 6 rfl).c0
                              have cb3_1 : W66.cell? ⟨gb3, 1, none⟩ = some (.int .i64 yn) := (B.out.get 6 rfl).c1
                              have cb3_2 : W66.cell? ⟨gb3, 2, none⟩ = some (.string ⟨List.toArray yt⟩) := (B.out.get 6 rfl).c2
                              obtain ⟨⟨⟨r14k, r14n, r14t⟩, r14e⟩, hr14⟩ : ∃ p, modR (⟨r0k, r0n, r0t⟩ : Vl) (⟨yk, yn, yt⟩ : Vl) = p := ⟨_, rfl⟩
                              have hc14 := fun (W : World) (hW : Env W) => mod_pub (⟨r0k, r0n, r0t⟩ : Vl) (⟨yk, yn, yt⟩ : Vl) HOr0.out HOy.out W hW
                              have ho14 := modR_ok (⟨r0k, r0n, r0t⟩ : Vl) (⟨yk, yn, yt⟩ : Vl)
                              rw [hr14] at hc14 ho14
                              simp only [Vl.val, pr] at hc14
                              have HC14 := Lib.hid hc14; have HOr14 : Hid (Vl.ok ⟨r14k, r14n, r14t⟩) := Lib.hid ho14; have HR14 := Lib.hid hr14
                              clear hc14 ho14 hr14
                              go_wp2_with fail
                              refine (HC14.out _ (HE.out.below BL.out)).mono ?_
                              rintro e W67 ⟨rfl, hb⟩
                              clear cb6_4_1_0 cb6_4_1_1 cb6_4_1_2 cb3_0 cb3_1 cb3_2
                              replace B := Lib.hid (B.out.below hb)
                              replace BL := Lib.hid (below_then BL.out hb)
                              clear hb
                              go_upto_region 27 with fail
                              have hB : Bxs (W67.alloc (.cells #[.int .i64 r14k, .int .i64 r14n, .string ⟨List.toArray r14t⟩] 23)) ((W67.heap.size, (⟨r14k, r14n, r14t⟩ : Vl)) :: [(g11, (⟨r13k, r13n, r13t⟩ : Vl)), (g10, (⟨r12k, r12n, r12t⟩ : Vl)), (g9, (⟨r11k, r11n, r11t⟩ : Vl)), (g2, (⟨r2k, r2n, r2t⟩ : Vl)), (g1, (⟨r1k, r1n, r1t⟩ : Vl)), (g0, (⟨r0k, r0n, r0t⟩ : Vl)), (gb3, (⟨yk, yn, yt⟩ : Vl)), (w.heap.size, (⟨xk, xn, xt⟩ : Vl))]) := B.out.push (⟨r14k, r14n, r14t⟩ : Vl) 23
                              have hL : Below w.heap.size w (W67.alloc (.cells #[.int .i64 r14k, .int .i64 r14n, .string ⟨List.toArray r14t⟩] 23)) := BL.out.alloc BL.out.size _
                              obtain ⟨W68, hW⟩ : ∃ X, W67.alloc (.cells #[.int .i64 r14k, .int .i64 r14n, .string ⟨List.toArray r14t⟩] 23) = X := ⟨_, rfl⟩
                              obtain ⟨g12, hg⟩ : ∃ g, W67.heap.size = g := ⟨_, rfl⟩
                              rw [hW] at hB hL ⊢
                              rw [hg] at hB ⊢
                              have HGb20_26_26 : Hid (w.heap.size ≤ g12) := Lib.hid (by rw [← hg]; exact BL.out.size)
                              replace B := Lib.hid hB
                              replace BL := Lib.hid hL
                              clear hB hL hW hg
                              replace HL := Lib.hid (show true = BigFloor_s25 (⟨xk, xn, xt⟩ : Vl) (⟨yk, yn, yt⟩ : Vl) ((⟨r0k, r0n, r0t⟩, r0e) : Vl × Int) ((⟨r1k, r1n, r1t⟩, r1e) : Vl × Int) ((⟨r2k, r2n, r2t⟩, r2e) : Vl × Int) ((r3b, r3e) : Bool × Int) ((⟨r11k, r11n, r11t⟩, r11e) : Vl × Int) ((⟨r12k, r12n, r12t⟩, r12e) : Vl × Int) ((⟨r13k, r13n, r13t⟩, r13e) : Vl × Int) ((⟨r14k, r14n, r14t⟩, r14e) : Vl × Int) from HL.out.trans (by unfold BigFloor_s26; rw [HR14.out]))
                              -- region 27, the end
                              obtain ⟨b35, h⟩ : ∃ b : Bool, (r13e == 0) = b := ⟨_, rfl⟩
                              have HA35 := Lib.hid h
                              clear h
                              obtain ⟨b36, h⟩ : ∃ b : Bool, (r14e == 0) = b := ⟨_, rfl⟩
                              have HA36 := Lib.hid h
                              clear h
                              obtain ⟨b37, h⟩ : ∃ b : Bool, (veqB r13k r13n r13t xk xn xt) = b := ⟨_, rfl⟩
                              have HA37 := Lib.hid h
                              clear h
                              obtain ⟨b38, h⟩ : ∃ b : Bool, (veqB r14k r14n r14t 1 0 []) = b := ⟨_, rfl⟩
                              have HA38 := Lib.hid h
                              clear h
                              cases b35 with
                              | true =>
                                cases b36 with
                                | true =>
                                  cases b37 with
                                  | true =>
                                    cases b38 with
                                    | true =>
                                      clear HL
                                      go_upto_region 27 with fail
                                      have f0_0 : ((r13e : Int) == 0) = true := HA35.out
                                      have f0_1 : ((r13e : Int) != 0) = false := by have h := HA35.out; simpa using h
                                      have f1_0 : ((r14e : Int) == 0) = true := HA36.out
                                      have f1_1 : ((r14e : Int) != 0) = false := by have h := HA36.out; simpa using h
                                      have f2_0 : (veqB r13k r13n r13t xk xn xt) = true := HA37.out
                                      have f3_0 : (veqB r14k r14n r14t 1 0 []) = true := HA38.out
                                      refine wp_region_noPanic ?_
                                      refine region_late (fun (X : World) => X.cell? ⟨g11, 0, none⟩ = some (.int .i64 r13k) ∧ X.cell? ⟨g11, 1, none⟩ = some (.int .i64 r13n) ∧ X.cell? ⟨g11, 2, none⟩ = some (.string ⟨List.toArray r13t⟩) ∧ X.cell? ⟨w.heap.size, 0, none⟩ = some (.int .i64 xk) ∧ X.cell? ⟨w.heap.size, 1, none⟩ = some (.int .i64 xn) ∧ X.cell? ⟨w.heap.size, 2, none⟩ = some (.string ⟨List.toArray xt⟩) ∧ X.cell? ⟨g12, 0, none⟩ = some (.int .i64 r14k) ∧ X.cell? ⟨g12, 1, none⟩ = some (.int .i64 r14n) ∧ X.cell? ⟨g12, 2, none⟩ = some (.string ⟨List.toArray r14t⟩)) (fun _ => false) (by kernel_rfl) ?_
                                      have hb := (Below.refl W68.heap.size W68).drew
                                      obtain ⟨W69, hW⟩ : ∃ X, W68.drew = X := ⟨_, rfl⟩
                                      rw [hW] at hb ⊢
                                      clear hW
                                      replace B := Lib.hid (B.out.below hb)
                                      replace BL := Lib.hid (below_then BL.out hb)
                                      clear hb
                                      have hHeld : W69.cell? ⟨g11, 0, none⟩ = some (.int .i64 r13k) ∧ W69.cell? ⟨g11, 1, none⟩ = some (.int .i64 r13n) ∧ W69.cell? ⟨g11, 2, none⟩ = some (.string ⟨List.toArray r13t⟩) ∧ W69.cell? ⟨w.heap.size, 0, none⟩ = some (.int .i64 xk) ∧ W69.cell? ⟨w.heap.size, 1, none⟩ = some (.int .i64 xn) ∧ W69.cell? ⟨w.heap.size, 2, none⟩ = some (.string ⟨List.toArray xt⟩) ∧ W69.cell? ⟨g12, 0, none⟩ = some (.int .i64 r14k) ∧ W69.cell? ⟨g12, 1, none⟩ = some (.int .i64 r14n) ∧ W69.cell? ⟨g12, 2, none⟩ = some (.string ⟨List.toArray r14t⟩) := ⟨(B.out.get 1 rfl).c0, (B.out.get 1 rfl).c1, (B.out.get 1 rfl).c2, (B.out.get 8 rfl).c0, (B.out.get 8 rfl).c1, (B.out.get 8 rfl).c2, (B.out.get 0 rfl).c0, (B.out.get 0 rfl).c1, (B.out.get 0 rfl).c2⟩
                                      refine late_pure_at (some 143) (i := 0) (v := (.bool true)) rfl rfl rfl (by kernel_rfl) (by kernel_rfl) (by kernel_rfl) (fun _ _ _ h => h) (Or.inl ⟨by rfl, by intro w _; go_simp⟩) (fun _ => hHeld) ?_
                                      try simp only [Act.put, List.setIfInBounds_toArray, List.set_cons_zero, List.set_cons_succ]
                                      refine late_pure_at (some 144) (i := 1) (v := (.bool true)) rfl rfl rfl (by kernel_rfl) (by kernel_rfl) (by kernel_rfl) (fun _ _ _ h => h) (Or.inl ⟨by rfl, by intro w _; go_simp⟩) (fun _ => hHeld) ?_
                                      try simp only [Act.put, List.setIfInBounds_toArray, List.set_cons_zero, List.set_cons_succ]
                                      refine late_pure_at (some 145) (i := 2) (v := (.int .i64 r13e)) rfl rfl rfl (by kernel_rfl) (by kernel_rfl) (by kernel_rfl) (fun _ _ _ h => h) (Or.inl ⟨by rfl, by intro w _; go_simp⟩) (fun _ => hHeld) ?_
                                      try simp only [Act.put, List.setIfInBounds_toArray, List.set_cons_zero, List.set_cons_succ]
                                      refine late_pure_at (some 146) (i := 3) (v := (.bool true)) rfl rfl rfl (by kernel_rfl) (by kernel_rfl) (by kernel_rfl) (fun _ _ _ h => h) (Or.inl ⟨by rfl, by intro w _; go_simp⟩) (fun _ => hHeld) ?_
                                      try simp only [Act.put, List.setIfInBounds_toArray, List.set_cons_zero, List.set_cons_succ]
                                      refine late_pure_at (some 147) (i := 4) (v := (.bool true)) rfl rfl rfl (by kernel_rfl) (by kernel_rfl) (by kernel_rfl) (fun _ _ _ h => h) (Or.inl ⟨by rfl, by intro w _; go_simp⟩) (fun _ => hHeld) ?_
                                      try simp only [Act.put, List.setIfInBounds_toArray, List.set_cons_zero, List.set_cons_succ]
                                      refine late_pure_at (some 148) (i := 5) (v := (.bool true)) rfl rfl rfl (by kernel_rfl) (by kernel_rfl) (by kernel_rfl) (fun _ _ _ h => h) (Or.inl ⟨by rfl, by intro w _; go_simp⟩) (fun _ => hHeld) ?_
                                      try simp only [Act.put, List.setIfInBounds_toArray, List.set_cons_zero, List.set_cons_succ]
                                      refine late_pure_at (some 149) (i := 6) (v := (.int .i64 r14e)) rfl rfl rfl (by kernel_rfl) (by kernel_rfl) (by kernel_rfl) (fun _ _ _ h => h) (Or.inl ⟨by rfl, by intro w _; go_simp⟩) (fun _ => hHeld) ?_
                                      try simp only [Act.put, List.setIfInBounds_toArray, List.set_cons_zero, List.set_cons_succ]
                                      refine late_pure_at (some 150) (i := 7) (v := (.bool true)) rfl rfl rfl (by kernel_rfl) (by kernel_rfl) (by kernel_rfl) (fun _ _ _ h => h) (Or.inl ⟨by rfl, by intro w _; go_simp⟩) (fun _ => hHeld) ?_
                                      try simp only [Act.put, List.setIfInBounds_toArray, List.set_cons_zero, List.set_cons_succ]
                                      refine late_pure_at (some 151) (i := 8) (v := (.bool true)) rfl rfl rfl (by kernel_rfl) (by kernel_rfl) (by kernel_rfl) (fun _ _ _ h => h) (Or.inl ⟨by rfl, by intro w _; go_simp⟩) (fun _ => hHeld) ?_
                                      try simp only [Act.put, List.setIfInBounds_toArray, List.set_cons_zero, List.set_cons_succ]
                                      refine late_pure_at (some 152) (i := 9) (v := (.bool true)) rfl rfl rfl (by kernel_rfl) (by kernel_rfl) (by kernel_rfl) (fun _ _ _ h => h) (Or.inl ⟨by rfl, by intro w _; go_simp⟩) (fun _ => hHeld) ?_
                                      try simp only [Act.put, List.setIfInBounds_toArray, List.set_cons_zero, List.set_cons_succ]
                                      refine late_take_at (some 153) (i := 10) (v := (.agg #[.int .i64 r13k, .int .i64 r13n, .string ⟨List.toArray r13t⟩])) rfl rfl rfl (by kernel_rfl) (by kernel_rfl) (by kernel_rfl) (by kernel_rfl) (fun _ _ _ h => h) clean_none (Or.inl ⟨by rfl, by intro w hSw; go_split_ands; go_simp⟩) hHeld ?_
                                      try simp only [Act.put, List.setIfInBounds_toArray, List.set_cons_zero, List.set_cons_succ]
                                      refine late_take_at (some 154) (i := 11) (v := (.agg #[.int .i64 xk, .int .i64 xn, .string ⟨List.toArray xt⟩])) rfl rfl rfl (by kernel_rfl) (by kernel_rfl) (by kernel_rfl) (by kernel_rfl) (fun _ _ _ h => h) clean_none (Or.inl ⟨by rfl, by intro w hSw; go_split_ands; go_simp⟩) hHeld ?_
                                      try simp only [Act.put, List.setIfInBounds_toArray, List.set_cons_zero, List.set_cons_succ]
                                      refine late_pure_at (some 155) (i := 12) (v := (.bool true)) rfl rfl rfl (by kernel_rfl) (by kernel_rfl) (by kernel_rfl) (fun _ _ _ h => h) (Or.inl ⟨by rfl, by intro w _; go_simp⟩) (fun _ => hHeld) ?_
                                      try simp only [Act.put, List.setIfInBounds_toArray, List.set_cons_zero, List.set_cons_succ]
                                      refine late_pure_at (some 156) (i := 13) (v := (.bool true)) rfl rfl rfl (by kernel_rfl) (by kernel_rfl) (by kernel_rfl) (fun _ _ _ h => h) (Or.inl ⟨by rfl, by intro w _; go_simp⟩) (fun _ => hHeld) ?_
                                      try simp only [Act.put, List.setIfInBounds_toArray, List.set_cons_zero, List.set_cons_succ]
                                      refine late_pure_at (some 157) (i := 14) (v := (.bool true)) rfl rfl rfl (by kernel_rfl) (by kernel_rfl) (by kernel_rfl) (fun _ _ _ h => h) (Or.inl ⟨by rfl, by intro w _; go_simp⟩) (fun _ => hHeld) ?_
                                      try simp only [Act.put, List.setIfInBounds_toArray, List.set_cons_zero, List.set_cons_succ]
                                      refine late_take_at (some 158) (i := 15) (v := (.agg #[.int .i64 r14k, .int .i64 r14n, .string ⟨List.toArray r14t⟩])) rfl rfl rfl (by kernel_rfl) (by kernel_rfl) (by kernel_rfl) (by kernel_rfl) (fun _ _ _ h => h) clean_none (Or.inl ⟨by rfl, by intro w hSw; go_split_ands; go_simp⟩) hHeld ?_
                                      try simp only [Act.put, List.setIfInBounds_toArray, List.set_cons_zero, List.set_cons_succ]
                                      refine late_ready (rs := [16]) (by kernel_rfl) (by simp) ?_
                                      refine AllLate.cons rfl (fun K hK => ?_) ?_
                                      · skip
                                        go_simp
                                        refine (num_calls 0 _).mono ?_
                                        rintro e W70 ⟨rfl, hb⟩
                                        clear hHeld
                                        replace B := Lib.hid (B.out.below hb)
                                        replace BL := Lib.hid (below_then BL.out hb)
                                        clear hb
                                        have hHeld : W70.cell? ⟨g11, 0, none⟩ = some (.int .i64 r13k) ∧ W70.cell? ⟨g11, 1, none⟩ = some (.int .i64 r13n) ∧ W70.cell? ⟨g11, 2, none⟩ = some (.string ⟨List.toArray r13t⟩) ∧ W70.cell? ⟨w.heap.size, 0, none⟩ = some (.int .i64 xk) ∧ W70.cell? ⟨w.heap.size, 1, none⟩ = some (.int .i64 xn) ∧ W70.cell? ⟨w.heap.size, 2, none⟩ = some (.string ⟨List.toArray xt⟩) ∧ W70.cell? ⟨g12, 0, none⟩ = some (.int .i64 r14k) ∧ W70.cell? ⟨g12, 1, none⟩ = some (.int .i64 r14n) ∧ W70.cell? ⟨g12, 2, none⟩ = some (.string ⟨List.toArray r14t⟩) := ⟨(B.out.get 1 rfl).c0, (B.out.get 1 rfl).c1, (B.out.get 1 rfl).c2, (B.out.get 8 rfl).c0, (B.out.get 8 rfl).c1, (B.out.get 8 rfl).c2, (B.out.get 0 rfl).c0, (B.out.get 0 rfl).c1, (B.out.get 0 rfl).c2⟩
                                        dsimp only
                                        refine hK.out _ _ (fun _ => hHeld) ?_
                                        clear hK K
                                        try simp only [Act.put, List.setIfInBounds_toArray, List.set_cons_zero, List.set_cons_succ]
                                        refine late_pure_at (some 160) (i := 17) (v := (.bool true)) rfl rfl rfl (by kernel_rfl) (by kernel_rfl) (by kernel_rfl) (fun _ _ _ h => h) (Or.inl ⟨by rfl, by intro w _; go_simp⟩) (fun _ => hHeld) ?_
                                        try simp only [Act.put, List.setIfInBounds_toArray, List.set_cons_zero, List.set_cons_succ]
                                        refine late_pure_at (some 161) (i := 18) (v := (.bool true)) rfl rfl rfl (by kernel_rfl) (by kernel_rfl) (by kernel_rfl) (fun _ _ _ h => h) (Or.inl ⟨by rfl, by intro w _; go_simp⟩) (fun _ => hHeld) ?_
                                        try simp only [Act.put, List.setIfInBounds_toArray, List.set_cons_zero, List.set_cons_succ]
                                        refine late_pure_at (some 4) (i := 19) (v := (.bool true)) rfl rfl rfl (by kernel_rfl) (by kernel_rfl) (by kernel_rfl) (fun _ _ _ h => h) (Or.inl ⟨by rfl, by intro w _; go_simp⟩) (fun _ => hHeld) ?_
                                        try simp only [Act.put, List.setIfInBounds_toArray, List.set_cons_zero, List.set_cons_succ]
                                        refine late_done (by kernel_rfl) ?_ _
                                        refine NoPanic.normal ?_
                                        go_wp2_with fail
                                        go_ret
                                        exact ⟨rfl, BL.out⟩
                                      exact AllLate.nil
                                    | false =>
                                      exact Bool.noConfusion (show true = false from HL.out.trans (by show ((((true && (r13e == 0)) && (r14e == 0)) && (veqB r13k r13n r13t xk xn xt)) && (veqB r14k r14n r14t 1 0 [])) = false; rw [HA35.out, HA36.out, HA37.out, HA38.out]; rfl))
                                  | false =>
                                    exact Bool.noConfusion (show true = false from HL.out.trans (by show ((((true && (r13e == 0)) && (r14e == 0)) && (veqB r13k r13n r13t xk xn xt)) && (veqB r14k r14n r14t 1 0 [])) = false; rw [HA35.out, HA36.out, HA37.out]; rfl))
                                | false =>
                                  exact Bool.noConfusion (show true = false from HL.out.trans (by show ((((true && (r13e == 0)) && (r14e == 0)) && (veqB r13k r13n r13t xk xn xt)) && (veqB r14k r14n r14t 1 0 [])) = false; rw [HA35.out, HA36.out]; rfl))
                              | false =>
                                exact Bool.noConfusion (show true = false from HL.out.trans (by show ((((true && (r13e == 0)) && (r14e == 0)) && (veqB r13k r13n r13t xk xn xt)) && (veqB r14k r14n r14t 1 0 [])) = false; rw [HA35.out]; rfl))
                      | false =>
                        replace HL := Lib.hid (show true = BigFloor_s36 (⟨xk, xn, xt⟩ : Vl) (⟨yk, yn, yt⟩ : Vl) ((⟨r0k, r0n, r0t⟩, r0e) : Vl × Int) ((⟨r1k, r1n, r1t⟩, r1e) : Vl × Int) ((⟨r2k, r2n, r2t⟩, r2e) : Vl × Int) ((r3b, r3e) : Bool × Int) from HL.out.trans ((if_neg (fun h => Bool.noConfusion (HCW.out.symm.trans h)))))
                        -- region 23, a test
                        obtain ⟨b39, h⟩ : ∃ b : Bool, (r0e == 0) = b := ⟨_, rfl⟩
                        have HA39 := Lib.hid h
                        clear h
                        obtain ⟨c28, h⟩ : ∃ c : Bool, (!b39) = c := ⟨_, rfl⟩
                        have HCC := Lib.hid h
                        clear h
                        go_upto_region 23 with fail
                        go_cut [129] from 128 to 129 (fun v wx => v = .bool c28 ∧ Hid (Bxs wx [(g2, (⟨r2k, r2n, r2t⟩ : Vl)), (g1, (⟨r1k, r1n, r1t⟩ : Vl)), (g0, (⟨r0k, r0n, r0t⟩ : Vl)), (gb3, (⟨yk, yn, yt⟩ : Vl)), (w.heap.size, (⟨xk, xn, xt⟩ : Vl))]) ∧ Hid (Below w.heap.size w wx))
                        case first =>
                          clear HL
                          cases b39 with
                          | true =>
                            have f0_0 : ((r0e : Int) == 0) = true := HA39.out
                            have f0_1 : ((r0e : Int) != 0) = false := by have h := HA39.out; simpa using h
                            go_wp2_with fail
                            go_meet
                            exact ⟨congrArg Value.bool HCC.out, B, BL⟩
                          | false =>
                            have f0_0 : ((r0e : Int) == 0) = false := HA39.out
                            have f0_1 : ((r0e : Int) != 0) = true := by have h := HA39.out; simpa using h
                            go_wp2_with fail
                            go_meet
                            exact ⟨congrArg Value.bool HCC.out, B, BL⟩
                        case rest =>
                          clear B BL
                          obtain ⟨rfl, B, BL⟩ := hcut
                          obtain ⟨W71, hW⟩ : ∃ X, wc = X := ⟨_, rfl⟩
                          rw [hW] at B BL ⊢
                          clear hW
                          have HCW : Hid ((!(r0e == 0)) = c28) := Lib.hid (by rw [HA39.out]; exact HCC.out)
                          clear HCC HA39
                          cases c28 with
                          | true =>
                            replace HL := Lib.hid (show true = BigFloor_s32 (⟨xk, xn, xt⟩ : Vl) (⟨yk, yn, yt⟩ : Vl) ((⟨r0k, r0n, r0t⟩, r0e) : Vl × Int) ((⟨r1k, r1n, r1t⟩, r1e) : Vl × Int) ((⟨r2k, r2n, r2t⟩, r2e) : Vl × Int) ((r3b, r3e) : Bool × Int) from HL.out.trans (if_pos HCW.out))
                            go_wp2_with fail
                            go_ret
                            exact ⟨rfl, BL.out⟩
                          | false =>
                            replace HL := Lib.hid (show true = BigFloor_s35 (⟨xk, xn, xt⟩ : Vl) (⟨yk, yn, yt⟩ : Vl) ((⟨r0k, r0n, r0t⟩, r0e) : Vl × Int) ((⟨r1k, r1n, r1t⟩, r1e) : Vl × Int) ((⟨r2k, r2n, r2t⟩, r2e) : Vl × Int) ((r3b, r3e) : Bool × Int) from HL.out.trans ((if_neg (fun h => Bool.noConfusion (HCW.out.symm.trans h)))))
                            -- region 25
                            have cb6_4_1_0 : W71.cell? ⟨g0, 0, none⟩ = some (.int .i64 r0k) := (B.out.get 2 rfl).c0
                            have cb6_4_1_1 : W71.cell? ⟨g0, 1, none⟩ = some (.int .i64 r0n) := (B.out.get 2 rfl).c1
                            have cb6_4_1_2 : W71.cell? ⟨g0, 2, none⟩ = some (.string ⟨List.toArray r0t⟩) := (B.out.get 2 rfl).c2
                            have cb3_0 : W71.cell? ⟨gb3, 0, none⟩ = some (.int .i64 yk) := (B.out.get 3 rfl).c0
                            have cb3_1 : W71.cell? ⟨gb3, 1, none⟩ = some (.int .i64 yn) := (B.out.get 3 rfl).c1
                            have cb3_2 : W71.cell? ⟨gb3, 2, none⟩ = some (.string ⟨List.toArray yt⟩) := (B.out.get 3 rfl).c2
                            obtain ⟨⟨⟨r15k, r15n, r15t⟩, r15e⟩, hr15⟩ : ∃ p, divR (⟨r0k, r0n, r0t⟩ : Vl) (⟨yk, yn, yt⟩ : Vl) = p := ⟨_, rfl⟩
                            have hc15 := fun (W : World) (hW : Env W) => div_pub (⟨r0k, r0n, r0t⟩ : Vl) (⟨yk, yn, yt⟩ : Vl) HOr0.out HOy.out W hW
                            have ho15 := divR_ok (⟨r0k, r0n, r0t⟩ : Vl) (⟨yk, yn, yt⟩ : Vl)
                            rw [hr15] at hc15 ho15
                            simp only [Vl.val, pr] at hc15
                            have HC15 := Lib.hid hc15; have HOr15 : Hid (Vl.ok ⟨r15k, r15n, r15t⟩) := Lib.hid ho15; have HR15 := Lib.hid hr15
                            clear hc15 ho15 hr15
                            go_wp2_with fail
                            refine (HC15.out _ (HE.out.below BL.out)).mono ?_
                            rintro e W72 ⟨rfl, hb⟩
                            clear cb6_4_1_0 cb6_4_1_1 cb6_4_1_2 cb3_0 cb3_1 cb3_2
                            replace B := Lib.hid (B.out.below hb)
                            replace BL := Lib.hid (below_then BL.out hb)
                            clear hb
                            go_upto_region 26 with fail
                            have hB : Bxs (W72.alloc (.cells #[.int .i64 r15k, .int .i64 r15n, .string ⟨List.toArray r15t⟩] 23)) ((W72.heap.size, (⟨r15k, r15n, r15t⟩ : Vl)) :: [(g2, (⟨r2k, r2n, r2t⟩ : Vl)), (g1, (⟨r1k, r1n, r1t⟩ : Vl)), (g0, (⟨r0k, r0n, r0t⟩ : Vl)), (gb3, (⟨yk, yn, yt⟩ : Vl)), (w.heap.size, (⟨xk, xn, xt⟩ : Vl))]) := B.out.push (⟨r15k, r15n, r15t⟩ : Vl) 23
                            have hL : Below w.heap.size w (W72.alloc (.cells #[.int .i64 r15k, .int .i64 r15n, .string ⟨List.toArray r15t⟩] 23)) := BL.out.alloc BL.out.size _
                            obtain ⟨W73, hW⟩ : ∃ X, W72.alloc (.cells #[.int .i64 r15k, .int .i64 r15n, .string ⟨List.toArray r15t⟩] 23) = X := ⟨_, rfl⟩
                            obtain ⟨g13, hg⟩ : ∃ g, W72.heap.size = g := ⟨_, rfl⟩
                            rw [hW] at hB hL ⊢
                            rw [hg] at hB ⊢
                            have HGb18_25_28 : Hid (w.heap.size ≤ g13) := Lib.hid (by rw [← hg]; exact BL.out.size)
                            replace B := Lib.hid hB
                            replace BL := Lib.hid hL
                            clear hB hL hW hg
                            replace HL := Lib.hid (show true = BigFloor_s34 (⟨xk, xn, xt⟩ : Vl) (⟨yk, yn, yt⟩ : Vl) ((⟨r0k, r0n, r0t⟩, r0e) : Vl × Int) ((⟨r1k, r1n, r1t⟩, r1e) : Vl × Int) ((⟨r2k, r2n, r2t⟩, r2e) : Vl × Int) ((r3b, r3e) : Bool × Int) ((⟨r15k, r15n, r15t⟩, r15e) : Vl × Int) from HL.out.trans (by unfold BigFloor_s35; rw [HR15.out]))
                            -- region 26
                            have cb6_4_1_0 : W73.cell? ⟨g0, 0, none⟩ = some (.int .i64 r0k) := (B.out.get 3 rfl).c0
                            have cb6_4_1_1 : W73.cell? ⟨g0, 1, none⟩ = some (.int .i64 r0n) := (B.out.get 3 rfl).c1
                            have cb6_4_1_2 : W73.cell? ⟨g0, 2, none⟩ = some (.string ⟨List.toArray r0t⟩) := (B.out.get 3 rfl).c2
                            have cb3_0 : W73.cell? ⟨gb3, 0, none⟩ = some (.int .i64 yk) := (B.out.get 4 rfl).c0
                            have cb3_1 : W73.cell? ⟨gb3, 1, none⟩ = some (.int .i64 yn) := (B.out.get 4 rfl).c1
                            have cb3_2 : W73.cell? ⟨gb3, 2, none⟩ = some (.string ⟨List.toArray yt⟩) := (B.out.get 4 rfl).c2
                            obtain ⟨⟨⟨r16k, r16n, r16t⟩, r16e⟩, hr16⟩ : ∃ p, modR (⟨r0k, r0n, r0t⟩ : Vl) (⟨yk, yn, yt⟩ : Vl) = p := ⟨_, rfl⟩
                            have hc16 := fun (W : World) (hW : Env W) => mod_pub (⟨r0k, r0n, r0t⟩ : Vl) (⟨yk, yn, yt⟩ : Vl) HOr0.out HOy.out W hW
                            have ho16 := modR_ok (⟨r0k, r0n, r0t⟩ : Vl) (⟨yk, yn, yt⟩ : Vl)
                            rw [hr16] at hc16 ho16
                            simp only [Vl.val, pr] at hc16
                            have HC16 := Lib.hid hc16; have HOr16 : Hid (Vl.ok ⟨r16k, r16n, r16t⟩) := Lib.hid ho16; have HR16 := Lib.hid hr16
                            clear hc16 ho16 hr16
                            go_wp2_with fail
                            refine (HC16.out _ (HE.out.below BL.out)).mono ?_
                            rintro e W74 ⟨rfl, hb⟩
                            clear cb6_4_1_0 cb6_4_1_1 cb6_4_1_2 cb3_0 cb3_1 cb3_2
                            replace B := Lib.hid (B.out.below hb)
                            replace BL := Lib.hid (below_then BL.out hb)
                            clear hb
                            go_upto_region 27 with fail
                            have hB : Bxs (W74.alloc (.cells #[.int .i64 r16k, .int .i64 r16n, .string ⟨List.toArray r16t⟩] 23)) ((W74.heap.size, (⟨r16k, r16n, r16t⟩ : Vl)) :: [(g13, (⟨r15k, r15n, r15t⟩ : Vl)), (g2, (⟨r2k, r2n, r2t⟩ : Vl)), (g1, (⟨r1k, r1n, r1t⟩ : Vl)), (g0, (⟨r0k, r0n, r0t⟩ : Vl)), (gb3, (⟨yk, yn, yt⟩ : Vl)), (w.heap.size, (⟨xk, xn, xt⟩ : Vl))]) := B.out.push (⟨r16k, r16n, r16t⟩ : Vl) 23
                            have hL : Below w.heap.size w (W74.alloc (.cells #[.int .i64 r16k, .int .i64 r16n, .string ⟨List.toArray r16t⟩] 23)) := BL.out.alloc BL.out.size _
                            obtain ⟨W75, hW⟩ : ∃ X, W74.alloc (.cells #[.int .i64 r16k, .int .i64 r16n, .string ⟨List.toArray r16t⟩] 23) = X := ⟨_, rfl⟩
                            obtain ⟨g14, hg⟩ : ∃ g, W74.heap.size = g := ⟨_, rfl⟩
                            rw [hW] at hB hL ⊢
                            rw [hg] at hB ⊢
                            have HGb20_26_29 : Hid (w.heap.size ≤ g14) := Lib.hid (by rw [← hg]; exact BL.out.size)
                            replace B := Lib.hid hB
                            replace BL := Lib.hid hL
                            clear hB hL hW hg
                            replace HL := Lib.hid (show true = BigFloor_s33 (⟨xk, xn, xt⟩ : Vl) (⟨yk, yn, yt⟩ : Vl) ((⟨r0k, r0n, r0t⟩, r0e) : Vl × Int) ((⟨r1k, r1n, r1t⟩, r1e) : Vl × Int) ((⟨r2k, r2n, r2t⟩, r2e) : Vl × Int) ((r3b, r3e) : Bool × Int) ((⟨r15k, r15n, r15t⟩, r15e) : Vl × Int) ((⟨r16k, r16n, r16t⟩, r16e) : Vl × Int) from HL.out.trans (by unfold BigFloor_s34; rw [HR16.out]))
                            -- region 27, the end
                            obtain ⟨b40, h⟩ : ∃ b : Bool, (r15e == 0) = b := ⟨_, rfl⟩
                            have HA40 := Lib.hid h
                            clear h
                            obtain ⟨b41, h⟩ : ∃ b : Bool, (r16e == 0) = b := ⟨_, rfl⟩
                            have HA41 := Lib.hid h
                            clear h
                            obtain ⟨b42, h⟩ : ∃ b : Bool, (veqB r15k r15n r15t xk xn xt) = b := ⟨_, rfl⟩
                            have HA42 := Lib.hid h
                            clear h
                            obtain ⟨b43, h⟩ : ∃ b : Bool, (veqB r16k r16n r16t 1 0 []) = b := ⟨_, rfl⟩
                            have HA43 := Lib.hid h
                            clear h
                            cases b40 with
                            | true =>
                              cases b41 with
                              | true =>
                                cases b42 with
                                | true =>
                                  cases b43 with
                                  | true =>
                                    clear HL
                                    go_upto_region 27 with fail
                                    have f0_0 : ((r15e : Int) == 0) = true := HA40.out
                                    have f0_1 : ((r15e : Int) != 0) = false := by have h := HA40.out; simpa using h
                                    have f1_0 : ((r16e : Int) == 0) = true := HA41.out
                                    have f1_1 : ((r16e : Int) != 0) = false := by have h := HA41.out; simpa using h
                                    have f2_0 : (veqB r15k r15n r15t xk xn xt) = true := HA42.out
                                    have f3_0 : (veqB r16k r16n r16t 1 0 []) = true := HA43.out
                                    refine wp_region_noPanic ?_
                                    refine region_late (fun (X : World) => X.cell? ⟨g13, 0, none⟩ = some (.int .i64 r15k) ∧ X.cell? ⟨g13, 1, none⟩ = some (.int .i64 r15n) ∧ X.cell? ⟨g13, 2, none⟩ = some (.string ⟨List.toArray r15t⟩) ∧ X.cell? ⟨w.heap.size, 0, none⟩ = some (.int .i64 xk) ∧ X.cell? ⟨w.heap.size, 1, none⟩ = some (.int .i64 xn) ∧ X.cell? ⟨w.heap.size, 2, none⟩ = some (.string ⟨List.toArray xt⟩) ∧ X.cell? ⟨g14, 0, none⟩ = some (.int .i64 r16k) ∧ X.cell? ⟨g14, 1, none⟩ = some (.int .i64 r16n) ∧ X.cell? ⟨g14, 2, none⟩ = some (.string ⟨List.toArray r16t⟩)) (fun _ => false) (by kernel_rfl) ?_
                                    have hb := (Below.refl W75.heap.size W75).drew
                                    obtain ⟨W76, hW⟩ : ∃ X, W75.drew = X := ⟨_, rfl⟩
                                    rw [hW] at hb ⊢
                                    clear hW
                                    replace B := Lib.hid (B.out.below hb)
                                    replace BL := Lib.hid (below_then BL.out hb)
                                    clear hb
                                    have hHeld : W76.cell? ⟨g13, 0, none⟩ = some (.int .i64 r15k) ∧ W76.cell? ⟨g13, 1, none⟩ = some (.int .i64 r15n) ∧ W76.cell? ⟨g13, 2, none⟩ = some (.string ⟨List.toArray r15t⟩) ∧ W76.cell? ⟨w.heap.size, 0, none⟩ = some (.int .i64 xk) ∧ W76.cell? ⟨w.heap.size, 1, none⟩ = some (.int .i64 xn) ∧ W76.cell? ⟨w.heap.size, 2, none⟩ = some (.string ⟨List.toArray xt⟩) ∧ W76.cell? ⟨g14, 0, none⟩ = some (.int .i64 r16k) ∧ W76.cell? ⟨g14, 1, none⟩ = some (.int .i64 r16n) ∧ W76.cell? ⟨g14, 2, none⟩ = some (.string ⟨List.toArray r16t⟩) := ⟨(B.out.get 1 rfl).c0, (B.out.get 1 rfl).c1, (B.out.get 1 rfl).c2, (B.out.get 6 rfl).c0, (B.out.get 6 rfl).c1, (B.out.get 6 rfl).c2, (B.out.get 0 rfl).c0, (B.out.get 0 rfl).c1, (B.out.get 0 rfl).c2⟩
                                    refine late_pure_at (some 143) (i := 0) (v := (.bool true)) rfl rfl rfl (by kernel_rfl) (by kernel_rfl) (by kernel_rfl) (fun _ _ _ h => h) (Or.inl ⟨by rfl, by intro w _; go_simp⟩) (fun _ => hHeld) ?_
                                    try simp only [Act.put, List.setIfInBounds_toArray, List.set_cons_zero, List.set_cons_succ]
                                    refine late_pure_at (some 144) (i := 1) (v := (.bool true)) rfl rfl rfl (by kernel_rfl) (by kernel_rfl) (by kernel_rfl) (fun _ _ _ h => h) (Or.inl ⟨by rfl, by intro w _; go_simp⟩) (fun _ => hHeld) ?_
                                    try simp only [Act.put, List.setIfInBounds_toArray, List.set_cons_zero, List.set_cons_succ]
                                    refine late_pure_at (some 145) (i := 2) (v := (.int .i64 r15e)) rfl rfl rfl (by kernel_rfl) (by kernel_rfl) (by kernel_rfl) (fun _ _ _ h => h) (Or.inl ⟨by rfl, by intro w _; go_simp⟩) (fun _ => hHeld) ?_
                                    try simp only [Act.put, List.setIfInBounds_toArray, List.set_cons_zero, List.set_cons_succ]
                                    refine late_pure_at (some 146) (i := 3) (v := (.bool true)) rfl rfl rfl (by kernel_rfl) (by kernel_rfl) (by kernel_rfl) (fun _ _ _ h => h) (Or.inl ⟨by rfl, by intro w _; go_simp⟩) (fun _ => hHeld) ?_
                                    try simp only [Act.put, List.setIfInBounds_toArray, List.set_cons_zero, List.set_cons_succ]
                                    refine late_pure_at (some 147) (i := 4) (v := (.bool true)) rfl rfl rfl (by kernel_rfl) (by kernel_rfl) (by kernel_rfl) (fun _ _ _ h => h) (Or.inl ⟨by rfl, by intro w _; go_simp⟩) (fun _ => hHeld) ?_
                                    try simp only [Act.put, List.setIfInBounds_toArray, List.set_cons_zero, List.set_cons_succ]
                                    refine late_pure_at (some 148) (i := 5) (v := (.bool true)) rfl rfl rfl (by kernel_rfl) (by kernel_rfl) (by kernel_rfl) (fun _ _ _ h => h) (Or.inl ⟨by rfl, by intro w _; go_simp⟩) (fun _ => hHeld) ?_
                                    try simp only [Act.put, List.setIfInBounds_toArray, List.set_cons_zero, List.set_cons_succ]
                                    refine late_pure_at (some 149) (i := 6) (v := (.int .i64 r16e)) rfl rfl rfl (by kernel_rfl) (by kernel_rfl) (by kernel_rfl) (fun _ _ _ h => h) (Or.inl ⟨by rfl, by intro w _; go_simp⟩) (fun _ => hHeld) ?_
                                    try simp only [Act.put, List.setIfInBounds_toArray, List.set_cons_zero, List.set_cons_succ]
                                    refine late_pure_at (some 150) (i := 7) (v := (.bool true)) rfl rfl rfl (by kernel_rfl) (by kernel_rfl) (by kernel_rfl) (fun _ _ _ h => h) (Or.inl ⟨by rfl, by intro w _; go_simp⟩) (fun _ => hHeld) ?_
                                    try simp only [Act.put, List.setIfInBounds_toArray, List.set_cons_zero, List.set_cons_succ]
                                    refine late_pure_at (some 151) (i := 8) (v := (.bool true)) rfl rfl rfl (by kernel_rfl) (by kernel_rfl) (by kernel_rfl) (fun _ _ _ h => h) (Or.inl ⟨by rfl, by intro w _; go_simp⟩) (fun _ => hHeld) ?_
                                    try simp only [Act.put, List.setIfInBounds_toArray, List.set_cons_zero, List.set_cons_succ]
                                    refine late_pure_at (some 152) (i := 9) (v := (.bool true)) rfl rfl rfl (by kernel_rfl) (by kernel_rfl) (by kernel_rfl) (fun _ _ _ h => h) (Or.inl ⟨by rfl, by intro w _; go_simp⟩) (fun _ => hHeld) ?_
                                    try simp only [Act.put, List.setIfInBounds_toArray, List.set_cons_zero, List.set_cons_succ]
                                    refine late_take_at (some 153) (i := 10) (v := (.agg #[.int .i64 r15k, .int .i64 r15n, .string ⟨List.toArray r15t⟩])) rfl rfl rfl (by kernel_rfl) (by kernel_rfl) (by kernel_rfl) (by kernel_rfl) (fun _ _ _ h => h) clean_none (Or.inl ⟨by rfl, by intro w hSw; go_split_ands; go_simp⟩) hHeld ?_
                                    try simp only [Act.put, List.setIfInBounds_toArray, List.set_cons_zero, List.set_cons_succ]
                                    refine late_take_at (some 154) (i := 11) (v := (.agg #[.int .i64 xk, .int .i64 xn, .string ⟨List.toArray xt⟩])) rfl rfl rfl (by kernel_rfl) (by kernel_rfl) (by kernel_rfl) (by kernel_rfl) (fun _ _ _ h => h) clean_none (Or.inl ⟨by rfl, by intro w hSw; go_split_ands; go_simp⟩) hHeld ?_
                                    try simp only [Act.put, List.setIfInBounds_toArray, List.set_cons_zero, List.set_cons_succ]
                                    refine late_pure_at (some 155) (i := 12) (v := (.bool true)) rfl rfl rfl (by kernel_rfl) (by kernel_rfl) (by kernel_rfl) (fun _ _ _ h => h) (Or.inl ⟨by rfl, by intro w _; go_simp⟩) (fun _ => hHeld) ?_
                                    try simp only [Act.put, List.setIfInBounds_toArray, List.set_cons_zero, List.set_cons_succ]
                                    refine late_pure_at (some 156) (i := 13) (v := (.bool true)) rfl rfl rfl (by kernel_rfl) (by kernel_rfl) (by kernel_rfl) (fun _ _ _ h => h) (Or.inl ⟨by rfl, by intro w _; go_simp⟩) (fun _ => hHeld) ?_
                                    try simp only [Act.put, List.setIfInBounds_toArray, List.set_cons_zero, List.set_cons_succ]
                                    refine late_pure_at (some 157) (i := 14) (v := (.bool true)) rfl rfl rfl (by kernel_rfl) (by kernel_rfl) (by kernel_rfl) (fun _ _ _ h => h) (Or.inl ⟨by rfl, by intro w _; go_simp⟩) (fun _ => hHeld) ?_
                                    try simp only [Act.put, List.setIfInBounds_toArray, List.set_cons_zero, List.set_cons_succ]
                                    refine late_take_at (some 158) (i := 15) (v := (.agg #[.int .i64 r16k, .int .i64 r16n, .string ⟨List.toArray r16t⟩])) rfl rfl rfl (by kernel_rfl) (by kernel_rfl) (by kernel_rfl) (by kernel_rfl) (fun _ _ _ h => h) clean_none (Or.inl ⟨by rfl, by intro w hSw; go_split_ands; go_simp⟩) hHeld ?_
                                    try simp only [Act.put, List.setIfInBounds_toArray, List.set_cons_zero, List.set_cons_succ]
                                    refine late_ready (rs := [16]) (by kernel_rfl) (by simp) ?_
                                    refine AllLate.cons rfl (fun K hK => ?_) ?_
                                    · skip
                                      go_simp
                                      refine (num_calls 0 _).mono ?_
                                      rintro e W77 ⟨rfl, hb⟩
                                      clear hHeld
                                      replace B := Lib.hid (B.out.below hb)
                                      replace BL := Lib.hid (below_then BL.out hb)
                                      clear hb
                                      have hHeld : W77.cell? ⟨g13, 0, none⟩ = some (.int .i64 r15k) ∧ W77.cell? ⟨g13, 1, none⟩ = some (.int .i64 r15n) ∧ W77.cell? ⟨g13, 2, none⟩ = some (.string ⟨List.toArray r15t⟩) ∧ W77.cell? ⟨w.heap.size, 0, none⟩ = some (.int .i64 xk) ∧ W77.cell? ⟨w.heap.size, 1, none⟩ = some (.int .i64 xn) ∧ W77.cell? ⟨w.heap.size, 2, none⟩ = some (.string ⟨List.toArray xt⟩) ∧ W77.cell? ⟨g14, 0, none⟩ = some (.int .i64 r16k) ∧ W77.cell? ⟨g14, 1, none⟩ = some (.int .i64 r16n) ∧ W77.cell? ⟨g14, 2, none⟩ = some (.string ⟨List.toArray r16t⟩) := ⟨(B.out.get 1 rfl).c0, (B.out.get 1 rfl).c1, (B.out.get 1 rfl).c2, (B.out.get 6 rfl).c0, (B.out.get 6 rfl).c1, (B.out.get 6 rfl).c2, (B.out.get 0 rfl).c0, (B.out.get 0 rfl).c1, (B.out.get 0 rfl).c2⟩
                                      dsimp only
                                      refine hK.out _ _ (fun _ => hHeld) ?_
                                      clear hK K
                                      try simp only [Act.put, List.setIfInBounds_toArray, List.set_cons_zero, List.set_cons_succ]
                                      refine late_pure_at (some 160) (i := 17) (v := (.bool true)) rfl rfl rfl (by kernel_rfl) (by kernel_rfl) (by kernel_rfl) (fun _ _ _ h => h) (Or.inl ⟨by rfl, by intro w _; go_simp⟩) (fun _ => hHeld) ?_
                                      try simp only [Act.put, List.setIfInBounds_toArray, List.set_cons_zero, List.set_cons_succ]
                                      refine late_pure_at (some 161) (i := 18) (v := (.bool true)) rfl rfl rfl (by kernel_rfl) (by kernel_rfl) (by kernel_rfl) (fun _ _ _ h => h) (Or.inl ⟨by rfl, by intro w _; go_simp⟩) (fun _ => hHeld) ?_
                                      try simp only [Act.put, List.setIfInBounds_toArray, List.set_cons_zero, List.set_cons_succ]
                                      refine late_pure_at (some 4) (i := 19) (v := (.bool true)) rfl rfl rfl (by kernel_rfl) (by kernel_rfl) (by kernel_rfl) (fun _ _ _ h => h) (Or.inl ⟨by rfl, by intro w _; go_simp⟩) (fun _ => hHeld) ?_
                                      try simp only [Act.put, List.setIfInBounds_toArray, List.set_cons_zero, List.set_cons_succ]
                                      refine late_done (by kernel_rfl) ?_ _
                                      refine NoPanic.normal ?_
                                      go_wp2_with fail
                                      go_ret
                                      exact ⟨rfl, BL.out⟩
                                    exact AllLate.nil
                                  | false =>
                                    exact Bool.noConfusion (show true = false from HL.out.trans (by show ((((true && (r15e == 0)) && (r16e == 0)) && (veqB r15k r15n r15t xk xn xt)) && (veqB r16k r16n r16t 1 0 [])) = false; rw [HA40.out, HA41.out, HA42.out, HA43.out]; rfl))
                                | false =>
                                  exact Bool.noConfusion (show true = false from HL.out.trans (by show ((((true && (r15e == 0)) && (r16e == 0)) && (veqB r15k r15n r15t xk xn xt)) && (veqB r16k r16n r16t 1 0 [])) = false; rw [HA40.out, HA41.out, HA42.out]; rfl))
                              | false =>
                                exact Bool.noConfusion (show true = false from HL.out.trans (by show ((((true && (r15e == 0)) && (r16e == 0)) && (veqB r15k r15n r15t xk xn xt)) && (veqB r16k r16n r16t 1 0 [])) = false; rw [HA40.out, HA41.out]; rfl))
                            | false =>
                              exact Bool.noConfusion (show true = false from HL.out.trans (by show ((((true && (r15e == 0)) && (r16e == 0)) && (veqB r15k r15n r15t xk xn xt)) && (veqB r16k r16n r16t 1 0 [])) = false; rw [HA40.out]; rfl))
end Go.Proofs.YthjpbbbmnmhmmaaGreatDoor
