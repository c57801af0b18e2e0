import Derived.Test.YthjpbbbmnmhmmaaGreatDoorA31
set_option linter.unusedVariables false
set_option linter.unusedSimpArgs false
namespace Go.Proofs.YthjpbbbmnmhmmaaGreatDoor
open Go.RowKit Go.Shelf Go.Lib
attribute [local go_sem ↓] run_val_eql run_val_neq

def BigOrder_s0 (x : Vl) (y : Vl) (z : Vl) : Bool := true
def BigOrder_s1 (x : Vl) (y : Vl) (z : Vl) (r0 : Bool × Int) (r1 : Bool × Int) (r2 : Bool × Int) (r3 : Bool × Int) : Bool := true
def BigOrder_s2 (x : Vl) (y : Vl) (z : Vl) (r0 : Bool × Int) (r1 : Bool × Int) (r2 : Bool × Int) (r3 : Bool × Int) : Bool := false
def BigOrder_s3 (x : Vl) (y : Vl) (z : Vl) (r0 : Bool × Int) (r1 : Bool × Int) (r2 : Bool × Int) (r3 : Bool × Int) (r4 : Vl × Int) (r5 : Vl × Int) (r6 : Vl × Int) (r7 : Vl × Int) (r8 : Bool × Int) : Bool := false
def BigOrder_s4 (x : Vl) (y : Vl) (z : Vl) (r0 : Bool × Int) (r1 : Bool × Int) (r2 : Bool × Int) (r3 : Bool × Int) (r4 : Vl × Int) (r5 : Vl × Int) (r6 : Vl × Int) (r7 : Vl × Int) (r8 : Bool × Int) : Bool := true
def BigOrder_s5 (x : Vl) (y : Vl) (z : Vl) (r0 : Bool × Int) (r1 : Bool × Int) (r2 : Bool × Int) (r3 : Bool × Int) (r4 : Vl × Int) (r5 : Vl × Int) (r6 : Vl × Int) (r7 : Vl × Int) (r8 : Bool × Int) (r9 : Bool × Int) : Bool := ((true && (r9.2 == 0)) && (r9.1 == r0.1))
def BigOrder_s6 (x : Vl) (y : Vl) (z : Vl) (r0 : Bool × Int) (r1 : Bool × Int) (r2 : Bool × Int) (r3 : Bool × Int) (r4 : Vl × Int) (r5 : Vl × Int) (r6 : Vl × Int) (r7 : Vl × Int) (r8 : Bool × Int) : Bool := BigOrder_s5 x y z r0 r1 r2 r3 r4 r5 r6 r7 r8 (lessR r6.1 r7.1)
def BigOrder_s7 (x : Vl) (y : Vl) (z : Vl) (r0 : Bool × Int) (r1 : Bool × Int) (r2 : Bool × Int) (r3 : Bool × Int) (r4 : Vl × Int) (r5 : Vl × Int) (r6 : Vl × Int) (r7 : Vl × Int) (r8 : Bool × Int) : Bool := if ((((!(r6.2 == 0)) || (!(r7.2 == 0))) || (negB z)) || (veq z (⟨1, 0, []⟩ : Vl))) = true then BigOrder_s4 x y z r0 r1 r2 r3 r4 r5 r6 r7 r8 else BigOrder_s6 x y z r0 r1 r2 r3 r4 r5 r6 r7 r8
def BigOrder_s8 (x : Vl) (y : Vl) (z : Vl) (r0 : Bool × Int) (r1 : Bool × Int) (r2 : Bool × Int) (r3 : Bool × Int) (r4 : Vl × Int) (r5 : Vl × Int) (r6 : Vl × Int) (r7 : Vl × Int) (r8 : Bool × Int) : Bool := if ((!(r8.2 == 0)) || (r8.1 != r0.1)) = true then BigOrder_s3 x y z r0 r1 r2 r3 r4 r5 r6 r7 r8 else BigOrder_s7 x y z r0 r1 r2 r3 r4 r5 r6 r7 r8
def BigOrder_s9 (x : Vl) (y : Vl) (z : Vl) (r0 : Bool × Int) (r1 : Bool × Int) (r2 : Bool × Int) (r3 : Bool × Int) (r4 : Vl × Int) (r5 : Vl × Int) (r6 : Vl × Int) (r7 : Vl × Int) : Bool := BigOrder_s8 x y z r0 r1 r2 r3 r4 r5 r6 r7 (lessR r4.1 r5.1)
def BigOrder_s10 (x : Vl) (y : Vl) (z : Vl) (r0 : Bool × Int) (r1 : Bool × Int) (r2 : Bool × Int) (r3 : Bool × Int) (r4 : Vl × Int) (r5 : Vl × Int) (r6 : Vl × Int) (r7 : Vl × Int) : Bool := true
def BigOrder_s11 (x : Vl) (y : Vl) (z : Vl) (r0 : Bool × Int) (r1 : Bool × Int) (r2 : Bool × Int) (r3 : Bool × Int) (r4 : Vl × Int) (r5 : Vl × Int) (r6 : Vl × Int) (r7 : Vl × Int) (r10 : Bool × Int) : Bool := ((true && (r10.2 == 0)) && (r10.1 == r0.1))
def BigOrder_s12 (x : Vl) (y : Vl) (z : Vl) (r0 : Bool × Int) (r1 : Bool × Int) (r2 : Bool × Int) (r3 : Bool × Int) (r4 : Vl × Int) (r5 : Vl × Int) (r6 : Vl × Int) (r7 : Vl × Int) : Bool := BigOrder_s11 x y z r0 r1 r2 r3 r4 r5 r6 r7 (lessR r6.1 r7.1)
def BigOrder_s13 (x : Vl) (y : Vl) (z : Vl) (r0 : Bool × Int) (r1 : Bool × Int) (r2 : Bool × Int) (r3 : Bool × Int) (r4 : Vl × Int) (r5 : Vl × Int) (r6 : Vl × Int) (r7 : Vl × Int) : Bool := if ((((!(r6.2 == 0)) || (!(r7.2 == 0))) || (negB z)) || (veq z (⟨1, 0, []⟩ : Vl))) = true then BigOrder_s10 x y z r0 r1 r2 r3 r4 r5 r6 r7 else BigOrder_s12 x y z r0 r1 r2 r3 r4 r5 r6 r7
def BigOrder_s14 (x : Vl) (y : Vl) (z : Vl) (r0 : Bool × Int) (r1 : Bool × Int) (r2 : Bool × Int) (r3 : Bool × Int) (r4 : Vl × Int) (r5 : Vl × Int) (r6 : Vl × Int) (r7 : Vl × Int) : Bool := if ((r4.2 == 0) && (r5.2 == 0)) = true then BigOrder_s9 x y z r0 r1 r2 r3 r4 r5 r6 r7 else BigOrder_s13 x y z r0 r1 r2 r3 r4 r5 r6 r7
def BigOrder_s15 (x : Vl) (y : Vl) (z : Vl) (r0 : Bool × Int) (r1 : Bool × Int) (r2 : Bool × Int) (r3 : Bool × Int) (r4 : Vl × Int) (r5 : Vl × Int) (r6 : Vl × Int) : Bool := BigOrder_s14 x y z r0 r1 r2 r3 r4 r5 r6 (mulR y z)
def BigOrder_s16 (x : Vl) (y : Vl) (z : Vl) (r0 : Bool × Int) (r1 : Bool × Int) (r2 : Bool × Int) (r3 : Bool × Int) (r4 : Vl × Int) (r5 : Vl × Int) : Bool := BigOrder_s15 x y z r0 r1 r2 r3 r4 r5 (mulR x z)
def BigOrder_s17 (x : Vl) (y : Vl) (z : Vl) (r0 : Bool × Int) (r1 : Bool × Int) (r2 : Bool × Int) (r3 : Bool × Int) (r4 : Vl × Int) : Bool := BigOrder_s16 x y z r0 r1 r2 r3 r4 (addR y z)
def BigOrder_s18 (x : Vl) (y : Vl) (z : Vl) (r0 : Bool × Int) (r1 : Bool × Int) (r2 : Bool × Int) (r3 : Bool × Int) : Bool := BigOrder_s17 x y z r0 r1 r2 r3 (addR x z)
def BigOrder_s19 (x : Vl) (y : Vl) (z : Vl) (r0 : Bool × Int) (r1 : Bool × Int) (r2 : Bool × Int) (r3 : Bool × Int) : Bool := if (((((!(r1.2 == 0)) || (!(r3.2 == 0))) || (r0.1 && r1.1)) || ((veq x y) != ((!r0.1) && (!r1.1)))) || ((r0.1 && r2.1) && (!r3.1))) = true then BigOrder_s2 x y z r0 r1 r2 r3 else BigOrder_s18 x y z r0 r1 r2 r3
def BigOrder_s20 (x : Vl) (y : Vl) (z : Vl) (r0 : Bool × Int) (r1 : Bool × Int) (r2 : Bool × Int) (r3 : Bool × Int) : Bool := if ((!(r0.2 == 0)) || (!(r2.2 == 0))) = true then BigOrder_s1 x y z r0 r1 r2 r3 else BigOrder_s19 x y z r0 r1 r2 r3
def BigOrder_s21 (x : Vl) (y : Vl) (z : Vl) (r0 : Bool × Int) (r1 : Bool × Int) (r2 : Bool × Int) : Bool := BigOrder_s20 x y z r0 r1 r2 (lessR x z)
def BigOrder_s22 (x : Vl) (y : Vl) (z : Vl) (r0 : Bool × Int) (r1 : Bool × Int) : Bool := BigOrder_s21 x y z r0 r1 (lessR y z)
def BigOrder_s23 (x : Vl) (y : Vl) (z : Vl) (r0 : Bool × Int) : Bool := BigOrder_s22 x y z r0 (lessR y x)
def BigOrder_s24 (x : Vl) (y : Vl) (z : Vl) : Bool := BigOrder_s23 x y z (lessR x y)
def BigOrder_s25 (x : Vl) (y : Vl) (z : Vl) : Bool := if (((!(shortB x)) || (!(shortB y))) || (!(shortB z))) = true then BigOrder_s0 x y z else BigOrder_s24 x y z

set_option maxRecDepth 100000 in
set_option maxHeartbeats 16000000 in
theorem walk_BigOrder (x : Vl) (y : Vl) (z : Vl) (hx : x.inp) (hy : y.inp) (hz : z.inp) (w : World) (hE : Env w) (hr : true = BigOrder_s25 x y z) :
    Calls Tryz.prog 11 #[x.val, y.val, z.val] w fun e w' => e = .returned (.bool true) ∧ Below w.heap.size w w' := by
  obtain ⟨xk, xn, xt⟩ := x
  obtain ⟨yk, yn, yt⟩ := y
  obtain ⟨zk, zn, zt⟩ := z
  have HIx := Lib.hid hx
  have HIy := Lib.hid hy
  have HIz := Lib.hid hz
  have HE := Lib.hid hE
  have HL := Lib.hid hr
  clear hE hr hx hy hz
  simp only [Vl.val]
  go_enter Tryz.func11, Tryz.ntmps11
  go_upto_region 1 with fail
  have hB : Bxs (((w.alloc (.cells #[.int .i64 xk, .int .i64 xn, .string ⟨List.toArray xt⟩] 23)).alloc (.cells #[.int .i64 yk, .int .i64 yn, .string ⟨List.toArray yt⟩] 23)).alloc (.cells #[.int .i64 zk, .int .i64 zn, .string ⟨List.toArray zt⟩] 23)) [(w.heap.size + 1 + 1, (⟨zk, zn, zt⟩ : Vl)), (w.heap.size + 1, (⟨yk, yn, yt⟩ : Vl)), (w.heap.size, (⟨xk, xn, xt⟩ : Vl))] := by
    have h := ((((show Bxs w [] from trivial).push (⟨xk, xn, xt⟩ : Vl) 23).push (⟨yk, yn, yt⟩ : Vl) 23).push (⟨zk, zn, zt⟩ : Vl) 23)
    simpa only [World.size_alloc] using h
  have hL : Below w.heap.size w (((w.alloc (.cells #[.int .i64 xk, .int .i64 xn, .string ⟨List.toArray xt⟩] 23)).alloc (.cells #[.int .i64 yk, .int .i64 yn, .string ⟨List.toArray yt⟩] 23)).alloc (.cells #[.int .i64 zk, .int .i64 zn, .string ⟨List.toArray zt⟩] 23)) := ((((Below.refl w.heap.size w).alloc (Nat.le_refl _) (.cells #[.int .i64 xk, .int .i64 xn, .string ⟨List.toArray xt⟩] 23)).alloc (by simp <;> omega) (.cells #[.int .i64 yk, .int .i64 yn, .string ⟨List.toArray yt⟩] 23)).alloc (by simp <;> omega) (.cells #[.int .i64 zk, .int .i64 zn, .string ⟨List.toArray zt⟩] 23))
  obtain ⟨W1, hW⟩ : ∃ X, (((w.alloc (.cells #[.int .i64 xk, .int .i64 xn, .string ⟨List.toArray xt⟩] 23)).alloc (.cells #[.int .i64 yk, .int .i64 yn, .string ⟨List.toArray yt⟩] 23)).alloc (.cells #[.int .i64 zk, .int .i64 zn, .string ⟨List.toArray zt⟩] 23)) = X := ⟨_, rfl⟩
  rw [hW] at hB hL ⊢
  clear hW
  obtain ⟨gb5, hg⟩ : ∃ g, w.heap.size + 1 + 1 = g := ⟨_, rfl⟩
  have HGb5 : Hid (w.heap.size ≤ gb5) := Lib.hid (by omega)
  rw [hg] at hB ⊢
  clear hg
  obtain ⟨gb4, hg⟩ : ∃ g, w.heap.size + 1 = g := ⟨_, rfl⟩
  have HGb4 : Hid (w.heap.size ≤ gb4) := Lib.hid (by omega)
  rw [hg] at hB ⊢
  clear hg
  have HGb3 : Hid (w.heap.size ≤ w.heap.size) := Lib.hid (Nat.le_refl _)
  have B := Lib.hid hB
  have BL := Lib.hid hL
  clear hB hL
  -- region 1
  go_wp2_with fail
  refine (awakeV _ (HE.out.below BL.out)).mono ?_
  rintro e W2 ⟨rfl, hb⟩
  replace B := Lib.hid (B.out.below hb)
  replace BL := Lib.hid (below_then BL.out hb)
  clear hb
  go_upto_region 2 with fail
  -- region 2, a test
  obtain ⟨b0, h⟩ : ∃ b : Bool, (shortB (⟨xk, xn, xt⟩ : Vl)) = b := ⟨_, rfl⟩
  have HA0 := Lib.hid h
  clear h
  obtain ⟨b1, h⟩ : ∃ b : Bool, (shortB (⟨yk, yn, yt⟩ : Vl)) = b := ⟨_, rfl⟩
  have HA1 := Lib.hid h
  clear h
  obtain ⟨b2, h⟩ : ∃ b : Bool, (shortB (⟨zk, zn, zt⟩ : Vl)) = b := ⟨_, rfl⟩
  have HA2 := Lib.hid h
  clear h
  obtain ⟨c1, h⟩ : ∃ c : Bool, (((!b0) || (!b1)) || (!b2)) = c := ⟨_, rfl⟩
  have HCC := Lib.hid h
  clear h
  go_upto_region 2 with fail
  go_cut [41] from 29 to 41 (fun v wx => v = .bool c1 ∧ Hid (Bxs wx [(gb5, (⟨zk, zn, zt⟩ : Vl)), (gb4, (⟨yk, yn, yt⟩ : Vl)), (w.heap.size, (⟨xk, xn, xt⟩ : Vl))]) ∧ Hid (Below w.heap.size w wx))
  case first =>
    clear HL
    cases b0 with
    | true =>
      cases b1 with
      | true =>
        cases b2 with
        | true =>
          have cb3_0 : W2.cell? ⟨w.heap.size, 0, none⟩ = some (.int .i64 xk) := (B.out.get 2 rfl).c0
          have cb3_1 : W2.cell? ⟨w.heap.size, 1, none⟩ = some (.int .i64 xn) := (B.out.get 2 rfl).c1
          have cb3_2 : W2.cell? ⟨w.heap.size, 2, none⟩ = some (.string ⟨List.toArray xt⟩) := (B.out.get 2 rfl).c2
          have cb4_0 : W2.cell? ⟨gb4, 0, none⟩ = some (.int .i64 yk) := (B.out.get 1 rfl).c0
          have cb4_1 : W2.cell? ⟨gb4, 1, none⟩ = some (.int .i64 yn) := (B.out.get 1 rfl).c1
          have cb4_2 : W2.cell? ⟨gb4, 2, none⟩ = some (.string ⟨List.toArray yt⟩) := (B.out.get 1 rfl).c2
          have cb5_0 : W2.cell? ⟨gb5, 0, none⟩ = some (.int .i64 zk) := (B.out.get 0 rfl).c0
          have cb5_1 : W2.cell? ⟨gb5, 1, none⟩ = some (.int .i64 zn) := (B.out.get 0 rfl).c1
          have cb5_2 : W2.cell? ⟨gb5, 2, none⟩ = some (.string ⟨List.toArray zt⟩) := (B.out.get 0 rfl).c2
          go_wp2_with fail
          refine (short_calls xk xn xt HIx.out.2 _).mono ?_
          rw [HA0.out]
          rintro e W3 ⟨rfl, hb⟩
          clear cb3_0 cb3_1 cb3_2 cb4_0 cb4_1 cb4_2 cb5_0 cb5_1 cb5_2
          replace B := Lib.hid (B.out.below hb)
          replace BL := Lib.hid (below_then BL.out hb)
          clear hb
          have cb3_0 : W3.cell? ⟨w.heap.size, 0, none⟩ = some (.int .i64 xk) := (B.out.get 2 rfl).c0
          have cb3_1 : W3.cell? ⟨w.heap.size, 1, none⟩ = some (.int .i64 xn) := (B.out.get 2 rfl).c1
          have cb3_2 : W3.cell? ⟨w.heap.size, 2, none⟩ = some (.string ⟨List.toArray xt⟩) := (B.out.get 2 rfl).c2
          have cb4_0 : W3.cell? ⟨gb4, 0, none⟩ = some (.int .i64 yk) := (B.out.get 1 rfl).c0
          have cb4_1 : W3.cell? ⟨gb4, 1, none⟩ = some (.int .i64 yn) := (B.out.get 1 rfl).c1
          have cb4_2 : W3.cell? ⟨gb4, 2, none⟩ = some (.string ⟨List.toArray yt⟩) := (B.out.get 1 rfl).c2
          have cb5_0 : W3.cell? ⟨gb5, 0, none⟩ = some (.int .i64 zk) := (B.out.get 0 rfl).c0
          have cb5_1 : W3.cell? ⟨gb5, 1, none⟩ = some (.int .i64 zn) := (B.out.get 0 rfl).c1
          have cb5_2 : W3.cell? ⟨gb5, 2, none⟩ = some (.string ⟨List.toArray zt⟩) := (B.out.get 0 rfl).c2
          go_wp2_with fail
          refine (short_calls yk yn yt HIy.out.2 _).mono ?_
          rw [HA1.out]
          rintro e W4 ⟨rfl, hb⟩
          clear cb3_0 cb3_1 cb3_2 cb4_0 cb4_1 cb4_2 cb5_0 cb5_1 cb5_2
          replace B := Lib.hid (B.out.below hb)
          replace BL := Lib.hid (below_then BL.out hb)
          clear hb
          have cb3_0 : W4.cell? ⟨w.heap.size, 0, none⟩ = some (.int .i64 xk) := (B.out.get 2 rfl).c0
          have cb3_1 : W4.cell? ⟨w.heap.size, 1, none⟩ = some (.int .i64 xn) := (B.out.get 2 rfl).c1
          have cb3_2 : W4.cell? ⟨w.heap.size, 2, none⟩ = some (.string ⟨List.toArray xt⟩) := (B.out.get 2 rfl).c2
          have cb4_0 : W4.cell? ⟨gb4, 0, none⟩ = some (.int .i64 yk) := (B.out.get 1 rfl).c0
          have cb4_1 : W4.cell? ⟨gb4, 1, none⟩ = some (.int .i64 yn) := (B.out.get 1 rfl).c1
          have cb4_2 : W4.cell? ⟨gb4, 2, none⟩ = some (.string ⟨List.toArray yt⟩) := (B.out.get 1 rfl).c2
          have cb5_0 : W4.cell? ⟨gb5, 0, none⟩ = some (.int .i64 zk) := (B.out.get 0 rfl).c0
          have cb5_1 : W4.cell? ⟨gb5, 1, none⟩ = some (.int .i64 zn) := (B.out.get 0 rfl).c1
          have cb5_2 : W4.cell? ⟨gb5, 2, none⟩ = some (.string ⟨List.toArray zt⟩) := (B.out.get 0 rfl).c2
          go_wp2_with fail
          refine (short_calls zk zn zt HIz.out.2 _).mono ?_
          rw [HA2.out]
          rintro e W5 ⟨rfl, hb⟩
          clear cb3_0 cb3_1 cb3_2 cb4_0 cb4_1 cb4_2 cb5_0 cb5_1 cb5_2
          replace B := Lib.hid (B.out.below hb)
          replace BL := Lib.hid (below_then BL.out hb)
          clear hb
          have cb3_0 : W5.cell? ⟨w.heap.size, 0, none⟩ = some (.int .i64 xk) := (B.out.get 2 rfl).c0
          have cb3_1 : W5.cell? ⟨w.heap.size, 1, none⟩ = some (.int .i64 xn) := (B.out.get 2 rfl).c1
          have cb3_2 : W5.cell? ⟨w.heap.size, 2, none⟩ = some (.string ⟨List.toArray xt⟩) := (B.out.get 2 rfl).c2
          have cb4_0 : W5.cell? ⟨gb4, 0, none⟩ = some (.int .i64 yk) := (B.out.get 1 rfl).c0
          have cb4_1 : W5.cell? ⟨gb4, 1, none⟩ = some (.int .i64 yn) := (B.out.get 1 rfl).c1
          have cb4_2 : W5.cell? ⟨gb4, 2, none⟩ = some (.string ⟨List.toArray yt⟩) := (B.out.get 1 rfl).c2
          have cb5_0 : W5.cell? ⟨gb5, 0, none⟩ = some (.int .i64 zk) := (B.out.get 0 rfl).c0
          have cb5_1 : W5.cell? ⟨gb5, 1, none⟩ = some (.int .i64 zn) := (B.out.get 0 rfl).c1
          have cb5_2 : W5.cell? ⟨gb5, 2, none⟩ = some (.string ⟨List.toArray zt⟩) := (B.out.get 0 rfl).c2
          go_wp2_with fail
          go_meet
          exact ⟨congrArg Value.bool HCC.out, B, BL⟩
        | false =>
          have cb3_0 : W2.cell? ⟨w.heap.size, 0, none⟩ = some (.int .i64 xk) := (B.out.get 2 rfl).c0
          have cb3_1 : W2.cell? ⟨w.heap.size, 1, none⟩ = some (.int .i64 xn) := (B.out.get 2 rfl).c1
          have cb3_2 : W2.cell? ⟨w.heap.size, 2, none⟩ = some (.string ⟨List.toArray xt⟩) := (B.out.get 2 rfl).c2
          have cb4_0 : W2.cell? ⟨gb4, 0, none⟩ = some (.int .i64 yk) := (B.out.get 1 rfl).c0
          have cb4_1 : W2.cell? ⟨gb4, 1, none⟩ = some (.int .i64 yn) := (B.out.get 1 rfl).c1
          have cb4_2 : W2.cell? ⟨gb4, 2, none⟩ = some (.string ⟨List.toArray yt⟩) := (B.out.get 1 rfl).c2
          have cb5_0 : W2.cell? ⟨gb5, 0, none⟩ = some (.int .i64 zk) := (B.out.get 0 rfl).c0
          have cb5_1 : W2.cell? ⟨gb5, 1, none⟩ = some (.int .i64 zn) := (B.out.get 0 rfl).c1
          have cb5_2 : W2.cell? ⟨gb5, 2, none⟩ = some (.string ⟨List.toArray zt⟩) := (B.out.get 0 rfl).c2
          go_wp2_with fail
          refine (short_calls xk xn xt HIx.out.2 _).mono ?_
          rw [HA0.out]
          rintro e W6 ⟨rfl, hb⟩
          clear cb3_0 cb3_1 cb3_2 cb4_0 cb4_1 cb4_2 cb5_0 cb5_1 cb5_2
          replace B := Lib.hid (B.out.below hb)
          replace BL := Lib.hid (below_then BL.out hb)
          clear hb
          have cb3_0 : W6.cell? ⟨w.heap.size, 0, none⟩ = some (.int .i64 xk) := (B.out.get 2 rfl).c0
          have cb3_1 : W6.cell? ⟨w.heap.size, 1, none⟩ = some (.int .i64 xn) := (B.out.get 2 rfl).c1
          have cb3_2 : W6.cell? ⟨w.heap.size, 2, none⟩ = some (.string ⟨List.toArray xt⟩) := (B.out.get 2 rfl).c2
          have cb4_0 : W6.cell? ⟨gb4, 0, none⟩ = some (.int .i64 yk) := (B.out.get 1 rfl).c0
          have cb4_1 : W6.cell? ⟨gb4, 1, none⟩ = some (.int .i64 yn) := (B.out.get 1 rfl).c1
          have cb4_2 : W6.cell? ⟨gb4, 2, none⟩ = some (.string ⟨List.toArray yt⟩) := (B.out.get 1 rfl).c2
          have cb5_0 : W6.cell? ⟨gb5, 0, none⟩ = some (.int .i64 zk) := (B.out.get 0 rfl).c0
          have cb5_1 : W6.cell? ⟨gb5, 1, none⟩ = some (.int .i64 zn) := (B.out.get 0 rfl).c1
          have cb5_2 : W6.cell? ⟨gb5, 2, none⟩ = some (.string ⟨List.toArray zt⟩) := (B.out.get 0 rfl).c2
          go_wp2_with fail
          refine (short_calls yk yn yt HIy.out.2 _).mono ?_
          rw [HA1.out]
          rintro e W7 ⟨rfl, hb⟩
          clear cb3_0 cb3_1 cb3_2 cb4_0 cb4_1 cb4_2 cb5_0 cb5_1 cb5_2
          replace B := Lib.hid (B.out.below hb)
          replace BL := Lib.hid (below_then BL.out hb)
          clear hb
          have cb3_0 : W7.cell? ⟨w.heap.size, 0, none⟩ = some (.int .i64 xk) := (B.out.get 2 rfl).c0
          have cb3_1 : W7.cell? ⟨w.heap.size, 1, none⟩ = some (.int .i64 xn) := (B.out.get 2 rfl).c1
          have cb3_2 : W7.cell? ⟨w.heap.size, 2, none⟩ = some (.string ⟨List.toArray xt⟩) := (B.out.get 2 rfl).c2
          have cb4_0 : W7.cell? ⟨gb4, 0, none⟩ = some (.int .i64 yk) := (B.out.get 1 rfl).c0
          have cb4_1 : W7.cell? ⟨gb4, 1, none⟩ = some (.int .i64 yn) := (B.out.get 1 rfl).c1
          have cb4_2 : W7.cell? ⟨gb4, 2, none⟩ = some (.string ⟨List.toArray yt⟩) := (B.out.get 1 rfl).c2
          have cb5_0 : W7.cell? ⟨gb5, 0, none⟩ = some (.int .i64 zk) := (B.out.get 0 rfl).c0
          have cb5_1 : W7.cell? ⟨gb5, 1, none⟩ = some (.int .i64 zn) := (B.out.get 0 rfl).c1
          have cb5_2 : W7.cell? ⟨gb5, 2, none⟩ = some (.string ⟨List.toArray zt⟩) := (B.out.get 0 rfl).c2
          go_wp2_with fail
          refine (short_calls zk zn zt HIz.out.2 _).mono ?_
          rw [HA2.out]
          rintro e W8 ⟨rfl, hb⟩
          clear cb3_0 cb3_1 cb3_2 cb4_0 cb4_1 cb4_2 cb5_0 cb5_1 cb5_2
          replace B := Lib.hid (B.out.below hb)
          replace BL := Lib.hid (below_then BL.out hb)
          clear hb
          have cb3_0 : W8.cell? ⟨w.heap.size, 0, none⟩ = some (.int .i64 xk) := (B.out.get 2 rfl).c0
          have cb3_1 : W8.cell? ⟨w.heap.size, 1, none⟩ = some (.int .i64 xn) := (B.out.get 2 rfl).c1
          have cb3_2 : W8.cell? ⟨w.heap.size, 2, none⟩ = some (.string ⟨List.toArray xt⟩) := (B.out.get 2 rfl).c2
          have cb4_0 : W8.cell? ⟨gb4, 0, none⟩ = some (.int .i64 yk) := (B.out.get 1 rfl).c0
          have cb4_1 : W8.cell? ⟨gb4, 1, none⟩ = some (.int .i64 yn) := (B.out.get 1 rfl).c1
          have cb4_2 : W8.cell? ⟨gb4, 2, none⟩ = some (.string ⟨List.toArray yt⟩) := (B.out.get 1 rfl).c2
          have cb5_0 : W8.cell? ⟨gb5, 0, none⟩ = some (.int .i64 zk) := (B.out.get 0 rfl).c0
          have cb5_1 : W8.cell? ⟨gb5, 1, none⟩ = some (.int .i64 zn) := (B.out.get 0 rfl).c1
          have cb5_2 : W8.cell? ⟨gb5, 2, none⟩ = some (.string ⟨List.toArray zt⟩) := (B.out.get 0 rfl).c2
          go_wp2_with fail
          go_meet
          exact ⟨congrArg Value.bool HCC.out, B, BL⟩
      | false =>
        have cb3_0 : W2.cell? ⟨w.heap.size, 0, none⟩ = some (.int .i64 xk) := (B.out.get 2 rfl).c0
        have cb3_1 : W2.cell? ⟨w.heap.size, 1, none⟩ = some (.int .i64 xn) := (B.out.get 2 rfl).c1
        have cb3_2 : W2.cell? ⟨w.heap.size, 2, none⟩ = some (.string ⟨List.toArray xt⟩) := (B.out.get 2 rfl).c2
        have cb4_0 : W2.cell? ⟨gb4, 0, none⟩ = some (.int .i64 yk) := (B.out.get 1 rfl).c0
        have cb4_1 : W2.cell? ⟨gb4, 1, none⟩ = some (.int .i64 yn) := (B.out.get 1 rfl).c1
        have cb4_2 : W2.cell? ⟨gb4, 2, none⟩ = some (.string ⟨List.toArray yt⟩) := (B.out.get 1 rfl).c2
        go_wp2_with fail
        refine (short_calls xk xn xt HIx.out.2 _).mono ?_
        rw [HA0.out]
        rintro e W9 ⟨rfl, hb⟩
        clear cb3_0 cb3_1 cb3_2 cb4_0 cb4_1 cb4_2
        replace B := Lib.hid (B.out.below hb)
        replace BL := Lib.hid (below_then BL.out hb)
        clear hb
        have cb3_0 : W9.cell? ⟨w.heap.size, 0, none⟩ = some (.int .i64 xk) := (B.out.get 2 rfl).c0
        have cb3_1 : W9.cell? ⟨w.heap.size, 1, none⟩ = some (.int .i64 xn) := (B.out.get 2 rfl).c1
        have cb3_2 : W9.cell? ⟨w.heap.size, 2, none⟩ = some (.string ⟨List.toArray xt⟩) := (B.out.get 2 rfl).c2
        have cb4_0 : W9.cell? ⟨gb4, 0, none⟩ = some (.int .i64 yk) := (B.out.get 1 rfl).c0
        have cb4_1 : W9.cell? ⟨gb4, 1, none⟩ = some (.int .i64 yn) := (B.out.get 1 rfl).c1
        have cb4_2 : W9.cell? ⟨gb4, 2, none⟩ = some (.string ⟨List.toArray yt⟩) := (B.out.get 1 rfl).c2
        go_wp2_with fail
        refine (short_calls yk yn yt HIy.out.2 _).mono ?_
        rw [HA1.out]
        rintro e W10 ⟨rfl, hb⟩
        clear cb3_0 cb3_1 cb3_2 cb4_0 cb4_1 cb4_2
        replace B := Lib.hid (B.out.below hb)
        replace BL := Lib.hid (below_then BL.out hb)
        clear hb
        have cb3_0 : W10.cell? ⟨w.heap.size, 0, none⟩ = some (.int .i64 xk) := (B.out.get 2 rfl).c0
        have cb3_1 : W10.cell? ⟨w.heap.size, 1, none⟩ = some (.int .i64 xn) := (B.out.get 2 rfl).c1
        have cb3_2 : W10.cell? ⟨w.heap.size, 2, none⟩ = some (.string ⟨List.toArray xt⟩) := (B.out.get 2 rfl).c2
        have cb4_0 : W10.cell? ⟨gb4, 0, none⟩ = some (.int .i64 yk) := (B.out.get 1 rfl).c0
        have cb4_1 : W10.cell? ⟨gb4, 1, none⟩ = some (.int .i64 yn) := (B.out.get 1 rfl).c1
        have cb4_2 : W10.cell? ⟨gb4, 2, none⟩ = some (.string ⟨List.toArray yt⟩) := (B.out.get 1 rfl).c2
        go_wp2_with fail
        go_meet
        exact ⟨congrArg Value.bool HCC.out, B, BL⟩
    | false =>
      have cb3_0 : W2.cell? ⟨w.heap.size, 0, none⟩ = some (.int .i64 xk) := (B.out.get 2 rfl).c0
      have cb3_1 : W2.cell? ⟨w.heap.size, 1, none⟩ = some (.int .i64 xn) := (B.out.get 2 rfl).c1
      have cb3_2 : W2.cell? ⟨w.heap.size, 2, none⟩ = some (.string ⟨List.toArray xt⟩) := (B.out.get 2 rfl).c2
      go_wp2_with fail
      refine (short_calls xk xn xt HIx.out.2 _).mono ?_
      rw [HA0.out]
      rintro e W11 ⟨rfl, hb⟩
      clear cb3_0 cb3_1 cb3_2
      replace B := Lib.hid (B.out.below hb)
      replace BL := Lib.hid (below_then BL.out hb)
      clear hb
      have cb3_0 : W11.cell? ⟨w.heap.size, 0, none⟩ = some (.int .i64 xk) := (B.out.get 2 rfl).c0
      have cb3_1 : W11.cell? ⟨w.heap.size, 1, none⟩ = some (.int .i64 xn) := (B.out.get 2 rfl).c1
      have cb3_2 : W11.cell? ⟨w.heap.size, 2, none⟩ = some (.string ⟨List.toArray xt⟩) := (B.out.get 2 rfl).c2
      go_wp2_with fail
      go_meet
      exact ⟨congrArg Value.bool HCC.out, B, BL⟩
  case rest =>
    clear B BL
    obtain ⟨rfl, B, BL⟩ := hcut
    obtain ⟨W12, hW⟩ : ∃ X, wc = X := ⟨_, rfl⟩
    rw [hW] at B BL ⊢
    clear hW
    have HCW : Hid ((((!(shortB (⟨xk, xn, xt⟩ : Vl))) || (!(shortB (⟨yk, yn, yt⟩ : Vl)))) || (!(shortB (⟨zk, zn, zt⟩ : Vl)))) = c1) := Lib.hid (by rw [HA0.out, HA1.out, HA2.out]; exact HCC.out)
    clear HCC HA0 HA1 HA2
    cases c1 with
    | true =>
      replace HL := Lib.hid (show true = BigOrder_s0 (⟨xk, xn, xt⟩ : Vl) (⟨yk, yn, yt⟩ : Vl) (⟨zk, zn, zt⟩ : Vl) from HL.out.trans (if_pos HCW.out))
      go_wp2_with fail
      go_ret
      exact ⟨rfl, BL.out⟩
    | false =>
      have HOx : Hid (Vl.ok (⟨xk, xn, xt⟩ : Vl)) := Lib.hid ⟨HIx.out.1, by have h := HCW.out; simp [shortB] at h; show xt.length ≤ 100000; omega⟩
      have HOy : Hid (Vl.ok (⟨yk, yn, yt⟩ : Vl)) := Lib.hid ⟨HIy.out.1, by have h := HCW.out; simp [shortB] at h; show yt.length ≤ 100000; omega⟩
      have HOz : Hid (Vl.ok (⟨zk, zn, zt⟩ : Vl)) := Lib.hid ⟨HIz.out.1, by have h := HCW.out; simp [shortB] at h; show zt.length ≤ 100000; omega⟩
      replace HL := Lib.hid (show true = BigOrder_s24 (⟨xk, xn, xt⟩ : Vl) (⟨yk, yn, yt⟩ : Vl) (⟨zk, zn, zt⟩ : Vl) from HL.out.trans ((if_neg (fun h => Bool.noConfusion (HCW.out.symm.trans h)))))
      -- region 4
      have cb3_0 : W12.cell? ⟨w.heap.size, 0, none⟩ = some (.int .i64 xk) := (B.out.get 2 rfl).c0
      have cb3_1 : W12.cell? ⟨w.heap.size, 1, none⟩ = some (.int .i64 xn) := (B.out.get 2 rfl).c1
      have cb3_2 : W12.cell? ⟨w.heap.size, 2, none⟩ = some (.string ⟨List.toArray xt⟩) := (B.out.get 2 rfl).c2
      have cb4_0 : W12.cell? ⟨gb4, 0, none⟩ = some (.int .i64 yk) := (B.out.get 1 rfl).c0
      have cb4_1 : W12.cell? ⟨gb4, 1, none⟩ = some (.int .i64 yn) := (B.out.get 1 rfl).c1
      have cb4_2 : W12.cell? ⟨gb4, 2, none⟩ = some (.string ⟨List.toArray yt⟩) := (B.out.get 1 rfl).c2
      obtain ⟨⟨r0b, r0e⟩, hr0⟩ : ∃ p, lessR (⟨xk, xn, xt⟩ : Vl) (⟨yk, yn, yt⟩ : Vl) = p := ⟨_, rfl⟩
      have hc0 := fun (W : World) (hW : Env W) => lessV (⟨xk, xn, xt⟩ : Vl) (⟨yk, yn, yt⟩ : Vl) HOx.out HOy.out W hW
      rw [hr0] at hc0
      simp only [Vl.val] at hc0
      have HC0 := Lib.hid hc0; have HR0 := Lib.hid hr0
      clear hc0 hr0
      go_wp2_with fail
      refine (HC0.out _ (HE.out.below BL.out)).mono ?_
      rintro e W13 ⟨rfl, hb⟩
      clear cb3_0 cb3_1 cb3_2 cb4_0 cb4_1 cb4_2
      replace B := Lib.hid (B.out.below hb)
      replace BL := Lib.hid (below_then BL.out hb)
      clear hb
      go_upto_region 5 with fail
      replace HL := Lib.hid (show true = BigOrder_s23 (⟨xk, xn, xt⟩ : Vl) (⟨yk, yn, yt⟩ : Vl) (⟨zk, zn, zt⟩ : Vl) ((r0b, r0e) : Bool × Int) from HL.out.trans (by unfold BigOrder_s24; rw [HR0.out]))
      -- region 5
      have cb4_0 : W13.cell? ⟨gb4, 0, none⟩ = some (.int .i64 yk) := (B.out.get 1 rfl).c0
      have cb4_1 : W13.cell? ⟨gb4, 1, none⟩ = some (.int .i64 yn) := (B.out.get 1 rfl).c1
      have cb4_2 : W13.cell? ⟨gb4, 2, none⟩ = some (.string ⟨List.toArray yt⟩) := (B.out.get 1 rfl).c2
      have cb3_0 : W13.cell? ⟨w.heap.size, 0, none⟩ = some (.int .i64 xk) := (B.out.get 2 rfl).c0
      have cb3_1 : W13.cell? ⟨w.heap.size, 1, none⟩ = some (.int .i64 xn) := (B.out.get 2 rfl).c1
      have cb3_2 : W13.cell? ⟨w.heap.size, 2, none⟩ = some (.string ⟨List.toArray xt⟩) := (B.out.get 2 rfl).c2
      obtain ⟨⟨r1b, r1e⟩, hr1⟩ : ∃ p, lessR (⟨yk, yn, yt⟩ : Vl) (⟨xk, xn, xt⟩ : Vl) = p := ⟨_, rfl⟩
      have hc1 := fun (W : World) (hW : Env W) => lessV (⟨yk, yn, yt⟩ : Vl) (⟨xk, xn, xt⟩ : Vl) HOy.out HOx.out W hW
      rw [hr1] at hc1
      simp only [Vl.val] at hc1
      have HC1 := Lib.hid hc1; have HR1 := Lib.hid hr1
      clear hc1 hr1
      go_wp2_with fail
      refine (HC1.out _ (HE.out.below BL.out)).mono ?_
      rintro e W14 ⟨rfl, hb⟩
      clear cb4_0 cb4_1 cb4_2 cb3_0 cb3_1 cb3_2
      replace B := Lib.hid (B.out.below hb)
      replace BL := Lib.hid (below_then BL.out hb)
      clear hb
      go_upto_region 6 with fail
      replace HL := Lib.hid (show true = BigOrder_s22 (⟨xk, xn, xt⟩ : Vl) (⟨yk, yn, yt⟩ : Vl) (⟨zk, zn, zt⟩ : Vl) ((r0b, r0e) : Bool × Int) ((r1b, r1e) : Bool × Int) from HL.out.trans (by unfold BigOrder_s23; rw [HR1.out]))
      -- region 6
      have cb4_0 : W14.cell? ⟨gb4, 0, none⟩ = some (.int .i64 yk) := (B.out.get 1 rfl).c0
      have cb4_1 : W14.cell? ⟨gb4, 1, none⟩ = some (.int .i64 yn) := (B.out.get 1 rfl).c1
      have cb4_2 : W14.cell? ⟨gb4, 2, none⟩ = some (.string ⟨List.toArray yt⟩) := (B.out.get 1 rfl).c2
      have cb5_0 : W14.cell? ⟨gb5, 0, none⟩ = some (.int .i64 zk) := (B.out.get 0 rfl).c0
      have cb5_1 : W14.cell? ⟨gb5, 1, none⟩ = some (.int .i64 zn) := (B.out.get 0 rfl).c1
      have cb5_2 : W14.cell? ⟨gb5, 2, none⟩ = some (.string ⟨List.toArray zt⟩) := (B.out.get 0 rfl).c2
      obtain ⟨⟨r2b, r2e⟩, hr2⟩ : ∃ p, lessR (⟨yk, yn, yt⟩ : Vl) (⟨zk, zn, zt⟩ : Vl) = p := ⟨_, rfl⟩
      have hc2 := fun (W : World) (hW : Env W) => lessV (⟨yk, yn, yt⟩ : Vl) (⟨zk, zn, zt⟩ : Vl) HOy.out HOz.out W hW
      rw [hr2] at hc2
      simp only [Vl.val] at hc2
      have HC2 := Lib.hid hc2; have HR2 := Lib.hid hr2
      clear hc2 hr2
      go_wp2_with fail
      refine (HC2.out _ (HE.out.below BL.out)).mono ?_
      rintro e W15 ⟨rfl, hb⟩
      clear cb4_0 cb4_1 cb4_2 cb5_0 cb5_1 cb5_2
      replace B := Lib.hid (B.out.below hb)
      replace BL := Lib.hid (below_then BL.out hb)
      clear hb
      go_upto_region 7 with fail
      replace HL := Lib.hid (show true = BigOrder_s21 (⟨xk, xn, xt⟩ : Vl) (⟨yk, yn, yt⟩ : Vl) (⟨zk, zn, zt⟩ : Vl) ((r0b, r0e) : Bool × Int) ((r1b, r1e) : Bool × Int) ((r2b, r2e) : Bool × Int) from HL.out.trans (by unfold BigOrder_s22; rw [HR2.out]))
      -- region 7
      have cb3_0 : W15.cell? ⟨w.heap.size, 0, none⟩ = some (.int .i64 xk) := (B.out.get 2 rfl).c0
      have cb3_1 : W15.cell? ⟨w.heap.size, 1, none⟩ = some (.int .i64 xn) := (B.out.get 2 rfl).c1
      have cb3_2 : W15.cell? ⟨w.heap.size, 2, none⟩ = some (.string ⟨List.toArray xt⟩) := (B.out.get 2 rfl).c2
      have cb5_0 : W15.cell? ⟨gb5, 0, none⟩ = some (.int .i64 zk) := (B.out.get 0 rfl).c0
      have cb5_1 : W15.cell? ⟨gb5, 1, none⟩ = some (.int .i64 zn) := (B.out.get 0 rfl).c1
      have cb5_2 : W15.cell? ⟨gb5, 2, none⟩ = some (.string ⟨List.toArray zt⟩) := (B.out.get 0 rfl).c2
      obtain ⟨⟨r3b, r3e⟩, hr3⟩ : ∃ p, lessR (⟨xk, xn, xt⟩ : Vl) (⟨zk, zn, zt⟩ : Vl) = p := ⟨_, rfl⟩
      have hc3 := fun (W : World) (hW : Env W) => lessV (⟨xk, xn, xt⟩ : Vl) (⟨zk, zn, zt⟩ : Vl) HOx.out HOz.out W hW
      rw [hr3] at hc3
      simp only [Vl.val] at hc3
      have HC3 := Lib.hid hc3; have HR3 := Lib.hid hr3
      clear hc3 hr3
      go_wp2_with fail
      refine (HC3.out _ (HE.out.below BL.out)).mono ?_
      rintro e W16 ⟨rfl, hb⟩
      clear cb3_0 cb3_1 cb3_2 cb5_0 cb5_1 cb5_2
      replace B := Lib.hid (B.out.below hb)
      replace BL := Lib.hid (below_then BL.out hb)
      clear hb
      go_upto_region 8 with fail
      replace HL := Lib.hid (show true = BigOrder_s20 (⟨xk, xn, xt⟩ : Vl) (⟨yk, yn, yt⟩ : Vl) (⟨zk, zn, zt⟩ : Vl) ((r0b, r0e) : Bool × Int) ((r1b, r1e) : Bool × Int) ((r2b, r2e) : Bool × Int) ((r3b, r3e) : Bool × Int) from HL.out.trans (by unfold BigOrder_s21; rw [HR3.out]))
      -- region 8, a test
      obtain ⟨b3, h⟩ : ∃ b : Bool, (r0e == 0) = b := ⟨_, rfl⟩
      have HA3 := Lib.hid h
      clear h
      obtain ⟨b4, h⟩ : ∃ b : Bool, (r2e == 0) = b := ⟨_, rfl⟩
      have HA4 := Lib.hid h
      clear h
      obtain ⟨c2, h⟩ : ∃ c : Bool, ((!b3) || (!b4)) = c := ⟨_, rfl⟩
      have HCC := Lib.hid h
      clear h
      go_upto_region 8 with fail
      go_cut [72] from 67 to 72 (fun v wx => v = .bool c2 ∧ Hid (Bxs wx [(gb5, (⟨zk, zn, zt⟩ : Vl)), (gb4, (⟨yk, yn, yt⟩ : Vl)), (w.heap.size, (⟨xk, xn, xt⟩ : Vl))]) ∧ Hid (Below w.heap.size w wx))
      case first =>
        clear HL
        cases b3 with
        | true =>
          cases b4 with
          | true =>
            have f0_0 : ((r0e : Int) == 0) = true := HA3.out
            have f0_1 : ((r0e : Int) != 0) = false := by have h := HA3.out; simpa using h
            have f1_0 : ((r2e : Int) == 0) = true := HA4.out
            have f1_1 : ((r2e : Int) != 0) = false := by have h := HA4.out; simpa using h
            go_wp2_with fail
            go_meet
            exact ⟨congrArg Value.bool HCC.out, B, BL⟩
          | false =>
            have f0_0 : ((r0e : Int) == 0) = true := HA3.out
            have f0_1 : ((r0e : Int) != 0) = false := by have h := HA3.out; simpa using h
            have f1_0 : ((r2e : Int) == 0) = false := HA4.out
            have f1_1 : ((r2e : Int) != 0) = true := by have h := HA4.out; simpa using h
            go_wp2_with fail
            go_meet
            exact ⟨congrArg Value.bool HCC.out, B, BL⟩
        | false =>
          have f0_0 : ((r0e : Int) == 0) = false := HA3.out
          have f0_1 : ((r0e : Int) != 0) = true := by have h := HA3.out; simpa using h
          go_wp2_with fail
          go_meet
          exact ⟨congrArg Value.bool HCC.out, B, BL⟩
      case rest =>
        clear B BL
        obtain ⟨rfl, B, BL⟩ := hcut
        obtain ⟨W17, hW⟩ : ∃ X, wc = X := ⟨_, rfl⟩
        rw [hW] at B BL ⊢
        clear hW
        have HCW : Hid (((!(r0e == 0)) || (!(r2e == 0))) = c2) := Lib.hid (by rw [HA3.out, HA4.out]; exact HCC.out)
        clear HCC HA3 HA4
        cases c2 with
        | true =>
          replace HL := Lib.hid (show true = BigOrder_s1 (⟨xk, xn, xt⟩ : Vl) (⟨yk, yn, yt⟩ : Vl) (⟨zk, zn, zt⟩ : Vl) ((r0b, r0e) : Bool × Int) ((r1b, r1e) : Bool × Int) ((r2b, r2e) : Bool × Int) ((r3b, r3e) : Bool × Int) from HL.out.trans (if_pos HCW.out))
          go_wp2_with fail
          go_ret
          exact ⟨rfl, BL.out⟩
        | false =>
          replace HL := Lib.hid (show true = BigOrder_s19 (⟨xk, xn, xt⟩ : Vl) (⟨yk, yn, yt⟩ : Vl) (⟨zk, zn, zt⟩ : Vl) ((r0b, r0e) : Bool × Int) ((r1b, r1e) : Bool × Int) ((r2b, r2e) : Bool × Int) ((r3b, r3e) : Bool × Int) from HL.out.trans ((if_neg (fun h => Bool.noConfusion (HCW.out.symm.trans h)))))
          -- region 10, a test
          obtain ⟨b5, h⟩ : ∃ b : Bool, (r1e == 0) = b := ⟨_, rfl⟩
          have HA5 := Lib.hid h
          clear h
          obtain ⟨b6, h⟩ : ∃ b : Bool, (r3e == 0) = b := ⟨_, rfl⟩
          have HA6 := Lib.hid h
          clear h
          obtain ⟨b7, h⟩ : ∃ b : Bool, (veqB xk xn xt yk yn yt) = b := ⟨_, rfl⟩
          have HA7 := Lib.hid h
          clear h
          have HCF : (((((!(r1e == 0)) || (!(r3e == 0))) || (r0b && r1b)) || ((veqB xk xn xt yk yn yt) != ((!r0b) && (!r1b)))) || ((r0b && r2b) && (!r3b))) = false := Bool.eq_false_iff.2 fun h => Bool.noConfusion (show true = false from HL.out.trans (if_pos h))
          have HCB : (((((!b5) || (!b6)) || (r0b && r1b)) || (b7 != ((!r0b) && (!r1b)))) || ((r0b && r2b) && (!r3b))) = false := by
            have h := HCF
            rw [HA5.out, HA6.out, HA7.out] at h
            exact h
          have HCW := Lib.hid HCF
          have HCC := Lib.hid HCB
          clear HCF HCB
          go_upto_region 10 with fail
          go_cut [107] from 74 to 107 (fun v wx => v = .bool false ∧ Hid (Bxs wx [(gb5, (⟨zk, zn, zt⟩ : Vl)), (gb4, (⟨yk, yn, yt⟩ : Vl)), (w.heap.size, (⟨xk, xn, xt⟩ : Vl))]) ∧ Hid (Below w.heap.size w wx))
          case first =>
            clear HL
            cases b5 with
            | true =>
              cases b6 with
              | true =>
                cases r0b with
                | true =>
                  cases r1b with
                  | true =>
                    exact Bool.noConfusion (show true = false from HCC.out)
                  | false =>
                    cases b7 with
                    | true =>
                      exact Bool.noConfusion (show true = false from HCC.out)
                    | false =>
                      cases r2b with
                      | true =>
                        cases r3b with
                        | true =>
                          have f0_0 : ((r1e : Int) == 0) = true := HA5.out
                          have f0_1 : ((r1e : Int) != 0) = false := by have h := HA5.out; simpa using h
                          have f1_0 : ((r3e : Int) == 0) = true := HA6.out
                          have f1_1 : ((r3e : Int) != 0) = false := by have h := HA6.out; simpa using h
                          have f2_0 : (veqB xk xn xt yk yn yt) = false := HA7.out
                          have cb3_0 : W17.cell? ⟨w.heap.size, 0, none⟩ = some (.int .i64 xk) := (B.out.get 2 rfl).c0
                          have cb3_1 : W17.cell? ⟨w.heap.size, 1, none⟩ = some (.int .i64 xn) := (B.out.get 2 rfl).c1
                          have cb3_2 : W17.cell? ⟨w.heap.size, 2, none⟩ = some (.string ⟨List.toArray xt⟩) := (B.out.get 2 rfl).c2
                          have cb4_0 : W17.cell? ⟨gb4, 0, none⟩ = some (.int .i64 yk) := (B.out.get 1 rfl).c0
                          have cb4_1 : W17.cell? ⟨gb4, 1, none⟩ = some (.int .i64 yn) := (B.out.get 1 rfl).c1
                          have cb4_2 : W17.cell? ⟨gb4, 2, none⟩ = some (.string ⟨List.toArray yt⟩) := (B.out.get 1 rfl).c2
                          go_wp2_with fail
                          go_meet
                          exact ⟨rfl, B, BL⟩
                        | false =>
                          exact Bool.noConfusion (show true = false from HCC.out)
                      | false =>
                        have f0_0 : ((r1e : Int) == 0) = true := HA5.out
                        have f0_1 : ((r1e : Int) != 0) = false := by have h := HA5.out; simpa using h
                        have f1_0 : ((r3e : Int) == 0) = true := HA6.out
                        have f1_1 : ((r3e : Int) != 0) = false := by have h := HA6.out; simpa using h
                        have f2_0 : (veqB xk xn xt yk yn yt) = false := HA7.out
                        have cb3_0 : W17.cell? ⟨w.heap.size, 0, none⟩ = some (.int .i64 xk) := (B.out.get 2 rfl).c0
                        have cb3_1 : W17.cell? ⟨w.heap.size, 1, none⟩ = some (.int .i64 xn) := (B.out.get 2 rfl).c1
                        have cb3_2 : W17.cell? ⟨w.heap.size, 2, none⟩ = some (.string ⟨List.toArray xt⟩) := (B.out.get 2 rfl).c2
                        have cb4_0 : W17.cell? ⟨gb4, 0, none⟩ = some (.int .i64 yk) := (B.out.get 1 rfl).c0
                        have cb4_1 : W17.cell? ⟨gb4, 1, none⟩ = some (.int .i64 yn) := (B.out.get 1 rfl).c1
                        have cb4_2 : W17.cell? ⟨gb4, 2, none⟩ = some (.string ⟨List.toArray yt⟩) := (B.out.get 1 rfl).c2
                        go_wp2_with fail
                        go_meet
                        exact ⟨rfl, B, BL⟩
                | false =>
                  cases b7 with
                  | true =>
                    cases r1b with
                    | true =>
                      exact Bool.noConfusion (show true = false from HCC.out)
                    | false =>
                      have f0_0 : ((r1e : Int) == 0) = true := HA5.out
                      have f0_1 : ((r1e : Int) != 0) = false := by have h := HA5.out; simpa using h
                      have f1_0 : ((r3e : Int) == 0) = true := HA6.out
                      have f1_1 : ((r3e : Int) != 0) = false := by have h := HA6.out; simpa using h
                      have f2_0 : (veqB xk xn xt yk yn yt) = true := HA7.out
                      have cb3_0 : W17.cell? ⟨w.heap.size, 0, none⟩ = some (.int .i64 xk) := (B.out.get 2 rfl).c0
                      have cb3_1 : W17.cell? ⟨w.heap.size, 1, none⟩ = some (.int .i64 xn) := (B.out.get 2 rfl).c1
                      have cb3_2 : W17.cell? ⟨w.heap.size, 2, none⟩ = some (.string ⟨List.toArray xt⟩) := (B.out.get 2 rfl).c2
                      have cb4_0 : W17.cell? ⟨gb4, 0, none⟩ = some (.int .i64 yk) := (B.out.get 1 rfl).c0
                      have cb4_1 : W17.cell? ⟨gb4, 1, none⟩ = some (.int .i64 yn) := (B.out.get 1 rfl).c1
                      have cb4_2 : W17.cell? ⟨gb4, 2, none⟩ = some (.string ⟨List.toArray yt⟩) := (B.out.get 1 rfl).c2
                      go_wp2_with fail
                      go_meet
                      exact ⟨rfl, B, BL⟩
                  | false =>
                    cases r1b with
                    | true =>
                      have f0_0 : ((r1e : Int) == 0) = true := HA5.out
                      have f0_1 : ((r1e : Int) != 0) = false := by have h := HA5.out; simpa using h
                      have f1_0 : ((r3e : Int) == 0) = true := HA6.out
                      have f1_1 : ((r3e : Int) != 0) = false := by have h := HA6.out; simpa using h
                      have f2_0 : (veqB xk xn xt yk yn yt) = false := HA7.out
                      have cb3_0 : W17.cell? ⟨w.heap.size, 0, none⟩ = some (.int .i64 xk) := (B.out.get 2 rfl).c0
                      have cb3_1 : W17.cell? ⟨w.heap.size, 1, none⟩ = some (.int .i64 xn) := (B.out.get 2 rfl).c1
                      have cb3_2 : W17.cell? ⟨w.heap.size, 2, none⟩ = some (.string ⟨List.toArray xt⟩) := (B.out.get 2 rfl).c2
                      have cb4_0 : W17.cell? ⟨gb4, 0, none⟩ = some (.int .i64 yk) := (B.out.get 1 rfl).c0
                      have cb4_1 : W17.cell? ⟨gb4, 1, none⟩ = some (.int .i64 yn) := (B.out.get 1 rfl).c1
                      have cb4_2 : W17.cell? ⟨gb4, 2, none⟩ = some (.string ⟨List.toArray yt⟩) := (B.out.get 1 rfl).c2
                      go_wp2_with fail
                      go_meet
                      exact ⟨rfl, B, BL⟩
                    | false =>
                      exact Bool.noConfusion (show true = false from HCC.out)
              | false =>
                exact Bool.noConfusion (show true = false from HCC.out)
            | false =>
              exact Bool.noConfusion (show true = false from HCC.out)
          case rest =>
            clear B BL
            obtain ⟨rfl, B, BL⟩ := hcut
            obtain ⟨W18, hW⟩ : ∃ X, wc = X := ⟨_, rfl⟩
            rw [hW] at B BL ⊢
            clear hW
            clear HCC HA5 HA6 HA7
            replace HL := Lib.hid (show true = BigOrder_s18 (⟨xk, xn, xt⟩ : Vl) (⟨yk, yn, yt⟩ : Vl) (⟨zk, zn, zt⟩ : Vl) ((r0b, r0e) : Bool × Int) ((r1b, r1e) : Bool × Int) ((r2b, r2e) : Bool × Int) ((r3b, r3e) : Bool × Int) from HL.out.trans ((if_neg (fun h => Bool.noConfusion (HCW.out.symm.trans h)))))
            -- region 12
            have cb3_0 : W18.cell? ⟨w.heap.size, 0, none⟩ = some (.int .i64 xk) := (B.out.get 2 rfl).c0
            have cb3_1 : W18.cell? ⟨w.heap.size, 1, none⟩ = some (.int .i64 xn) := (B.out.get 2 rfl).c1
            have cb3_2 : W18.cell? ⟨w.heap.size, 2, none⟩ = some (.string ⟨List.toArray xt⟩) := (B.out.get 2 rfl).c2
            have cb5_0 : W18.cell? ⟨gb5, 0, none⟩ = some (.int .i64 zk) := (B.out.get 0 rfl).c0
            have cb5_1 : W18.cell? ⟨gb5, 1, none⟩ = some (.int .i64 zn) := (B.out.get 0 rfl).c1
            have cb5_2 : W18.cell? ⟨gb5, 2, none⟩ = some (.string ⟨List.toArray zt⟩) := (B.out.get 0 rfl).c2
            obtain ⟨⟨⟨r4k, r4n, r4t⟩, r4e⟩, hr4⟩ : ∃ p, addR (⟨xk, xn, xt⟩ : Vl) (⟨zk, zn, zt⟩ : Vl) = p := ⟨_, rfl⟩
            have hc4 := fun (W : World) (hW : Env W) => add_pub (⟨xk, xn, xt⟩ : Vl) (⟨zk, zn, zt⟩ : Vl) HOx.out HOz.out W hW
            have ho4 := addR_ok (⟨xk, xn, xt⟩ : Vl) (⟨zk, zn, zt⟩ : Vl)
            rw [hr4] at hc4 ho4
            simp only [Vl.val, pr] at hc4
            have HC4 := Lib.hid hc4; have HOr4 : Hid (Vl.ok ⟨r4k, r4n, r4t⟩) := Lib.hid ho4; have HR4 := Lib.hid hr4
            clear hc4 ho4 hr4
            go_wp2_with fail
            refine (HC4.out _ (HE.out.below BL.out)).mono ?_
            rintro e W19 ⟨rfl, hb⟩
            clear cb3_0 cb3_1 cb3_2 cb5_0 cb5_1 cb5_2
            replace B := Lib.hid (B.out.below hb)
            replace BL := Lib.hid (below_then BL.out hb)
            clear hb
            go_upto_region 13 with fail
            have hB : Bxs (W19.alloc (.cells #[.int .i64 r4k, .int .i64 r4n, .string ⟨List.toArray r4t⟩] 23)) ((W19.heap.size, (⟨r4k, r4n, r4t⟩ : Vl)) :: [(gb5, (⟨zk, zn, zt⟩ : Vl)), (gb4, (⟨yk, yn, yt⟩ : Vl)), (w.heap.size, (⟨xk, xn, xt⟩ : Vl))]) := B.out.push (⟨r4k, r4n, r4t⟩ : Vl) 23
            have hL : Below w.heap.size w (W19.alloc (.cells #[.int .i64 r4k, .int .i64 r4n, .string ⟨List.toArray r4t⟩] 23)) := BL.out.alloc BL.out.size _
            obtain ⟨W20, hW⟩ : ∃ X, W19.alloc (.cells #[.int .i64 r4k, .int .i64 r4n, .string ⟨List.toArray r4t⟩] 23) = X := ⟨_, rfl⟩
            obtain ⟨g0, hg⟩ : ∃ g, W19.heap.size = g := ⟨_, rfl⟩
            rw [hW] at hB hL ⊢
            rw [hg] at hB ⊢
            have HGb16_12_3 : Hid (w.heap.size ≤ g0) := Lib.hid (by rw [← hg]; exact BL.out.size)
            replace B := Lib.hid hB
            replace BL := Lib.hid hL
            clear hB hL hW hg
            replace HL := Lib.hid (show true = BigOrder_s17 (⟨xk, xn, xt⟩ : Vl) (⟨yk, yn, yt⟩ : Vl) (⟨zk, zn, zt⟩ : Vl) ((r0b, r0e) : Bool × Int) ((r1b, r1e) : Bool × Int) ((r2b, r2e) : Bool × Int) ((r3b, r3e) : Bool × Int) ((⟨r4k, r4n, r4t⟩, r4e) : Vl × Int) from HL.out.trans (by unfold BigOrder_s18; rw [HR4.out]))
            -- region 13
            have cb4_0 : W20.cell? ⟨gb4, 0, none⟩ = some (.int .i64 yk) := (B.out.get 2 rfl).c0
            have cb4_1 : W20.cell? ⟨gb4, 1, none⟩ = some (.int .i64 yn) := (B.out.get 2 rfl).c1
            have cb4_2 : W20.cell? ⟨gb4, 2, none⟩ = some (.string ⟨List.toArray yt⟩) := (B.out.get 2 rfl).c2
            have cb5_0 : W20.cell? ⟨gb5, 0, none⟩ = some (.int .i64 zk) := (B.out.get 1 rfl).c0
            have cb5_1 : W20.cell? ⟨gb5, 1, none⟩ = some (.int .i64 zn) := (B.out.get 1 rfl).c1
            have cb5_2 : W20.cell? ⟨gb5, 2, none⟩ = some (.string ⟨List.toArray zt⟩) := (B.out.get 1 rfl).c2
            obtain ⟨⟨⟨r5k, r5n, r5t⟩, r5e⟩, hr5⟩ : ∃ p, addR (⟨yk, yn, yt⟩ : Vl) (⟨zk, zn, zt⟩ : Vl) = p := ⟨_, rfl⟩
            have hc5 := fun (W : World) (hW : Env W) => add_pub (⟨yk, yn, yt⟩ : Vl) (⟨zk, zn, zt⟩ : Vl) HOy.out HOz.out W hW
            have ho5 := addR_ok (⟨yk, yn, yt⟩ : Vl) (⟨zk, zn, zt⟩ : Vl)
            rw [hr5] at hc5 ho5
            simp only [Vl.val, pr] at hc5
            have HC5 := Lib.hid hc5; have HOr5 : Hid (Vl.ok ⟨r5k, r5n, r5t⟩) := Lib.hid ho5; have HR5 := Lib.hid hr5
            clear hc5 ho5 hr5
            go_wp2_with fail
            refine (HC5.out _ (HE.out.below BL.out)).mono ?_
            rintro e W21 ⟨rfl, hb⟩
            clear cb4_0 cb4_1 cb4_2 cb5_0 cb5_1 cb5_2
            replace B := Lib.hid (B.out.below hb)
            replace BL := Lib.hid (below_then BL.out hb)
            clear hb
            go_upto_region 14 with fail
            have hB : Bxs (W21.alloc (.cells #[.int .i64 r5k, .int .i64 r5n, .string ⟨List.toArray r5t⟩] 23)) ((W21.heap.size, (⟨r5k, r5n, r5t⟩ : Vl)) :: [(g0, (⟨r4k, r4n, r4t⟩ : Vl)), (gb5, (⟨zk, zn, zt⟩ : Vl)), (gb4, (⟨yk, yn, yt⟩ : Vl)), (w.heap.size, (⟨xk, xn, xt⟩ : Vl))]) := B.out.push (⟨r5k, r5n, r5t⟩ : Vl) 23
            have hL : Below w.heap.size w (W21.alloc (.cells #[.int .i64 r5k, .int .i64 r5n, .string ⟨List.toArray r5t⟩] 23)) := BL.out.alloc BL.out.size _
            obtain ⟨W22, hW⟩ : ∃ X, W21.alloc (.cells #[.int .i64 r5k, .int .i64 r5n, .string ⟨List.toArray r5t⟩] 23) = X := ⟨_, rfl⟩
            obtain ⟨g1, hg⟩ : ∃ g, W21.heap.size = g := ⟨_, rfl⟩
            rw [hW] at hB hL ⊢
            rw [hg] at hB ⊢
            have HGb18_13_4 : Hid (w.heap.size ≤ g1) := Lib.hid (by rw [← hg]; exact BL.out.size)
            replace B := Lib.hid hB
            replace BL := Lib.hid hL
            clear hB hL hW hg
            replace HL := Lib.hid (show true = BigOrder_s16 (⟨xk, xn, xt⟩ : Vl) (⟨yk, yn, yt⟩ : Vl) (⟨zk, zn, zt⟩ : Vl) ((r0b, r0e) : Bool × Int) ((r1b, r1e) : Bool × Int) ((r2b, r2e) : Bool × Int) ((r3b, r3e) : Bool × Int) ((⟨r4k, r4n, r4t⟩, r4e) : Vl × Int) ((⟨r5k, r5n, r5t⟩, r5e) : Vl × Int) from HL.out.trans (by unfold BigOrder_s17; rw [HR5.out]))
            -- region 14
            have cb3_0 : W22.cell? ⟨w.heap.size, 0, none⟩ = some (.int .i64 xk) := (B.out.get 4 rfl).c0
            have cb3_1 : W22.cell? ⟨w.heap.size, 1, none⟩ = some (.int .i64 xn) := (B.out.get 4 rfl).c1
            have cb3_2 : W22.cell? ⟨w.heap.size, 2, none⟩ = some (.string ⟨List.toArray xt⟩) := (B.out.get 4 rfl).c2
            have cb5_0 : W22.cell? ⟨gb5, 0, none⟩ = some (.int .i64 zk) := (B.out.get 2 rfl).c0
            have cb5_1 : W22.cell? ⟨gb5, 1, none⟩ = some (.int .i64 zn) := (B.out.get 2 rfl).c1
            have cb5_2 : W22.cell? ⟨gb5, 2, none⟩ = some (.string ⟨List.toArray zt⟩) := (B.out.get 2 rfl).c2
            obtain ⟨⟨⟨r6k, r6n, r6t⟩, r6e⟩, hr6⟩ : ∃ p, mulR (⟨xk, xn, xt⟩ : Vl) (⟨zk, zn, zt⟩ : Vl) = p := ⟨_, rfl⟩
            have hc6 := fun (W : World) (hW : Env W) => mul_pub (⟨xk, xn, xt⟩ : Vl) (⟨zk, zn, zt⟩ : Vl) HOx.out HOz.out W hW
            have ho6 := mulR_ok (⟨xk, xn, xt⟩ : Vl) (⟨zk, zn, zt⟩ : Vl)
            rw [hr6] at hc6 ho6
            simp only [Vl.val, pr] at hc6
            have HC6 := Lib.hid hc6; have HOr6 : Hid (Vl.ok ⟨r6k, r6n, r6t⟩) := Lib.hid ho6; have HR6 := Lib.hid hr6
            clear hc6 ho6 hr6
            go_wp2_with fail
            refine (HC6.out _ (HE.out.below BL.out)).mono ?_
            rintro e W23 ⟨rfl, hb⟩
            clear cb3_0 cb3_1 cb3_2 cb5_0 cb5_1 cb5_2
            replace B := Lib.hid (B.out.below hb)
            replace BL := Lib.hid (below_then BL.out hb)
            clear hb
            go_upto_region 15 with fail
            have hB : Bxs (W23.alloc (.cells #[.int .i64 r6k, .int .i64 r6n, .string ⟨List.toArray r6t⟩] 23)) ((W23.heap.size, (⟨r6k, r6n, r6t⟩ : Vl)) :: [(g1, (⟨r5k, r5n, r5t⟩ : Vl)), (g0, (⟨r4k, r4n, r4t⟩ : Vl)), (gb5, (⟨zk, zn, zt⟩ : Vl)), (gb4, (⟨yk, yn, yt⟩ : Vl)), (w.heap.size, (⟨xk, xn, xt⟩ : Vl))]) := B.out.push (⟨r6k, r6n, r6t⟩ : Vl) 23
            have hL : Below w.heap.size w (W23.alloc (.cells #[.int .i64 r6k, .int .i64 r6n, .string ⟨List.toArray r6t⟩] 23)) := BL.out.alloc BL.out.size _
            obtain ⟨W24, hW⟩ : ∃ X, W23.alloc (.cells #[.int .i64 r6k, .int .i64 r6n, .string ⟨List.toArray r6t⟩] 23) = X := ⟨_, rfl⟩
            obtain ⟨g2, hg⟩ : ∃ g, W23.heap.size = g := ⟨_, rfl⟩
            rw [hW] at hB hL ⊢
            rw [hg] at hB ⊢
            have HGb20_14_5 : Hid (w.heap.size ≤ g2) := Lib.hid (by rw [← hg]; exact BL.out.size)
            replace B := Lib.hid hB
            replace BL := Lib.hid hL
            clear hB hL hW hg
            replace HL := Lib.hid (show true = BigOrder_s15 (⟨xk, xn, xt⟩ : Vl) (⟨yk, yn, yt⟩ : Vl) (⟨zk, zn, zt⟩ : Vl) ((r0b, r0e) : Bool × Int) ((r1b, r1e) : Bool × Int) ((r2b, r2e) : Bool × Int) ((r3b, r3e) : Bool × Int) ((⟨r4k, r4n, r4t⟩, r4e) : Vl × Int) ((⟨r5k, r5n, r5t⟩, r5e) : Vl × Int) ((⟨r6k, r6n, r6t⟩, r6e) : Vl × Int) from HL.out.trans (by unfold BigOrder_s16; rw [HR6.out]))
            -- region 15
            have cb4_0 : W24.cell? ⟨gb4, 0, none⟩ = some (.int .i64 yk) := (B.out.get 4 rfl).c0
            have cb4_1 : W24.cell? ⟨gb4, 1, none⟩ = some (.int .i64 yn) := (B.out.get 4 rfl).c1
            have cb4_2 : W24.cell? ⟨gb4, 2, none⟩ = some (.string ⟨List.toArray yt⟩) := (B.out.get 4 rfl).c2
            have cb5_0 : W24.cell? ⟨gb5, 0, none⟩ = some (.int .i64 zk) := (B.out.get 3 rfl).c0
            have cb5_1 : W24.cell? ⟨gb5, 1, none⟩ = some (.int .i64 zn) := (B.out.get 3 rfl).c1
            have cb5_2 : W24.cell? ⟨gb5, 2, none⟩ = some (.string ⟨List.toArray zt⟩) := (B.out.get 3 rfl).c2
            obtain ⟨⟨⟨r7k, r7n, r7t⟩, r7e⟩, hr7⟩ : ∃ p, mulR (⟨yk, yn, yt⟩ : Vl) (⟨zk, zn, zt⟩ : Vl) = p := ⟨_, rfl⟩
            have hc7 := fun (W : World) (hW : Env W) => mul_pub (⟨yk, yn, yt⟩ : Vl) (⟨zk, zn, zt⟩ : Vl) HOy.out HOz.out W hW
            have ho7 := mulR_ok (⟨yk, yn, yt⟩ : Vl) (⟨zk, zn, zt⟩ : Vl)
            rw [hr7] at hc7 ho7
            simp only [Vl.val, pr] at hc7
            have HC7 := Lib.hid hc7; have HOr7 : Hid (Vl.ok ⟨r7k, r7n, r7t⟩) := Lib.hid ho7; have HR7 := Lib.hid hr7
            clear hc7 ho7 hr7
            go_wp2_with fail
            refine (HC7.out _ (HE.out.below BL.out)).mono ?_
            rintro e W25 ⟨rfl, hb⟩
            clear cb4_0 cb4_1 cb4_2 cb5_0 cb5_1 cb5_2
            replace B := Lib.hid (B.out.below hb)
            replace BL := Lib.hid (below_then BL.out hb)
            clear hb
            go_upto_region 16 with fail
            have hB : Bxs (W25.alloc (.cells #[.int .i64 r7k, .int .i64 r7n, .string ⟨List.toArray r7t⟩] 23)) ((W25.heap.size, (⟨r7k, r7n, r7t⟩ : Vl)) :: [(g2, (⟨r6k, r6n, r6t⟩ : Vl)), (g1, (⟨r5k, r5n, r5t⟩ : Vl)), (g0, (⟨r4k, r4n, r4t⟩ : Vl)), (gb5, (⟨zk, zn, zt⟩ : Vl)), (gb4, (⟨yk, yn, yt⟩ : Vl)), (w.heap.size, (⟨xk, xn, xt⟩ : Vl))]) := B.out.push (⟨r7k, r7n, r7t⟩ : Vl) 23
            have hL : Below w.heap.size w (W25.alloc (.cells #[.int .i64 r7k, .int .i64 r7n, .string ⟨List.toArray r7t⟩] 23)) := BL.out.alloc BL.out.size _
            obtain ⟨W26, hW⟩ : ∃ X, W25.alloc (.cells #[.int .i64 r7k, .int .i64 r7n, .string ⟨List.toArray r7t⟩] 23) = X := ⟨_, rfl⟩
            obtain ⟨g3, hg⟩ : ∃ g, W25.heap.size = g := ⟨_, rfl⟩
            rw [hW] at hB hL ⊢
            rw [hg] at hB ⊢
            have HGb22_15_6 : Hid (w.heap.size ≤ g3) := Lib.hid (by rw [← hg]; exact BL.out.size)
            replace B := Lib.hid hB
            replace BL := Lib.hid hL
            clear hB hL hW hg
            replace HL := Lib.hid (show true = BigOrder_s14 (⟨xk, xn, xt⟩ : Vl) (⟨yk, yn, yt⟩ : Vl) (⟨zk, zn, zt⟩ : Vl) ((r0b, r0e) : Bool × Int) ((r1b, r1e) : Bool × Int) ((r2b, r2e) : Bool × Int) ((r3b, r3e) : Bool × Int) ((⟨r4k, r4n, r4t⟩, r4e) : Vl × Int) ((⟨r5k, r5n, r5t⟩, r5e) : Vl × Int) ((⟨r6k, r6n, r6t⟩, r6e) : Vl × Int) ((⟨r7k, r7n, r7t⟩, r7e) : Vl × Int) from HL.out.trans (by unfold BigOrder_s15; rw [HR7.out]))
            -- region 16, a test
            obtain ⟨b12, h⟩ : ∃ b : Bool, (r4e == 0) = b := ⟨_, rfl⟩
            have HA12 := Lib.hid h
            clear h
            obtain ⟨b13, h⟩ : ∃ b : Bool, (r5e == 0) = b := ⟨_, rfl⟩
            have HA13 := Lib.hid h
            clear h
            obtain ⟨c8, h⟩ : ∃ c : Bool, (b12 && b13) = c := ⟨_, rfl⟩
            have HCC := Lib.hid h
            clear h
            go_upto_region 16 with fail
            go_cut [137] from 132 to 137 (fun v wx => v = .bool c8 ∧ Hid (Bxs wx [(g3, (⟨r7k, r7n, r7t⟩ : Vl)), (g2, (⟨r6k, r6n, r6t⟩ : Vl)), (g1, (⟨r5k, r5n, r5t⟩ : Vl)), (g0, (⟨r4k, r4n, r4t⟩ : Vl)), (gb5, (⟨zk, zn, zt⟩ : Vl)), (gb4, (⟨yk, yn, yt⟩ : Vl)), (w.heap.size, (⟨xk, xn, xt⟩ : Vl))]) ∧ Hid (Below w.heap.size w wx))
            case first =>
              clear HL
              cases b12 with
              | true =>
                cases b13 with
                | true =>
                  have f0_0 : ((r4e : Int) == 0) = true := HA12.out
                  have f0_1 : ((r4e : Int) != 0) = false := by have h := HA12.out; simpa using h
                  have f1_0 : ((r5e : Int) == 0) = true := HA13.out
                  have f1_1 : ((r5e : Int) != 0) = false := by have h := HA13.out; simpa using h
                  go_wp2_with fail
                  go_meet
                  exact ⟨congrArg Value.bool HCC.out, B, BL⟩
                | false =>
                  have f0_0 : ((r4e : Int) == 0) = true := HA12.out
                  have f0_1 : ((r4e : Int) != 0) = false := by have h := HA12.out; simpa using h
                  have f1_0 : ((r5e : Int) == 0) = false := HA13.out
                  have f1_1 : ((r5e : Int) != 0) = true := by have h := HA13.out; simpa using h
                  go_wp2_with fail
                  go_meet
                  exact ⟨congrArg Value.bool HCC.out, B, BL⟩
              | false =>
                have f0_0 : ((r4e : Int) == 0) = false := HA12.out
                have f0_1 : ((r4e : Int) != 0) = true := by have h := HA12.out; simpa using h
                go_wp2_with fail
                go_meet
                exact ⟨congrArg Value.bool HCC.out, B, BL⟩
            case rest =>
              clear B BL
              obtain ⟨rfl, B, BL⟩ := hcut
              obtain ⟨W27, hW⟩ : ∃ X, wc = X := ⟨_, rfl⟩
              rw [hW] at B BL ⊢
              clear hW
              have HCW : Hid (((r4e == 0) && (r5e == 0)) = c8) := Lib.hid (by rw [HA12.out, HA13.out]; exact HCC.out)
              clear HCC HA12 HA13
              cases c8 with
              | true =>
                replace HL := Lib.hid (show true = BigOrder_s9 (⟨xk, xn, xt⟩ : Vl) (⟨yk, yn, yt⟩ : Vl) (⟨zk, zn, zt⟩ : Vl) ((r0b, r0e) : Bool × Int) ((r1b, r1e) : Bool × Int) ((r2b, r2e) : Bool × Int) ((r3b, r3e) : Bool × Int) ((⟨r4k, r4n, r4t⟩, r4e) : Vl × Int) ((⟨r5k, r5n, r5t⟩, r5e) : Vl × Int) ((⟨r6k, r6n, r6t⟩, r6e) : Vl × Int) ((⟨r7k, r7n, r7t⟩, r7e) : Vl × Int) from HL.out.trans (if_pos HCW.out))
                -- region 17
                have cb16_12_3_0 : W27.cell? ⟨g0, 0, none⟩ = some (.int .i64 r4k) := (B.out.get 3 rfl).c0
                have cb16_12_3_1 : W27.cell? ⟨g0, 1, none⟩ = some (.int .i64 r4n) := (B.out.get 3 rfl).c1
                have cb16_12_3_2 : W27.cell? ⟨g0, 2, none⟩ = some (.string ⟨List.toArray r4t⟩) := (B.out.get 3 rfl).c2
                have cb18_13_4_0 : W27.cell? ⟨g1, 0, none⟩ = some (.int .i64 r5k) := (B.out.get 2 rfl).c0
                have cb18_13_4_1 : W27.cell? ⟨g1, 1, none⟩ = some (.int .i64 r5n) := (B.out.get 2 rfl).c1
                have cb18_13_4_2 : W27.cell? ⟨g1, 2, none⟩ = some (.string ⟨List.toArray r5t⟩) := (B.out.get 2 rfl).c2
                obtain ⟨⟨r8b, r8e⟩, hr8⟩ : ∃ p, lessR (⟨r4k, r4n, r4t⟩ : Vl) (⟨r5k, r5n, r5t⟩ : Vl) = p := ⟨_, rfl⟩
                have hc8 := fun (W : World) (hW : Env W) => lessV (⟨r4k, r4n, r4t⟩ : Vl) (⟨r5k, r5n, r5t⟩ : Vl) HOr4.out HOr5.out W hW
                rw [hr8] at hc8
                simp only [Vl.val] at hc8
                have HC8 := Lib.hid hc8; have HR8 := Lib.hid hr8
                clear hc8 hr8
                go_wp2_with fail
                refine (HC8.out _ (HE.out.below BL.out)).mono ?_
                rintro e W28 ⟨rfl, hb⟩
                clear cb16_12_3_0 cb16_12_3_1 cb16_12_3_2 cb18_13_4_0 cb18_13_4_1 cb18_13_4_2
                replace B := Lib.hid (B.out.below hb)
                replace BL := Lib.hid (below_then BL.out hb)
                clear hb
                go_upto_region 18 with fail
                replace HL := Lib.hid (show true = BigOrder_s8 (⟨xk, xn, xt⟩ : Vl) (⟨yk, yn, yt⟩ : Vl) (⟨zk, zn, zt⟩ : Vl) ((r0b, r0e) : Bool × Int) ((r1b, r1e) : Bool × Int) ((r2b, r2e) : Bool × Int) ((r3b, r3e) : Bool × Int) ((⟨r4k, r4n, r4t⟩, r4e) : Vl × Int) ((⟨r5k, r5n, r5t⟩, r5e) : Vl × Int) ((⟨r6k, r6n, r6t⟩, r6e) : Vl × Int) ((⟨r7k, r7n, r7t⟩, r7e) : Vl × Int) ((r8b, r8e) : Bool × Int) from HL.out.trans (by unfold BigOrder_s9; rw [HR8.out]))
                -- region 18, a test
                obtain ⟨b14, h⟩ : ∃ b : Bool, (r8e == 0) = b := ⟨_, rfl⟩
                have HA14 := Lib.hid h
                clear h
                have HCF : ((!(r8e == 0)) || (r8b != r0b)) = false := Bool.eq_false_iff.2 fun h => Bool.noConfusion (show true = false from HL.out.trans (if_pos h))
                have HCB : ((!b14) || (r8b != r0b)) = false := by
                  have h := HCF
                  rw [HA14.out] at h
                  exact h
                have HCW := Lib.hid HCF
                have HCC := Lib.hid HCB
                clear HCF HCB
                go_upto_region 18 with fail
                go_cut [150] from 144 to 150 (fun v wx => v = .bool false ∧ Hid (Bxs wx [(g3, (⟨r7k, r7n, r7t⟩ : Vl)), (g2, (⟨r6k, r6n, r6t⟩ : Vl)), (g1, (⟨r5k, r5n, r5t⟩ : Vl)), (g0, (⟨r4k, r4n, r4t⟩ : Vl)), (gb5, (⟨zk, zn, zt⟩ : Vl)), (gb4, (⟨yk, yn, yt⟩ : Vl)), (w.heap.size, (⟨xk, xn, xt⟩ : Vl))]) ∧ Hid (Below w.heap.size w wx))
                case first =>
                  clear HL
                  cases b14 with
                  | true =>
                    cases r8b with
                    | true =>
                      cases r0b with
                      | true =>
                        have f0_0 : ((r8e : Int) == 0) = true := HA14.out
                        have f0_1 : ((r8e : Int) != 0) = false := by have h := HA14.out; simpa using h
                        go_wp2_with fail
                        go_meet
                        exact ⟨rfl, B, BL⟩
                      | false =>
                        exact Bool.noConfusion (show true = false from HCC.out)
                    | false =>
                      cases r0b with
                      | true =>
                        exact Bool.noConfusion (show true = false from HCC.out)
                      | false =>
                        have f0_0 : ((r8e : Int) == 0) = true := HA14.out
                        have f0_1 : ((r8e : Int) != 0) = false := by have h := HA14.out; simpa using h
                        go_wp2_with fail
                        go_meet
                        exact ⟨rfl, B, BL⟩
                  | false =>
                    exact Bool.noConfusion (show true = false from HCC.out)
                case rest =>
                  clear B BL
                  obtain ⟨rfl, B, BL⟩ := hcut
                  obtain ⟨W29, hW⟩ : ∃ X, wc = X := ⟨_, rfl⟩
                  rw [hW] at B BL ⊢
                  clear hW
                  clear HCC HA14
                  replace HL := Lib.hid (show true = BigOrder_s7 (⟨xk, xn, xt⟩ : Vl) (⟨yk, yn, yt⟩ : Vl) (⟨zk, zn, zt⟩ : Vl) ((r0b, r0e) : Bool × Int) ((r1b, r1e) : Bool × Int) ((r2b, r2e) : Bool × Int) ((r3b, r3e) : Bool × Int) ((⟨r4k, r4n, r4t⟩, r4e) : Vl × Int) ((⟨r5k, r5n, r5t⟩, r5e) : Vl × Int) ((⟨r6k, r6n, r6t⟩, r6e) : Vl × Int) ((⟨r7k, r7n, r7t⟩, r7e) : Vl × Int) ((r8b, r8e) : Bool × Int) from HL.out.trans ((if_neg (fun h => Bool.noConfusion (HCW.out.symm.trans h)))))
                  -- region 20, a test
                  obtain ⟨b17, h⟩ : ∃ b : Bool, (r6e == 0) = b := ⟨_, rfl⟩
                  have HA17 := Lib.hid h
                  clear h
                  obtain ⟨b18, h⟩ : ∃ b : Bool, (r7e == 0) = b := ⟨_, rfl⟩
                  have HA18 := Lib.hid h
                  clear h
                  obtain ⟨b19, h⟩ : ∃ b : Bool, (negB (⟨zk, zn, zt⟩ : Vl)) = b := ⟨_, rfl⟩
                  have HA19 := Lib.hid h
                  clear h
                  obtain ⟨b20, h⟩ : ∃ b : Bool, (veqB zk zn zt 1 0 []) = b := ⟨_, rfl⟩
                  have HA20 := Lib.hid h
                  clear h
                  obtain ⟨c10, h⟩ : ∃ c : Bool, ((((!b17) || (!b18)) || b19) || b20) = c := ⟨_, rfl⟩
                  have HCC := Lib.hid h
                  clear h
                  go_upto_region 20 with fail
                  go_cut [165] from 151 to 165 (fun v wx => v = .bool c10 ∧ Hid (Bxs wx [(g3, (⟨r7k, r7n, r7t⟩ : Vl)), (g2, (⟨r6k, r6n, r6t⟩ : Vl)), (g1, (⟨r5k, r5n, r5t⟩ : Vl)), (g0, (⟨r4k, r4n, r4t⟩ : Vl)), (gb5, (⟨zk, zn, zt⟩ : Vl)), (gb4, (⟨yk, yn, yt⟩ : Vl)), (w.heap.size, (⟨xk, xn, xt⟩ : Vl))]) ∧ Hid (Below w.heap.size w wx))
                  case first =>
                    clear HL
                    cases b17 with
                    | true =>
                      cases b18 with
                      | true =>
                        cases b19 with
                        | true =>
                          have f0_0 : ((r6e : Int) == 0) = true := HA17.out
                          have f0_1 : ((r6e : Int) != 0) = false := by have h := HA17.out; simpa using h
                          have f1_0 : ((r7e : Int) == 0) = true := HA18.out
                          have f1_1 : ((r7e : Int) != 0) = false := by have h := HA18.out; simpa using h
                          refine wp_region_noPanic ?_
                          refine region_late (fun (X : World) => X.cell? ⟨gb5, 0, none⟩ = some (.int .i64 zk) ∧ X.cell? ⟨gb5, 1, none⟩ = some (.int .i64 zn) ∧ X.cell? ⟨gb5, 2, none⟩ = some (.string ⟨List.toArray zt⟩)) (fun _ => false) (by kernel_rfl) ?_
                          have hb := (Below.refl W29.heap.size W29).drew
                          obtain ⟨W30, hW⟩ : ∃ X, W29.drew = X := ⟨_, rfl⟩
                          rw [hW] at hb ⊢
                          clear hW
                          replace B := Lib.hid (B.out.below hb)
                          replace BL := Lib.hid (below_then BL.out hb)
                          clear hb
                          have hHeld : W30.cell? ⟨gb5, 0, none⟩ = some (.int .i64 zk) ∧ W30.cell? ⟨gb5, 1, none⟩ = some (.int .i64 zn) ∧ W30.cell? ⟨gb5, 2, none⟩ = some (.string ⟨List.toArray zt⟩) := ⟨(B.out.get 4 rfl).c0, (B.out.get 4 rfl).c1, (B.out.get 4 rfl).c2⟩
                          refine late_pure_at (some 151) (i := 0) (v := (.int .i64 r6e)) rfl rfl rfl (by kernel_rfl) (by kernel_rfl) (by kernel_rfl) (fun _ _ _ h => h) (Or.inl ⟨by rfl, by intro w _; go_simp⟩) (fun _ => hHeld) ?_
                          try simp only [Act.put, List.setIfInBounds_toArray, List.set_cons_zero, List.set_cons_succ]
                          refine late_pure_at (some 152) (i := 1) (v := (.bool false)) rfl rfl rfl (by kernel_rfl) (by kernel_rfl) (by kernel_rfl) (fun _ _ _ h => h) (Or.inl ⟨by rfl, by intro w _; go_simp⟩) (fun _ => hHeld) ?_
                          try simp only [Act.put, List.setIfInBounds_toArray, List.set_cons_zero, List.set_cons_succ]
                          refine late_pure_at (some 153) (i := 2) (v := (.bool false)) rfl rfl rfl (by kernel_rfl) (by kernel_rfl) (by kernel_rfl) (fun _ _ _ h => h) (Or.inl ⟨by rfl, by intro w _; go_simp⟩) (fun _ => hHeld) ?_
                          try simp only [Act.put, List.setIfInBounds_toArray, List.set_cons_zero, List.set_cons_succ]
                          refine late_pure_at (some 154) (i := 3) (v := (.int .i64 r7e)) rfl rfl rfl (by kernel_rfl) (by kernel_rfl) (by kernel_rfl) (fun _ _ _ h => h) (Or.inl ⟨by rfl, by intro w _; go_simp⟩) (fun _ => hHeld) ?_
                          try simp only [Act.put, List.setIfInBounds_toArray, List.set_cons_zero, List.set_cons_succ]
                          refine late_pure_at (some 155) (i := 4) (v := (.bool false)) rfl rfl rfl (by kernel_rfl) (by kernel_rfl) (by kernel_rfl) (fun _ _ _ h => h) (Or.inl ⟨by rfl, by intro w _; go_simp⟩) (fun _ => hHeld) ?_
                          try simp only [Act.put, List.setIfInBounds_toArray, List.set_cons_zero, List.set_cons_succ]
                          refine late_pure_at (some 156) (i := 5) (v := (.bool false)) rfl rfl rfl (by kernel_rfl) (by kernel_rfl) (by kernel_rfl) (fun _ _ _ h => h) (Or.inl ⟨by rfl, by intro w _; go_simp⟩) (fun _ => hHeld) ?_
                          try simp only [Act.put, List.setIfInBounds_toArray, List.set_cons_zero, List.set_cons_succ]
                          refine late_pure_at (some 157) (i := 6) (v := (.bool false)) rfl rfl rfl (by kernel_rfl) (by kernel_rfl) (by kernel_rfl) (fun _ _ _ h => h) (Or.inl ⟨by rfl, by intro w _; go_simp⟩) (fun _ => hHeld) ?_
                          try simp only [Act.put, List.setIfInBounds_toArray, List.set_cons_zero, List.set_cons_succ]
                          refine late_take_at (some 158) (i := 7) (v := (.agg #[.int .i64 zk, .int .i64 zn, .string ⟨List.toArray zt⟩])) rfl rfl rfl (by kernel_rfl) (by kernel_rfl) (by kernel_rfl) (by kernel_rfl) (fun _ _ _ h => h) clean_none (Or.inl ⟨by rfl, by intro w hSw; go_split_ands; go_simp⟩) hHeld ?_
                          try simp only [Act.put, List.setIfInBounds_toArray, List.set_cons_zero, List.set_cons_succ]
                          refine late_ready (rs := [8]) (by kernel_rfl) (by simp) ?_
                          refine AllLate.cons rfl (fun K hK => ?_) ?_
                          · skip
                            go_simp
                            refine (negative_calls zk zn zt (Nat.le_trans HOz.out.t (by decide)) _).mono ?_
                            rw [HA19.out]
                            rintro e W31 ⟨rfl, hb⟩
                            clear hHeld
                            replace B := Lib.hid (B.out.below hb)
                            replace BL := Lib.hid (below_then BL.out hb)
                            clear hb
                            have hHeld : W31.cell? ⟨gb5, 0, none⟩ = some (.int .i64 zk) ∧ W31.cell? ⟨gb5, 1, none⟩ = some (.int .i64 zn) ∧ W31.cell? ⟨gb5, 2, none⟩ = some (.string ⟨List.toArray zt⟩) := ⟨(B.out.get 4 rfl).c0, (B.out.get 4 rfl).c1, (B.out.get 4 rfl).c2⟩
                            dsimp only
                            refine hK.out _ _ (fun _ => hHeld) ?_
                            clear hK K
                            try simp only [Act.put, List.setIfInBounds_toArray, List.set_cons_zero, List.set_cons_succ]
                            refine late_pure_at (some 160) (i := 9) (v := (.bool true)) rfl rfl rfl (by kernel_rfl) (by kernel_rfl) (by kernel_rfl) (fun _ _ _ h => h) (Or.inl ⟨by rfl, by intro w _; go_simp⟩) (fun _ => hHeld) ?_
                            try simp only [Act.put, List.setIfInBounds_toArray, List.set_cons_zero, List.set_cons_succ]
                            refine late_pure_at (some 161) (i := 10) (v := (.bool true)) rfl rfl rfl (by kernel_rfl) (by kernel_rfl) (by kernel_rfl) (fun _ _ _ h => h) (Or.inl ⟨by rfl, by intro w _; go_simp⟩) (fun _ => hHeld) ?_
                            try simp only [Act.put, List.setIfInBounds_toArray, List.set_cons_zero, List.set_cons_succ]
                            refine late_pure_at (some 162) (i := 11) (v := undef) rfl rfl rfl (by kernel_rfl) (by kernel_rfl) (by kernel_rfl) (fun _ _ _ h => h) (Or.inr ⟨by rfl, rfl⟩) (fun _ => hHeld) ?_
                            try simp only [Act.put, List.setIfInBounds_toArray, List.set_cons_zero, List.set_cons_succ]
                            refine late_pure_at (some 163) (i := 12) (v := undef) rfl rfl rfl (by kernel_rfl) (by kernel_rfl) (by kernel_rfl) (fun _ _ _ h => h) (Or.inr ⟨by rfl, rfl⟩) (fun _ => hHeld) ?_
                            try simp only [Act.put, List.setIfInBounds_toArray, List.set_cons_zero, List.set_cons_succ]
                            refine late_pure_at (some 164) (i := 13) (v := undef) rfl rfl rfl (by kernel_rfl) (by kernel_rfl) (by kernel_rfl) (fun _ _ _ h => h) (Or.inr ⟨by rfl, rfl⟩) (fun _ => hHeld) ?_
                            try simp only [Act.put, List.setIfInBounds_toArray, List.set_cons_zero, List.set_cons_succ]
                            refine late_pure_at (some 165) (i := 14) (v := (.bool true)) rfl rfl rfl (by kernel_rfl) (by kernel_rfl) (by kernel_rfl) (fun _ _ _ h => h) (Or.inl ⟨by rfl, by intro w _; go_simp⟩) (fun _ => hHeld) ?_
                            try simp only [Act.put, List.setIfInBounds_toArray, List.set_cons_zero, List.set_cons_succ]
                            refine late_done (by kernel_rfl) ?_ _
                            refine NoPanic.normal ?_
                            go_wp2_with fail
                            go_meet
                            exact ⟨congrArg Value.bool HCC.out, B, BL⟩
                          exact AllLate.nil
                        | false =>
                          cases b20 with
                          | true =>
                            have f0_0 : ((r6e : Int) == 0) = true := HA17.out
                            have f0_1 : ((r6e : Int) != 0) = false := by have h := HA17.out; simpa using h
                            have f1_0 : ((r7e : Int) == 0) = true := HA18.out
                            have f1_1 : ((r7e : Int) != 0) = false := by have h := HA18.out; simpa using h
                            have f3_0 : (veqB zk zn zt 1 0 []) = true := HA20.out
                            refine wp_region_noPanic ?_
                            refine region_late (fun (X : World) => X.cell? ⟨gb5, 0, none⟩ = some (.int .i64 zk) ∧ X.cell? ⟨gb5, 1, none⟩ = some (.int .i64 zn) ∧ X.cell? ⟨gb5, 2, none⟩ = some (.string ⟨List.toArray zt⟩)) (fun _ => false) (by kernel_rfl) ?_
                            have hb := (Below.refl W29.heap.size W29).drew
                            obtain ⟨W32, hW⟩ : ∃ X, W29.drew = X := ⟨_, rfl⟩
                            rw [hW] at hb ⊢
                            clear hW
                            replace B := Lib.hid (B.out.below hb)
                            replace BL := Lib.hid (below_then BL.out hb)
                            clear hb
                            have hHeld : W32.cell? ⟨gb5, 0, none⟩ = some (.int .i64 zk) ∧ W32.cell? ⟨gb5, 1, none⟩ = some (.int .i64 zn) ∧ W32.cell? ⟨gb5, 2, none⟩ = some (.string ⟨List.toArray zt⟩) := ⟨(B.out.get 4 rfl).c0, (B.out.get 4 rfl).c1, (B.out.get 4 rfl).c2⟩
                            refine late_pure_at (some 151) (i := 0) (v := (.int .i64 r6e)) rfl rfl rfl (by kernel_rfl) (by kernel_rfl) (by kernel_rfl) (fun _ _ _ h => h) (Or.inl ⟨by rfl, by intro w _; go_simp⟩) (fun _ => hHeld) ?_
                            try simp only [Act.put, List.setIfInBounds_toArray, List.set_cons_zero, List.set_cons_succ]
                            refine late_pure_at (some 152) (i := 1) (v := (.bool false)) rfl rfl rfl (by kernel_rfl) (by kernel_rfl) (by kernel_rfl) (fun _ _ _ h => h) (Or.inl ⟨by rfl, by intro w _; go_simp⟩) (fun _ => hHeld) ?_
                            try simp only [Act.put, List.setIfInBounds_toArray, List.set_cons_zero, List.set_cons_succ]
                            refine late_pure_at (some 153) (i := 2) (v := (.bool false)) rfl rfl rfl (by kernel_rfl) (by kernel_rfl) (by kernel_rfl) (fun _ _ _ h => h) (Or.inl ⟨by rfl, by intro w _; go_simp⟩) (fun _ => hHeld) ?_
                            try simp only [Act.put, List.setIfInBounds_toArray, List.set_cons_zero, List.set_cons_succ]
                            refine late_pure_at (some 154) (i := 3) (v := (.int .i64 r7e)) rfl rfl rfl (by kernel_rfl) (by kernel_rfl) (by kernel_rfl) (fun _ _ _ h => h) (Or.inl ⟨by rfl, by intro w _; go_simp⟩) (fun _ => hHeld) ?_
                            try simp only [Act.put, List.setIfInBounds_toArray, List.set_cons_zero, List.set_cons_succ]
                            refine late_pure_at (some 155) (i := 4) (v := (.bool false)) rfl rfl rfl (by kernel_rfl) (by kernel_rfl) (by kernel_rfl) (fun _ _ _ h => h) (Or.inl ⟨by rfl, by intro w _; go_simp⟩) (fun _ => hHeld) ?_
                            try simp only [Act.put, List.setIfInBounds_toArray, List.set_cons_zero, List.set_cons_succ]
                            refine late_pure_at (some 156) (i := 5) (v := (.bool false)) rfl rfl rfl (by kernel_rfl) (by kernel_rfl) (by kernel_rfl) (fun _ _ _ h => h) (Or.inl ⟨by rfl, by intro w _; go_simp⟩) (fun _ => hHeld) ?_
                            try simp only [Act.put, List.setIfInBounds_toArray, List.set_cons_zero, List.set_cons_succ]
                            refine late_pure_at (some 157) (i := 6) (v := (.bool false)) rfl rfl rfl (by kernel_rfl) (by kernel_rfl) (by kernel_rfl) (fun _ _ _ h => h) (Or.inl ⟨by rfl, by intro w _; go_simp⟩) (fun _ => hHeld) ?_
                            try simp only [Act.put, List.setIfInBounds_toArray, List.set_cons_zero, List.set_cons_succ]
                            refine late_take_at (some 158) (i := 7) (v := (.agg #[.int .i64 zk, .int .i64 zn, .string ⟨List.toArray zt⟩])) rfl rfl rfl (by kernel_rfl) (by kernel_rfl) (by kernel_rfl) (by kernel_rfl) (fun _ _ _ h => h) clean_none (Or.inl ⟨by rfl, by intro w hSw; go_split_ands; go_simp⟩) hHeld ?_
                            try simp only [Act.put, List.setIfInBounds_toArray, List.set_cons_zero, List.set_cons_succ]
                            refine late_ready (rs := [8]) (by kernel_rfl) (by simp) ?_
                            refine AllLate.cons rfl (fun K hK => ?_) ?_
                            · skip
                              go_simp
                              refine (negative_calls zk zn zt (Nat.le_trans HOz.out.t (by decide)) _).mono ?_
                              rw [HA19.out]
                              rintro e W33 ⟨rfl, hb⟩
                              clear hHeld
                              replace B := Lib.hid (B.out.below hb)
                              replace BL := Lib.hid (below_then BL.out hb)
                              clear hb
                              have hHeld : W33.cell? ⟨gb5, 0, none⟩ = some (.int .i64 zk) ∧ W33.cell? ⟨gb5, 1, none⟩ = some (.int .i64 zn) ∧ W33.cell? ⟨gb5, 2, none⟩ = some (.string ⟨List.toArray zt⟩) := ⟨(B.out.get 4 rfl).c0, (B.out.get 4 rfl).c1, (B.out.get 4 rfl).c2⟩
                              dsimp only
                              refine hK.out _ _ (fun _ => hHeld) ?_
                              clear hK K
                              try simp only [Act.put, List.setIfInBounds_toArray, List.set_cons_zero, List.set_cons_succ]
                              refine late_pure_at (some 160) (i := 9) (v := (.bool false)) rfl rfl rfl (by kernel_rfl) (by kernel_rfl) (by kernel_rfl) (fun _ _ _ h => h) (Or.inl ⟨by rfl, by intro w _; go_simp⟩) (fun _ => hHeld) ?_
                              try simp only [Act.put, List.setIfInBounds_toArray, List.set_cons_zero, List.set_cons_succ]
                              refine late_pure_at (some 161) (i := 10) (v := (.bool false)) rfl rfl rfl (by kernel_rfl) (by kernel_rfl) (by kernel_rfl) (fun _ _ _ h => h) (Or.inl ⟨by rfl, by intro w _; go_simp⟩) (fun _ => hHeld) ?_
                              try simp only [Act.put, List.setIfInBounds_toArray, List.set_cons_zero, List.set_cons_succ]
                              refine late_take_at (some 162) (i := 11) (v := (.agg #[.int .i64 zk, .int .i64 zn, .string ⟨List.toArray zt⟩])) rfl rfl rfl (by kernel_rfl) (by kernel_rfl) (by kernel_rfl) (by kernel_rfl) (fun _ _ _ h => h) clean_none (Or.inl ⟨by rfl, by intro w hSw; go_split_ands; go_simp⟩) hHeld ?_
                              try simp only [Act.put, List.setIfInBounds_toArray, List.set_cons_zero, List.set_cons_succ]
                              refine late_ready (rs := [12]) (by kernel_rfl) (by simp) ?_
                              refine AllLate.cons rfl (fun K hK => ?_) ?_
                              · skip
                                go_simp
                                refine (num_calls 0 _).mono ?_
                                rintro e W34 ⟨rfl, hb⟩
                                clear hHeld
                                replace B := Lib.hid (B.out.below hb)
                                replace BL := Lib.hid (below_then BL.out hb)
                                clear hb
                                have hHeld : W34.cell? ⟨gb5, 0, none⟩ = some (.int .i64 zk) ∧ W34.cell? ⟨gb5, 1, none⟩ = some (.int .i64 zn) ∧ W34.cell? ⟨gb5, 2, none⟩ = some (.string ⟨List.toArray zt⟩) := ⟨(B.out.get 4 rfl).c0, (B.out.get 4 rfl).c1, (B.out.get 4 rfl).c2⟩
                                dsimp only
                                refine hK.out _ _ (fun _ => hHeld) ?_
                                clear hK K
                                try simp only [Act.put, List.setIfInBounds_toArray, List.set_cons_zero, List.set_cons_succ]
                                refine late_pure_at (some 164) (i := 13) (v := (.bool true)) rfl rfl rfl (by kernel_rfl) (by kernel_rfl) (by kernel_rfl) (fun _ _ _ h => h) (Or.inl ⟨by rfl, by intro w _; go_simp⟩) (fun _ => hHeld) ?_
                                try simp only [Act.put, List.setIfInBounds_toArray, List.set_cons_zero, List.set_cons_succ]
                                refine late_pure_at (some 165) (i := 14) (v := (.bool true)) rfl rfl rfl (by kernel_rfl) (by kernel_rfl) (by kernel_rfl) (fun _ _ _ h => h) (Or.inl ⟨by rfl, by intro w _; go_simp⟩) (fun _ => hHeld) ?_
                                try simp only [Act.put, List.setIfInBounds_toArray, List.set_cons_zero, List.set_cons_succ]
                                refine late_done (by kernel_rfl) ?_ _
                                refine NoPanic.normal ?_
                                go_wp2_with fail
                                go_meet
                                exact ⟨congrArg Value.bool HCC.out, B, BL⟩
                              exact AllLate.nil
                            exact AllLate.nil
                          | false =>
                            have f0_0 : ((r6e : Int) == 0) = true := HA17.out
                            have f0_1 : ((r6e : Int) != 0) = false := by have h := HA17.out; simpa using h
                            have f1_0 : ((r7e : Int) == 0) = true := HA18.out
                            have f1_1 : ((r7e : Int) != 0) = false := by have h := HA18.out; simpa using h
                            have f3_0 : (veqB zk zn zt 1 0 []) = false := HA20.out
                            refine wp_region_noPanic ?_
                            refine region_late (fun (X : World) => X.cell? ⟨gb5, 0, none⟩ = some (.int .i64 zk) ∧ X.cell? ⟨gb5, 1, none⟩ = some (.int .i64 zn) ∧ X.cell? ⟨gb5, 2, none⟩ = some (.string ⟨List.toArray zt⟩)) (fun _ => false) (by kernel_rfl) ?_
                            have hb := (Below.refl W29.heap.size W29).drew
                            obtain ⟨W35, hW⟩ : ∃ X, W29.drew = X := ⟨_, rfl⟩
                            rw [hW] at hb ⊢
                            clear hW
                            replace B := Lib.hid (B.out.below hb)
                            replace BL := Lib.hid (below_then BL.out hb)
                            clear hb
                            have hHeld : W35.cell? ⟨gb5, 0, none⟩ = some (.int .i64 zk) ∧ W35.cell? ⟨gb5, 1, none⟩ = some (.int .i64 zn) ∧ W35.cell? ⟨gb5, 2, none⟩ = some (.string ⟨List.toArray zt⟩) := ⟨(B.out.get 4 rfl).c0, (B.out.get 4 rfl).c1, (B.out.get 4 rfl).c2⟩
                            refine late_pure_at (some 151) (i := 0) (v := (.int .i64 r6e)) rfl rfl rfl (by kernel_rfl) (by kernel_rfl) (by kernel_rfl) (fun _ _ _ h => h) (Or.inl ⟨by rfl, by intro w _; go_simp⟩) (fun _ => hHeld) ?_
                            try simp only [Act.put, List.setIfInBounds_toArray, List.set_cons_zero, List.set_cons_succ]
                            refine late_pure_at (some 152) (i := 1) (v := (.bool false)) rfl rfl rfl (by kernel_rfl) (by kernel_rfl) (by kernel_rfl) (fun _ _ _ h => h) (Or.inl ⟨by rfl, by intro w _; go_simp⟩) (fun _ => hHeld) ?_
                            try simp only [Act.put, List.setIfInBounds_toArray, List.set_cons_zero, List.set_cons_succ]
                            refine late_pure_at (some 153) (i := 2) (v := (.bool false)) rfl rfl rfl (by kernel_rfl) (by kernel_rfl) (by kernel_rfl) (fun _ _ _ h => h) (Or.inl ⟨by rfl, by intro w _; go_simp⟩) (fun _ => hHeld) ?_
                            try simp only [Act.put, List.setIfInBounds_toArray, List.set_cons_zero, List.set_cons_succ]
                            refine late_pure_at (some 154) (i := 3) (v := (.int .i64 r7e)) rfl rfl rfl (by kernel_rfl) (by kernel_rfl) (by kernel_rfl) (fun _ _ _ h => h) (Or.inl ⟨by rfl, by intro w _; go_simp⟩) (fun _ => hHeld) ?_
                            try simp only [Act.put, List.setIfInBounds_toArray, List.set_cons_zero, List.set_cons_succ]
                            refine late_pure_at (some 155) (i := 4) (v := (.bool false)) rfl rfl rfl (by kernel_rfl) (by kernel_rfl) (by kernel_rfl) (fun _ _ _ h => h) (Or.inl ⟨by rfl, by intro w _; go_simp⟩) (fun _ => hHeld) ?_
                            try simp only [Act.put, List.setIfInBounds_toArray, List.set_cons_zero, List.set_cons_succ]
                            refine late_pure_at (some 156) (i := 5) (v := (.bool false)) rfl rfl rfl (by kernel_rfl) (by kernel_rfl) (by kernel_rfl) (fun _ _ _ h => h) (Or.inl ⟨by rfl, by intro w _; go_simp⟩) (fun _ => hHeld) ?_
                            try simp only [Act.put, List.setIfInBounds_toArray, List.set_cons_zero, List.set_cons_succ]
                            refine late_pure_at (some 157) (i := 6) (v := (.bool false)) rfl rfl rfl (by kernel_rfl) (by kernel_rfl) (by kernel_rfl) (fun _ _ _ h => h) (Or.inl ⟨by rfl, by intro w _; go_simp⟩) (fun _ => hHeld) ?_
                            try simp only [Act.put, List.setIfInBounds_toArray, List.set_cons_zero, List.set_cons_succ]
                            refine late_take_at (some 158) (i := 7) (v := (.agg #[.int .i64 zk, .int .i64 zn, .string ⟨List.toArray zt⟩])) rfl rfl rfl (by kernel_rfl) (by kernel_rfl) (by kernel_rfl) (by kernel_rfl) (fun _ _ _ h => h) clean_none (Or.inl ⟨by rfl, by intro w hSw; go_split_ands; go_simp⟩) hHeld ?_
                            try simp only [Act.put, List.setIfInBounds_toArray, List.set_cons_zero, List.set_cons_succ]
                            refine late_ready (rs := [8]) (by kernel_rfl) (by simp) ?_
                            refine AllLate.cons rfl (fun K hK => ?_) ?_
                            · skip
                              go_simp
                              refine (negative_calls zk zn zt (Nat.le_trans HOz.out.t (by decide)) _).mono ?_
                              rw [HA19.out]
                              rintro e W36 ⟨rfl, hb⟩
                              clear hHeld
                              replace B := Lib.hid (B.out.below hb)
                              replace BL := Lib.hid (below_then BL.out hb)
                              clear hb
                              have hHeld : W36.cell? ⟨gb5, 0, none⟩ = some (.int .i64 zk) ∧ W36.cell? ⟨gb5, 1, none⟩ = some (.int .i64 zn) ∧ W36.cell? ⟨gb5, 2, none⟩ = some (.string ⟨List.toArray zt⟩) := ⟨(B.out.get 4 rfl).c0, (B.out.get 4 rfl).c1, (B.out.get 4 rfl).c2⟩
                              dsimp only
                              refine hK.out _ _ (fun _ => hHeld) ?_
                              clear hK K
                              try simp only [Act.put, List.setIfInBounds_toArray, List.set_cons_zero, List.set_cons_succ]
                              refine late_pure_at (some 160) (i := 9) (v := (.bool false)) rfl rfl rfl (by kernel_rfl) (by kernel_rfl) (by kernel_rfl) (fun _ _ _ h => h) (Or.inl ⟨by rfl, by intro w _; go_simp⟩) (fun _ => hHeld) ?_
                              try simp only [Act.put, List.setIfInBounds_toArray, List.set_cons_zero, List.set_cons_succ]
                              refine late_pure_at (some 161) (i := 10) (v := (.bool false)) rfl rfl rfl (by kernel_rfl) (by kernel_rfl) (by kernel_rfl) (fun _ _ _ h => h) (Or.inl ⟨by rfl, by intro w _; go_simp⟩) (fun _ => hHeld) ?_
                              try simp only [Act.put, List.setIfInBounds_toArray, List.set_cons_zero, List.set_cons_succ]
                              refine late_take_at (some 162) (i := 11) (v := (.agg #[.int .i64 zk, .int .i64 zn, .string ⟨List.toArray zt⟩])) rfl rfl rfl (by kernel_rfl) (by kernel_rfl) (by kernel_rfl) (by kernel_rfl) (fun _ _ _ h => h) clean_none (Or.inl ⟨by rfl, by intro w hSw; go_split_ands; go_simp⟩) hHeld ?_
                              try simp only [Act.put, List.setIfInBounds_toArray, List.set_cons_zero, List.set_cons_succ]
                              refine late_ready (rs := [12]) (by kernel_rfl) (by simp) ?_
                              refine AllLate.cons rfl (fun K hK => ?_) ?_
                              · skip
                                go_simp
                                refine (num_calls 0 _).mono ?_
                                rintro e W37 ⟨rfl, hb⟩
                                clear hHeld
                                replace B := Lib.hid (B.out.below hb)
                                replace BL := Lib.hid (below_then BL.out hb)
                                clear hb
                                have hHeld : W37.cell? ⟨gb5, 0, none⟩ = some (.int .i64 zk) ∧ W37.cell? ⟨gb5, 1, none⟩ = some (.int .i64 zn) ∧ W37.cell? ⟨gb5, 2, none⟩ = some (.string ⟨List.toArray zt⟩) := ⟨(B.out.get 4 rfl).c0, (B.out.get 4 rfl).c1, (B.out.get 4 rfl).c2⟩
                                dsimp only
                                refine hK.out _ _ (fun _ => hHeld) ?_
                                clear hK K
                                try simp only [Act.put, List.setIfInBounds_toArray, List.set_cons_zero, List.set_cons_succ]
                                refine late_pure_at (some 164) (i := 13) (v := (.bool false)) rfl rfl rfl (by kernel_rfl) (by kernel_rfl) (by kernel_rfl) (fun _ _ _ h => h) (Or.inl ⟨by rfl, by intro w _; go_simp⟩) (fun _ => hHeld) ?_
                                try simp only [Act.put, List.setIfInBounds_toArray, List.set_cons_zero, List.set_cons_succ]
                                refine late_pure_at (some 165) (i := 14) (v := (.bool false)) rfl rfl rfl (by kernel_rfl) (by kernel_rfl) (by kernel_rfl) (fun _ _ _ h => h) (Or.inl ⟨by rfl, by intro w _; go_simp⟩) (fun _ => hHeld) ?_
                                try simp only [Act.put, List.setIfInBounds_toArray, List.set_cons_zero, List.set_cons_succ]
                                refine late_done (by kernel_rfl) ?_ _
                                refine NoPanic.normal ?_
                                go_wp2_with fail
                                go_meet
                                exact ⟨congrArg Value.bool HCC.out, B, BL⟩
                              exact AllLate.nil
                            exact AllLate.nil
                      | false =>
                        have f0_0 : ((r6e : Int) == 0) = true := HA17.out
                        have f0_1 : ((r6e : Int) != 0) = false := by have h := HA17.out; simpa using h
                        have f1_0 : ((r7e : Int) == 0) = false := HA18.out
                        have f1_1 : ((r7e : Int) != 0) = true := by have h := HA18.out; simpa using h
                        refine wp_region_noPanic ?_
                        refine region_late (fun (X : World) => True) (fun _ => false) (by kernel_rfl) ?_
                        have hb := (Below.refl W29.heap.size W29).drew
                        obtain ⟨W38, hW⟩ : ∃ X, W29.drew = X := ⟨_, rfl⟩
                        rw [hW] at hb ⊢
                        clear hW
                        replace B := Lib.hid (B.out.below hb)
                        replace BL := Lib.hid (below_then BL.out hb)
                        clear hb
                        have hHeld : True := trivial
                        refine late_pure_at (some 151) (i := 0) (v := (.int .i64 r6e)) rfl rfl rfl (by kernel_rfl) (by kernel_rfl) (by kernel_rfl) (fun _ _ _ h => h) (Or.inl ⟨by rfl, by intro w _; go_simp⟩) (fun _ => hHeld) ?_
                        try simp only [Act.put, List.setIfInBounds_toArray, List.set_cons_zero, List.set_cons_succ]
                        refine late_pure_at (some 152) (i := 1) (v := (.bool false)) rfl rfl rfl (by kernel_rfl) (by kernel_rfl) (by kernel_rfl) (fun _ _ _ h => h) (Or.inl ⟨by rfl, by intro w _; go_simp⟩) (fun _ => hHeld) ?_
                        try simp only [Act.put, List.setIfInBounds_toArray, List.set_cons_zero, List.set_cons_succ]
                        refine late_pure_at (some 153) (i := 2) (v := (.bool false)) rfl rfl rfl (by kernel_rfl) (by kernel_rfl) (by kernel_rfl) (fun _ _ _ h => h) (Or.inl ⟨by rfl, by intro w _; go_simp⟩) (fun _ => hHeld) ?_
                        try simp only [Act.put, List.setIfInBounds_toArray, List.set_cons_zero, List.set_cons_succ]
                        refine late_pure_at (some 154) (i := 3) (v := (.int .i64 r7e)) rfl rfl rfl (by kernel_rfl) (by kernel_rfl) (by kernel_rfl) (fun _ _ _ h => h) (Or.inl ⟨by rfl, by intro w _; go_simp⟩) (fun _ => hHeld) ?_
                        try simp only [Act.put, List.setIfInBounds_toArray, List.set_cons_zero, List.set_cons_succ]
                        refine late_pure_at (some 155) (i := 4) (v := (.bool true)) rfl rfl rfl (by kernel_rfl) (by kernel_rfl) (by kernel_rfl) (fun _ _ _ h => h) (Or.inl ⟨by rfl, by intro w _; go_simp⟩) (fun _ => hHeld) ?_
                        try simp only [Act.put, List.setIfInBounds_toArray, List.set_cons_zero, List.set_cons_succ]
                        refine late_pure_at (some 156) (i := 5) (v := (.bool true)) rfl rfl rfl (by kernel_rfl) (by kernel_rfl) (by kernel_rfl) (fun _ _ _ h => h) (Or.inl ⟨by rfl, by intro w _; go_simp⟩) (fun _ => hHeld) ?_
                        try simp only [Act.put, List.setIfInBounds_toArray, List.set_cons_zero, List.set_cons_succ]
                        refine late_pure_at (some 157) (i := 6) (v := (.bool true)) rfl rfl rfl (by kernel_rfl) (by kernel_rfl) (by kernel_rfl) (fun _ _ _ h => h) (Or.inl ⟨by rfl, by intro w _; go_simp⟩) (fun _ => hHeld) ?_
                        try simp only [Act.put, List.setIfInBounds_toArray, List.set_cons_zero, List.set_cons_succ]
                        refine late_pure_at (some 158) (i := 7) (v := undef) rfl rfl rfl (by kernel_rfl) (by kernel_rfl) (by kernel_rfl) (fun _ _ _ h => h) (Or.inr ⟨by rfl, rfl⟩) (fun _ => hHeld) ?_
                        try simp only [Act.put, List.setIfInBounds_toArray, List.set_cons_zero, List.set_cons_succ]
                        refine late_pure_at (some 159) (i := 8) (v := undef) rfl rfl rfl (by kernel_rfl) (by kernel_rfl) (by kernel_rfl) (fun _ _ _ h => h) (Or.inr ⟨by rfl, rfl⟩) (fun _ => hHeld) ?_
                        try simp only [Act.put, List.setIfInBounds_toArray, List.set_cons_zero, List.set_cons_succ]
                        refine late_pure_at (some 160) (i := 9) (v := (.bool true)) rfl rfl rfl (by kernel_rfl) (by kernel_rfl) (by kernel_rfl) (fun _ _ _ h => h) (Or.inl ⟨by rfl, by intro w _; go_simp⟩) (fun _ => hHeld) ?_
                        try simp only [Act.put, List.setIfInBounds_toArray, List.set_cons_zero, List.set_cons_succ]
                        refine late_pure_at (some 161) (i := 10) (v := (.bool true)) rfl rfl rfl (by kernel_rfl) (by kernel_rfl) (by kernel_rfl) (fun _ _ _ h => h) (Or.inl ⟨by rfl, by intro w _; go_simp⟩) (fun _ => hHeld) ?_
                        try simp only [Act.put, List.setIfInBounds_toArray, List.set_cons_zero, List.set_cons_succ]
                        refine late_pure_at (some 162) (i := 11) (v := undef) rfl rfl rfl (by kernel_rfl) (by kernel_rfl) (by kernel_rfl) (fun _ _ _ h => h) (Or.inr ⟨by rfl, rfl⟩) (fun _ => hHeld) ?_
                        try simp only [Act.put, List.setIfInBounds_toArray, List.set_cons_zero, List.set_cons_succ]
                        refine late_pure_at (some 163) (i := 12) (v := undef) rfl rfl rfl (by kernel_rfl) (by kernel_rfl) (by kernel_rfl) (fun _ _ _ h => h) (Or.inr ⟨by rfl, rfl⟩) (fun _ => hHeld) ?_
                        try simp only [Act.put, List.setIfInBounds_toArray, List.set_cons_zero, List.set_cons_succ]
                        refine late_pure_at (some 164) (i := 13) (v := undef) rfl rfl rfl (by kernel_rfl) (by kernel_rfl) (by kernel_rfl) (fun _ _ _ h => h) (Or.inr ⟨by rfl, rfl⟩) (fun _ => hHeld) ?_
                        try simp only [Act.put, List.setIfInBounds_toArray, List.set_cons_zero, List.set_cons_succ]
                        refine late_pure_at (some 165) (i := 14) (v := (.bool true)) rfl rfl rfl (by kernel_rfl) (by kernel_rfl) (by kernel_rfl) (fun _ _ _ h => h) (Or.inl ⟨by rfl, by intro w _; go_simp⟩) (fun _ => hHeld) ?_
                        try simp only [Act.put, List.setIfInBounds_toArray, List.set_cons_zero, List.set_cons_succ]
                        refine late_done (by kernel_rfl) ?_ _
                        refine NoPanic.normal ?_
                        go_wp2_with fail
                        go_meet
                        exact ⟨congrArg Value.bool HCC.out, B, BL⟩
                    | false =>
                      have f0_0 : ((r6e : Int) == 0) = false := HA17.out
                      have f0_1 : ((r6e : Int) != 0) = true := by have h := HA17.out; simpa using h
                      refine wp_region_noPanic ?_
                      refine region_late (fun (X : World) => True) (fun _ => false) (by kernel_rfl) ?_
                      have hb := (Below.refl W29.heap.size W29).drew
                      obtain ⟨W39, hW⟩ : ∃ X, W29.drew = X := ⟨_, rfl⟩
                      rw [hW] at hb ⊢
                      clear hW
                      replace B := Lib.hid (B.out.below hb)
                      replace BL := Lib.hid (below_then BL.out hb)
                      clear hb
                      have hHeld : True := trivial
                      refine late_pure_at (some 151) (i := 0) (v := (.int .i64 r6e)) rfl rfl rfl (by kernel_rfl) (by kernel_rfl) (by kernel_rfl) (fun _ _ _ h => h) (Or.inl ⟨by rfl, by intro w _; go_simp⟩) (fun _ => hHeld) ?_
                      try simp only [Act.put, List.setIfInBounds_toArray, List.set_cons_zero, List.set_cons_succ]
                      refine late_pure_at (some 152) (i := 1) (v := (.bool true)) rfl rfl rfl (by kernel_rfl) (by kernel_rfl) (by kernel_rfl) (fun _ _ _ h => h) (Or.inl ⟨by rfl, by intro w _; go_simp⟩) (fun _ => hHeld) ?_
                      try simp only [Act.put, List.setIfInBounds_toArray, List.set_cons_zero, List.set_cons_succ]
                      refine late_pure_at (some 153) (i := 2) (v := (.bool true)) rfl rfl rfl (by kernel_rfl) (by kernel_rfl) (by kernel_rfl) (fun _ _ _ h => h) (Or.inl ⟨by rfl, by intro w _; go_simp⟩) (fun _ => hHeld) ?_
                      try simp only [Act.put, List.setIfInBounds_toArray, List.set_cons_zero, List.set_cons_succ]
                      refine late_pure_at (some 154) (i := 3) (v := undef) rfl rfl rfl (by kernel_rfl) (by kernel_rfl) (by kernel_rfl) (fun _ _ _ h => h) (Or.inr ⟨by rfl, rfl⟩) (fun _ => hHeld) ?_
                      try simp only [Act.put, List.setIfInBounds_toArray, List.set_cons_zero, List.set_cons_succ]
                      refine late_pure_at (some 155) (i := 4) (v := undef) rfl rfl rfl (by kernel_rfl) (by kernel_rfl) (by kernel_rfl) (fun _ _ _ h => h) (Or.inr ⟨by rfl, rfl⟩) (fun _ => hHeld) ?_
                      try simp only [Act.put, List.setIfInBounds_toArray, List.set_cons_zero, List.set_cons_succ]
                      refine late_pure_at (some 156) (i := 5) (v := (.bool true)) rfl rfl rfl (by kernel_rfl) (by kernel_rfl) (by kernel_rfl) (fun _ _ _ h => h) (Or.inl ⟨by rfl, by intro w _; go_simp⟩) (fun _ => hHeld) ?_
                      try simp only [Act.put, List.setIfInBounds_toArray, List.set_cons_zero, List.set_cons_succ]
                      refine late_pure_at (some 157) (i := 6) (v := (.bool true)) rfl rfl rfl (by kernel_rfl) (by kernel_rfl) (by kernel_rfl) (fun _ _ _ h => h) (Or.inl ⟨by rfl, by intro w _; go_simp⟩) (fun _ => hHeld) ?_
                      try simp only [Act.put, List.setIfInBounds_toArray, List.set_cons_zero, List.set_cons_succ]
                      refine late_pure_at (some 158) (i := 7) (v := undef) rfl rfl rfl (by kernel_rfl) (by kernel_rfl) (by kernel_rfl) (fun _ _ _ h => h) (Or.inr ⟨by rfl, rfl⟩) (fun _ => hHeld) ?_
                      try simp only [Act.put, List.setIfInBounds_toArray, List.set_cons_zero, List.set_cons_succ]
                      refine late_pure_at (some 159) (i := 8) (v := undef) rfl rfl rfl (by kernel_rfl) (by kernel_rfl) (by kernel_rfl) (fun _ _ _ h => h) (Or.inr ⟨by rfl, rfl⟩) (fun _ => hHeld) ?_
                      try simp only [Act.put, List.setIfInBounds_toArray, List.set_cons_zero, List.set_cons_succ]
                      refine late_pure_at (some 160) (i := 9) (v := (.bool true)) rfl rfl rfl (by kernel_rfl) (by kernel_rfl) (by kernel_rfl) (fun _ _ _ h => h) (Or.inl ⟨by rfl, by intro w _; go_simp⟩) (fun _ => hHeld) ?_
                      try simp only [Act.put, List.setIfInBounds_toArray, List.set_cons_zero, List.set_cons_succ]
                      refine late_pure_at (some 161) (i := 10) (v := (.bool true)) rfl rfl rfl (by kernel_rfl) (by kernel_rfl) (by kernel_rfl) (fun _ _ _ h => h) (Or.inl ⟨by rfl, by intro w _; go_simp⟩) (fun _ => hHeld) ?_
                      try simp only [Act.put, List.setIfInBounds_toArray, List.set_cons_zero, List.set_cons_succ]
                      refine late_pure_at (some 162) (i := 11) (v := undef) rfl rfl rfl (by kernel_rfl) (by kernel_rfl) (by kernel_rfl) (fun _ _ _ h => h) (Or.inr ⟨by rfl, rfl⟩) (fun _ => hHeld) ?_
                      try simp only [Act.put, List.setIfInBounds_toArray, List.set_cons_zero, List.set_cons_succ]
                      refine late_pure_at (some 163) (i := 12) (v := undef) rfl rfl rfl (by kernel_rfl) (by kernel_rfl) (by kernel_rfl) (fun _ _ _ h => h) (Or.inr ⟨by rfl, rfl⟩) (fun _ => hHeld) ?_
                      try simp only [Act.put, List.setIfInBounds_toArray, List.set_cons_zero, List.set_cons_succ]
                      refine late_pure_at (some 164) (i := 13) (v := undef) rfl rfl rfl (by kernel_rfl) (by kernel_rfl) (by kernel_rfl) (fun _ _ _ h => h) (Or.inr ⟨by rfl, rfl⟩) (fun _ => hHeld) ?_
                      try simp only [Act.put, List.setIfInBounds_toArray, List.set_cons_zero, List.set_cons_succ]
                      refine late_pure_at (some 165) (i := 14) (v := (.bool true)) rfl rfl rfl (by kernel_rfl) (by kernel_rfl) (by kernel_rfl) (fun _ _ _ h => h) (Or.inl ⟨by rfl, by intro w _; go_simp⟩) (fun _ => hHeld) ?_
                      try simp only [Act.put, List.setIfInBounds_toArray, List.set_cons_zero, List.set_cons_succ]
                      refine late_done (by kernel_rfl) ?_ _
                      refine NoPanic.normal ?_
                      go_wp2_with fail
                      go_meet
                      exact ⟨congrArg Value.bool HCC.out, B, BL⟩
                  case rest =>
                    clear B BL
                    obtain ⟨rfl, B, BL⟩ := hcut
                    obtain ⟨W40, hW⟩ : ∃ X, wc = X := ⟨_, rfl⟩
                    rw [hW] at B BL ⊢
                    clear hW
                    have HCW : Hid (((((!(r6e == 0)) || (!(r7e == 0))) || (negB (⟨zk, zn, zt⟩ : Vl))) || (veqB zk zn zt 1 0 [])) = c10) := Lib.hid (by rw [HA17.out, HA18.out, HA19.out, HA20.out]; exact HCC.out)
                    clear HCC HA17 HA18 HA19 HA20
                    cases c10 with
                    | true =>
                      replace HL := Lib.hid (show true = BigOrder_s4 (⟨xk, xn, xt⟩ : Vl) (⟨yk, yn, yt⟩ : Vl) (⟨zk, zn, zt⟩ : Vl) ((r0b, r0e) : Bool × Int) ((r1b, r1e) : Bool × Int) ((r2b, r2e) : Bool × Int) ((r3b, r3e) : Bool × Int) ((⟨r4k, r4n, r4t⟩, r4e) : Vl × Int) ((⟨r5k, r5n, r5t⟩, r5e) : Vl × Int) ((⟨r6k, r6n, r6t⟩, r6e) : Vl × Int) ((⟨r7k, r7n, r7t⟩, r7e) : Vl × Int) ((r8b, r8e) : Bool × Int) from HL.out.trans (if_pos HCW.out))
                      go_wp2_with fail
                      go_ret
                      exact ⟨rfl, BL.out⟩
                    | false =>
                      replace HL := Lib.hid (show true = BigOrder_s6 (⟨xk, xn, xt⟩ : Vl) (⟨yk, yn, yt⟩ : Vl) (⟨zk, zn, zt⟩ : Vl) ((r0b, r0e) : Bool × Int) ((r1b, r1e) : Bool × Int) ((r2b, r2e) : Bool × Int) ((r3b, r3e) : Bool × Int) ((⟨r4k, r4n, r4t⟩, r4e) : Vl × Int) ((⟨r5k, r5n, r5t⟩, r5e) : Vl × Int) ((⟨r6k, r6n, r6t⟩, r6e) : Vl × Int) ((⟨r7k, r7n, r7t⟩, r7e) : Vl × Int) ((r8b, r8e) : Bool × Int) from HL.out.trans ((if_neg (fun h => Bool.noConfusion (HCW.out.symm.trans h)))))
                      -- region 22
                      have cb20_14_5_0 : W40.cell? ⟨g2, 0, none⟩ = some (.int .i64 r6k) := (B.out.get 1 rfl).c0
                      have cb20_14_5_1 : W40.cell? ⟨g2, 1, none⟩ = some (.int .i64 r6n) := (B.out.get 1 rfl).c1
                      have cb20_14_5_2 : W40.cell? ⟨g2, 2, none⟩ = some (.string ⟨List.toArray r6t⟩) := (B.out.get 1 rfl).c2
                      have cb22_15_6_0 : W40.cell? ⟨g3, 0, none⟩ = some (.int .i64 r7k) := (B.out.get 0 rfl).c0
                      have cb22_15_6_1 : W40.cell? ⟨g3, 1, none⟩ = some (.int .i64 r7n) := (B.out.get 0 rfl).c1
                      have cb22_15_6_2 : W40.cell? ⟨g3, 2, none⟩ = some (.string ⟨List.toArray r7t⟩) := (B.out.get 0 rfl).c2
                      obtain ⟨⟨r9b, r9e⟩, hr9⟩ : ∃ p, lessR (⟨r6k, r6n, r6t⟩ : Vl) (⟨r7k, r7n, r7t⟩ : Vl) = p := ⟨_, rfl⟩
                      have hc9 := fun (W : World) (hW : Env W) => lessV (⟨r6k, r6n, r6t⟩ : Vl) (⟨r7k, r7n, r7t⟩ : Vl) HOr6.out HOr7.out W hW
                      rw [hr9] at hc9
                      simp only [Vl.val] at hc9
                      have HC9 := Lib.hid hc9; have HR9 := Lib.hid hr9
                      clear hc9 hr9
                      go_wp2_with fail
                      refine (HC9.out _ (HE.out.below BL.out)).mono ?_
                      rintro e W41 ⟨rfl, hb⟩
                      clear cb20_14_5_0 cb20_14_5_1 cb20_14_5_2 cb22_15_6_0 cb22_15_6_1 cb22_15_6_2
                      replace B := Lib.hid (B.out.below hb)
                      replace BL := Lib.hid (below_then BL.out hb)
                      clear hb
                      go_upto_region 23 with fail
                      replace HL := Lib.hid (show true = BigOrder_s5 (⟨xk, xn, xt⟩ : Vl) (⟨yk, yn, yt⟩ : Vl) (⟨zk, zn, zt⟩ : Vl) ((r0b, r0e) : Bool × Int) ((r1b, r1e) : Bool × Int) ((r2b, r2e) : Bool × Int) ((r3b, r3e) : Bool × Int) ((⟨r4k, r4n, r4t⟩, r4e) : Vl × Int) ((⟨r5k, r5n, r5t⟩, r5e) : Vl × Int) ((⟨r6k, r6n, r6t⟩, r6e) : Vl × Int) ((⟨r7k, r7n, r7t⟩, r7e) : Vl × Int) ((r8b, r8e) : Bool × Int) ((r9b, r9e) : Bool × Int) from HL.out.trans (by unfold BigOrder_s6; rw [HR9.out]))
                      -- region 23, the end
                      obtain ⟨b21, h⟩ : ∃ b : Bool, (r9e == 0) = b := ⟨_, rfl⟩
                      have HA21 := Lib.hid h
                      clear h
                      cases b21 with
                      | true =>
                        cases r9b with
                        | true =>
                          cases r0b with
                          | true =>
                            clear HL
                            have f0_0 : ((r9e : Int) == 0) = true := HA21.out
                            have f0_1 : ((r9e : Int) != 0) = false := by have h := HA21.out; simpa using h
                            go_wp2_with fail
                            go_ret
                            exact ⟨rfl, BL.out⟩
                          | false =>
                            exact Bool.noConfusion (show true = false from HL.out.trans (by show ((true && (r9e == 0)) && (true == false)) = false; rw [HA21.out]; rfl))
                        | false =>
                          cases r0b with
                          | true =>
                            exact Bool.noConfusion (show true = false from HL.out.trans (by show ((true && (r9e == 0)) && (false == true)) = false; rw [HA21.out]; rfl))
                          | false =>
                            clear HL
                            have f0_0 : ((r9e : Int) == 0) = true := HA21.out
                            have f0_1 : ((r9e : Int) != 0) = false := by have h := HA21.out; simpa using h
                            go_wp2_with fail
                            go_ret
                            exact ⟨rfl, BL.out⟩
                      | false =>
                        exact Bool.noConfusion (show true = false from HL.out.trans (by show ((true && (r9e == 0)) && (r9b == r0b)) = false; rw [HA21.out]; rfl))
              | false =>
                replace HL := Lib.hid (show true = BigOrder_s13 (⟨xk, xn, xt⟩ : Vl) (⟨yk, yn, yt⟩ : Vl) (⟨zk, zn, zt⟩ : Vl) ((r0b, r0e) : Bool × Int) ((r1b, r1e) : Bool × Int) ((r2b, r2e) : Bool × Int) ((r3b, r3e) : Bool × Int) ((⟨r4k, r4n, r4t⟩, r4e) : Vl × Int) ((⟨r5k, r5n, r5t⟩, r5e) : Vl × Int) ((⟨r6k, r6n, r6t⟩, r6e) : Vl × Int) ((⟨r7k, r7n, r7t⟩, r7e) : Vl × Int) from HL.out.trans ((if_neg (fun h => Bool.noConfusion (HCW.out.symm.trans h)))))
                -- region 20, a test
                obtain ⟨b24, h⟩ : ∃ b : Bool, (r6e == 0) = b := ⟨_, rfl⟩
                have HA24 := Lib.hid h
                clear h
                obtain ⟨b25, h⟩ : ∃ b : Bool, (r7e == 0) = b := ⟨_, rfl⟩
                have HA25 := Lib.hid h
                clear h
                obtain ⟨b26, h⟩ : ∃ b : Bool, (negB (⟨zk, zn, zt⟩ : Vl)) = b := ⟨_, rfl⟩
                have HA26 := Lib.hid h
                clear h
                obtain ⟨b27, h⟩ : ∃ b : Bool, (veqB zk zn zt 1 0 []) = b := ⟨_, rfl⟩
                have HA27 := Lib.hid h
                clear h
                obtain ⟨c11, h⟩ : ∃ c : Bool, ((((!b24) || (!b25)) || b26) || b27) = c := ⟨_, rfl⟩
                have HCC := Lib.hid h
                clear h
                go_upto_region 20 with fail
                go_cut [165] from 151 to 165 (fun v wx => v = .bool c11 ∧ Hid (Bxs wx [(g3, (⟨r7k, r7n, r7t⟩ : Vl)), (g2, (⟨r6k, r6n, r6t⟩ : Vl)), (g1, (⟨r5k, r5n, r5t⟩ : Vl)), (g0, (⟨r4k, r4n, r4t⟩ : Vl)), (gb5, (⟨zk, zn, zt⟩ : Vl)), (gb4, (⟨yk, yn, yt⟩ : Vl)), (w.heap.size, (⟨xk, xn, xt⟩ : Vl))]) ∧ Hid (Below w.heap.size w wx))
                case first =>
                  clear HL
                  cases b24 with
                  | true =>
                    cases b25 with
                    | true =>
                      cases b26 with
                      | true =>
                        have f0_0 : ((r6e : Int) == 0) = true := HA24.out
                        have f0_1 : ((r6e : Int) != 0) = false := by have h := HA24.out; simpa using h
                        have f1_0 : ((r7e : Int) == 0) = true := HA25.out
                        have f1_1 : ((r7e : Int) != 0) = false := by have h := HA25.out; simpa using h
                        refine wp_region_noPanic ?_
                        refine region_late (fun (X : World) => X.cell? ⟨gb5, 0, none⟩ = some (.int .i64 zk) ∧ X.cell? ⟨gb5, 1, none⟩ = some (.int .i64 zn) ∧ X.cell? ⟨gb5, 2, none⟩ = some (.string ⟨List.toArray zt⟩)) (fun _ => false) (by kernel_rfl) ?_
                        have hb := (Below.refl W27.heap.size W27).drew
                        obtain ⟨W42, hW⟩ : ∃ X, W27.drew = X := ⟨_, rfl⟩
                        rw [hW] at hb ⊢
                        clear hW
                        replace B := Lib.hid (B.out.below hb)
                        replace BL := Lib.hid (below_then BL.out hb)
                        clear hb
                        have hHeld : W42.cell? ⟨gb5, 0, none⟩ = some (.int .i64 zk) ∧ W42.cell? ⟨gb5, 1, none⟩ = some (.int .i64 zn) ∧ W42.cell? ⟨gb5, 2, none⟩ = some (.string ⟨List.toArray zt⟩) := ⟨(B.out.get 4 rfl).c0, (B.out.get 4 rfl).c1, (B.out.get 4 rfl).c2⟩
                        refine late_pure_at (some 151) (i := 0) (v := (.int .i64 r6e)) rfl rfl rfl (by kernel_rfl) (by kernel_rfl) (by kernel_rfl) (fun _ _ _ h => h) (Or.inl ⟨by rfl, by intro w _; go_simp⟩) (fun _ => hHeld) ?_
                        try simp only [Act.put, List.setIfInBounds_toArray, List.set_cons_zero, List.set_cons_succ]
                        refine late_pure_at (some 152) (i := 1) (v := (.bool false)) rfl rfl rfl (by kernel_rfl) (by kernel_rfl) (by kernel_rfl) (fun _ _ _ h => h) (Or.inl ⟨by rfl, by intro w _; go_simp⟩) (fun _ => hHeld) ?_
                        try simp only [Act.put, List.setIfInBounds_toArray, List.set_cons_zero, List.set_cons_succ]
                        refine late_pure_at (some 153) (i := 2) (v := (.bool false)) rfl rfl rfl (by kernel_rfl) (by kernel_rfl) (by kernel_rfl) (fun _ _ _ h => h) (Or.inl ⟨by rfl, by intro w _; go_simp⟩) (fun _ => hHeld) ?_
                        try simp only [Act.put, List.setIfInBounds_toArray, List.set_cons_zero, List.set_cons_succ]
                        refine late_pure_at (some 154) (i := 3) (v := (.int .i64 r7e)) rfl rfl rfl (by kernel_rfl) (by kernel_rfl) (by kernel_rfl) (fun _ _ _ h => h) (Or.inl ⟨by rfl, by intro w _; go_simp⟩) (fun _ => hHeld) ?_
                        try simp only [Act.put, List.setIfInBounds_toArray, List.set_cons_zero, List.set_cons_succ]
                        refine late_pure_at (some 155) (i := 4) (v := (.bool false)) rfl rfl rfl (by kernel_rfl) (by kernel_rfl) (by kernel_rfl) (fun _ _ _ h => h) (Or.inl ⟨by rfl, by intro w _; go_simp⟩) (fun _ => hHeld) ?_
                        try simp only [Act.put, List.setIfInBounds_toArray, List.set_cons_zero, List.set_cons_succ]
                        refine late_pure_at (some 156) (i := 5) (v := (.bool false)) rfl rfl rfl (by kernel_rfl) (by kernel_rfl) (by kernel_rfl) (fun _ _ _ h => h) (Or.inl ⟨by rfl, by intro w _; go_simp⟩) (fun _ => hHeld) ?_
                        try simp only [Act.put, List.setIfInBounds_toArray, List.set_cons_zero, List.set_cons_succ]
                        refine late_pure_at (some 157) (i := 6) (v := (.bool false)) rfl rfl rfl (by kernel_rfl) (by kernel_rfl) (by kernel_rfl) (fun _ _ _ h => h) (Or.inl ⟨by rfl, by intro w _; go_simp⟩) (fun _ => hHeld) ?_
                        try simp only [Act.put, List.setIfInBounds_toArray, List.set_cons_zero, List.set_cons_succ]
                        refine late_take_at (some 158) (i := 7) (v := (.agg #[.int .i64 zk, .int .i64 zn, .string ⟨List.toArray zt⟩])) rfl rfl rfl (by kernel_rfl) (by kernel_rfl) (by kernel_rfl) (by kernel_rfl) (fun _ _ _ h => h) clean_none (Or.inl ⟨by rfl, by intro w hSw; go_split_ands; go_simp⟩) hHeld ?_
                        try simp only [Act.put, List.setIfInBounds_toArray, List.set_cons_zero, List.set_cons_succ]
                        refine late_ready (rs := [8]) (by kernel_rfl) (by simp) ?_
                        refine AllLate.cons rfl (fun K hK => ?_) ?_
                        · skip
                          go_simp
                          refine (negative_calls zk zn zt (Nat.le_trans HOz.out.t (by decide)) _).mono ?_
                          rw [HA26.out]
                          rintro e W43 ⟨rfl, hb⟩
                          clear hHeld
                          replace B := Lib.hid (B.out.below hb)
                          replace BL := Lib.hid (below_then BL.out hb)
                          clear hb
                          have hHeld : W43.cell? ⟨gb5, 0, none⟩ = some (.int .i64 zk) ∧ W43.cell? ⟨gb5, 1, none⟩ = some (.int .i64 zn) ∧ W43.cell? ⟨gb5, 2, none⟩ = some (.string ⟨List.toArray zt⟩) := ⟨(B.out.get 4 rfl).c0, (B.out.get 4 rfl).c1, (B.out.get 4 rfl).c2⟩
                          dsimp only
                          refine hK.out _ _ (fun _ => hHeld) ?_
                          clear hK K
                          try simp only [Act.put, List.setIfInBounds_toArray, List.set_cons_zero, List.set_cons_succ]
                          refine late_pure_at (some 160) (i := 9) (v := (.bool true)) rfl rfl rfl (by kernel_rfl) (by kernel_rfl) (by kernel_rfl) (fun _ _ _ h => h) (Or.inl ⟨by rfl, by intro w _; go_simp⟩) (fun _ => hHeld) ?_
                          try simp only [Act.put, List.setIfInBounds_toArray, List.set_cons_zero, List.set_cons_succ]
                          refine late_pure_at (some 161) (i := 10) (v := (.bool true)) rfl rfl rfl (by kernel_rfl) (by kernel_rfl) (by kernel_rfl) (fun _ _ _ h => h) (Or.inl ⟨by rfl, by intro w _; go_simp⟩) (fun _ => hHeld) ?_
                          try simp only [Act.put, List.setIfInBounds_toArray, List.set_cons_zero, List.set_cons_succ]
                          refine late_pure_at (some 162) (i := 11) (v := undef) rfl rfl rfl (by kernel_rfl) (by kernel_rfl) (by kernel_rfl) (fun _ _ _ h => h) (Or.inr ⟨by rfl, rfl⟩) (fun _ => hHeld) ?_
                          try simp only [Act.put, List.setIfInBounds_toArray, List.set_cons_zero, List.set_cons_succ]
                          refine late_pure_at (some 163) (i := 12) (v := undef) rfl rfl rfl (by kernel_rfl) (by kernel_rfl) (by kernel_rfl) (fun _ _ _ h => h) (Or.inr ⟨by rfl, rfl⟩) (fun _ => hHeld) ?_
                          try simp only [Act.put, List.setIfInBounds_toArray, List.set_cons_zero, List.set_cons_succ]
                          refine late_pure_at (some 164) (i := 13) (v := undef) rfl rfl rfl (by kernel_rfl) (by kernel_rfl) (by kernel_rfl) (fun _ _ _ h => h) (Or.inr ⟨by rfl, rfl⟩) (fun _ => hHeld) ?_
                          try simp only [Act.put, List.setIfInBounds_toArray, List.set_cons_zero, List.set_cons_succ]
                          refine late_pure_at (some 165) (i := 14) (v := (.bool true)) rfl rfl rfl (by kernel_rfl) (by kernel_rfl) (by kernel_rfl) (fun _ _ _ h => h) (Or.inl ⟨by rfl, by intro w _; go_simp⟩) (fun _ => hHeld) ?_
                          try simp only [Act.put, List.setIfInBounds_toArray, List.set_cons_zero, List.set_cons_succ]
                          refine late_done (by kernel_rfl) ?_ _
                          refine NoPanic.normal ?_
                          go_wp2_with fail
                          go_meet
                          exact ⟨congrArg Value.bool HCC.out, B, BL⟩
                        exact AllLate.nil
                      | false =>
                        cases b27 with
                        | true =>
                          have f0_0 : ((r6e : Int) == 0) = true := HA24.out
                          have f0_1 : ((r6e : Int) != 0) = false := by have h := HA24.out; simpa using h
                          have f1_0 : ((r7e : Int) == 0) = true := HA25.out
                          have f1_1 : ((r7e : Int) != 0) = false := by have h := HA25.out; simpa using h
                          have f3_0 : (veqB zk zn zt 1 0 []) = true := HA27.out
                          refine wp_region_noPanic ?_
                          refine region_late (fun (X : World) => X.cell? ⟨gb5, 0, none⟩ = some (.int .i64 zk) ∧ X.cell? ⟨gb5, 1, none⟩ = some (.int .i64 zn) ∧ X.cell? ⟨gb5, 2, none⟩ = some (.string ⟨List.toArray zt⟩)) (fun _ => false) (by kernel_rfl) ?_
                          have hb := (Below.refl W27.heap.size W27).drew
                          obtain ⟨W44, hW⟩ : ∃ X, W27.drew = X := ⟨_, rfl⟩
                          rw [hW] at hb ⊢
                          clear hW
                          replace B := Lib.hid (B.out.below hb)
                          replace BL := Lib.hid (below_then BL.out hb)
                          clear hb
                          have hHeld : W44.cell? ⟨gb5, 0, none⟩ = some (.int .i64 zk) ∧ W44.cell? ⟨gb5, 1, none⟩ = some (.int .i64 zn) ∧ W44.cell? ⟨gb5, 2, none⟩ = some (.string ⟨List.toArray zt⟩) := ⟨(B.out.get 4 rfl).c0, (B.out.get 4 rfl).c1, (B.out.get 4 rfl).c2⟩
                          refine late_pure_at (some 151) (i := 0) (v := (.int .i64 r6e)) rfl rfl rfl (by kernel_rfl) (by kernel_rfl) (by kernel_rfl) (fun _ _ _ h => h) (Or.inl ⟨by rfl, by intro w _; go_simp⟩) (fun _ => hHeld) ?_
                          try simp only [Act.put, List.setIfInBounds_toArray, List.set_cons_zero, List.set_cons_succ]
                          refine late_pure_at (some 152) (i := 1) (v := (.bool false)) rfl rfl rfl (by kernel_rfl) (by kernel_rfl) (by kernel_rfl) (fun _ _ _ h => h) (Or.inl ⟨by rfl, by intro w _; go_simp⟩) (fun _ => hHeld) ?_
                          try simp only [Act.put, List.setIfInBounds_toArray, List.set_cons_zero, List.set_cons_succ]
                          refine late_pure_at (some 153) (i := 2) (v := (.bool false)) rfl rfl rfl (by kernel_rfl) (by kernel_rfl) (by kernel_rfl) (fun _ _ _ h => h) (Or.inl ⟨by rfl, by intro w _; go_simp⟩) (fun _ => hHeld) ?_
                          try simp only [Act.put, List.setIfInBounds_toArray, List.set_cons_zero, List.set_cons_succ]
                          refine late_pure_at (some 154) (i := 3) (v := (.int .i64 r7e)) rfl rfl rfl (by kernel_rfl) (by kernel_rfl) (by kernel_rfl) (fun _ _ _ h => h) (Or.inl ⟨by rfl, by intro w _; go_simp⟩) (fun _ => hHeld) ?_
                          try simp only [Act.put, List.setIfInBounds_toArray, List.set_cons_zero, List.set_cons_succ]
                          refine late_pure_at (some 155) (i := 4) (v := (.bool false)) rfl rfl rfl (by kernel_rfl) (by kernel_rfl) (by kernel_rfl) (fun _ _ _ h => h) (Or.inl ⟨by rfl, by intro w _; go_simp⟩) (fun _ => hHeld) ?_
                          try simp only [Act.put, List.setIfInBounds_toArray, List.set_cons_zero, List.set_cons_succ]
                          refine late_pure_at (some 156) (i := 5) (v := (.bool false)) rfl rfl rfl (by kernel_rfl) (by kernel_rfl) (by kernel_rfl) (fun _ _ _ h => h) (Or.inl ⟨by rfl, by intro w _; go_simp⟩) (fun _ => hHeld) ?_
                          try simp only [Act.put, List.setIfInBounds_toArray, List.set_cons_zero, List.set_cons_succ]
                          refine late_pure_at (some 157) (i := 6) (v := (.bool false)) rfl rfl rfl (by kernel_rfl) (by kernel_rfl) (by kernel_rfl) (fun _ _ _ h => h) (Or.inl ⟨by rfl, by intro w _; go_simp⟩) (fun _ => hHeld) ?_
                          try simp only [Act.put, List.setIfInBounds_toArray, List.set_cons_zero, List.set_cons_succ]
                          refine late_take_at (some 158) (i := 7) (v := (.agg #[.int .i64 zk, .int .i64 zn, .string ⟨List.toArray zt⟩])) rfl rfl rfl (by kernel_rfl) (by kernel_rfl) (by kernel_rfl) (by kernel_rfl) (fun _ _ _ h => h) clean_none (Or.inl ⟨by rfl, by intro w hSw; go_split_ands; go_simp⟩) hHeld ?_
                          try simp only [Act.put, List.setIfInBounds_toArray, List.set_cons_zero, List.set_cons_succ]
                          refine late_ready (rs := [8]) (by kernel_rfl) (by simp) ?_
                          refine AllLate.cons rfl (fun K hK => ?_) ?_
                          · skip
                            go_simp
                            refine (negative_calls zk zn zt (Nat.le_trans HOz.out.t (by decide)) _).mono ?_
                            rw [HA26.out]
                            rintro e W45 ⟨rfl, hb⟩
                            clear hHeld
                            replace B := Lib.hid (B.out.below hb)
                            replace BL := Lib.hid (below_then BL.out hb)
                            clear hb
                            have hHeld : W45.cell? ⟨gb5, 0, none⟩ = some (.int .i64 zk) ∧ W45.cell? ⟨gb5, 1, none⟩ = some (.int .i64 zn) ∧ W45.cell? ⟨gb5, 2, none⟩ = some (.string ⟨List.toArray zt⟩) := ⟨(B.out.get 4 rfl).c0, (B.out.get 4 rfl).c1, (B.out.get 4 rfl).c2⟩
                            dsimp only
                            refine hK.out _ _ (fun _ => hHeld) ?_
                            clear hK K
                            try simp only [Act.put, List.setIfInBounds_toArray, List.set_cons_zero, List.set_cons_succ]
                            refine late_pure_at (some 160) (i := 9) (v := (.bool false)) rfl rfl rfl (by kernel_rfl) (by kernel_rfl) (by kernel_rfl) (fun _ _ _ h => h) (Or.inl ⟨by rfl, by intro w _; go_simp⟩) (fun _ => hHeld) ?_
                            try simp only [Act.put, List.setIfInBounds_toArray, List.set_cons_zero, List.set_cons_succ]
                            refine late_pure_at (some 161) (i := 10) (v := (.bool false)) rfl rfl rfl (by kernel_rfl) (by kernel_rfl) (by kernel_rfl) (fun _ _ _ h => h) (Or.inl ⟨by rfl, by intro w _; go_simp⟩) (fun _ => hHeld) ?_
                            try simp only [Act.put, List.setIfInBounds_toArray, List.set_cons_zero, List.set_cons_succ]
                            refine late_take_at (some 162) (i := 11) (v := (.agg #[.int .i64 zk, .int .i64 zn, .string ⟨List.toArray zt⟩])) rfl rfl rfl (by kernel_rfl) (by kernel_rfl) (by kernel_rfl) (by kernel_rfl) (fun _ _ _ h => h) clean_none (Or.inl ⟨by rfl, by intro w hSw; go_split_ands; go_simp⟩) hHeld ?_
                            try simp only [Act.put, List.setIfInBounds_toArray, List.set_cons_zero, List.set_cons_succ]
                            refine late_ready (rs := [12]) (by kernel_rfl) (by simp) ?_
                            refine AllLate.cons rfl (fun K hK => ?_) ?_
                            · skip
                              go_simp
                              refine (num_calls 0 _).mono ?_
                              rintro e W46 ⟨rfl, hb⟩
                              clear hHeld
                              replace B := Lib.hid (B.out.below hb)
                              replace BL := Lib.hid (below_then BL.out hb)
                              clear hb
                              have hHeld : W46.cell? ⟨gb5, 0, none⟩ = some (.int .i64 zk) ∧ W46.cell? ⟨gb5, 1, none⟩ = some (.int .i64 zn) ∧ W46.cell? ⟨gb5, 2, none⟩ = some (.string ⟨List.toArray zt⟩) := ⟨(B.out.get 4 rfl).c0, (B.out.get 4 rfl).c1, (B.out.get 4 rfl).c2⟩
                              dsimp only
                              refine hK.out _ _ (fun _ => hHeld) ?_
                              clear hK K
                              try simp only [Act.put, List.setIfInBounds_toArray, List.set_cons_zero, List.set_cons_succ]
                              refine late_pure_at (some 164) (i := 13) (v := (.bool true)) rfl rfl rfl (by kernel_rfl) (by kernel_rfl) (by kernel_rfl) (fun _ _ _ h => h) (Or.inl ⟨by rfl, by intro w _; go_simp⟩) (fun _ => hHeld) ?_
                              try simp only [Act.put, List.setIfInBounds_toArray, List.set_cons_zero, List.set_cons_succ]
                              refine late_pure_at (some 165) (i := 14) (v := (.bool true)) rfl rfl rfl (by kernel_rfl) (by kernel_rfl) (by kernel_rfl) (fun _ _ _ h => h) (Or.inl ⟨by rfl, by intro w _; go_simp⟩) (fun _ => hHeld) ?_
                              try simp only [Act.put, List.setIfInBounds_toArray, List.set_cons_zero, List.set_cons_succ]
                              refine late_done (by kernel_rfl) ?_ _
                              refine NoPanic.normal ?_
                              go_wp2_with fail
                              go_meet
                              exact ⟨congrArg Value.bool HCC.out, B, BL⟩
                            exact AllLate.nil
                          exact AllLate.nil
                        | false =>
                          have f0_0 : ((r6e : Int) == 0) = true := HA24.out
                          have f0_1 : ((r6e : Int) != 0) = false := by have h := HA24.out; simpa using h
                          have f1_0 : ((r7e : Int) == 0) = true := HA25.out
                          have f1_1 : ((r7e : Int) != 0) = false := by have h := HA25.out; simpa using h
                          have f3_0 : (veqB zk zn zt 1 0 []) = false := HA27.out
                          refine wp_region_noPanic ?_
                          refine region_late (fun (X : World) => X.cell? ⟨gb5, 0, none⟩ = some (.int .i64 zk) ∧ X.cell? ⟨gb5, 1, none⟩ = some (.int .i64 zn) ∧ X.cell? ⟨gb5, 2, none⟩ = some (.string ⟨List.toArray zt⟩)) (fun _ => false) (by kernel_rfl) ?_
                          have hb := (Below.refl W27.heap.size W27).drew
                          obtain ⟨W47, hW⟩ : ∃ X, W27.drew = X := ⟨_, rfl⟩
                          rw [hW] at hb ⊢
                          clear hW
                          replace B := Lib.hid (B.out.below hb)
                          replace BL := Lib.hid (below_then BL.out hb)
                          clear hb
                          have hHeld : W47.cell? ⟨gb5, 0, none⟩ = some (.int .i64 zk) ∧ W47.cell? ⟨gb5, 1, none⟩ = some (.int .i64 zn) ∧ W47.cell? ⟨gb5, 2, none⟩ = some (.string ⟨List.toArray zt⟩) := ⟨(B.out.get 4 rfl).c0, (B.out.get 4 rfl).c1, (B.out.get 4 rfl).c2⟩
                          refine late_pure_at (some 151) (i := 0) (v := (.int .i64 r6e)) rfl rfl rfl (by kernel_rfl) (by kernel_rfl) (by kernel_rfl) (fun _ _ _ h => h) (Or.inl ⟨by rfl, by intro w _; go_simp⟩) (fun _ => hHeld) ?_
                          try simp only [Act.put, List.setIfInBounds_toArray, List.set_cons_zero, List.set_cons_succ]
                          refine late_pure_at (some 152) (i := 1) (v := (.bool false)) rfl rfl rfl (by kernel_rfl) (by kernel_rfl) (by kernel_rfl) (fun _ _ _ h => h) (Or.inl ⟨by rfl, by intro w _; go_simp⟩) (fun _ => hHeld) ?_
                          try simp only [Act.put, List.setIfInBounds_toArray, List.set_cons_zero, List.set_cons_succ]
                          refine late_pure_at (some 153) (i := 2) (v := (.bool false)) rfl rfl rfl (by kernel_rfl) (by kernel_rfl) (by kernel_rfl) (fun _ _ _ h => h) (Or.inl ⟨by rfl, by intro w _; go_simp⟩) (fun _ => hHeld) ?_
                          try simp only [Act.put, List.setIfInBounds_toArray, List.set_cons_zero, List.set_cons_succ]
                          refine late_pure_at (some 154) (i := 3) (v := (.int .i64 r7e)) rfl rfl rfl (by kernel_rfl) (by kernel_rfl) (by kernel_rfl) (fun _ _ _ h => h) (Or.inl ⟨by rfl, by intro w _; go_simp⟩) (fun _ => hHeld) ?_
                          try simp only [Act.put, List.setIfInBounds_toArray, List.set_cons_zero, List.set_cons_succ]
                          refine late_pure_at (some 155) (i := 4) (v := (.bool false)) rfl rfl rfl (by kernel_rfl) (by kernel_rfl) (by kernel_rfl) (fun _ _ _ h => h) (Or.inl ⟨by rfl, by intro w _; go_simp⟩) (fun _ => hHeld) ?_
                          try simp only [Act.put, List.setIfInBounds_toArray, List.set_cons_zero, List.set_cons_succ]
                          refine late_pure_at (some 156) (i := 5) (v := (.bool false)) rfl rfl rfl (by kernel_rfl) (by kernel_rfl) (by kernel_rfl) (fun _ _ _ h => h) (Or.inl ⟨by rfl, by intro w _; go_simp⟩) (fun _ => hHeld) ?_
                          try simp only [Act.put, List.setIfInBounds_toArray, List.set_cons_zero, List.set_cons_succ]
                          refine late_pure_at (some 157) (i := 6) (v := (.bool false)) rfl rfl rfl (by kernel_rfl) (by kernel_rfl) (by kernel_rfl) (fun _ _ _ h => h) (Or.inl ⟨by rfl, by intro w _; go_simp⟩) (fun _ => hHeld) ?_
                          try simp only [Act.put, List.setIfInBounds_toArray, List.set_cons_zero, List.set_cons_succ]
                          refine late_take_at (some 158) (i := 7) (v := (.agg #[.int .i64 zk, .int .i64 zn, .string ⟨List.toArray zt⟩])) rfl rfl rfl (by kernel_rfl) (by kernel_rfl) (by kernel_rfl) (by kernel_rfl) (fun _ _ _ h => h) clean_none (Or.inl ⟨by rfl, by intro w hSw; go_split_ands; go_simp⟩) hHeld ?_
                          try simp only [Act.put, List.setIfInBounds_toArray, List.set_cons_zero, List.set_cons_succ]
                          refine late_ready (rs := [8]) (by kernel_rfl) (by simp) ?_
                          refine AllLate.cons rfl (fun K hK => ?_) ?_
                          · skip
                            go_simp
                            refine (negative_calls zk zn zt (Nat.le_trans HOz.out.t (by decide)) _).mono ?_
                            rw [HA26.out]
                            rintro e W48 ⟨rfl, hb⟩
                            clear hHeld
                            replace B := Lib.hid (B.out.below hb)
                            replace BL := Lib.hid (below_then BL.out hb)
                            clear hb
                            have hHeld : W48.cell? ⟨gb5, 0, none⟩ = some (.int .i64 zk) ∧ W48.cell? ⟨gb5, 1, none⟩ = some (.int .i64 zn) ∧ W48.cell? ⟨gb5, 2, none⟩ = some (.string ⟨List.toArray zt⟩) := ⟨(B.out.get 4 rfl).c0, (B.out.get 4 rfl).c1, (B.out.get 4 rfl).c2⟩
                            dsimp only
                            refine hK.out _ _ (fun _ => hHeld) ?_
                            clear hK K
                            try simp only [Act.put, List.setIfInBounds_toArray, List.set_cons_zero, List.set_cons_succ]
                            refine late_pure_at (some 160) (i := 9) (v := (.bool false)) rfl rfl rfl (by kernel_rfl) (by kernel_rfl) (by kernel_rfl) (fun _ _ _ h => h) (Or.inl ⟨by rfl, by intro w _; go_simp⟩) (fun _ => hHeld) ?_
                            try simp only [Act.put, List.setIfInBounds_toArray, List.set_cons_zero, List.set_cons_succ]
                            refine late_pure_at (some 161) (i := 10) (v := (.bool false)) rfl rfl rfl (by kernel_rfl) (by kernel_rfl) (by kernel_rfl) (fun _ _ _ h => h) (Or.inl ⟨by rfl, by intro w _; go_simp⟩) (fun _ => hHeld) ?_
                            try simp only [Act.put, List.setIfInBounds_toArray, List.set_cons_zero, List.set_cons_succ]
                            refine late_take_at (some 162) (i := 11) (v := (.agg #[.int .i64 zk, .int .i64 zn, .string ⟨List.toArray zt⟩])) rfl rfl rfl (by kernel_rfl) (by kernel_rfl) (by kernel_rfl) (by kernel_rfl) (fun _ _ _ h => h) clean_none (Or.inl ⟨by rfl, by intro w hSw; go_split_ands; go_simp⟩) hHeld ?_
                            try simp only [Act.put, List.setIfInBounds_toArray, List.set_cons_zero, List.set_cons_succ]
                            refine late_ready (rs := [12]) (by kernel_rfl) (by simp) ?_
                            refine AllLate.cons rfl (fun K hK => ?_) ?_
                            · skip
                              go_simp
                              refine (num_calls 0 _).mono ?_
                              rintro e W49 ⟨rfl, hb⟩
                              clear hHeld
                              replace B := Lib.hid (B.out.below hb)
                              replace BL := Lib.hid (below_then BL.out hb)
                              clear hb
                              have hHeld : W49.cell? ⟨gb5, 0, none⟩ = some (.int .i64 zk) ∧ W49.cell? ⟨gb5, 1, none⟩ = some (.int .i64 zn) ∧ W49.cell? ⟨gb5, 2, none⟩ = some (.string ⟨List.toArray zt⟩) := ⟨(B.out.get 4 rfl).c0, (B.out.get 4 rfl).c1, (B.out.get 4 rfl).c2⟩
                              dsimp only
                              refine hK.out _ _ (fun _ => hHeld) ?_
                              clear hK K
                              try simp only [Act.put, List.setIfInBounds_toArray, List.set_cons_zero, List.set_cons_succ]
                              refine late_pure_at (some 164) (i := 13) (v := (.bool false)) rfl rfl rfl (by kernel_rfl) (by kernel_rfl) (by kernel_rfl) (fun _ _ _ h => h) (Or.inl ⟨by rfl, by intro w _; go_simp⟩) (fun _ => hHeld) ?_
                              try simp only [Act.put, List.setIfInBounds_toArray, List.set_cons_zero, List.set_cons_succ]
                              refine late_pure_at (some 165) (i := 14) (v := (.bool false)) rfl rfl rfl (by kernel_rfl) (by kernel_rfl) (by kernel_rfl) (fun _ _ _ h => h) (Or.inl ⟨by rfl, by intro w _; go_simp⟩) (fun _ => hHeld) ?_
                              try simp only [Act.put, List.setIfInBounds_toArray, List.set_cons_zero, List.set_cons_succ]
                              refine late_done (by kernel_rfl) ?_ _
                              refine NoPanic.normal ?_
                              go_wp2_with fail
                              go_meet
                              exact ⟨congrArg Value.bool HCC.out, B, BL⟩
                            exact AllLate.nil
                          exact AllLate.nil
                    | false =>
                      have f0_0 : ((r6e : Int) == 0) = true := HA24.out
                      have f0_1 : ((r6e : Int) != 0) = false := by have h := HA24.out; simpa using h
                      have f1_0 : ((r7e : Int) == 0) = false := HA25.out
                      have f1_1 : ((r7e : Int) != 0) = true := by have h := HA25.out; simpa using h
                      refine wp_region_noPanic ?_
                      refine region_late (fun (X : World) => True) (fun _ => false) (by kernel_rfl) ?_
                      have hb := (Below.refl W27.heap.size W27).drew
                      obtain ⟨W50, hW⟩ : ∃ X, W27.drew = X := ⟨_, rfl⟩
                      rw [hW] at hb ⊢
                      clear hW
                      replace B := Lib.hid (B.out.below hb)
                      replace BL := Lib.hid (below_then BL.out hb)
                      clear hb
                      have hHeld : True := trivial
                      refine late_pure_at (some 151) (i := 0) (v := (.int .i64 r6e)) rfl rfl rfl (by kernel_rfl) (by kernel_rfl) (by kernel_rfl) (fun _ _ _ h => h) (Or.inl ⟨by rfl, by intro w _; go_simp⟩) (fun _ => hHeld) ?_
                      try simp only [Act.put, List.setIfInBounds_toArray, List.set_cons_zero, List.set_cons_succ]
                      refine late_pure_at (some 152) (i := 1) (v := (.bool false)) rfl rfl rfl (by kernel_rfl) (by kernel_rfl) (by kernel_rfl) (fun _ _ _ h => h) (Or.inl ⟨by rfl, by intro w _; go_simp⟩) (fun _ => hHeld) ?_
                      try simp only [Act.put, List.setIfInBounds_toArray, List.set_cons_zero, List.set_cons_succ]
                      refine late_pure_at (some 153) (i := 2) (v := (.bool false)) rfl rfl rfl (by kernel_rfl) (by kernel_rfl) (by kernel_rfl) (fun _ _ _ h => h) (Or.inl ⟨by rfl, by intro w _; go_simp⟩) (fun _ => hHeld) ?_
                      try simp only [Act.put, List.setIfInBounds_toArray, List.set_cons_zero, List.set_cons_succ]
                      refine late_pure_at (some 154) (i := 3) (v := (.int .i64 r7e)) rfl rfl rfl (by kernel_rfl) (by kernel_rfl) (by kernel_rfl) (fun _ _ _ h => h) (Or.inl ⟨by rfl, by intro w _; go_simp⟩) (fun _ => hHeld) ?_
                      try simp only [Act.put, List.setIfInBounds_toArray, List.set_cons_zero, List.set_cons_succ]
                      refine late_pure_at (some 155) (i := 4) (v := (.bool true)) rfl rfl rfl (by kernel_rfl) (by kernel_rfl) (by kernel_rfl) (fun _ _ _ h => h) (Or.inl ⟨by rfl, by intro w _; go_simp⟩) (fun _ => hHeld) ?_
                      try simp only [Act.put, List.setIfInBounds_toArray, List.set_cons_zero, List.set_cons_succ]
                      refine late_pure_at (some 156) (i := 5) (v := (.bool true)) rfl rfl rfl (by kernel_rfl) (by kernel_rfl) (by kernel_rfl) (fun _ _ _ h => h) (Or.inl ⟨by rfl, by intro w _; go_simp⟩) (fun _ => hHeld) ?_
                      try simp only [Act.put, List.setIfInBounds_toArray, List.set_cons_zero, List.set_cons_succ]
                      refine late_pure_at (some 157) (i := 6) (v := (.bool true)) rfl rfl rfl (by kernel_rfl) (by kernel_rfl) (by kernel_rfl) (fun _ _ _ h => h) (Or.inl ⟨by rfl, by intro w _; go_simp⟩) (fun _ => hHeld) ?_
                      try simp only [Act.put, List.setIfInBounds_toArray, List.set_cons_zero, List.set_cons_succ]
                      refine late_pure_at (some 158) (i := 7) (v := undef) rfl rfl rfl (by kernel_rfl) (by kernel_rfl) (by kernel_rfl) (fun _ _ _ h => h) (Or.inr ⟨by rfl, rfl⟩) (fun _ => hHeld) ?_
                      try simp only [Act.put, List.setIfInBounds_toArray, List.set_cons_zero, List.set_cons_succ]
                      refine late_pure_at (some 159) (i := 8) (v := undef) rfl rfl rfl (by kernel_rfl) (by kernel_rfl) (by kernel_rfl) (fun _ _ _ h => h) (Or.inr ⟨by rfl, rfl⟩) (fun _ => hHeld) ?_
                      try simp only [Act.put, List.setIfInBounds_toArray, List.set_cons_zero, List.set_cons_succ]
                      refine late_pure_at (some 160) (i := 9) (v := (.bool true)) rfl rfl rfl (by kernel_rfl) (by kernel_rfl) (by kernel_rfl) (fun _ _ _ h => h) (Or.inl ⟨by rfl, by intro w _; go_simp⟩) (fun _ => hHeld) ?_
                      try simp only [Act.put, List.setIfInBounds_toArray, List.set_cons_zero, List.set_cons_succ]
                      refine late_pure_at (some 161) (i := 10) (v := (.bool true)) rfl rfl rfl (by kernel_rfl) (by kernel_rfl) (by kernel_rfl) (fun _ _ _ h => h) (Or.inl ⟨by rfl, by intro w _; go_simp⟩) (fun _ => hHeld) ?_
                      try simp only [Act.put, List.setIfInBounds_toArray, List.set_cons_zero, List.set_cons_succ]
                      refine late_pure_at (some 162) (i := 11) (v := undef) rfl rfl rfl (by kernel_rfl) (by kernel_rfl) (by kernel_rfl) (fun _ _ _ h => h) (Or.inr ⟨by rfl, rfl⟩) (fun _ => hHeld) ?_
                      try simp only [Act.put, List.setIfInBounds_toArray, List.set_cons_zero, List.set_cons_succ]
                      refine late_pure_at (some 163) (i := 12) (v := undef) rfl rfl rfl (by kernel_rfl) (by kernel_rfl) (by kernel_rfl) (fun _ _ _ h => h) (Or.inr ⟨by rfl, rfl⟩) (fun _ => hHeld) ?_
                      try simp only [Act.put, List.setIfInBounds_toArray, List.set_cons_zero, List.set_cons_succ]
                      refine late_pure_at (some 164) (i := 13) (v := undef) rfl rfl rfl (by kernel_rfl) (by kernel_rfl) (by kernel_rfl) (fun _ _ _ h => h) (Or.inr ⟨by rfl, rfl⟩) (fun _ => hHeld) ?_
                      try simp only [Act.put, List.setIfInBounds_toArray, List.set_cons_zero, List.set_cons_succ]
                      refine late_pure_at (some 165) (i := 14) (v := (.bool true)) rfl rfl rfl (by kernel_rfl) (by kernel_rfl) (by kernel_rfl) (fun _ _ _ h => h) (Or.inl ⟨by rfl, by intro w _; go_simp⟩) (fun _ => hHeld) ?_
                      try simp only [Act.put, List.setIfInBounds_toArray, List.set_cons_zero, List.set_cons_succ]
                      refine late_done (by kernel_rfl) ?_ _
                      refine NoPanic.normal ?_
                      go_wp2_with fail
                      go_meet
                      exact ⟨congrArg Value.bool HCC.out, B, BL⟩
                  | false =>
                    have f0_0 : ((r6e : Int) == 0) = false := HA24.out
                    have f0_1 : ((r6e : Int) != 0) = true := by have h := HA24.out; simpa using h
                    refine wp_region_noPanic ?_
                    refine region_late (fun (X : World) => True) (fun _ => false) (by kernel_rfl) ?_
                    have hb := (Below.refl W27.heap.size W27).drew
                    obtain ⟨W51, hW⟩ : ∃ X, W27.drew = X := ⟨_, rfl⟩
                    rw [hW] at hb ⊢
                    clear hW
                    replace B := Lib.hid (B.out.below hb)
                    replace BL := Lib.hid (below_then BL.out hb)
                    clear hb
                    have hHeld : True := trivial
                    refine late_pure_at (some 151) (i := 0) (v := (.int .i64 r6e)) rfl rfl rfl (by kernel_rfl) (by kernel_rfl) (by kernel_rfl) (fun _ _ _ h => h) (Or.inl ⟨by rfl, by intro w _; go_simp⟩) (fun _ => hHeld) ?_
                    try simp only [Act.put, List.setIfInBounds_toArray, List.set_cons_zero, List.set_cons_succ]
                    refine late_pure_at (some 152) (i := 1) (v := (.bool true)) rfl rfl rfl (by kernel_rfl) (by kernel_rfl) (by kernel_rfl) (fun _ _ _ h => h) (Or.inl ⟨by rfl, by intro w _; go_simp⟩) (fun _ => hHeld) ?_
                    try simp only [Act.put, List.setIfInBounds_toArray, List.set_cons_zero, List.set_cons_succ]
                    refine late_pure_at (some 153) (i := 2) (v := (.bool true)) rfl rfl rfl (by kernel_rfl) (by kernel_rfl) (by kernel_rfl) (fun _ _ _ h => h) (Or.inl ⟨by rfl, by intro w _; go_simp⟩) (fun _ => hHeld) ?_
                    try simp only [Act.put, List.setIfInBounds_toArray, List.set_cons_zero, List.set_cons_succ]
                    refine late_pure_at (some 154) (i := 3) (v := undef) rfl rfl rfl (by kernel_rfl) (by kernel_rfl) (by kernel_rfl) (fun _ _ _ h => h) (Or.inr ⟨by rfl, rfl⟩) (fun _ => hHeld) ?_
                    try simp only [Act.put, List.setIfInBounds_toArray, List.set_cons_zero, List.set_cons_succ]
                    refine late_pure_at (some 155) (i := 4) (v := undef) rfl rfl rfl (by kernel_rfl) (by kernel_rfl) (by kernel_rfl) (fun _ _ _ h => h) (Or.inr ⟨by rfl, rfl⟩) (fun _ => hHeld) ?_
                    try simp only [Act.put, List.setIfInBounds_toArray, List.set_cons_zero, List.set_cons_succ]
                    refine late_pure_at (some 156) (i := 5) (v := (.bool true)) rfl rfl rfl (by kernel_rfl) (by kernel_rfl) (by kernel_rfl) (fun _ _ _ h => h) (Or.inl ⟨by rfl, by intro w _; go_simp⟩) (fun _ => hHeld) ?_
                    try simp only [Act.put, List.setIfInBounds_toArray, List.set_cons_zero, List.set_cons_succ]
                    refine late_pure_at (some 157) (i := 6) (v := (.bool true)) rfl rfl rfl (by kernel_rfl) (by kernel_rfl) (by kernel_rfl) (fun _ _ _ h => h) (Or.inl ⟨by rfl, by intro w _; go_simp⟩) (fun _ => hHeld) ?_
                    try simp only [Act.put, List.setIfInBounds_toArray, List.set_cons_zero, List.set_cons_succ]
                    refine late_pure_at (some 158) (i := 7) (v := undef) rfl rfl rfl (by kernel_rfl) (by kernel_rfl) (by kernel_rfl) (fun _ _ _ h => h) (Or.inr ⟨by rfl, rfl⟩) (fun _ => hHeld) ?_
                    try simp only [Act.put, List.setIfInBounds_toArray, List.set_cons_zero, List.set_cons_succ]
                    refine late_pure_at (some 159) (i := 8) (v := undef) rfl rfl rfl (by kernel_rfl) (by kernel_rfl) (by kernel_rfl) (fun _ _ _ h => h) (Or.inr ⟨by rfl, rfl⟩) (fun _ => hHeld) ?_
                    try simp only [Act.put, List.setIfInBounds_toArray, List.set_cons_zero, List.set_cons_succ]
                    refine late_pure_at (some 160) (i := 9) (v := (.bool true)) rfl rfl rfl (by kernel_rfl) (by kernel_rfl) (by kernel_rfl) (fun _ _ _ h => h) (Or.inl ⟨by rfl, by intro w _; go_simp⟩) (fun _ => hHeld) ?_
                    try simp only [Act.put, List.setIfInBounds_toArray, List.set_cons_zero, List.set_cons_succ]
                    refine late_pure_at (some 161) (i := 10) (v := (.bool true)) rfl rfl rfl (by kernel_rfl) (by kernel_rfl) (by kernel_rfl) (fun _ _ _ h => h) (Or.inl ⟨by rfl, by intro w _; go_simp⟩) (fun _ => hHeld) ?_
                    try simp only [Act.put, List.setIfInBounds_toArray, List.set_cons_zero, List.set_cons_succ]
                    refine late_pure_at (some 162) (i := 11) (v := undef) rfl rfl rfl (by kernel_rfl) (by kernel_rfl) (by kernel_rfl) (fun _ _ _ h => h) (Or.inr ⟨by rfl, rfl⟩) (fun _ => hHeld) ?_
                    try simp only [Act.put, List.setIfInBounds_toArray, List.set_cons_zero, List.set_cons_succ]
                    refine late_pure_at (some 163) (i := 12) (v := undef) rfl rfl rfl (by kernel_rfl) (by kernel_rfl) (by kernel_rfl) (fun _ _ _ h => h) (Or.inr ⟨by rfl, rfl⟩) (fun _ => hHeld) ?_
                    try simp only [Act.put, List.setIfInBounds_toArray, List.set_cons_zero, List.set_cons_succ]
                    refine late_pure_at (some 164) (i := 13) (v := undef) rfl rfl rfl (by kernel_rfl) (by kernel_rfl) (by kernel_rfl) (fun _ _ _ h => h) (Or.inr ⟨by rfl, rfl⟩) (fun _ => hHeld) ?_
                    try simp only [Act.put, List.setIfInBounds_toArray, List.set_cons_zero, List.set_cons_succ]
                    refine late_pure_at (some 165) (i := 14) (v := (.bool true)) rfl rfl rfl (by kernel_rfl) (by kernel_rfl) (by kernel_rfl) (fun _ _ _ h => h) (Or.inl ⟨by rfl, by intro w _; go_simp⟩) (fun _ => hHeld) ?_
                    try simp only [Act.put, List.setIfInBounds_toArray, List.set_cons_zero, List.set_cons_succ]
                    refine late_done (by kernel_rfl) ?_ _
                    refine NoPanic.normal ?_
                    go_wp2_with fail
                    go_meet
                    exact ⟨congrArg Value.bool HCC.out, B, BL⟩
                case rest =>
                  clear B BL
                  obtain ⟨rfl, B, BL⟩ := hcut
                  obtain ⟨W52, hW⟩ : ∃ X, wc = X := ⟨_, rfl⟩
                  rw [hW] at B BL ⊢
                  clear hW
                  have HCW : Hid (((((!(r6e == 0)) || (!(r7e == 0))) || (negB (⟨zk, zn, zt⟩ : Vl))) || (veqB zk zn zt 1 0 [])) = c11) := Lib.hid (by rw [HA24.out, HA25.out, HA26.out, HA27.out]; exact HCC.out)
                  clear HCC HA24 HA25 HA26 HA27
                  cases c11 with
                  | true =>
                    replace HL := Lib.hid (show true = BigOrder_s10 (⟨xk, xn, xt⟩ : Vl) (⟨yk, yn, yt⟩ : Vl) (⟨zk, zn, zt⟩ : Vl) ((r0b, r0e) : Bool × Int) ((r1b, r1e) : Bool × Int) ((r2b, r2e) : Bool × Int) ((r3b, r3e) : Bool × Int) ((⟨r4k, r4n, r4t⟩, r4e) : Vl × Int) ((⟨r5k, r5n, r5t⟩, r5e) : Vl × Int) ((⟨r6k, r6n, r6t⟩, r6e) : Vl × Int) ((⟨r7k, r7n, r7t⟩, r7e) : Vl × Int) from HL.out.trans (if_pos HCW.out))
                    go_wp2_with fail
                    go_ret
                    exact ⟨rfl, BL.out⟩
                  | false =>
                    replace HL := Lib.hid (show true = BigOrder_s12 (⟨xk, xn, xt⟩ : Vl) (⟨yk, yn, yt⟩ : Vl) (⟨zk, zn, zt⟩ : Vl) ((r0b, r0e) : Bool × Int) ((r1b, r1e) : Bool × Int) ((r2b, r2e) : Bool × Int) ((r3b, r3e) : Bool × Int) ((⟨r4k, r4n, r4t⟩, r4e) : Vl × Int) ((⟨r5k, r5n, r5t⟩, r5e) : Vl × Int) ((⟨r6k, r6n, r6t⟩, r6e) : Vl × Int) ((⟨r7k, r7n, r7t⟩, r7e) : Vl × Int) from HL.out.trans ((if_neg (fun h => Bool.noConfusion (HCW.out.symm.trans h)))))
                    -- region 22
                    have cb20_14_5_0 : W52.cell? ⟨g2, 0, none⟩ = some (.int .i64 r6k) := (B.out.get 1 rfl).c0
                    have cb20_14_5_1 : W52.cell? ⟨g2, 1, none⟩ = some (.int .i64 r6n) := (B.out.get 1 rfl).c1
                    have cb20_14_5_2 : W52.cell? ⟨g2, 2, none⟩ = some (.string ⟨List.toArray r6t⟩) := (B.out.get 1 rfl).c2
                    have cb22_15_6_0 : W52.cell? ⟨g3, 0, none⟩ = some (.int .i64 r7k) := (B.out.get 0 rfl).c0
                    have cb22_15_6_1 : W52.cell? ⟨g3, 1, none⟩ = some (.int .i64 r7n) := (B.out.get 0 rfl).c1
                    have cb22_15_6_2 : W52.cell? ⟨g3, 2, none⟩ = some (.string ⟨List.toArray r7t⟩) := (B.out.get 0 rfl).c2
                    obtain ⟨⟨r10b, r10e⟩, hr10⟩ : ∃ p, lessR (⟨r6k, r6n, r6t⟩ : Vl) (⟨r7k, r7n, r7t⟩ : Vl) = p := ⟨_, rfl⟩
                    have hc10 := fun (W : World) (hW : Env W) => lessV (⟨r6k, r6n, r6t⟩ : Vl) (⟨r7k, r7n, r7t⟩ : Vl) HOr6.out HOr7.out W hW
                    rw [hr10] at hc10
                    simp only [Vl.val] at hc10
                    have HC10 := Lib.hid hc10; have HR10 := Lib.hid hr10
                    clear hc10 hr10
                    go_wp2_with fail
                    refine (HC10.out _ (HE.out.below BL.out)).mono ?_
                    rintro e W53 ⟨rfl, hb⟩
                    clear cb20_14_5_0 cb20_14_5_1 cb20_14_5_2 cb22_15_6_0 cb22_15_6_1 cb22_15_6_2
                    replace B := Lib.hid (B.out.below hb)
                    replace BL := Lib.hid (below_then BL.out hb)
                    clear hb
                    go_upto_region 23 with fail
                    replace HL := Lib.hid (show true = BigOrder_s11 (⟨xk, xn, xt⟩ : Vl) (⟨yk, yn, yt⟩ : Vl) (⟨zk, zn, zt⟩ : Vl) ((r0b, r0e) : Bool × Int) ((r1b, r1e) : Bool × Int) ((r2b, r2e) : Bool × Int) ((r3b, r3e) : Bool × Int) ((⟨r4k, r4n, r4t⟩, r4e) : Vl × Int) ((⟨r5k, r5n, r5t⟩, r5e) : Vl × Int) ((⟨r6k, r6n, r6t⟩, r6e) : Vl × Int) ((⟨r7k, r7n, r7t⟩, r7e) : Vl × Int) ((r10b, r10e) : Bool × Int) from HL.out.trans (by unfold BigOrder_s12; rw [HR10.out]))
                    -- region 23, the end
                    obtain ⟨b28, h⟩ : ∃ b : Bool, (r10e == 0) = b := ⟨_, rfl⟩
                    have HA28 := Lib.hid h
                    clear h
                    cases b28 with
                    | true =>
                      cases r10b with
                      | true =>
                        cases r0b with
                        | true =>
                          clear HL
                          have f0_0 : ((r10e : Int) == 0) = true := HA28.out
                          have f0_1 : ((r10e : Int) != 0) = false := by have h := HA28.out; simpa using h
                          go_wp2_with fail
                          go_ret
                          exact ⟨rfl, BL.out⟩
                        | false =>
                          exact Bool.noConfusion (show true = false from HL.out.trans (by show ((true && (r10e == 0)) && (true == false)) = false; rw [HA28.out]; rfl))
                      | false =>
                        cases r0b with
                        | true =>
                          exact Bool.noConfusion (show true = false from HL.out.trans (by show ((true && (r10e == 0)) && (false == true)) = false; rw [HA28.out]; rfl))
                        | false =>
                          clear HL
                          have f0_0 : ((r10e : Int) == 0) = true := HA28.out
                          have f0_1 : ((r10e : Int) != 0) = false := by have h := HA28.out; simpa using h
                          go_wp2_with fail
                          go_ret
                          exact ⟨rfl, BL.out⟩
                    | false =>
                      exact Bool.noConfusion (show true = false from HL.out.trans (by show ((true && (r10e == 0)) && (r10b == r0b)) = false; rw [HA28.out]; rfl))
end Go.Proofs.YthjpbbbmnmhmmaaGreatDoor
