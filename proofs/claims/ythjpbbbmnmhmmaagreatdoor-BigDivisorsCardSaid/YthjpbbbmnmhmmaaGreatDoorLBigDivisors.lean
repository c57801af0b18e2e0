import Derived.Test.YthjpbbbmnmhmmaaGreatDoorA31
set_option linter.unusedVariables false
set_option linter.unusedSimpArgs false
namespace Go.Proofs.YthjpbbbmnmhmmaaGreatDoor
open Go.RowKit Go.Shelf Go.Lib
attribute [local go_sem ↓] run_val_eql run_val_neq

def BigDivisors_s0 (x : Vl) (y : Vl) (z : Vl) : Bool := true
def BigDivisors_s1 (x : Vl) (y : Vl) (z : Vl) (r0 : Vl × Int) : Bool := (true && ((r0.2 == 31) || (r0.2 == 2)))
def BigDivisors_s2 (x : Vl) (y : Vl) (z : Vl) (r0 : Vl × Int) : Bool := false
def BigDivisors_s3 (x : Vl) (y : Vl) (z : Vl) (r0 : Vl × Int) : Bool := true
def BigDivisors_s4 (x : Vl) (y : Vl) (z : Vl) (r0 : Vl × Int) (r1 : Vl × Int) (r2 : Vl × Int) : Bool := false
def BigDivisors_s5 (x : Vl) (y : Vl) (z : Vl) (r0 : Vl × Int) (r1 : Vl × Int) (r2 : Vl × Int) (r3 : Vl × Int) (r4 : Vl × Int) (r5 : Vl × Int) : Bool := false
def BigDivisors_s6 (x : Vl) (y : Vl) (z : Vl) (r0 : Vl × Int) (r1 : Vl × Int) (r2 : Vl × Int) (r3 : Vl × Int) (r4 : Vl × Int) (r5 : Vl × Int) (r6 : Vl × Int) : Bool := true
def BigDivisors_s7 (x : Vl) (y : Vl) (z : Vl) (r0 : Vl × Int) (r1 : Vl × Int) (r2 : Vl × Int) (r3 : Vl × Int) (r4 : Vl × Int) (r5 : Vl × Int) (r6 : Vl × Int) (r7 : Vl × Int) : Bool := ((true && (r7.2 == 0)) && (veq r7.1 r0.1))
def BigDivisors_s8 (x : Vl) (y : Vl) (z : Vl) (r0 : Vl × Int) (r1 : Vl × Int) (r2 : Vl × Int) (r3 : Vl × Int) (r4 : Vl × Int) (r5 : Vl × Int) (r6 : Vl × Int) : Bool := BigDivisors_s7 x y z r0 r1 r2 r3 r4 r5 r6 (gcdR y r6.1)
def BigDivisors_s9 (x : Vl) (y : Vl) (z : Vl) (r0 : Vl × Int) (r1 : Vl × Int) (r2 : Vl × Int) (r3 : Vl × Int) (r4 : Vl × Int) (r5 : Vl × Int) (r6 : Vl × Int) : Bool := if (!(r6.2 == 0)) = true then BigDivisors_s6 x y z r0 r1 r2 r3 r4 r5 r6 else BigDivisors_s8 x y z r0 r1 r2 r3 r4 r5 r6
def BigDivisors_s10 (x : Vl) (y : Vl) (z : Vl) (r0 : Vl × Int) (r1 : Vl × Int) (r2 : Vl × Int) (r3 : Vl × Int) (r4 : Vl × Int) (r5 : Vl × Int) : Bool := BigDivisors_s9 x y z r0 r1 r2 r3 r4 r5 (modR x y)
def BigDivisors_s11 (x : Vl) (y : Vl) (z : Vl) (r0 : Vl × Int) (r1 : Vl × Int) (r2 : Vl × Int) (r3 : Vl × Int) (r4 : Vl × Int) (r5 : Vl × Int) : Bool := if ((!(r5.2 == 0)) || (!(veq r5.1 (⟨1, 0, []⟩ : Vl)))) = true then BigDivisors_s5 x y z r0 r1 r2 r3 r4 r5 else BigDivisors_s10 x y z r0 r1 r2 r3 r4 r5
def BigDivisors_s12 (x : Vl) (y : Vl) (z : Vl) (r0 : Vl × Int) (r1 : Vl × Int) (r2 : Vl × Int) (r3 : Vl × Int) (r4 : Vl × Int) : Bool := BigDivisors_s11 x y z r0 r1 r2 r3 r4 (modR r0.1 z)
def BigDivisors_s13 (x : Vl) (y : Vl) (z : Vl) (r0 : Vl × Int) (r1 : Vl × Int) (r2 : Vl × Int) (r3 : Vl × Int) (r4 : Vl × Int) (r8 : Vl × Int) : Bool := true
def BigDivisors_s14 (x : Vl) (y : Vl) (z : Vl) (r0 : Vl × Int) (r1 : Vl × Int) (r2 : Vl × Int) (r3 : Vl × Int) (r4 : Vl × Int) (r8 : Vl × Int) (r9 : Vl × Int) : Bool := ((true && (r9.2 == 0)) && (veq r9.1 r0.1))
def BigDivisors_s15 (x : Vl) (y : Vl) (z : Vl) (r0 : Vl × Int) (r1 : Vl × Int) (r2 : Vl × Int) (r3 : Vl × Int) (r4 : Vl × Int) (r8 : Vl × Int) : Bool := BigDivisors_s14 x y z r0 r1 r2 r3 r4 r8 (gcdR y r8.1)
def BigDivisors_s16 (x : Vl) (y : Vl) (z : Vl) (r0 : Vl × Int) (r1 : Vl × Int) (r2 : Vl × Int) (r3 : Vl × Int) (r4 : Vl × Int) (r8 : Vl × Int) : Bool := if (!(r8.2 == 0)) = true then BigDivisors_s13 x y z r0 r1 r2 r3 r4 r8 else BigDivisors_s15 x y z r0 r1 r2 r3 r4 r8
def BigDivisors_s17 (x : Vl) (y : Vl) (z : Vl) (r0 : Vl × Int) (r1 : Vl × Int) (r2 : Vl × Int) (r3 : Vl × Int) (r4 : Vl × Int) : Bool := BigDivisors_s16 x y z r0 r1 r2 r3 r4 (modR x y)
def BigDivisors_s18 (x : Vl) (y : Vl) (z : Vl) (r0 : Vl × Int) (r1 : Vl × Int) (r2 : Vl × Int) (r3 : Vl × Int) (r4 : Vl × Int) : Bool := if ((((r3.2 == 0) && (r4.2 == 0)) && (veq r3.1 (⟨1, 0, []⟩ : Vl))) && (veq r4.1 (⟨1, 0, []⟩ : Vl))) = true then BigDivisors_s12 x y z r0 r1 r2 r3 r4 else BigDivisors_s17 x y z r0 r1 r2 r3 r4
def BigDivisors_s19 (x : Vl) (y : Vl) (z : Vl) (r0 : Vl × Int) (r1 : Vl × Int) (r2 : Vl × Int) (r3 : Vl × Int) : Bool := BigDivisors_s18 x y z r0 r1 r2 r3 (modR y z)
def BigDivisors_s20 (x : Vl) (y : Vl) (z : Vl) (r0 : Vl × Int) (r1 : Vl × Int) (r2 : Vl × Int) : Bool := BigDivisors_s19 x y z r0 r1 r2 (modR x z)
def BigDivisors_s21 (x : Vl) (y : Vl) (z : Vl) (r0 : Vl × Int) (r1 : Vl × Int) (r2 : Vl × Int) : Bool := if ((((!(r1.2 == 0)) || (!(r2.2 == 0))) || (!(veq r1.1 (⟨1, 0, []⟩ : Vl)))) || (!(veq r2.1 (⟨1, 0, []⟩ : Vl)))) = true then BigDivisors_s4 x y z r0 r1 r2 else BigDivisors_s20 x y z r0 r1 r2
def BigDivisors_s22 (x : Vl) (y : Vl) (z : Vl) (r0 : Vl × Int) (r1 : Vl × Int) : Bool := BigDivisors_s21 x y z r0 r1 (modR y r0.1)
def BigDivisors_s23 (x : Vl) (y : Vl) (z : Vl) (r0 : Vl × Int) : Bool := BigDivisors_s22 x y z r0 (modR x r0.1)
def BigDivisors_s24 (x : Vl) (y : Vl) (z : Vl) (r0 : Vl × Int) : Bool := if (veq r0.1 (⟨1, 0, []⟩ : Vl)) = true then BigDivisors_s3 x y z r0 else BigDivisors_s23 x y z r0
def BigDivisors_s25 (x : Vl) (y : Vl) (z : Vl) (r0 : Vl × Int) : Bool := if ((negB r0.1) || ((veq r0.1 (⟨1, 0, []⟩ : Vl)) != ((veq x (⟨1, 0, []⟩ : Vl)) && (veq y (⟨1, 0, []⟩ : Vl))))) = true then BigDivisors_s2 x y z r0 else BigDivisors_s24 x y z r0
def BigDivisors_s26 (x : Vl) (y : Vl) (z : Vl) (r0 : Vl × Int) : Bool := if (!(r0.2 == 0)) = true then BigDivisors_s1 x y z r0 else BigDivisors_s25 x y z r0
def BigDivisors_s27 (x : Vl) (y : Vl) (z : Vl) : Bool := BigDivisors_s26 x y z (gcdR x y)
def BigDivisors_s28 (x : Vl) (y : Vl) (z : Vl) : Bool := if (((!(shortB x)) || (!(shortB y))) || (!(shortB z))) = true then BigDivisors_s0 x y z else BigDivisors_s27 x y z

set_option maxRecDepth 100000 in
set_option maxHeartbeats 16000000 in
theorem walk_BigDivisors (x : Vl) (y : Vl) (z : Vl) (hx : x.inp) (hy : y.inp) (hz : z.inp) (w : World) (hE : Env w) (hr : true = BigDivisors_s28 x y z) :
    Calls Tryz.prog 6 #[x.val, y.val, z.val] w fun e w' => e = .returned (.bool true) ∧ Below w.heap.size w w' := by
  obtain ⟨xk, xn, xt⟩ := x
  obtain ⟨yk, yn, yt⟩ := y
  obtain ⟨zk, zn, zt⟩ := z
  have HIx := Lib.hid hx
  have HIy := Lib.hid hy
  have HIz := Lib.hid hz
  have HE := Lib.hid hE
  have HL := Lib.hid hr
  clear hE hr hx hy hz
  simp only [Vl.val]
  go_enter Tryz.func6, Tryz.ntmps6
  go_upto_region 1 with fail
  have hB : Bxs (((w.alloc (.cells #[.int .i64 xk, .int .i64 xn, .string ⟨List.toArray xt⟩] 23)).alloc (.cells #[.int .i64 yk, .int .i64 yn, .string ⟨List.toArray yt⟩] 23)).alloc (.cells #[.int .i64 zk, .int .i64 zn, .string ⟨List.toArray zt⟩] 23)) [(w.heap.size + 1 + 1, (⟨zk, zn, zt⟩ : Vl)), (w.heap.size + 1, (⟨yk, yn, yt⟩ : Vl)), (w.heap.size, (⟨xk, xn, xt⟩ : Vl))] := by
    have h := ((((show Bxs w [] from trivial).push (⟨xk, xn, xt⟩ : Vl) 23).push (⟨yk, yn, yt⟩ : Vl) 23).push (⟨zk, zn, zt⟩ : Vl) 23)
    simpa only [World.size_alloc] using h
  have hL : Below w.heap.size w (((w.alloc (.cells #[.int .i64 xk, .int .i64 xn, .string ⟨List.toArray xt⟩] 23)).alloc (.cells #[.int .i64 yk, .int .i64 yn, .string ⟨List.toArray yt⟩] 23)).alloc (.cells #[.int .i64 zk, .int .i64 zn, .string ⟨List.toArray zt⟩] 23)) := ((((Below.refl w.heap.size w).alloc (Nat.le_refl _) (.cells #[.int .i64 xk, .int .i64 xn, .string ⟨List.toArray xt⟩] 23)).alloc (by simp <;> omega) (.cells #[.int .i64 yk, .int .i64 yn, .string ⟨List.toArray yt⟩] 23)).alloc (by simp <;> omega) (.cells #[.int .i64 zk, .int .i64 zn, .string ⟨List.toArray zt⟩] 23))
  obtain ⟨W1, hW⟩ : ∃ X, (((w.alloc (.cells #[.int .i64 xk, .int .i64 xn, .string ⟨List.toArray xt⟩] 23)).alloc (.cells #[.int .i64 yk, .int .i64 yn, .string ⟨List.toArray yt⟩] 23)).alloc (.cells #[.int .i64 zk, .int .i64 zn, .string ⟨List.toArray zt⟩] 23)) = X := ⟨_, rfl⟩
  rw [hW] at hB hL ⊢
  clear hW
  obtain ⟨gb5, hg⟩ : ∃ g, w.heap.size + 1 + 1 = g := ⟨_, rfl⟩
  have HGb5 : Hid (w.heap.size ≤ gb5) := Lib.hid (by omega)
  rw [hg] at hB ⊢
  clear hg
  obtain ⟨gb4, hg⟩ : ∃ g, w.heap.size + 1 = g := ⟨_, rfl⟩
  have HGb4 : Hid (w.heap.size ≤ gb4) := Lib.hid (by omega)
  rw [hg] at hB ⊢
  clear hg
  have HGb3 : Hid (w.heap.size ≤ w.heap.size) := Lib.hid (Nat.le_refl _)
  have B := Lib.hid hB
  have BL := Lib.hid hL
  clear hB hL
  -- region 1
  go_wp2_with fail
  refine (awakeV _ (HE.out.below BL.out)).mono ?_
  rintro e W2 ⟨rfl, hb⟩
  replace B := Lib.hid (B.out.below hb)
  replace BL := Lib.hid (below_then BL.out hb)
  clear hb
  go_upto_region 2 with fail
  -- region 2, a test
  obtain ⟨b0, h⟩ : ∃ b : Bool, (shortB (⟨xk, xn, xt⟩ : Vl)) = b := ⟨_, rfl⟩
  have HA0 := Lib.hid h
  clear h
  obtain ⟨b1, h⟩ : ∃ b : Bool, (shortB (⟨yk, yn, yt⟩ : Vl)) = b := ⟨_, rfl⟩
  have HA1 := Lib.hid h
  clear h
  obtain ⟨b2, h⟩ : ∃ b : Bool, (shortB (⟨zk, zn, zt⟩ : Vl)) = b := ⟨_, rfl⟩
  have HA2 := Lib.hid h
  clear h
  obtain ⟨c1, h⟩ : ∃ c : Bool, (((!b0) || (!b1)) || (!b2)) = c := ⟨_, rfl⟩
  have HCC := Lib.hid h
  clear h
  go_upto_region 2 with fail
  go_cut [37] from 25 to 37 (fun v wx => v = .bool c1 ∧ Hid (Bxs wx [(gb5, (⟨zk, zn, zt⟩ : Vl)), (gb4, (⟨yk, yn, yt⟩ : Vl)), (w.heap.size, (⟨xk, xn, xt⟩ : Vl))]) ∧ Hid (Below w.heap.size w wx))
  case first =>
    clear HL
    cases b0 with
    | true =>
      cases b1 with
      | true =>
        cases b2 with
        | true =>
          have cb3_0 : W2.cell? ⟨w.heap.size, 0, none⟩ = some (.int .i64 xk) := (B.out.get 2 rfl).c0
          have cb3_1 : W2.cell? ⟨w.heap.size, 1, none⟩ = some (.int .i64 xn) := (B.out.get 2 rfl).c1
          have cb3_2 : W2.cell? ⟨w.heap.size, 2, none⟩ = some (.string ⟨List.toArray xt⟩) := (B.out.get 2 rfl).c2
          have cb4_0 : W2.cell? ⟨gb4, 0, none⟩ = some (.int .i64 yk) := (B.out.get 1 rfl).c0
          have cb4_1 : W2.cell? ⟨gb4, 1, none⟩ = some (.int .i64 yn) := (B.out.get 1 rfl).c1
          have cb4_2 : W2.cell? ⟨gb4, 2, none⟩ = some (.string ⟨List.toArray yt⟩) := (B.out.get 1 rfl).c2
          have cb5_0 : W2.cell? ⟨gb5, 0, none⟩ = some (.int .i64 zk) := (B.out.get 0 rfl).c0
          have cb5_1 : W2.cell? ⟨gb5, 1, none⟩ = some (.int .i64 zn) := (B.out.get 0 rfl).c1
          have cb5_2 : W2.cell? ⟨gb5, 2, none⟩ = some (.string ⟨List.toArray zt⟩) := (B.out.get 0 rfl).c2
          go_wp2_with fail
          refine (short_calls xk xn xt HIx.out.2 _).mono ?_
          rw [HA0.out]
          rintro e W3 ⟨rfl, hb⟩
          clear cb3_0 cb3_1 cb3_2 cb4_0 cb4_1 cb4_2 cb5_0 cb5_1 cb5_2
          replace B := Lib.hid (B.out.below hb)
          replace BL := Lib.hid (below_then BL.out hb)
          clear hb
          have cb3_0 : W3.cell? ⟨w.heap.size, 0, none⟩ = some (.int .i64 xk) := (B.out.get 2 rfl).c0
          have cb3_1 : W3.cell? ⟨w.heap.size, 1, none⟩ = some (.int .i64 xn) := (B.out.get 2 rfl).c1
          have cb3_2 : W3.cell? ⟨w.heap.size, 2, none⟩ = some (.string ⟨List.toArray xt⟩) := (B.out.get 2 rfl).c2
          have cb4_0 : W3.cell? ⟨gb4, 0, none⟩ = some (.int .i64 yk) := (B.out.get 1 rfl).c0
          have cb4_1 : W3.cell? ⟨gb4, 1, none⟩ = some (.int .i64 yn) := (B.out.get 1 rfl).c1
          have cb4_2 : W3.cell? ⟨gb4, 2, none⟩ = some (.string ⟨List.toArray yt⟩) := (B.out.get 1 rfl).c2
          have cb5_0 : W3.cell? ⟨gb5, 0, none⟩ = some (.int .i64 zk) := (B.out.get 0 rfl).c0
          have cb5_1 : W3.cell? ⟨gb5, 1, none⟩ = some (.int .i64 zn) := (B.out.get 0 rfl).c1
          have cb5_2 : W3.cell? ⟨gb5, 2, none⟩ = some (.string ⟨List.toArray zt⟩) := (B.out.get 0 rfl).c2
          go_wp2_with fail
          refine (short_calls yk yn yt HIy.out.2 _).mono ?_
          rw [HA1.out]
          rintro e W4 ⟨rfl, hb⟩
          clear cb3_0 cb3_1 cb3_2 cb4_0 cb4_1 cb4_2 cb5_0 cb5_1 cb5_2
          replace B := Lib.hid (B.out.below hb)
          replace BL := Lib.hid (below_then BL.out hb)
          clear hb
          have cb3_0 : W4.cell? ⟨w.heap.size, 0, none⟩ = some (.int .i64 xk) := (B.out.get 2 rfl).c0
          have cb3_1 : W4.cell? ⟨w.heap.size, 1, none⟩ = some (.int .i64 xn) := (B.out.get 2 rfl).c1
          have cb3_2 : W4.cell? ⟨w.heap.size, 2, none⟩ = some (.string ⟨List.toArray xt⟩) := (B.out.get 2 rfl).c2
          have cb4_0 : W4.cell? ⟨gb4, 0, none⟩ = some (.int .i64 yk) := (B.out.get 1 rfl).c0
          have cb4_1 : W4.cell? ⟨gb4, 1, none⟩ = some (.int .i64 yn) := (B.out.get 1 rfl).c1
          have cb4_2 : W4.cell? ⟨gb4, 2, none⟩ = some (.string ⟨List.toArray yt⟩) := (B.out.get 1 rfl).c2
          have cb5_0 : W4.cell? ⟨gb5, 0, none⟩ = some (.int .i64 zk) := (B.out.get 0 rfl).c0
          have cb5_1 : W4.cell? ⟨gb5, 1, none⟩ = some (.int .i64 zn) := (B.out.get 0 rfl).c1
          have cb5_2 : W4.cell? ⟨gb5, 2, none⟩ = some (.string ⟨List.toArray zt⟩) := (B.out.get 0 rfl).c2
          go_wp2_with fail
          refine (short_calls zk zn zt HIz.out.2 _).mono ?_
          rw [HA2.out]
          rintro e W5 ⟨rfl, hb⟩
          clear cb3_0 cb3_1 cb3_2 cb4_0 cb4_1 cb4_2 cb5_0 cb5_1 cb5_2
          replace B := Lib.hid (B.out.below hb)
          replace BL := Lib.hid (below_then BL.out hb)
          clear hb
          have cb3_0 : W5.cell? ⟨w.heap.size, 0, none⟩ = some (.int .i64 xk) := (B.out.get 2 rfl).c0
          have cb3_1 : W5.cell? ⟨w.heap.size, 1, none⟩ = some (.int .i64 xn) := (B.out.get 2 rfl).c1
          have cb3_2 : W5.cell? ⟨w.heap.size, 2, none⟩ = some (.string ⟨List.toArray xt⟩) := (B.out.get 2 rfl).c2
          have cb4_0 : W5.cell? ⟨gb4, 0, none⟩ = some (.int .i64 yk) := (B.out.get 1 rfl).c0
          have cb4_1 : W5.cell? ⟨gb4, 1, none⟩ = some (.int .i64 yn) := (B.out.get 1 rfl).c1
          have cb4_2 : W5.cell? ⟨gb4, 2, none⟩ = some (.string ⟨List.toArray yt⟩) := (B.out.get 1 rfl).c2
          have cb5_0 : W5.cell? ⟨gb5, 0, none⟩ = some (.int .i64 zk) := (B.out.get 0 rfl).c0
          have cb5_1 : W5.cell? ⟨gb5, 1, none⟩ = some (.int .i64 zn) := (B.out.get 0 rfl).c1
          have cb5_2 : W5.cell? ⟨gb5, 2, none⟩ = some (.string ⟨List.toArray zt⟩) := (B.out.get 0 rfl).c2
          go_wp2_with fail
          go_meet
          exact ⟨congrArg Value.bool HCC.out, B, BL⟩
        | false =>
          have cb3_0 : W2.cell? ⟨w.heap.size, 0, none⟩ = some (.int .i64 xk) := (B.out.get 2 rfl).c0
          have cb3_1 : W2.cell? ⟨w.heap.size, 1, none⟩ = some (.int .i64 xn) := (B.out.get 2 rfl).c1
          have cb3_2 : W2.cell? ⟨w.heap.size, 2, none⟩ = some (.string ⟨List.toArray xt⟩) := (B.out.get 2 rfl).c2
          have cb4_0 : W2.cell? ⟨gb4, 0, none⟩ = some (.int .i64 yk) := (B.out.get 1 rfl).c0
          have cb4_1 : W2.cell? ⟨gb4, 1, none⟩ = some (.int .i64 yn) := (B.out.get 1 rfl).c1
          have cb4_2 : W2.cell? ⟨gb4, 2, none⟩ = some (.string ⟨List.toArray yt⟩) := (B.out.get 1 rfl).c2
          have cb5_0 : W2.cell? ⟨gb5, 0, none⟩ = some (.int .i64 zk) := (B.out.get 0 rfl).c0
          have cb5_1 : W2.cell? ⟨gb5, 1, none⟩ = some (.int .i64 zn) := (B.out.get 0 rfl).c1
          have cb5_2 : W2.cell? ⟨gb5, 2, none⟩ = some (.string ⟨List.toArray zt⟩) := (B.out.get 0 rfl).c2
          go_wp2_with fail
          refine (short_calls xk xn xt HIx.out.2 _).mono ?_
          rw [HA0.out]
          rintro e W6 ⟨rfl, hb⟩
          clear cb3_0 cb3_1 cb3_2 cb4_0 cb4_1 cb4_2 cb5_0 cb5_1 cb5_2
          replace B := Lib.hid (B.out.below hb)
          replace BL := Lib.hid (below_then BL.out hb)
          clear hb
          have cb3_0 : W6.cell? ⟨w.heap.size, 0, none⟩ = some (.int .i64 xk) := (B.out.get 2 rfl).c0
          have cb3_1 : W6.cell? ⟨w.heap.size, 1, none⟩ = some (.int .i64 xn) := (B.out.get 2 rfl).c1
          have cb3_2 : W6.cell? ⟨w.heap.size, 2, none⟩ = some (.string ⟨List.toArray xt⟩) := (B.out.get 2 rfl).c2
          have cb4_0 : W6.cell? ⟨gb4, 0, none⟩ = some (.int .i64 yk) := (B.out.get 1 rfl).c0
          have cb4_1 : W6.cell? ⟨gb4, 1, none⟩ = some (.int .i64 yn) := (B.out.get 1 rfl).c1
          have cb4_2 : W6.cell? ⟨gb4, 2, none⟩ = some (.string ⟨List.toArray yt⟩) := (B.out.get 1 rfl).c2
          have cb5_0 : W6.cell? ⟨gb5, 0, none⟩ = some (.int .i64 zk) := (B.out.get 0 rfl).c0
          have cb5_1 : W6.cell? ⟨gb5, 1, none⟩ = some (.int .i64 zn) := (B.out.get 0 rfl).c1
          have cb5_2 : W6.cell? ⟨gb5, 2, none⟩ = some (.string ⟨List.toArray zt⟩) := (B.out.get 0 rfl).c2
          go_wp2_with fail
          refine (short_calls yk yn yt HIy.out.2 _).mono ?_
          rw [HA1.out]
          rintro e W7 ⟨rfl, hb⟩
          clear cb3_0 cb3_1 cb3_2 cb4_0 cb4_1 cb4_2 cb5_0 cb5_1 cb5_2
          replace B := Lib.hid (B.out.below hb)
          replace BL := Lib.hid (below_then BL.out hb)
          clear hb
          have cb3_0 : W7.cell? ⟨w.heap.size, 0, none⟩ = some (.int .i64 xk) := (B.out.get 2 rfl).c0
          have cb3_1 : W7.cell? ⟨w.heap.size, 1, none⟩ = some (.int .i64 xn) := (B.out.get 2 rfl).c1
          have cb3_2 : W7.cell? ⟨w.heap.size, 2, none⟩ = some (.string ⟨List.toArray xt⟩) := (B.out.get 2 rfl).c2
          have cb4_0 : W7.cell? ⟨gb4, 0, none⟩ = some (.int .i64 yk) := (B.out.get 1 rfl).c0
          have cb4_1 : W7.cell? ⟨gb4, 1, none⟩ = some (.int .i64 yn) := (B.out.get 1 rfl).c1
          have cb4_2 : W7.cell? ⟨gb4, 2, none⟩ = some (.string ⟨List.toArray yt⟩) := (B.out.get 1 rfl).c2
          have cb5_0 : W7.cell? ⟨gb5, 0, none⟩ = some (.int .i64 zk) := (B.out.get 0 rfl).c0
          have cb5_1 : W7.cell? ⟨gb5, 1, none⟩ = some (.int .i64 zn) := (B.out.get 0 rfl).c1
          have cb5_2 : W7.cell? ⟨gb5, 2, none⟩ = some (.string ⟨List.toArray zt⟩) := (B.out.get 0 rfl).c2
          go_wp2_with fail
          refine (short_calls zk zn zt HIz.out.2 _).mono ?_
          rw [HA2.out]
          rintro e W8 ⟨rfl, hb⟩
          clear cb3_0 cb3_1 cb3_2 cb4_0 cb4_1 cb4_2 cb5_0 cb5_1 cb5_2
          replace B := Lib.hid (B.out.below hb)
          replace BL := Lib.hid (below_then BL.out hb)
          clear hb
          have cb3_0 : W8.cell? ⟨w.heap.size, 0, none⟩ = some (.int .i64 xk) := (B.out.get 2 rfl).c0
          have cb3_1 : W8.cell? ⟨w.heap.size, 1, none⟩ = some (.int .i64 xn) := (B.out.get 2 rfl).c1
          have cb3_2 : W8.cell? ⟨w.heap.size, 2, none⟩ = some (.string ⟨List.toArray xt⟩) := (B.out.get 2 rfl).c2
          have cb4_0 : W8.cell? ⟨gb4, 0, none⟩ = some (.int .i64 yk) := (B.out.get 1 rfl).c0
          have cb4_1 : W8.cell? ⟨gb4, 1, none⟩ = some (.int .i64 yn) := (B.out.get 1 rfl).c1
          have cb4_2 : W8.cell? ⟨gb4, 2, none⟩ = some (.string ⟨List.toArray yt⟩) := (B.out.get 1 rfl).c2
          have cb5_0 : W8.cell? ⟨gb5, 0, none⟩ = some (.int .i64 zk) := (B.out.get 0 rfl).c0
          have cb5_1 : W8.cell? ⟨gb5, 1, none⟩ = some (.int .i64 zn) := (B.out.get 0 rfl).c1
          have cb5_2 : W8.cell? ⟨gb5, 2, none⟩ = some (.string ⟨List.toArray zt⟩) := (B.out.get 0 rfl).c2
          go_wp2_with fail
          go_meet
          exact ⟨congrArg Value.bool HCC.out, B, BL⟩
      | false =>
        have cb3_0 : W2.cell? ⟨w.heap.size, 0, none⟩ = some (.int .i64 xk) := (B.out.get 2 rfl).c0
        have cb3_1 : W2.cell? ⟨w.heap.size, 1, none⟩ = some (.int .i64 xn) := (B.out.get 2 rfl).c1
        have cb3_2 : W2.cell? ⟨w.heap.size, 2, none⟩ = some (.string ⟨List.toArray xt⟩) := (B.out.get 2 rfl).c2
        have cb4_0 : W2.cell? ⟨gb4, 0, none⟩ = some (.int .i64 yk) := (B.out.get 1 rfl).c0
        have cb4_1 : W2.cell? ⟨gb4, 1, none⟩ = some (.int .i64 yn) := (B.out.get 1 rfl).c1
        have cb4_2 : W2.cell? ⟨gb4, 2, none⟩ = some (.string ⟨List.toArray yt⟩) := (B.out.get 1 rfl).c2
        go_wp2_with fail
        refine (short_calls xk xn xt HIx.out.2 _).mono ?_
        rw [HA0.out]
        rintro e W9 ⟨rfl, hb⟩
        clear cb3_0 cb3_1 cb3_2 cb4_0 cb4_1 cb4_2
        replace B := Lib.hid (B.out.below hb)
        replace BL := Lib.hid (below_then BL.out hb)
        clear hb
        have cb3_0 : W9.cell? ⟨w.heap.size, 0, none⟩ = some (.int .i64 xk) := (B.out.get 2 rfl).c0
        have cb3_1 : W9.cell? ⟨w.heap.size, 1, none⟩ = some (.int .i64 xn) := (B.out.get 2 rfl).c1
        have cb3_2 : W9.cell? ⟨w.heap.size, 2, none⟩ = some (.string ⟨List.toArray xt⟩) := (B.out.get 2 rfl).c2
        have cb4_0 : W9.cell? ⟨gb4, 0, none⟩ = some (.int .i64 yk) := (B.out.get 1 rfl).c0
        have cb4_1 : W9.cell? ⟨gb4, 1, none⟩ = some (.int .i64 yn) := (B.out.get 1 rfl).c1
        have cb4_2 : W9.cell? ⟨gb4, 2, none⟩ = some (.string ⟨List.toArray yt⟩) := (B.out.get 1 rfl).c2
        go_wp2_with fail
        refine (short_calls yk yn yt HIy.out.2 _).mono ?_
        rw [HA1.out]
        rintro e W10 ⟨rfl, hb⟩
        clear cb3_0 cb3_1 cb3_2 cb4_0 cb4_1 cb4_2
        replace B := Lib.hid (B.out.below hb)
        replace BL := Lib.hid (below_then BL.out hb)
        clear hb
        have cb3_0 : W10.cell? ⟨w.heap.size, 0, none⟩ = some (.int .i64 xk) := (B.out.get 2 rfl).c0
        have cb3_1 : W10.cell? ⟨w.heap.size, 1, none⟩ = some (.int .i64 xn) := (B.out.get 2 rfl).c1
        have cb3_2 : W10.cell? ⟨w.heap.size, 2, none⟩ = some (.string ⟨List.toArray xt⟩) := (B.out.get 2 rfl).c2
        have cb4_0 : W10.cell? ⟨gb4, 0, none⟩ = some (.int .i64 yk) := (B.out.get 1 rfl).c0
        have cb4_1 : W10.cell? ⟨gb4, 1, none⟩ = some (.int .i64 yn) := (B.out.get 1 rfl).c1
        have cb4_2 : W10.cell? ⟨gb4, 2, none⟩ = some (.string ⟨List.toArray yt⟩) := (B.out.get 1 rfl).c2
        go_wp2_with fail
        go_meet
        exact ⟨congrArg Value.bool HCC.out, B, BL⟩
    | false =>
      have cb3_0 : W2.cell? ⟨w.heap.size, 0, none⟩ = some (.int .i64 xk) := (B.out.get 2 rfl).c0
      have cb3_1 : W2.cell? ⟨w.heap.size, 1, none⟩ = some (.int .i64 xn) := (B.out.get 2 rfl).c1
      have cb3_2 : W2.cell? ⟨w.heap.size, 2, none⟩ = some (.string ⟨List.toArray xt⟩) := (B.out.get 2 rfl).c2
      go_wp2_with fail
      refine (short_calls xk xn xt HIx.out.2 _).mono ?_
      rw [HA0.out]
      rintro e W11 ⟨rfl, hb⟩
      clear cb3_0 cb3_1 cb3_2
      replace B := Lib.hid (B.out.below hb)
      replace BL := Lib.hid (below_then BL.out hb)
      clear hb
      have cb3_0 : W11.cell? ⟨w.heap.size, 0, none⟩ = some (.int .i64 xk) := (B.out.get 2 rfl).c0
      have cb3_1 : W11.cell? ⟨w.heap.size, 1, none⟩ = some (.int .i64 xn) := (B.out.get 2 rfl).c1
      have cb3_2 : W11.cell? ⟨w.heap.size, 2, none⟩ = some (.string ⟨List.toArray xt⟩) := (B.out.get 2 rfl).c2
      go_wp2_with fail
      go_meet
      exact ⟨congrArg Value.bool HCC.out, B, BL⟩
  case rest =>
    clear B BL
    obtain ⟨rfl, B, BL⟩ := hcut
    obtain ⟨W12, hW⟩ : ∃ X, wc = X := ⟨_, rfl⟩
    rw [hW] at B BL ⊢
    clear hW
    have HCW : Hid ((((!(shortB (⟨xk, xn, xt⟩ : Vl))) || (!(shortB (⟨yk, yn, yt⟩ : Vl)))) || (!(shortB (⟨zk, zn, zt⟩ : Vl)))) = c1) := Lib.hid (by rw [HA0.out, HA1.out, HA2.out]; exact HCC.out)
    clear HCC HA0 HA1 HA2
    cases c1 with
    | true =>
      replace HL := Lib.hid (show true = BigDivisors_s0 (⟨xk, xn, xt⟩ : Vl) (⟨yk, yn, yt⟩ : Vl) (⟨zk, zn, zt⟩ : Vl) from HL.out.trans (if_pos HCW.out))
      go_wp2_with fail
      go_ret
      exact ⟨rfl, BL.out⟩
    | false =>
      have HOx : Hid (Vl.ok (⟨xk, xn, xt⟩ : Vl)) := Lib.hid ⟨HIx.out.1, by have h := HCW.out; simp [shortB] at h; show xt.length ≤ 100000; omega⟩
      have HOy : Hid (Vl.ok (⟨yk, yn, yt⟩ : Vl)) := Lib.hid ⟨HIy.out.1, by have h := HCW.out; simp [shortB] at h; show yt.length ≤ 100000; omega⟩
      have HOz : Hid (Vl.ok (⟨zk, zn, zt⟩ : Vl)) := Lib.hid ⟨HIz.out.1, by have h := HCW.out; simp [shortB] at h; show zt.length ≤ 100000; omega⟩
      replace HL := Lib.hid (show true = BigDivisors_s27 (⟨xk, xn, xt⟩ : Vl) (⟨yk, yn, yt⟩ : Vl) (⟨zk, zn, zt⟩ : Vl) from HL.out.trans ((if_neg (fun h => Bool.noConfusion (HCW.out.symm.trans h)))))
      -- region 4
      have cb3_0 : W12.cell? ⟨w.heap.size, 0, none⟩ = some (.int .i64 xk) := (B.out.get 2 rfl).c0
      have cb3_1 : W12.cell? ⟨w.heap.size, 1, none⟩ = some (.int .i64 xn) := (B.out.get 2 rfl).c1
      have cb3_2 : W12.cell? ⟨w.heap.size, 2, none⟩ = some (.string ⟨List.toArray xt⟩) := (B.out.get 2 rfl).c2
      have cb4_0 : W12.cell? ⟨gb4, 0, none⟩ = some (.int .i64 yk) := (B.out.get 1 rfl).c0
      have cb4_1 : W12.cell? ⟨gb4, 1, none⟩ = some (.int .i64 yn) := (B.out.get 1 rfl).c1
      have cb4_2 : W12.cell? ⟨gb4, 2, none⟩ = some (.string ⟨List.toArray yt⟩) := (B.out.get 1 rfl).c2
      obtain ⟨⟨⟨r0k, r0n, r0t⟩, r0e⟩, hr0⟩ : ∃ p, gcdR (⟨xk, xn, xt⟩ : Vl) (⟨yk, yn, yt⟩ : Vl) = p := ⟨_, rfl⟩
      have hc0 := fun (W : World) (hW : Env W) => gcd_pub (⟨xk, xn, xt⟩ : Vl) (⟨yk, yn, yt⟩ : Vl) HOx.out HOy.out W hW
      have ho0 := gcdR_ok (⟨xk, xn, xt⟩ : Vl) (⟨yk, yn, yt⟩ : Vl)
      rw [hr0] at hc0 ho0
      simp only [Vl.val, pr] at hc0
      have HC0 := Lib.hid hc0; have HOr0 : Hid (Vl.ok ⟨r0k, r0n, r0t⟩) := Lib.hid ho0; have HR0 := Lib.hid hr0
      clear hc0 ho0 hr0
      go_wp2_with fail
      refine (HC0.out _ (HE.out.below BL.out)).mono ?_
      rintro e W13 ⟨rfl, hb⟩
      clear cb3_0 cb3_1 cb3_2 cb4_0 cb4_1 cb4_2
      replace B := Lib.hid (B.out.below hb)
      replace BL := Lib.hid (below_then BL.out hb)
      clear hb
      go_upto_region 5 with fail
      have hB : Bxs (W13.alloc (.cells #[.int .i64 r0k, .int .i64 r0n, .string ⟨List.toArray r0t⟩] 23)) ((W13.heap.size, (⟨r0k, r0n, r0t⟩ : Vl)) :: [(gb5, (⟨zk, zn, zt⟩ : Vl)), (gb4, (⟨yk, yn, yt⟩ : Vl)), (w.heap.size, (⟨xk, xn, xt⟩ : Vl))]) := B.out.push (⟨r0k, r0n, r0t⟩ : Vl) 23
      have hL : Below w.heap.size w (W13.alloc (.cells #[.int .i64 r0k, .int .i64 r0n, .string ⟨List.toArray r0t⟩] 23)) := BL.out.alloc BL.out.size _
      obtain ⟨W14, hW⟩ : ∃ X, W13.alloc (.cells #[.int .i64 r0k, .int .i64 r0n, .string ⟨List.toArray r0t⟩] 23) = X := ⟨_, rfl⟩
      obtain ⟨g0, hg⟩ : ∃ g, W13.heap.size = g := ⟨_, rfl⟩
      rw [hW] at hB hL ⊢
      rw [hg] at hB ⊢
      have HGb8_4_1 : Hid (w.heap.size ≤ g0) := Lib.hid (by rw [← hg]; exact BL.out.size)
      replace B := Lib.hid hB
      replace BL := Lib.hid hL
      clear hB hL hW hg
      replace HL := Lib.hid (show true = BigDivisors_s26 (⟨xk, xn, xt⟩ : Vl) (⟨yk, yn, yt⟩ : Vl) (⟨zk, zn, zt⟩ : Vl) ((⟨r0k, r0n, r0t⟩, r0e) : Vl × Int) from HL.out.trans (by unfold BigDivisors_s27; rw [HR0.out]))
      -- region 5, a test
      obtain ⟨b3, h⟩ : ∃ b : Bool, (r0e == 0) = b := ⟨_, rfl⟩
      have HA3 := Lib.hid h
      clear h
      obtain ⟨c3, h⟩ : ∃ c : Bool, (!b3) = c := ⟨_, rfl⟩
      have HCC := Lib.hid h
      clear h
      go_upto_region 5 with fail
      go_cut [46] from 45 to 46 (fun v wx => v = .bool c3 ∧ Hid (Bxs wx [(g0, (⟨r0k, r0n, r0t⟩ : Vl)), (gb5, (⟨zk, zn, zt⟩ : Vl)), (gb4, (⟨yk, yn, yt⟩ : Vl)), (w.heap.size, (⟨xk, xn, xt⟩ : Vl))]) ∧ Hid (Below w.heap.size w wx))
      case first =>
        clear HL
        cases b3 with
        | true =>
          have f0_0 : ((r0e : Int) == 0) = true := HA3.out
          have f0_1 : ((r0e : Int) != 0) = false := by have h := HA3.out; simpa using h
          go_wp2_with fail
          go_meet
          exact ⟨congrArg Value.bool HCC.out, B, BL⟩
        | false =>
          have f0_0 : ((r0e : Int) == 0) = false := HA3.out
          have f0_1 : ((r0e : Int) != 0) = true := by have h := HA3.out; simpa using h
          go_wp2_with fail
          go_meet
          exact ⟨congrArg Value.bool HCC.out, B, BL⟩
      case rest =>
        clear B BL
        obtain ⟨rfl, B, BL⟩ := hcut
        obtain ⟨W15, hW⟩ : ∃ X, wc = X := ⟨_, rfl⟩
        rw [hW] at B BL ⊢
        clear hW
        have HCW : Hid ((!(r0e == 0)) = c3) := Lib.hid (by rw [HA3.out]; exact HCC.out)
        clear HCC HA3
        cases c3 with
        | true =>
          replace HL := Lib.hid (show true = BigDivisors_s1 (⟨xk, xn, xt⟩ : Vl) (⟨yk, yn, yt⟩ : Vl) (⟨zk, zn, zt⟩ : Vl) ((⟨r0k, r0n, r0t⟩, r0e) : Vl × Int) from HL.out.trans (if_pos HCW.out))
          -- region 6, the end
          obtain ⟨b4, h⟩ : ∃ b : Bool, (r0e == 31) = b := ⟨_, rfl⟩
          have HA4 := Lib.hid h
          clear h
          obtain ⟨b5, h⟩ : ∃ b : Bool, (r0e == 2) = b := ⟨_, rfl⟩
          have HA5 := Lib.hid h
          clear h
          cases b4 with
          | true =>
            clear HL
            have f0_0 : ((r0e : Int) == 31) = true := HA4.out
            have f0_1 : ((r0e : Int) != 31) = false := by have h := HA4.out; simpa using h
            go_wp2_with fail
            go_ret
            exact ⟨rfl, BL.out⟩
          | false =>
            cases b5 with
            | true =>
              clear HL
              have f0_0 : ((r0e : Int) == 31) = false := HA4.out
              have f0_1 : ((r0e : Int) != 31) = true := by have h := HA4.out; simpa using h
              have f1_0 : ((r0e : Int) == 2) = true := HA5.out
              have f1_1 : ((r0e : Int) != 2) = false := by have h := HA5.out; simpa using h
              go_wp2_with fail
              go_ret
              exact ⟨rfl, BL.out⟩
            | false =>
              exact Bool.noConfusion (show true = false from HL.out.trans (by show (true && ((r0e == 31) || (r0e == 2))) = false; rw [HA4.out, HA5.out]; rfl))
        | false =>
          replace HL := Lib.hid (show true = BigDivisors_s25 (⟨xk, xn, xt⟩ : Vl) (⟨yk, yn, yt⟩ : Vl) (⟨zk, zn, zt⟩ : Vl) ((⟨r0k, r0n, r0t⟩, r0e) : Vl × Int) from HL.out.trans ((if_neg (fun h => Bool.noConfusion (HCW.out.symm.trans h)))))
          -- region 7, a test
          obtain ⟨b6, h⟩ : ∃ b : Bool, (negB (⟨r0k, r0n, r0t⟩ : Vl)) = b := ⟨_, rfl⟩
          have HA6 := Lib.hid h
          clear h
          obtain ⟨b7, h⟩ : ∃ b : Bool, (veqB r0k r0n r0t 1 0 []) = b := ⟨_, rfl⟩
          have HA7 := Lib.hid h
          clear h
          obtain ⟨b8, h⟩ : ∃ b : Bool, (veqB xk xn xt 1 0 []) = b := ⟨_, rfl⟩
          have HA8 := Lib.hid h
          clear h
          obtain ⟨b9, h⟩ : ∃ b : Bool, (veqB yk yn yt 1 0 []) = b := ⟨_, rfl⟩
          have HA9 := Lib.hid h
          clear h
          have HCF : ((negB (⟨r0k, r0n, r0t⟩ : Vl)) || ((veqB r0k r0n r0t 1 0 []) != ((veqB xk xn xt 1 0 []) && (veqB yk yn yt 1 0 [])))) = false := Bool.eq_false_iff.2 fun h => Bool.noConfusion (show true = false from HL.out.trans (if_pos h))
          have HCB : (b6 || (b7 != (b8 && b9))) = false := by
            have h := HCF
            rw [HA6.out, HA7.out, HA8.out, HA9.out] at h
            exact h
          have HCW := Lib.hid HCF
          have HCC := Lib.hid HCB
          clear HCF HCB
          go_upto_region 7 with fail
          go_cut [71] from 56 to 71 (fun v wx => v = .bool false ∧ Hid (Bxs wx [(g0, (⟨r0k, r0n, r0t⟩ : Vl)), (gb5, (⟨zk, zn, zt⟩ : Vl)), (gb4, (⟨yk, yn, yt⟩ : Vl)), (w.heap.size, (⟨xk, xn, xt⟩ : Vl))]) ∧ Hid (Below w.heap.size w wx))
          case first =>
            clear HL
            cases b6 with
            | true =>
              exact Bool.noConfusion (show true = false from HCC.out)
            | false =>
              cases b7 with
              | true =>
                cases b8 with
                | true =>
                  cases b9 with
                  | true =>
                    have f1_0 : (veqB r0k r0n r0t 1 0 []) = true := HA7.out
                    have f2_0 : (veqB xk xn xt 1 0 []) = true := HA8.out
                    have f3_0 : (veqB yk yn yt 1 0 []) = true := HA9.out
                    refine wp_region_noPanic ?_
                    refine region_late (fun (X : World) => X.cell? ⟨g0, 0, none⟩ = some (.int .i64 r0k) ∧ X.cell? ⟨g0, 1, none⟩ = some (.int .i64 r0n) ∧ X.cell? ⟨g0, 2, none⟩ = some (.string ⟨List.toArray r0t⟩) ∧ X.cell? ⟨w.heap.size, 0, none⟩ = some (.int .i64 xk) ∧ X.cell? ⟨w.heap.size, 1, none⟩ = some (.int .i64 xn) ∧ X.cell? ⟨w.heap.size, 2, none⟩ = some (.string ⟨List.toArray xt⟩) ∧ X.cell? ⟨gb4, 0, none⟩ = some (.int .i64 yk) ∧ X.cell? ⟨gb4, 1, none⟩ = some (.int .i64 yn) ∧ X.cell? ⟨gb4, 2, none⟩ = some (.string ⟨List.toArray yt⟩)) (fun _ => false) (by kernel_rfl) ?_
                    have hb := (Below.refl W15.heap.size W15).drew
                    obtain ⟨W16, hW⟩ : ∃ X, W15.drew = X := ⟨_, rfl⟩
                    rw [hW] at hb ⊢
                    clear hW
                    replace B := Lib.hid (B.out.below hb)
                    replace BL := Lib.hid (below_then BL.out hb)
                    clear hb
                    have hHeld : W16.cell? ⟨g0, 0, none⟩ = some (.int .i64 r0k) ∧ W16.cell? ⟨g0, 1, none⟩ = some (.int .i64 r0n) ∧ W16.cell? ⟨g0, 2, none⟩ = some (.string ⟨List.toArray r0t⟩) ∧ W16.cell? ⟨w.heap.size, 0, none⟩ = some (.int .i64 xk) ∧ W16.cell? ⟨w.heap.size, 1, none⟩ = some (.int .i64 xn) ∧ W16.cell? ⟨w.heap.size, 2, none⟩ = some (.string ⟨List.toArray xt⟩) ∧ W16.cell? ⟨gb4, 0, none⟩ = some (.int .i64 yk) ∧ W16.cell? ⟨gb4, 1, none⟩ = some (.int .i64 yn) ∧ W16.cell? ⟨gb4, 2, none⟩ = some (.string ⟨List.toArray yt⟩) := ⟨(B.out.get 0 rfl).c0, (B.out.get 0 rfl).c1, (B.out.get 0 rfl).c2, (B.out.get 3 rfl).c0, (B.out.get 3 rfl).c1, (B.out.get 3 rfl).c2, (B.out.get 2 rfl).c0, (B.out.get 2 rfl).c1, (B.out.get 2 rfl).c2⟩
                    refine late_take_at (some 56) (i := 0) (v := (.agg #[.int .i64 r0k, .int .i64 r0n, .string ⟨List.toArray r0t⟩])) rfl rfl rfl (by kernel_rfl) (by kernel_rfl) (by kernel_rfl) (by kernel_rfl) (fun _ _ _ h => h) clean_none (Or.inl ⟨by rfl, by intro w hSw; go_split_ands; go_simp⟩) hHeld ?_
                    try simp only [Act.put, List.setIfInBounds_toArray, List.set_cons_zero, List.set_cons_succ]
                    refine late_ready (rs := [1]) (by kernel_rfl) (by simp) ?_
                    refine AllLate.cons rfl (fun K hK => ?_) ?_
                    · skip
                      go_simp
                      refine (negative_calls r0k r0n r0t (Nat.le_trans HOr0.out.t (by decide)) _).mono ?_
                      rw [HA6.out]
                      rintro e W17 ⟨rfl, hb⟩
                      clear hHeld
                      replace B := Lib.hid (B.out.below hb)
                      replace BL := Lib.hid (below_then BL.out hb)
                      clear hb
                      have hHeld : W17.cell? ⟨g0, 0, none⟩ = some (.int .i64 r0k) ∧ W17.cell? ⟨g0, 1, none⟩ = some (.int .i64 r0n) ∧ W17.cell? ⟨g0, 2, none⟩ = some (.string ⟨List.toArray r0t⟩) ∧ W17.cell? ⟨w.heap.size, 0, none⟩ = some (.int .i64 xk) ∧ W17.cell? ⟨w.heap.size, 1, none⟩ = some (.int .i64 xn) ∧ W17.cell? ⟨w.heap.size, 2, none⟩ = some (.string ⟨List.toArray xt⟩) ∧ W17.cell? ⟨gb4, 0, none⟩ = some (.int .i64 yk) ∧ W17.cell? ⟨gb4, 1, none⟩ = some (.int .i64 yn) ∧ W17.cell? ⟨gb4, 2, none⟩ = some (.string ⟨List.toArray yt⟩) := ⟨(B.out.get 0 rfl).c0, (B.out.get 0 rfl).c1, (B.out.get 0 rfl).c2, (B.out.get 3 rfl).c0, (B.out.get 3 rfl).c1, (B.out.get 3 rfl).c2, (B.out.get 2 rfl).c0, (B.out.get 2 rfl).c1, (B.out.get 2 rfl).c2⟩
                      dsimp only
                      refine hK.out _ _ (fun _ => hHeld) ?_
                      clear hK K
                      try simp only [Act.put, List.setIfInBounds_toArray, List.set_cons_zero, List.set_cons_succ]
                      refine late_pure_at (some 58) (i := 2) (v := (.bool false)) rfl rfl rfl (by kernel_rfl) (by kernel_rfl) (by kernel_rfl) (fun _ _ _ h => h) (Or.inl ⟨by rfl, by intro w _; go_simp⟩) (fun _ => hHeld) ?_
                      try simp only [Act.put, List.setIfInBounds_toArray, List.set_cons_zero, List.set_cons_succ]
                      refine late_take_at (some 59) (i := 3) (v := (.agg #[.int .i64 r0k, .int .i64 r0n, .string ⟨List.toArray r0t⟩])) rfl rfl rfl (by kernel_rfl) (by kernel_rfl) (by kernel_rfl) (by kernel_rfl) (fun _ _ _ h => h) clean_none (Or.inl ⟨by rfl, by intro w hSw; go_split_ands; go_simp⟩) hHeld ?_
                      try simp only [Act.put, List.setIfInBounds_toArray, List.set_cons_zero, List.set_cons_succ]
                      refine late_take_at (some 62) (i := 6) (v := (.agg #[.int .i64 xk, .int .i64 xn, .string ⟨List.toArray xt⟩])) rfl rfl rfl (by kernel_rfl) (by kernel_rfl) (by kernel_rfl) (by kernel_rfl) (fun _ _ _ h => h) clean_none (Or.inl ⟨by rfl, by intro w hSw; go_split_ands; go_simp⟩) hHeld ?_
                      try simp only [Act.put, List.setIfInBounds_toArray, List.set_cons_zero, List.set_cons_succ]
                      refine late_ready (rs := [4]) (by kernel_rfl) (by simp) ?_
                      refine AllLate.cons rfl (fun K hK => ?_) ?_
                      · skip
                        go_simp
                        refine (num_calls 0 _).mono ?_
                        rintro e W18 ⟨rfl, hb⟩
                        clear hHeld
                        replace B := Lib.hid (B.out.below hb)
                        replace BL := Lib.hid (below_then BL.out hb)
                        clear hb
                        have hHeld : W18.cell? ⟨g0, 0, none⟩ = some (.int .i64 r0k) ∧ W18.cell? ⟨g0, 1, none⟩ = some (.int .i64 r0n) ∧ W18.cell? ⟨g0, 2, none⟩ = some (.string ⟨List.toArray r0t⟩) ∧ W18.cell? ⟨w.heap.size, 0, none⟩ = some (.int .i64 xk) ∧ W18.cell? ⟨w.heap.size, 1, none⟩ = some (.int .i64 xn) ∧ W18.cell? ⟨w.heap.size, 2, none⟩ = some (.string ⟨List.toArray xt⟩) ∧ W18.cell? ⟨gb4, 0, none⟩ = some (.int .i64 yk) ∧ W18.cell? ⟨gb4, 1, none⟩ = some (.int .i64 yn) ∧ W18.cell? ⟨gb4, 2, none⟩ = some (.string ⟨List.toArray yt⟩) := ⟨(B.out.get 0 rfl).c0, (B.out.get 0 rfl).c1, (B.out.get 0 rfl).c2, (B.out.get 3 rfl).c0, (B.out.get 3 rfl).c1, (B.out.get 3 rfl).c2, (B.out.get 2 rfl).c0, (B.out.get 2 rfl).c1, (B.out.get 2 rfl).c2⟩
                        dsimp only
                        refine hK.out _ _ (fun _ => hHeld) ?_
                        clear hK K
                        try simp only [Act.put, List.setIfInBounds_toArray, List.set_cons_zero, List.set_cons_succ]
                        refine late_pure_at (some 61) (i := 5) (v := (.bool true)) rfl rfl rfl (by kernel_rfl) (by kernel_rfl) (by kernel_rfl) (fun _ _ _ h => h) (Or.inl ⟨by rfl, by intro w _; go_simp⟩) (fun _ => hHeld) ?_
                        try simp only [Act.put, List.setIfInBounds_toArray, List.set_cons_zero, List.set_cons_succ]
                        refine late_ready (rs := [7]) (by kernel_rfl) (by simp) ?_
                        refine AllLate.cons rfl (fun K hK => ?_) ?_
                        · skip
                          go_simp
                          refine (num_calls 0 _).mono ?_
                          rintro e W19 ⟨rfl, hb⟩
                          clear hHeld
                          replace B := Lib.hid (B.out.below hb)
                          replace BL := Lib.hid (below_then BL.out hb)
                          clear hb
                          have hHeld : W19.cell? ⟨g0, 0, none⟩ = some (.int .i64 r0k) ∧ W19.cell? ⟨g0, 1, none⟩ = some (.int .i64 r0n) ∧ W19.cell? ⟨g0, 2, none⟩ = some (.string ⟨List.toArray r0t⟩) ∧ W19.cell? ⟨w.heap.size, 0, none⟩ = some (.int .i64 xk) ∧ W19.cell? ⟨w.heap.size, 1, none⟩ = some (.int .i64 xn) ∧ W19.cell? ⟨w.heap.size, 2, none⟩ = some (.string ⟨List.toArray xt⟩) ∧ W19.cell? ⟨gb4, 0, none⟩ = some (.int .i64 yk) ∧ W19.cell? ⟨gb4, 1, none⟩ = some (.int .i64 yn) ∧ W19.cell? ⟨gb4, 2, none⟩ = some (.string ⟨List.toArray yt⟩) := ⟨(B.out.get 0 rfl).c0, (B.out.get 0 rfl).c1, (B.out.get 0 rfl).c2, (B.out.get 3 rfl).c0, (B.out.get 3 rfl).c1, (B.out.get 3 rfl).c2, (B.out.get 2 rfl).c0, (B.out.get 2 rfl).c1, (B.out.get 2 rfl).c2⟩
                          dsimp only
                          refine hK.out _ _ (fun _ => hHeld) ?_
                          clear hK K
                          try simp only [Act.put, List.setIfInBounds_toArray, List.set_cons_zero, List.set_cons_succ]
                          refine late_pure_at (some 64) (i := 8) (v := (.bool true)) rfl rfl rfl (by kernel_rfl) (by kernel_rfl) (by kernel_rfl) (fun _ _ _ h => h) (Or.inl ⟨by rfl, by intro w _; go_simp⟩) (fun _ => hHeld) ?_
                          try simp only [Act.put, List.setIfInBounds_toArray, List.set_cons_zero, List.set_cons_succ]
                          refine late_pure_at (some 65) (i := 9) (v := (.bool true)) rfl rfl rfl (by kernel_rfl) (by kernel_rfl) (by kernel_rfl) (fun _ _ _ h => h) (Or.inl ⟨by rfl, by intro w _; go_simp⟩) (fun _ => hHeld) ?_
                          try simp only [Act.put, List.setIfInBounds_toArray, List.set_cons_zero, List.set_cons_succ]
                          refine late_take_at (some 66) (i := 10) (v := (.agg #[.int .i64 yk, .int .i64 yn, .string ⟨List.toArray yt⟩])) rfl rfl rfl (by kernel_rfl) (by kernel_rfl) (by kernel_rfl) (by kernel_rfl) (fun _ _ _ h => h) clean_none (Or.inl ⟨by rfl, by intro w hSw; go_split_ands; go_simp⟩) hHeld ?_
                          try simp only [Act.put, List.setIfInBounds_toArray, List.set_cons_zero, List.set_cons_succ]
                          refine late_ready (rs := [11]) (by kernel_rfl) (by simp) ?_
                          refine AllLate.cons rfl (fun K hK => ?_) ?_
                          · skip
                            go_simp
                            refine (num_calls 0 _).mono ?_
                            rintro e W20 ⟨rfl, hb⟩
                            clear hHeld
                            replace B := Lib.hid (B.out.below hb)
                            replace BL := Lib.hid (below_then BL.out hb)
                            clear hb
                            have hHeld : W20.cell? ⟨g0, 0, none⟩ = some (.int .i64 r0k) ∧ W20.cell? ⟨g0, 1, none⟩ = some (.int .i64 r0n) ∧ W20.cell? ⟨g0, 2, none⟩ = some (.string ⟨List.toArray r0t⟩) ∧ W20.cell? ⟨w.heap.size, 0, none⟩ = some (.int .i64 xk) ∧ W20.cell? ⟨w.heap.size, 1, none⟩ = some (.int .i64 xn) ∧ W20.cell? ⟨w.heap.size, 2, none⟩ = some (.string ⟨List.toArray xt⟩) ∧ W20.cell? ⟨gb4, 0, none⟩ = some (.int .i64 yk) ∧ W20.cell? ⟨gb4, 1, none⟩ = some (.int .i64 yn) ∧ W20.cell? ⟨gb4, 2, none⟩ = some (.string ⟨List.toArray yt⟩) := ⟨(B.out.get 0 rfl).c0, (B.out.get 0 rfl).c1, (B.out.get 0 rfl).c2, (B.out.get 3 rfl).c0, (B.out.get 3 rfl).c1, (B.out.get 3 rfl).c2, (B.out.get 2 rfl).c0, (B.out.get 2 rfl).c1, (B.out.get 2 rfl).c2⟩
                            dsimp only
                            refine hK.out _ _ (fun _ => hHeld) ?_
                            clear hK K
                            try simp only [Act.put, List.setIfInBounds_toArray, List.set_cons_zero, List.set_cons_succ]
                            refine late_pure_at (some 68) (i := 12) (v := (.bool true)) rfl rfl rfl (by kernel_rfl) (by kernel_rfl) (by kernel_rfl) (fun _ _ _ h => h) (Or.inl ⟨by rfl, by intro w _; go_simp⟩) (fun _ => hHeld) ?_
                            try simp only [Act.put, List.setIfInBounds_toArray, List.set_cons_zero, List.set_cons_succ]
                            refine late_pure_at (some 69) (i := 13) (v := (.bool true)) rfl rfl rfl (by kernel_rfl) (by kernel_rfl) (by kernel_rfl) (fun _ _ _ h => h) (Or.inl ⟨by rfl, by intro w _; go_simp⟩) (fun _ => hHeld) ?_
                            try simp only [Act.put, List.setIfInBounds_toArray, List.set_cons_zero, List.set_cons_succ]
                            refine late_pure_at (some 70) (i := 14) (v := (.bool false)) rfl rfl rfl (by kernel_rfl) (by kernel_rfl) (by kernel_rfl) (fun _ _ _ h => h) (Or.inl ⟨by rfl, by intro w _; go_simp⟩) (fun _ => hHeld) ?_
                            try simp only [Act.put, List.setIfInBounds_toArray, List.set_cons_zero, List.set_cons_succ]
                            refine late_pure_at (some 71) (i := 15) (v := (.bool false)) rfl rfl rfl (by kernel_rfl) (by kernel_rfl) (by kernel_rfl) (fun _ _ _ h => h) (Or.inl ⟨by rfl, by intro w _; go_simp⟩) (fun _ => hHeld) ?_
                            try simp only [Act.put, List.setIfInBounds_toArray, List.set_cons_zero, List.set_cons_succ]
                            refine late_done (by kernel_rfl) ?_ _
                            refine NoPanic.normal ?_
                            go_wp2_with fail
                            go_meet
                            exact ⟨rfl, B, BL⟩
                          exact AllLate.nil
                        exact AllLate.nil
                      exact AllLate.nil
                    exact AllLate.nil
                  | false =>
                    exact Bool.noConfusion (show true = false from HCC.out)
                | false =>
                  exact Bool.noConfusion (show true = false from HCC.out)
              | false =>
                cases b8 with
                | true =>
                  cases b9 with
                  | true =>
                    exact Bool.noConfusion (show true = false from HCC.out)
                  | false =>
                    have f1_0 : (veqB r0k r0n r0t 1 0 []) = false := HA7.out
                    have f2_0 : (veqB xk xn xt 1 0 []) = true := HA8.out
                    have f3_0 : (veqB yk yn yt 1 0 []) = false := HA9.out
                    refine wp_region_noPanic ?_
                    refine region_late (fun (X : World) => X.cell? ⟨g0, 0, none⟩ = some (.int .i64 r0k) ∧ X.cell? ⟨g0, 1, none⟩ = some (.int .i64 r0n) ∧ X.cell? ⟨g0, 2, none⟩ = some (.string ⟨List.toArray r0t⟩) ∧ X.cell? ⟨w.heap.size, 0, none⟩ = some (.int .i64 xk) ∧ X.cell? ⟨w.heap.size, 1, none⟩ = some (.int .i64 xn) ∧ X.cell? ⟨w.heap.size, 2, none⟩ = some (.string ⟨List.toArray xt⟩) ∧ X.cell? ⟨gb4, 0, none⟩ = some (.int .i64 yk) ∧ X.cell? ⟨gb4, 1, none⟩ = some (.int .i64 yn) ∧ X.cell? ⟨gb4, 2, none⟩ = some (.string ⟨List.toArray yt⟩)) (fun _ => false) (by kernel_rfl) ?_
                    have hb := (Below.refl W15.heap.size W15).drew
                    obtain ⟨W21, hW⟩ : ∃ X, W15.drew = X := ⟨_, rfl⟩
                    rw [hW] at hb ⊢
                    clear hW
                    replace B := Lib.hid (B.out.below hb)
                    replace BL := Lib.hid (below_then BL.out hb)
                    clear hb
                    have hHeld : W21.cell? ⟨g0, 0, none⟩ = some (.int .i64 r0k) ∧ W21.cell? ⟨g0, 1, none⟩ = some (.int .i64 r0n) ∧ W21.cell? ⟨g0, 2, none⟩ = some (.string ⟨List.toArray r0t⟩) ∧ W21.cell? ⟨w.heap.size, 0, none⟩ = some (.int .i64 xk) ∧ W21.cell? ⟨w.heap.size, 1, none⟩ = some (.int .i64 xn) ∧ W21.cell? ⟨w.heap.size, 2, none⟩ = some (.string ⟨List.toArray xt⟩) ∧ W21.cell? ⟨gb4, 0, none⟩ = some (.int .i64 yk) ∧ W21.cell? ⟨gb4, 1, none⟩ = some (.int .i64 yn) ∧ W21.cell? ⟨gb4, 2, none⟩ = some (.string ⟨List.toArray yt⟩) := ⟨(B.out.get 0 rfl).c0, (B.out.get 0 rfl).c1, (B.out.get 0 rfl).c2, (B.out.get 3 rfl).c0, (B.out.get 3 rfl).c1, (B.out.get 3 rfl).c2, (B.out.get 2 rfl).c0, (B.out.get 2 rfl).c1, (B.out.get 2 rfl).c2⟩
                    refine late_take_at (some 56) (i := 0) (v := (.agg #[.int .i64 r0k, .int .i64 r0n, .string ⟨List.toArray r0t⟩])) rfl rfl rfl (by kernel_rfl) (by kernel_rfl) (by kernel_rfl) (by kernel_rfl) (fun _ _ _ h => h) clean_none (Or.inl ⟨by rfl, by intro w hSw; go_split_ands; go_simp⟩) hHeld ?_
                    try simp only [Act.put, List.setIfInBounds_toArray, List.set_cons_zero, List.set_cons_succ]
                    refine late_ready (rs := [1]) (by kernel_rfl) (by simp) ?_
                    refine AllLate.cons rfl (fun K hK => ?_) ?_
                    · skip
                      go_simp
                      refine (negative_calls r0k r0n r0t (Nat.le_trans HOr0.out.t (by decide)) _).mono ?_
                      rw [HA6.out]
                      rintro e W22 ⟨rfl, hb⟩
                      clear hHeld
                      replace B := Lib.hid (B.out.below hb)
                      replace BL := Lib.hid (below_then BL.out hb)
                      clear hb
                      have hHeld : W22.cell? ⟨g0, 0, none⟩ = some (.int .i64 r0k) ∧ W22.cell? ⟨g0, 1, none⟩ = some (.int .i64 r0n) ∧ W22.cell? ⟨g0, 2, none⟩ = some (.string ⟨List.toArray r0t⟩) ∧ W22.cell? ⟨w.heap.size, 0, none⟩ = some (.int .i64 xk) ∧ W22.cell? ⟨w.heap.size, 1, none⟩ = some (.int .i64 xn) ∧ W22.cell? ⟨w.heap.size, 2, none⟩ = some (.string ⟨List.toArray xt⟩) ∧ W22.cell? ⟨gb4, 0, none⟩ = some (.int .i64 yk) ∧ W22.cell? ⟨gb4, 1, none⟩ = some (.int .i64 yn) ∧ W22.cell? ⟨gb4, 2, none⟩ = some (.string ⟨List.toArray yt⟩) := ⟨(B.out.get 0 rfl).c0, (B.out.get 0 rfl).c1, (B.out.get 0 rfl).c2, (B.out.get 3 rfl).c0, (B.out.get 3 rfl).c1, (B.out.get 3 rfl).c2, (B.out.get 2 rfl).c0, (B.out.get 2 rfl).c1, (B.out.get 2 rfl).c2⟩
                      dsimp only
                      refine hK.out _ _ (fun _ => hHeld) ?_
                      clear hK K
                      try simp only [Act.put, List.setIfInBounds_toArray, List.set_cons_zero, List.set_cons_succ]
                      refine late_pure_at (some 58) (i := 2) (v := (.bool false)) rfl rfl rfl (by kernel_rfl) (by kernel_rfl) (by kernel_rfl) (fun _ _ _ h => h) (Or.inl ⟨by rfl, by intro w _; go_simp⟩) (fun _ => hHeld) ?_
                      try simp only [Act.put, List.setIfInBounds_toArray, List.set_cons_zero, List.set_cons_succ]
                      refine late_take_at (some 59) (i := 3) (v := (.agg #[.int .i64 r0k, .int .i64 r0n, .string ⟨List.toArray r0t⟩])) rfl rfl rfl (by kernel_rfl) (by kernel_rfl) (by kernel_rfl) (by kernel_rfl) (fun _ _ _ h => h) clean_none (Or.inl ⟨by rfl, by intro w hSw; go_split_ands; go_simp⟩) hHeld ?_
                      try simp only [Act.put, List.setIfInBounds_toArray, List.set_cons_zero, List.set_cons_succ]
                      refine late_take_at (some 62) (i := 6) (v := (.agg #[.int .i64 xk, .int .i64 xn, .string ⟨List.toArray xt⟩])) rfl rfl rfl (by kernel_rfl) (by kernel_rfl) (by kernel_rfl) (by kernel_rfl) (fun _ _ _ h => h) clean_none (Or.inl ⟨by rfl, by intro w hSw; go_split_ands; go_simp⟩) hHeld ?_
                      try simp only [Act.put, List.setIfInBounds_toArray, List.set_cons_zero, List.set_cons_succ]
                      refine late_ready (rs := [4]) (by kernel_rfl) (by simp) ?_
                      refine AllLate.cons rfl (fun K hK => ?_) ?_
                      · skip
                        go_simp
                        refine (num_calls 0 _).mono ?_
                        rintro e W23 ⟨rfl, hb⟩
                        clear hHeld
                        replace B := Lib.hid (B.out.below hb)
                        replace BL := Lib.hid (below_then BL.out hb)
                        clear hb
                        have hHeld : W23.cell? ⟨g0, 0, none⟩ = some (.int .i64 r0k) ∧ W23.cell? ⟨g0, 1, none⟩ = some (.int .i64 r0n) ∧ W23.cell? ⟨g0, 2, none⟩ = some (.string ⟨List.toArray r0t⟩) ∧ W23.cell? ⟨w.heap.size, 0, none⟩ = some (.int .i64 xk) ∧ W23.cell? ⟨w.heap.size, 1, none⟩ = some (.int .i64 xn) ∧ W23.cell? ⟨w.heap.size, 2, none⟩ = some (.string ⟨List.toArray xt⟩) ∧ W23.cell? ⟨gb4, 0, none⟩ = some (.int .i64 yk) ∧ W23.cell? ⟨gb4, 1, none⟩ = some (.int .i64 yn) ∧ W23.cell? ⟨gb4, 2, none⟩ = some (.string ⟨List.toArray yt⟩) := ⟨(B.out.get 0 rfl).c0, (B.out.get 0 rfl).c1, (B.out.get 0 rfl).c2, (B.out.get 3 rfl).c0, (B.out.get 3 rfl).c1, (B.out.get 3 rfl).c2, (B.out.get 2 rfl).c0, (B.out.get 2 rfl).c1, (B.out.get 2 rfl).c2⟩
                        dsimp only
                        refine hK.out _ _ (fun _ => hHeld) ?_
                        clear hK K
                        try simp only [Act.put, List.setIfInBounds_toArray, List.set_cons_zero, List.set_cons_succ]
                        refine late_pure_at (some 61) (i := 5) (v := (.bool false)) rfl rfl rfl (by kernel_rfl) (by kernel_rfl) (by kernel_rfl) (fun _ _ _ h => h) (Or.inl ⟨by rfl, by intro w _; go_simp⟩) (fun _ => hHeld) ?_
                        try simp only [Act.put, List.setIfInBounds_toArray, List.set_cons_zero, List.set_cons_succ]
                        refine late_ready (rs := [7]) (by kernel_rfl) (by simp) ?_
                        refine AllLate.cons rfl (fun K hK => ?_) ?_
                        · skip
                          go_simp
                          refine (num_calls 0 _).mono ?_
                          rintro e W24 ⟨rfl, hb⟩
                          clear hHeld
                          replace B := Lib.hid (B.out.below hb)
                          replace BL := Lib.hid (below_then BL.out hb)
                          clear hb
                          have hHeld : W24.cell? ⟨g0, 0, none⟩ = some (.int .i64 r0k) ∧ W24.cell? ⟨g0, 1, none⟩ = some (.int .i64 r0n) ∧ W24.cell? ⟨g0, 2, none⟩ = some (.string ⟨List.toArray r0t⟩) ∧ W24.cell? ⟨w.heap.size, 0, none⟩ = some (.int .i64 xk) ∧ W24.cell? ⟨w.heap.size, 1, none⟩ = some (.int .i64 xn) ∧ W24.cell? ⟨w.heap.size, 2, none⟩ = some (.string ⟨List.toArray xt⟩) ∧ W24.cell? ⟨gb4, 0, none⟩ = some (.int .i64 yk) ∧ W24.cell? ⟨gb4, 1, none⟩ = some (.int .i64 yn) ∧ W24.cell? ⟨gb4, 2, none⟩ = some (.string ⟨List.toArray yt⟩) := ⟨(B.out.get 0 rfl).c0, (B.out.get 0 rfl).c1, (B.out.get 0 rfl).c2, (B.out.get 3 rfl).c0, (B.out.get 3 rfl).c1, (B.out.get 3 rfl).c2, (B.out.get 2 rfl).c0, (B.out.get 2 rfl).c1, (B.out.get 2 rfl).c2⟩
                          dsimp only
                          refine hK.out _ _ (fun _ => hHeld) ?_
                          clear hK K
                          try simp only [Act.put, List.setIfInBounds_toArray, List.set_cons_zero, List.set_cons_succ]
                          refine late_pure_at (some 64) (i := 8) (v := (.bool true)) rfl rfl rfl (by kernel_rfl) (by kernel_rfl) (by kernel_rfl) (fun _ _ _ h => h) (Or.inl ⟨by rfl, by intro w _; go_simp⟩) (fun _ => hHeld) ?_
                          try simp only [Act.put, List.setIfInBounds_toArray, List.set_cons_zero, List.set_cons_succ]
                          refine late_pure_at (some 65) (i := 9) (v := (.bool true)) rfl rfl rfl (by kernel_rfl) (by kernel_rfl) (by kernel_rfl) (fun _ _ _ h => h) (Or.inl ⟨by rfl, by intro w _; go_simp⟩) (fun _ => hHeld) ?_
                          try simp only [Act.put, List.setIfInBounds_toArray, List.set_cons_zero, List.set_cons_succ]
                          refine late_take_at (some 66) (i := 10) (v := (.agg #[.int .i64 yk, .int .i64 yn, .string ⟨List.toArray yt⟩])) rfl rfl rfl (by kernel_rfl) (by kernel_rfl) (by kernel_rfl) (by kernel_rfl) (fun _ _ _ h => h) clean_none (Or.inl ⟨by rfl, by intro w hSw; go_split_ands; go_simp⟩) hHeld ?_
                          try simp only [Act.put, List.setIfInBounds_toArray, List.set_cons_zero, List.set_cons_succ]
                          refine late_ready (rs := [11]) (by kernel_rfl) (by simp) ?_
                          refine AllLate.cons rfl (fun K hK => ?_) ?_
                          · skip
                            go_simp
                            refine (num_calls 0 _).mono ?_
                            rintro e W25 ⟨rfl, hb⟩
                            clear hHeld
                            replace B := Lib.hid (B.out.below hb)
                            replace BL := Lib.hid (below_then BL.out hb)
                            clear hb
                            have hHeld : W25.cell? ⟨g0, 0, none⟩ = some (.int .i64 r0k) ∧ W25.cell? ⟨g0, 1, none⟩ = some (.int .i64 r0n) ∧ W25.cell? ⟨g0, 2, none⟩ = some (.string ⟨List.toArray r0t⟩) ∧ W25.cell? ⟨w.heap.size, 0, none⟩ = some (.int .i64 xk) ∧ W25.cell? ⟨w.heap.size, 1, none⟩ = some (.int .i64 xn) ∧ W25.cell? ⟨w.heap.size, 2, none⟩ = some (.string ⟨List.toArray xt⟩) ∧ W25.cell? ⟨gb4, 0, none⟩ = some (.int .i64 yk) ∧ W25.cell? ⟨gb4, 1, none⟩ = some (.int .i64 yn) ∧ W25.cell? ⟨gb4, 2, none⟩ = some (.string ⟨List.toArray yt⟩) := ⟨(B.out.get 0 rfl).c0, (B.out.get 0 rfl).c1, (B.out.get 0 rfl).c2, (B.out.get 3 rfl).c0, (B.out.get 3 rfl).c1, (B.out.get 3 rfl).c2, (B.out.get 2 rfl).c0, (B.out.get 2 rfl).c1, (B.out.get 2 rfl).c2⟩
                            dsimp only
                            refine hK.out _ _ (fun _ => hHeld) ?_
                            clear hK K
                            try simp only [Act.put, List.setIfInBounds_toArray, List.set_cons_zero, List.set_cons_succ]
                            refine late_pure_at (some 68) (i := 12) (v := (.bool false)) rfl rfl rfl (by kernel_rfl) (by kernel_rfl) (by kernel_rfl) (fun _ _ _ h => h) (Or.inl ⟨by rfl, by intro w _; go_simp⟩) (fun _ => hHeld) ?_
                            try simp only [Act.put, List.setIfInBounds_toArray, List.set_cons_zero, List.set_cons_succ]
                            refine late_pure_at (some 69) (i := 13) (v := (.bool false)) rfl rfl rfl (by kernel_rfl) (by kernel_rfl) (by kernel_rfl) (fun _ _ _ h => h) (Or.inl ⟨by rfl, by intro w _; go_simp⟩) (fun _ => hHeld) ?_
                            try simp only [Act.put, List.setIfInBounds_toArray, List.set_cons_zero, List.set_cons_succ]
                            refine late_pure_at (some 70) (i := 14) (v := (.bool false)) rfl rfl rfl (by kernel_rfl) (by kernel_rfl) (by kernel_rfl) (fun _ _ _ h => h) (Or.inl ⟨by rfl, by intro w _; go_simp⟩) (fun _ => hHeld) ?_
                            try simp only [Act.put, List.setIfInBounds_toArray, List.set_cons_zero, List.set_cons_succ]
                            refine late_pure_at (some 71) (i := 15) (v := (.bool false)) rfl rfl rfl (by kernel_rfl) (by kernel_rfl) (by kernel_rfl) (fun _ _ _ h => h) (Or.inl ⟨by rfl, by intro w _; go_simp⟩) (fun _ => hHeld) ?_
                            try simp only [Act.put, List.setIfInBounds_toArray, List.set_cons_zero, List.set_cons_succ]
                            refine late_done (by kernel_rfl) ?_ _
                            refine NoPanic.normal ?_
                            go_wp2_with fail
                            go_meet
                            exact ⟨rfl, B, BL⟩
                          exact AllLate.nil
                        exact AllLate.nil
                      exact AllLate.nil
                    exact AllLate.nil
                | false =>
                  have f1_0 : (veqB r0k r0n r0t 1 0 []) = false := HA7.out
                  have f2_0 : (veqB xk xn xt 1 0 []) = false := HA8.out
                  refine wp_region_noPanic ?_
                  refine region_late (fun (X : World) => X.cell? ⟨g0, 0, none⟩ = some (.int .i64 r0k) ∧ X.cell? ⟨g0, 1, none⟩ = some (.int .i64 r0n) ∧ X.cell? ⟨g0, 2, none⟩ = some (.string ⟨List.toArray r0t⟩) ∧ X.cell? ⟨w.heap.size, 0, none⟩ = some (.int .i64 xk) ∧ X.cell? ⟨w.heap.size, 1, none⟩ = some (.int .i64 xn) ∧ X.cell? ⟨w.heap.size, 2, none⟩ = some (.string ⟨List.toArray xt⟩)) (fun _ => false) (by kernel_rfl) ?_
                  have hb := (Below.refl W15.heap.size W15).drew
                  obtain ⟨W26, hW⟩ : ∃ X, W15.drew = X := ⟨_, rfl⟩
                  rw [hW] at hb ⊢
                  clear hW
                  replace B := Lib.hid (B.out.below hb)
                  replace BL := Lib.hid (below_then BL.out hb)
                  clear hb
                  have hHeld : W26.cell? ⟨g0, 0, none⟩ = some (.int .i64 r0k) ∧ W26.cell? ⟨g0, 1, none⟩ = some (.int .i64 r0n) ∧ W26.cell? ⟨g0, 2, none⟩ = some (.string ⟨List.toArray r0t⟩) ∧ W26.cell? ⟨w.heap.size, 0, none⟩ = some (.int .i64 xk) ∧ W26.cell? ⟨w.heap.size, 1, none⟩ = some (.int .i64 xn) ∧ W26.cell? ⟨w.heap.size, 2, none⟩ = some (.string ⟨List.toArray xt⟩) := ⟨(B.out.get 0 rfl).c0, (B.out.get 0 rfl).c1, (B.out.get 0 rfl).c2, (B.out.get 3 rfl).c0, (B.out.get 3 rfl).c1, (B.out.get 3 rfl).c2⟩
                  refine late_take_at (some 56) (i := 0) (v := (.agg #[.int .i64 r0k, .int .i64 r0n, .string ⟨List.toArray r0t⟩])) rfl rfl rfl (by kernel_rfl) (by kernel_rfl) (by kernel_rfl) (by kernel_rfl) (fun _ _ _ h => h) clean_none (Or.inl ⟨by rfl, by intro w hSw; go_split_ands; go_simp⟩) hHeld ?_
                  try simp only [Act.put, List.setIfInBounds_toArray, List.set_cons_zero, List.set_cons_succ]
                  refine late_ready (rs := [1]) (by kernel_rfl) (by simp) ?_
                  refine AllLate.cons rfl (fun K hK => ?_) ?_
                  · skip
                    go_simp
                    refine (negative_calls r0k r0n r0t (Nat.le_trans HOr0.out.t (by decide)) _).mono ?_
                    rw [HA6.out]
                    rintro e W27 ⟨rfl, hb⟩
                    clear hHeld
                    replace B := Lib.hid (B.out.below hb)
                    replace BL := Lib.hid (below_then BL.out hb)
                    clear hb
                    have hHeld : W27.cell? ⟨g0, 0, none⟩ = some (.int .i64 r0k) ∧ W27.cell? ⟨g0, 1, none⟩ = some (.int .i64 r0n) ∧ W27.cell? ⟨g0, 2, none⟩ = some (.string ⟨List.toArray r0t⟩) ∧ W27.cell? ⟨w.heap.size, 0, none⟩ = some (.int .i64 xk) ∧ W27.cell? ⟨w.heap.size, 1, none⟩ = some (.int .i64 xn) ∧ W27.cell? ⟨w.heap.size, 2, none⟩ = some (.string ⟨List.toArray xt⟩) := ⟨(B.out.get 0 rfl).c0, (B.out.get 0 rfl).c1, (B.out.get 0 rfl).c2, (B.out.get 3 rfl).c0, (B.out.get 3 rfl).c1, (B.out.get 3 rfl).c2⟩
                    dsimp only
                    refine hK.out _ _ (fun _ => hHeld) ?_
                    clear hK K
                    try simp only [Act.put, List.setIfInBounds_toArray, List.set_cons_zero, List.set_cons_succ]
                    refine late_pure_at (some 58) (i := 2) (v := (.bool false)) rfl rfl rfl (by kernel_rfl) (by kernel_rfl) (by kernel_rfl) (fun _ _ _ h => h) (Or.inl ⟨by rfl, by intro w _; go_simp⟩) (fun _ => hHeld) ?_
                    try simp only [Act.put, List.setIfInBounds_toArray, List.set_cons_zero, List.set_cons_succ]
                    refine late_take_at (some 59) (i := 3) (v := (.agg #[.int .i64 r0k, .int .i64 r0n, .string ⟨List.toArray r0t⟩])) rfl rfl rfl (by kernel_rfl) (by kernel_rfl) (by kernel_rfl) (by kernel_rfl) (fun _ _ _ h => h) clean_none (Or.inl ⟨by rfl, by intro w hSw; go_split_ands; go_simp⟩) hHeld ?_
                    try simp only [Act.put, List.setIfInBounds_toArray, List.set_cons_zero, List.set_cons_succ]
                    refine late_take_at (some 62) (i := 6) (v := (.agg #[.int .i64 xk, .int .i64 xn, .string ⟨List.toArray xt⟩])) rfl rfl rfl (by kernel_rfl) (by kernel_rfl) (by kernel_rfl) (by kernel_rfl) (fun _ _ _ h => h) clean_none (Or.inl ⟨by rfl, by intro w hSw; go_split_ands; go_simp⟩) hHeld ?_
                    try simp only [Act.put, List.setIfInBounds_toArray, List.set_cons_zero, List.set_cons_succ]
                    refine late_ready (rs := [4]) (by kernel_rfl) (by simp) ?_
                    refine AllLate.cons rfl (fun K hK => ?_) ?_
                    · skip
                      go_simp
                      refine (num_calls 0 _).mono ?_
                      rintro e W28 ⟨rfl, hb⟩
                      clear hHeld
                      replace B := Lib.hid (B.out.below hb)
                      replace BL := Lib.hid (below_then BL.out hb)
                      clear hb
                      have hHeld : W28.cell? ⟨g0, 0, none⟩ = some (.int .i64 r0k) ∧ W28.cell? ⟨g0, 1, none⟩ = some (.int .i64 r0n) ∧ W28.cell? ⟨g0, 2, none⟩ = some (.string ⟨List.toArray r0t⟩) ∧ W28.cell? ⟨w.heap.size, 0, none⟩ = some (.int .i64 xk) ∧ W28.cell? ⟨w.heap.size, 1, none⟩ = some (.int .i64 xn) ∧ W28.cell? ⟨w.heap.size, 2, none⟩ = some (.string ⟨List.toArray xt⟩) := ⟨(B.out.get 0 rfl).c0, (B.out.get 0 rfl).c1, (B.out.get 0 rfl).c2, (B.out.get 3 rfl).c0, (B.out.get 3 rfl).c1, (B.out.get 3 rfl).c2⟩
                      dsimp only
                      refine hK.out _ _ (fun _ => hHeld) ?_
                      clear hK K
                      try simp only [Act.put, List.setIfInBounds_toArray, List.set_cons_zero, List.set_cons_succ]
                      refine late_pure_at (some 61) (i := 5) (v := (.bool false)) rfl rfl rfl (by kernel_rfl) (by kernel_rfl) (by kernel_rfl) (fun _ _ _ h => h) (Or.inl ⟨by rfl, by intro w _; go_simp⟩) (fun _ => hHeld) ?_
                      try simp only [Act.put, List.setIfInBounds_toArray, List.set_cons_zero, List.set_cons_succ]
                      refine late_ready (rs := [7]) (by kernel_rfl) (by simp) ?_
                      refine AllLate.cons rfl (fun K hK => ?_) ?_
                      · skip
                        go_simp
                        refine (num_calls 0 _).mono ?_
                        rintro e W29 ⟨rfl, hb⟩
                        clear hHeld
                        replace B := Lib.hid (B.out.below hb)
                        replace BL := Lib.hid (below_then BL.out hb)
                        clear hb
                        have hHeld : W29.cell? ⟨g0, 0, none⟩ = some (.int .i64 r0k) ∧ W29.cell? ⟨g0, 1, none⟩ = some (.int .i64 r0n) ∧ W29.cell? ⟨g0, 2, none⟩ = some (.string ⟨List.toArray r0t⟩) ∧ W29.cell? ⟨w.heap.size, 0, none⟩ = some (.int .i64 xk) ∧ W29.cell? ⟨w.heap.size, 1, none⟩ = some (.int .i64 xn) ∧ W29.cell? ⟨w.heap.size, 2, none⟩ = some (.string ⟨List.toArray xt⟩) := ⟨(B.out.get 0 rfl).c0, (B.out.get 0 rfl).c1, (B.out.get 0 rfl).c2, (B.out.get 3 rfl).c0, (B.out.get 3 rfl).c1, (B.out.get 3 rfl).c2⟩
                        dsimp only
                        refine hK.out _ _ (fun _ => hHeld) ?_
                        clear hK K
                        try simp only [Act.put, List.setIfInBounds_toArray, List.set_cons_zero, List.set_cons_succ]
                        refine late_pure_at (some 64) (i := 8) (v := (.bool false)) rfl rfl rfl (by kernel_rfl) (by kernel_rfl) (by kernel_rfl) (fun _ _ _ h => h) (Or.inl ⟨by rfl, by intro w _; go_simp⟩) (fun _ => hHeld) ?_
                        try simp only [Act.put, List.setIfInBounds_toArray, List.set_cons_zero, List.set_cons_succ]
                        refine late_pure_at (some 65) (i := 9) (v := (.bool false)) rfl rfl rfl (by kernel_rfl) (by kernel_rfl) (by kernel_rfl) (fun _ _ _ h => h) (Or.inl ⟨by rfl, by intro w _; go_simp⟩) (fun _ => hHeld) ?_
                        try simp only [Act.put, List.setIfInBounds_toArray, List.set_cons_zero, List.set_cons_succ]
                        refine late_pure_at (some 66) (i := 10) (v := undef) rfl rfl rfl (by kernel_rfl) (by kernel_rfl) (by kernel_rfl) (fun _ _ _ h => h) (Or.inr ⟨by rfl, rfl⟩) (fun _ => hHeld) ?_
                        try simp only [Act.put, List.setIfInBounds_toArray, List.set_cons_zero, List.set_cons_succ]
                        refine late_pure_at (some 67) (i := 11) (v := undef) rfl rfl rfl (by kernel_rfl) (by kernel_rfl) (by kernel_rfl) (fun _ _ _ h => h) (Or.inr ⟨by rfl, rfl⟩) (fun _ => hHeld) ?_
                        try simp only [Act.put, List.setIfInBounds_toArray, List.set_cons_zero, List.set_cons_succ]
                        refine late_pure_at (some 68) (i := 12) (v := undef) rfl rfl rfl (by kernel_rfl) (by kernel_rfl) (by kernel_rfl) (fun _ _ _ h => h) (Or.inr ⟨by rfl, rfl⟩) (fun _ => hHeld) ?_
                        try simp only [Act.put, List.setIfInBounds_toArray, List.set_cons_zero, List.set_cons_succ]
                        refine late_pure_at (some 69) (i := 13) (v := (.bool false)) rfl rfl rfl (by kernel_rfl) (by kernel_rfl) (by kernel_rfl) (fun _ _ _ h => h) (Or.inl ⟨by rfl, by intro w _; go_simp⟩) (fun _ => hHeld) ?_
                        try simp only [Act.put, List.setIfInBounds_toArray, List.set_cons_zero, List.set_cons_succ]
                        refine late_pure_at (some 70) (i := 14) (v := (.bool false)) rfl rfl rfl (by kernel_rfl) (by kernel_rfl) (by kernel_rfl) (fun _ _ _ h => h) (Or.inl ⟨by rfl, by intro w _; go_simp⟩) (fun _ => hHeld) ?_
                        try simp only [Act.put, List.setIfInBounds_toArray, List.set_cons_zero, List.set_cons_succ]
                        refine late_pure_at (some 71) (i := 15) (v := (.bool false)) rfl rfl rfl (by kernel_rfl) (by kernel_rfl) (by kernel_rfl) (fun _ _ _ h => h) (Or.inl ⟨by rfl, by intro w _; go_simp⟩) (fun _ => hHeld) ?_
                        try simp only [Act.put, List.setIfInBounds_toArray, List.set_cons_zero, List.set_cons_succ]
                        refine late_done (by kernel_rfl) ?_ _
                        refine NoPanic.normal ?_
                        go_wp2_with fail
                        go_meet
                        exact ⟨rfl, B, BL⟩
                      exact AllLate.nil
                    exact AllLate.nil
                  exact AllLate.nil
          case rest =>
            clear B BL
            obtain ⟨rfl, B, BL⟩ := hcut
            obtain ⟨W30, hW⟩ : ∃ X, wc = X := ⟨_, rfl⟩
            rw [hW] at B BL ⊢
            clear hW
            clear HCC HA6 HA7 HA8 HA9
            replace HL := Lib.hid (show true = BigDivisors_s24 (⟨xk, xn, xt⟩ : Vl) (⟨yk, yn, yt⟩ : Vl) (⟨zk, zn, zt⟩ : Vl) ((⟨r0k, r0n, r0t⟩, r0e) : Vl × Int) from HL.out.trans ((if_neg (fun h => Bool.noConfusion (HCW.out.symm.trans h)))))
            -- region 9, a test
            obtain ⟨b10, h⟩ : ∃ b : Bool, (veqB r0k r0n r0t 1 0 []) = b := ⟨_, rfl⟩
            have HA10 := Lib.hid h
            clear h
            obtain ⟨c5, h⟩ : ∃ c : Bool, b10 = c := ⟨_, rfl⟩
            have HCC := Lib.hid h
            clear h
            go_upto_region 9 with fail
            go_cut [74] from 72 to 74 (fun v wx => v = .bool c5 ∧ Hid (Bxs wx [(g0, (⟨r0k, r0n, r0t⟩ : Vl)), (gb5, (⟨zk, zn, zt⟩ : Vl)), (gb4, (⟨yk, yn, yt⟩ : Vl)), (w.heap.size, (⟨xk, xn, xt⟩ : Vl))]) ∧ Hid (Below w.heap.size w wx))
            case first =>
              clear HL
              cases b10 with
              | true =>
                have f0_0 : (veqB r0k r0n r0t 1 0 []) = true := HA10.out
                refine wp_region_noPanic ?_
                refine region_late (fun (X : World) => X.cell? ⟨g0, 0, none⟩ = some (.int .i64 r0k) ∧ X.cell? ⟨g0, 1, none⟩ = some (.int .i64 r0n) ∧ X.cell? ⟨g0, 2, none⟩ = some (.string ⟨List.toArray r0t⟩)) (fun _ => false) (by kernel_rfl) ?_
                have hb := (Below.refl W30.heap.size W30).drew
                obtain ⟨W31, hW⟩ : ∃ X, W30.drew = X := ⟨_, rfl⟩
                rw [hW] at hb ⊢
                clear hW
                replace B := Lib.hid (B.out.below hb)
                replace BL := Lib.hid (below_then BL.out hb)
                clear hb
                have hHeld : W31.cell? ⟨g0, 0, none⟩ = some (.int .i64 r0k) ∧ W31.cell? ⟨g0, 1, none⟩ = some (.int .i64 r0n) ∧ W31.cell? ⟨g0, 2, none⟩ = some (.string ⟨List.toArray r0t⟩) := ⟨(B.out.get 0 rfl).c0, (B.out.get 0 rfl).c1, (B.out.get 0 rfl).c2⟩
                refine late_take_at (some 72) (i := 0) (v := (.agg #[.int .i64 r0k, .int .i64 r0n, .string ⟨List.toArray r0t⟩])) rfl rfl rfl (by kernel_rfl) (by kernel_rfl) (by kernel_rfl) (by kernel_rfl) (fun _ _ _ h => h) clean_none (Or.inl ⟨by rfl, by intro w hSw; go_split_ands; go_simp⟩) hHeld ?_
                try simp only [Act.put, List.setIfInBounds_toArray, List.set_cons_zero, List.set_cons_succ]
                refine late_ready (rs := [1]) (by kernel_rfl) (by simp) ?_
                refine AllLate.cons rfl (fun K hK => ?_) ?_
                · skip
                  go_simp
                  refine (num_calls 0 _).mono ?_
                  rintro e W32 ⟨rfl, hb⟩
                  clear hHeld
                  replace B := Lib.hid (B.out.below hb)
                  replace BL := Lib.hid (below_then BL.out hb)
                  clear hb
                  have hHeld : W32.cell? ⟨g0, 0, none⟩ = some (.int .i64 r0k) ∧ W32.cell? ⟨g0, 1, none⟩ = some (.int .i64 r0n) ∧ W32.cell? ⟨g0, 2, none⟩ = some (.string ⟨List.toArray r0t⟩) := ⟨(B.out.get 0 rfl).c0, (B.out.get 0 rfl).c1, (B.out.get 0 rfl).c2⟩
                  dsimp only
                  refine hK.out _ _ (fun _ => hHeld) ?_
                  clear hK K
                  try simp only [Act.put, List.setIfInBounds_toArray, List.set_cons_zero, List.set_cons_succ]
                  refine late_pure_at (some 74) (i := 2) (v := (.bool true)) rfl rfl rfl (by kernel_rfl) (by kernel_rfl) (by kernel_rfl) (fun _ _ _ h => h) (Or.inl ⟨by rfl, by intro w _; go_simp⟩) (fun _ => hHeld) ?_
                  try simp only [Act.put, List.setIfInBounds_toArray, List.set_cons_zero, List.set_cons_succ]
                  refine late_done (by kernel_rfl) ?_ _
                  refine NoPanic.normal ?_
                  go_wp2_with fail
                  go_meet
                  exact ⟨congrArg Value.bool HCC.out, B, BL⟩
                exact AllLate.nil
              | false =>
                have f0_0 : (veqB r0k r0n r0t 1 0 []) = false := HA10.out
                refine wp_region_noPanic ?_
                refine region_late (fun (X : World) => X.cell? ⟨g0, 0, none⟩ = some (.int .i64 r0k) ∧ X.cell? ⟨g0, 1, none⟩ = some (.int .i64 r0n) ∧ X.cell? ⟨g0, 2, none⟩ = some (.string ⟨List.toArray r0t⟩)) (fun _ => false) (by kernel_rfl) ?_
                have hb := (Below.refl W30.heap.size W30).drew
                obtain ⟨W33, hW⟩ : ∃ X, W30.drew = X := ⟨_, rfl⟩
                rw [hW] at hb ⊢
                clear hW
                replace B := Lib.hid (B.out.below hb)
                replace BL := Lib.hid (below_then BL.out hb)
                clear hb
                have hHeld : W33.cell? ⟨g0, 0, none⟩ = some (.int .i64 r0k) ∧ W33.cell? ⟨g0, 1, none⟩ = some (.int .i64 r0n) ∧ W33.cell? ⟨g0, 2, none⟩ = some (.string ⟨List.toArray r0t⟩) := ⟨(B.out.get 0 rfl).c0, (B.out.get 0 rfl).c1, (B.out.get 0 rfl).c2⟩
                refine late_take_at (some 72) (i := 0) (v := (.agg #[.int .i64 r0k, .int .i64 r0n, .string ⟨List.toArray r0t⟩])) rfl rfl rfl (by kernel_rfl) (by kernel_rfl) (by kernel_rfl) (by kernel_rfl) (fun _ _ _ h => h) clean_none (Or.inl ⟨by rfl, by intro w hSw; go_split_ands; go_simp⟩) hHeld ?_
                try simp only [Act.put, List.setIfInBounds_toArray, List.set_cons_zero, List.set_cons_succ]
                refine late_ready (rs := [1]) (by kernel_rfl) (by simp) ?_
                refine AllLate.cons rfl (fun K hK => ?_) ?_
                · skip
                  go_simp
                  refine (num_calls 0 _).mono ?_
                  rintro e W34 ⟨rfl, hb⟩
                  clear hHeld
                  replace B := Lib.hid (B.out.below hb)
                  replace BL := Lib.hid (below_then BL.out hb)
                  clear hb
                  have hHeld : W34.cell? ⟨g0, 0, none⟩ = some (.int .i64 r0k) ∧ W34.cell? ⟨g0, 1, none⟩ = some (.int .i64 r0n) ∧ W34.cell? ⟨g0, 2, none⟩ = some (.string ⟨List.toArray r0t⟩) := ⟨(B.out.get 0 rfl).c0, (B.out.get 0 rfl).c1, (B.out.get 0 rfl).c2⟩
                  dsimp only
                  refine hK.out _ _ (fun _ => hHeld) ?_
                  clear hK K
                  try simp only [Act.put, List.setIfInBounds_toArray, List.set_cons_zero, List.set_cons_succ]
                  refine late_pure_at (some 74) (i := 2) (v := (.bool false)) rfl rfl rfl (by kernel_rfl) (by kernel_rfl) (by kernel_rfl) (fun _ _ _ h => h) (Or.inl ⟨by rfl, by intro w _; go_simp⟩) (fun _ => hHeld) ?_
                  try simp only [Act.put, List.setIfInBounds_toArray, List.set_cons_zero, List.set_cons_succ]
                  refine late_done (by kernel_rfl) ?_ _
                  refine NoPanic.normal ?_
                  go_wp2_with fail
                  go_meet
                  exact ⟨congrArg Value.bool HCC.out, B, BL⟩
                exact AllLate.nil
            case rest =>
              clear B BL
              obtain ⟨rfl, B, BL⟩ := hcut
              obtain ⟨W35, hW⟩ : ∃ X, wc = X := ⟨_, rfl⟩
              rw [hW] at B BL ⊢
              clear hW
              have HCW : Hid ((veqB r0k r0n r0t 1 0 []) = c5) := Lib.hid (by rw [HA10.out]; exact HCC.out)
              clear HCC HA10
              cases c5 with
              | true =>
                replace HL := Lib.hid (show true = BigDivisors_s3 (⟨xk, xn, xt⟩ : Vl) (⟨yk, yn, yt⟩ : Vl) (⟨zk, zn, zt⟩ : Vl) ((⟨r0k, r0n, r0t⟩, r0e) : Vl × Int) from HL.out.trans (if_pos HCW.out))
                go_wp2_with fail
                go_ret
                exact ⟨rfl, BL.out⟩
              | false =>
                replace HL := Lib.hid (show true = BigDivisors_s23 (⟨xk, xn, xt⟩ : Vl) (⟨yk, yn, yt⟩ : Vl) (⟨zk, zn, zt⟩ : Vl) ((⟨r0k, r0n, r0t⟩, r0e) : Vl × Int) from HL.out.trans ((if_neg (fun h => Bool.noConfusion (HCW.out.symm.trans h)))))
                -- region 11
                have cb3_0 : W35.cell? ⟨w.heap.size, 0, none⟩ = some (.int .i64 xk) := (B.out.get 3 rfl).c0
                have cb3_1 : W35.cell? ⟨w.heap.size, 1, none⟩ = some (.int .i64 xn) := (B.out.get 3 rfl).c1
                have cb3_2 : W35.cell? ⟨w.heap.size, 2, none⟩ = some (.string ⟨List.toArray xt⟩) := (B.out.get 3 rfl).c2
                have cb8_4_1_0 : W35.cell? ⟨g0, 0, none⟩ = some (.int .i64 r0k) := (B.out.get 0 rfl).c0
                have cb8_4_1_1 : W35.cell? ⟨g0, 1, none⟩ = some (.int .i64 r0n) := (B.out.get 0 rfl).c1
                have cb8_4_1_2 : W35.cell? ⟨g0, 2, none⟩ = some (.string ⟨List.toArray r0t⟩) := (B.out.get 0 rfl).c2
                obtain ⟨⟨⟨r1k, r1n, r1t⟩, r1e⟩, hr1⟩ : ∃ p, modR (⟨xk, xn, xt⟩ : Vl) (⟨r0k, r0n, r0t⟩ : Vl) = p := ⟨_, rfl⟩
                have hc1 := fun (W : World) (hW : Env W) => mod_pub (⟨xk, xn, xt⟩ : Vl) (⟨r0k, r0n, r0t⟩ : Vl) HOx.out HOr0.out W hW
                have ho1 := modR_ok (⟨xk, xn, xt⟩ : Vl) (⟨r0k, r0n, r0t⟩ : Vl)
                rw [hr1] at hc1 ho1
                simp only [Vl.val, pr] at hc1
                have HC1 := Lib.hid hc1; have HOr1 : Hid (Vl.ok ⟨r1k, r1n, r1t⟩) := Lib.hid ho1; have HR1 := Lib.hid hr1
                clear hc1 ho1 hr1
                go_wp2_with fail
                refine (HC1.out _ (HE.out.below BL.out)).mono ?_
                rintro e W36 ⟨rfl, hb⟩
                clear cb3_0 cb3_1 cb3_2 cb8_4_1_0 cb8_4_1_1 cb8_4_1_2
                replace B := Lib.hid (B.out.below hb)
                replace BL := Lib.hid (below_then BL.out hb)
                clear hb
                go_upto_region 12 with fail
                have hB : Bxs (W36.alloc (.cells #[.int .i64 r1k, .int .i64 r1n, .string ⟨List.toArray r1t⟩] 23)) ((W36.heap.size, (⟨r1k, r1n, r1t⟩ : Vl)) :: [(g0, (⟨r0k, r0n, r0t⟩ : Vl)), (gb5, (⟨zk, zn, zt⟩ : Vl)), (gb4, (⟨yk, yn, yt⟩ : Vl)), (w.heap.size, (⟨xk, xn, xt⟩ : Vl))]) := B.out.push (⟨r1k, r1n, r1t⟩ : Vl) 23
                have hL : Below w.heap.size w (W36.alloc (.cells #[.int .i64 r1k, .int .i64 r1n, .string ⟨List.toArray r1t⟩] 23)) := BL.out.alloc BL.out.size _
                obtain ⟨W37, hW⟩ : ∃ X, W36.alloc (.cells #[.int .i64 r1k, .int .i64 r1n, .string ⟨List.toArray r1t⟩] 23) = X := ⟨_, rfl⟩
                obtain ⟨g1, hg⟩ : ∃ g, W36.heap.size = g := ⟨_, rfl⟩
                rw [hW] at hB hL ⊢
                rw [hg] at hB ⊢
                have HGb10_11_5 : Hid (w.heap.size ≤ g1) := Lib.hid (by rw [← hg]; exact BL.out.size)
                replace B := Lib.hid hB
                replace BL := Lib.hid hL
                clear hB hL hW hg
                replace HL := Lib.hid (show true = BigDivisors_s22 (⟨xk, xn, xt⟩ : Vl) (⟨yk, yn, yt⟩ : Vl) (⟨zk, zn, zt⟩ : Vl) ((⟨r0k, r0n, r0t⟩, r0e) : Vl × Int) ((⟨r1k, r1n, r1t⟩, r1e) : Vl × Int) from HL.out.trans (by unfold BigDivisors_s23; rw [HR1.out]))
                -- region 12
                have cb4_0 : W37.cell? ⟨gb4, 0, none⟩ = some (.int .i64 yk) := (B.out.get 3 rfl).c0
                have cb4_1 : W37.cell? ⟨gb4, 1, none⟩ = some (.int .i64 yn) := (B.out.get 3 rfl).c1
                have cb4_2 : W37.cell? ⟨gb4, 2, none⟩ = some (.string ⟨List.toArray yt⟩) := (B.out.get 3 rfl).c2
                have cb8_4_1_0 : W37.cell? ⟨g0, 0, none⟩ = some (.int .i64 r0k) := (B.out.get 1 rfl).c0
                have cb8_4_1_1 : W37.cell? ⟨g0, 1, none⟩ = some (.int .i64 r0n) := (B.out.get 1 rfl).c1
                have cb8_4_1_2 : W37.cell? ⟨g0, 2, none⟩ = some (.string ⟨List.toArray r0t⟩) := (B.out.get 1 rfl).c2
                obtain ⟨⟨⟨r2k, r2n, r2t⟩, r2e⟩, hr2⟩ : ∃ p, modR (⟨yk, yn, yt⟩ : Vl) (⟨r0k, r0n, r0t⟩ : Vl) = p := ⟨_, rfl⟩
                have hc2 := fun (W : World) (hW : Env W) => mod_pub (⟨yk, yn, yt⟩ : Vl) (⟨r0k, r0n, r0t⟩ : Vl) HOy.out HOr0.out W hW
                have ho2 := modR_ok (⟨yk, yn, yt⟩ : Vl) (⟨r0k, r0n, r0t⟩ : Vl)
                rw [hr2] at hc2 ho2
                simp only [Vl.val, pr] at hc2
                have HC2 := Lib.hid hc2; have HOr2 : Hid (Vl.ok ⟨r2k, r2n, r2t⟩) := Lib.hid ho2; have HR2 := Lib.hid hr2
                clear hc2 ho2 hr2
                go_wp2_with fail
                refine (HC2.out _ (HE.out.below BL.out)).mono ?_
                rintro e W38 ⟨rfl, hb⟩
                clear cb4_0 cb4_1 cb4_2 cb8_4_1_0 cb8_4_1_1 cb8_4_1_2
                replace B := Lib.hid (B.out.below hb)
                replace BL := Lib.hid (below_then BL.out hb)
                clear hb
                go_upto_region 13 with fail
                have hB : Bxs (W38.alloc (.cells #[.int .i64 r2k, .int .i64 r2n, .string ⟨List.toArray r2t⟩] 23)) ((W38.heap.size, (⟨r2k, r2n, r2t⟩ : Vl)) :: [(g1, (⟨r1k, r1n, r1t⟩ : Vl)), (g0, (⟨r0k, r0n, r0t⟩ : Vl)), (gb5, (⟨zk, zn, zt⟩ : Vl)), (gb4, (⟨yk, yn, yt⟩ : Vl)), (w.heap.size, (⟨xk, xn, xt⟩ : Vl))]) := B.out.push (⟨r2k, r2n, r2t⟩ : Vl) 23
                have hL : Below w.heap.size w (W38.alloc (.cells #[.int .i64 r2k, .int .i64 r2n, .string ⟨List.toArray r2t⟩] 23)) := BL.out.alloc BL.out.size _
                obtain ⟨W39, hW⟩ : ∃ X, W38.alloc (.cells #[.int .i64 r2k, .int .i64 r2n, .string ⟨List.toArray r2t⟩] 23) = X := ⟨_, rfl⟩
                obtain ⟨g2, hg⟩ : ∃ g, W38.heap.size = g := ⟨_, rfl⟩
                rw [hW] at hB hL ⊢
                rw [hg] at hB ⊢
                have HGb12_12_6 : Hid (w.heap.size ≤ g2) := Lib.hid (by rw [← hg]; exact BL.out.size)
                replace B := Lib.hid hB
                replace BL := Lib.hid hL
                clear hB hL hW hg
                replace HL := Lib.hid (show true = BigDivisors_s21 (⟨xk, xn, xt⟩ : Vl) (⟨yk, yn, yt⟩ : Vl) (⟨zk, zn, zt⟩ : Vl) ((⟨r0k, r0n, r0t⟩, r0e) : Vl × Int) ((⟨r1k, r1n, r1t⟩, r1e) : Vl × Int) ((⟨r2k, r2n, r2t⟩, r2e) : Vl × Int) from HL.out.trans (by unfold BigDivisors_s22; rw [HR2.out]))
                -- region 13, a test
                obtain ⟨b11, h⟩ : ∃ b : Bool, (r1e == 0) = b := ⟨_, rfl⟩
                have HA11 := Lib.hid h
                clear h
                obtain ⟨b12, h⟩ : ∃ b : Bool, (r2e == 0) = b := ⟨_, rfl⟩
                have HA12 := Lib.hid h
                clear h
                obtain ⟨b13, h⟩ : ∃ b : Bool, (veqB r1k r1n r1t 1 0 []) = b := ⟨_, rfl⟩
                have HA13 := Lib.hid h
                clear h
                obtain ⟨b14, h⟩ : ∃ b : Bool, (veqB r2k r2n r2t 1 0 []) = b := ⟨_, rfl⟩
                have HA14 := Lib.hid h
                clear h
                have HCF : ((((!(r1e == 0)) || (!(r2e == 0))) || (!(veqB r1k r1n r1t 1 0 []))) || (!(veqB r2k r2n r2t 1 0 []))) = false := Bool.eq_false_iff.2 fun h => Bool.noConfusion (show true = false from HL.out.trans (if_pos h))
                have HCB : ((((!b11) || (!b12)) || (!b13)) || (!b14)) = false := by
                  have h := HCF
                  rw [HA11.out, HA12.out, HA13.out, HA14.out] at h
                  exact h
                have HCW := Lib.hid HCF
                have HCC := Lib.hid HCB
                clear HCF HCB
                go_upto_region 13 with fail
                go_cut [103] from 88 to 103 (fun v wx => v = .bool false ∧ Hid (Bxs wx [(g2, (⟨r2k, r2n, r2t⟩ : Vl)), (g1, (⟨r1k, r1n, r1t⟩ : Vl)), (g0, (⟨r0k, r0n, r0t⟩ : Vl)), (gb5, (⟨zk, zn, zt⟩ : Vl)), (gb4, (⟨yk, yn, yt⟩ : Vl)), (w.heap.size, (⟨xk, xn, xt⟩ : Vl))]) ∧ Hid (Below w.heap.size w wx))
                case first =>
                  clear HL
                  cases b11 with
                  | true =>
                    cases b12 with
                    | true =>
                      cases b13 with
                      | true =>
                        cases b14 with
                        | true =>
                          have f0_0 : ((r1e : Int) == 0) = true := HA11.out
                          have f0_1 : ((r1e : Int) != 0) = false := by have h := HA11.out; simpa using h
                          have f1_0 : ((r2e : Int) == 0) = true := HA12.out
                          have f1_1 : ((r2e : Int) != 0) = false := by have h := HA12.out; simpa using h
                          have f2_0 : (veqB r1k r1n r1t 1 0 []) = true := HA13.out
                          have f3_0 : (veqB r2k r2n r2t 1 0 []) = true := HA14.out
                          refine wp_region_noPanic ?_
                          refine region_late (fun (X : World) => X.cell? ⟨g1, 0, none⟩ = some (.int .i64 r1k) ∧ X.cell? ⟨g1, 1, none⟩ = some (.int .i64 r1n) ∧ X.cell? ⟨g1, 2, none⟩ = some (.string ⟨List.toArray r1t⟩) ∧ X.cell? ⟨g2, 0, none⟩ = some (.int .i64 r2k) ∧ X.cell? ⟨g2, 1, none⟩ = some (.int .i64 r2n) ∧ X.cell? ⟨g2, 2, none⟩ = some (.string ⟨List.toArray r2t⟩)) (fun _ => false) (by kernel_rfl) ?_
                          have hb := (Below.refl W39.heap.size W39).drew
                          obtain ⟨W40, hW⟩ : ∃ X, W39.drew = X := ⟨_, rfl⟩
                          rw [hW] at hb ⊢
                          clear hW
                          replace B := Lib.hid (B.out.below hb)
                          replace BL := Lib.hid (below_then BL.out hb)
                          clear hb
                          have hHeld : W40.cell? ⟨g1, 0, none⟩ = some (.int .i64 r1k) ∧ W40.cell? ⟨g1, 1, none⟩ = some (.int .i64 r1n) ∧ W40.cell? ⟨g1, 2, none⟩ = some (.string ⟨List.toArray r1t⟩) ∧ W40.cell? ⟨g2, 0, none⟩ = some (.int .i64 r2k) ∧ W40.cell? ⟨g2, 1, none⟩ = some (.int .i64 r2n) ∧ W40.cell? ⟨g2, 2, none⟩ = some (.string ⟨List.toArray r2t⟩) := ⟨(B.out.get 1 rfl).c0, (B.out.get 1 rfl).c1, (B.out.get 1 rfl).c2, (B.out.get 0 rfl).c0, (B.out.get 0 rfl).c1, (B.out.get 0 rfl).c2⟩
                          refine late_pure_at (some 88) (i := 0) (v := (.int .i64 r1e)) rfl rfl rfl (by kernel_rfl) (by kernel_rfl) (by kernel_rfl) (fun _ _ _ h => h) (Or.inl ⟨by rfl, by intro w _; go_simp⟩) (fun _ => hHeld) ?_
                          try simp only [Act.put, List.setIfInBounds_toArray, List.set_cons_zero, List.set_cons_succ]
                          refine late_pure_at (some 89) (i := 1) (v := (.bool false)) rfl rfl rfl (by kernel_rfl) (by kernel_rfl) (by kernel_rfl) (fun _ _ _ h => h) (Or.inl ⟨by rfl, by intro w _; go_simp⟩) (fun _ => hHeld) ?_
                          try simp only [Act.put, List.setIfInBounds_toArray, List.set_cons_zero, List.set_cons_succ]
                          refine late_pure_at (some 90) (i := 2) (v := (.bool false)) rfl rfl rfl (by kernel_rfl) (by kernel_rfl) (by kernel_rfl) (fun _ _ _ h => h) (Or.inl ⟨by rfl, by intro w _; go_simp⟩) (fun _ => hHeld) ?_
                          try simp only [Act.put, List.setIfInBounds_toArray, List.set_cons_zero, List.set_cons_succ]
                          refine late_pure_at (some 91) (i := 3) (v := (.int .i64 r2e)) rfl rfl rfl (by kernel_rfl) (by kernel_rfl) (by kernel_rfl) (fun _ _ _ h => h) (Or.inl ⟨by rfl, by intro w _; go_simp⟩) (fun _ => hHeld) ?_
                          try simp only [Act.put, List.setIfInBounds_toArray, List.set_cons_zero, List.set_cons_succ]
                          refine late_pure_at (some 92) (i := 4) (v := (.bool false)) rfl rfl rfl (by kernel_rfl) (by kernel_rfl) (by kernel_rfl) (fun _ _ _ h => h) (Or.inl ⟨by rfl, by intro w _; go_simp⟩) (fun _ => hHeld) ?_
                          try simp only [Act.put, List.setIfInBounds_toArray, List.set_cons_zero, List.set_cons_succ]
                          refine late_pure_at (some 93) (i := 5) (v := (.bool false)) rfl rfl rfl (by kernel_rfl) (by kernel_rfl) (by kernel_rfl) (fun _ _ _ h => h) (Or.inl ⟨by rfl, by intro w _; go_simp⟩) (fun _ => hHeld) ?_
                          try simp only [Act.put, List.setIfInBounds_toArray, List.set_cons_zero, List.set_cons_succ]
                          refine late_pure_at (some 94) (i := 6) (v := (.bool false)) rfl rfl rfl (by kernel_rfl) (by kernel_rfl) (by kernel_rfl) (fun _ _ _ h => h) (Or.inl ⟨by rfl, by intro w _; go_simp⟩) (fun _ => hHeld) ?_
                          try simp only [Act.put, List.setIfInBounds_toArray, List.set_cons_zero, List.set_cons_succ]
                          refine late_take_at (some 95) (i := 7) (v := (.agg #[.int .i64 r1k, .int .i64 r1n, .string ⟨List.toArray r1t⟩])) rfl rfl rfl (by kernel_rfl) (by kernel_rfl) (by kernel_rfl) (by kernel_rfl) (fun _ _ _ h => h) clean_none (Or.inl ⟨by rfl, by intro w hSw; go_split_ands; go_simp⟩) hHeld ?_
                          try simp only [Act.put, List.setIfInBounds_toArray, List.set_cons_zero, List.set_cons_succ]
                          refine late_ready (rs := [8]) (by kernel_rfl) (by simp) ?_
                          refine AllLate.cons rfl (fun K hK => ?_) ?_
                          · skip
                            go_simp
                            refine (num_calls 0 _).mono ?_
                            rintro e W41 ⟨rfl, hb⟩
                            clear hHeld
                            replace B := Lib.hid (B.out.below hb)
                            replace BL := Lib.hid (below_then BL.out hb)
                            clear hb
                            have hHeld : W41.cell? ⟨g1, 0, none⟩ = some (.int .i64 r1k) ∧ W41.cell? ⟨g1, 1, none⟩ = some (.int .i64 r1n) ∧ W41.cell? ⟨g1, 2, none⟩ = some (.string ⟨List.toArray r1t⟩) ∧ W41.cell? ⟨g2, 0, none⟩ = some (.int .i64 r2k) ∧ W41.cell? ⟨g2, 1, none⟩ = some (.int .i64 r2n) ∧ W41.cell? ⟨g2, 2, none⟩ = some (.string ⟨List.toArray r2t⟩) := ⟨(B.out.get 1 rfl).c0, (B.out.get 1 rfl).c1, (B.out.get 1 rfl).c2, (B.out.get 0 rfl).c0, (B.out.get 0 rfl).c1, (B.out.get 0 rfl).c2⟩
                            dsimp only
                            refine hK.out _ _ (fun _ => hHeld) ?_
                            clear hK K
                            try simp only [Act.put, List.setIfInBounds_toArray, List.set_cons_zero, List.set_cons_succ]
                            refine late_pure_at (some 97) (i := 9) (v := (.bool false)) rfl rfl rfl (by kernel_rfl) (by kernel_rfl) (by kernel_rfl) (fun _ _ _ h => h) (Or.inl ⟨by rfl, by intro w _; go_simp⟩) (fun _ => hHeld) ?_
                            try simp only [Act.put, List.setIfInBounds_toArray, List.set_cons_zero, List.set_cons_succ]
                            refine late_pure_at (some 98) (i := 10) (v := (.bool false)) rfl rfl rfl (by kernel_rfl) (by kernel_rfl) (by kernel_rfl) (fun _ _ _ h => h) (Or.inl ⟨by rfl, by intro w _; go_simp⟩) (fun _ => hHeld) ?_
                            try simp only [Act.put, List.setIfInBounds_toArray, List.set_cons_zero, List.set_cons_succ]
                            refine late_pure_at (some 99) (i := 11) (v := (.bool false)) rfl rfl rfl (by kernel_rfl) (by kernel_rfl) (by kernel_rfl) (fun _ _ _ h => h) (Or.inl ⟨by rfl, by intro w _; go_simp⟩) (fun _ => hHeld) ?_
                            try simp only [Act.put, List.setIfInBounds_toArray, List.set_cons_zero, List.set_cons_succ]
                            refine late_take_at (some 100) (i := 12) (v := (.agg #[.int .i64 r2k, .int .i64 r2n, .string ⟨List.toArray r2t⟩])) rfl rfl rfl (by kernel_rfl) (by kernel_rfl) (by kernel_rfl) (by kernel_rfl) (fun _ _ _ h => h) clean_none (Or.inl ⟨by rfl, by intro w hSw; go_split_ands; go_simp⟩) hHeld ?_
                            try simp only [Act.put, List.setIfInBounds_toArray, List.set_cons_zero, List.set_cons_succ]
                            refine late_ready (rs := [13]) (by kernel_rfl) (by simp) ?_
                            refine AllLate.cons rfl (fun K hK => ?_) ?_
                            · skip
                              go_simp
                              refine (num_calls 0 _).mono ?_
                              rintro e W42 ⟨rfl, hb⟩
                              clear hHeld
                              replace B := Lib.hid (B.out.below hb)
                              replace BL := Lib.hid (below_then BL.out hb)
                              clear hb
                              have hHeld : W42.cell? ⟨g1, 0, none⟩ = some (.int .i64 r1k) ∧ W42.cell? ⟨g1, 1, none⟩ = some (.int .i64 r1n) ∧ W42.cell? ⟨g1, 2, none⟩ = some (.string ⟨List.toArray r1t⟩) ∧ W42.cell? ⟨g2, 0, none⟩ = some (.int .i64 r2k) ∧ W42.cell? ⟨g2, 1, none⟩ = some (.int .i64 r2n) ∧ W42.cell? ⟨g2, 2, none⟩ = some (.string ⟨List.toArray r2t⟩) := ⟨(B.out.get 1 rfl).c0, (B.out.get 1 rfl).c1, (B.out.get 1 rfl).c2, (B.out.get 0 rfl).c0, (B.out.get 0 rfl).c1, (B.out.get 0 rfl).c2⟩
                              dsimp only
                              refine hK.out _ _ (fun _ => hHeld) ?_
                              clear hK K
                              try simp only [Act.put, List.setIfInBounds_toArray, List.set_cons_zero, List.set_cons_succ]
                              refine late_pure_at (some 102) (i := 14) (v := (.bool false)) rfl rfl rfl (by kernel_rfl) (by kernel_rfl) (by kernel_rfl) (fun _ _ _ h => h) (Or.inl ⟨by rfl, by intro w _; go_simp⟩) (fun _ => hHeld) ?_
                              try simp only [Act.put, List.setIfInBounds_toArray, List.set_cons_zero, List.set_cons_succ]
                              refine late_pure_at (some 103) (i := 15) (v := (.bool false)) rfl rfl rfl (by kernel_rfl) (by kernel_rfl) (by kernel_rfl) (fun _ _ _ h => h) (Or.inl ⟨by rfl, by intro w _; go_simp⟩) (fun _ => hHeld) ?_
                              try simp only [Act.put, List.setIfInBounds_toArray, List.set_cons_zero, List.set_cons_succ]
                              refine late_done (by kernel_rfl) ?_ _
                              refine NoPanic.normal ?_
                              go_wp2_with fail
                              go_meet
                              exact ⟨rfl, B, BL⟩
                            exact AllLate.nil
                          exact AllLate.nil
                        | false =>
                          exact Bool.noConfusion (show true = false from HCC.out)
                      | false =>
                        exact Bool.noConfusion (show true = false from HCC.out)
                    | false =>
                      exact Bool.noConfusion (show true = false from HCC.out)
                  | false =>
                    exact Bool.noConfusion (show true = false from HCC.out)
                case rest =>
                  clear B BL
                  obtain ⟨rfl, B, BL⟩ := hcut
                  obtain ⟨W43, hW⟩ : ∃ X, wc = X := ⟨_, rfl⟩
                  rw [hW] at B BL ⊢
                  clear hW
                  clear HCC HA11 HA12 HA13 HA14
                  replace HL := Lib.hid (show true = BigDivisors_s20 (⟨xk, xn, xt⟩ : Vl) (⟨yk, yn, yt⟩ : Vl) (⟨zk, zn, zt⟩ : Vl) ((⟨r0k, r0n, r0t⟩, r0e) : Vl × Int) ((⟨r1k, r1n, r1t⟩, r1e) : Vl × Int) ((⟨r2k, r2n, r2t⟩, r2e) : Vl × Int) from HL.out.trans ((if_neg (fun h => Bool.noConfusion (HCW.out.symm.trans h)))))
                  -- region 15
                  have cb3_0 : W43.cell? ⟨w.heap.size, 0, none⟩ = some (.int .i64 xk) := (B.out.get 5 rfl).c0
                  have cb3_1 : W43.cell? ⟨w.heap.size, 1, none⟩ = some (.int .i64 xn) := (B.out.get 5 rfl).c1
                  have cb3_2 : W43.cell? ⟨w.heap.size, 2, none⟩ = some (.string ⟨List.toArray xt⟩) := (B.out.get 5 rfl).c2
                  have cb5_0 : W43.cell? ⟨gb5, 0, none⟩ = some (.int .i64 zk) := (B.out.get 3 rfl).c0
                  have cb5_1 : W43.cell? ⟨gb5, 1, none⟩ = some (.int .i64 zn) := (B.out.get 3 rfl).c1
                  have cb5_2 : W43.cell? ⟨gb5, 2, none⟩ = some (.string ⟨List.toArray zt⟩) := (B.out.get 3 rfl).c2
                  obtain ⟨⟨⟨r3k, r3n, r3t⟩, r3e⟩, hr3⟩ : ∃ p, modR (⟨xk, xn, xt⟩ : Vl) (⟨zk, zn, zt⟩ : Vl) = p := ⟨_, rfl⟩
                  have hc3 := fun (W : World) (hW : Env W) => mod_pub (⟨xk, xn, xt⟩ : Vl) (⟨zk, zn, zt⟩ : Vl) HOx.out HOz.out W hW
                  have ho3 := modR_ok (⟨xk, xn, xt⟩ : Vl) (⟨zk, zn, zt⟩ : Vl)
                  rw [hr3] at hc3 ho3
                  simp only [Vl.val, pr] at hc3
                  have HC3 := Lib.hid hc3; have HOr3 : Hid (Vl.ok ⟨r3k, r3n, r3t⟩) := Lib.hid ho3; have HR3 := Lib.hid hr3
                  clear hc3 ho3 hr3
                  go_wp2_with fail
                  refine (HC3.out _ (HE.out.below BL.out)).mono ?_
                  rintro e W44 ⟨rfl, hb⟩
                  clear cb3_0 cb3_1 cb3_2 cb5_0 cb5_1 cb5_2
                  replace B := Lib.hid (B.out.below hb)
                  replace BL := Lib.hid (below_then BL.out hb)
                  clear hb
                  go_upto_region 16 with fail
                  have hB : Bxs (W44.alloc (.cells #[.int .i64 r3k, .int .i64 r3n, .string ⟨List.toArray r3t⟩] 23)) ((W44.heap.size, (⟨r3k, r3n, r3t⟩ : Vl)) :: [(g2, (⟨r2k, r2n, r2t⟩ : Vl)), (g1, (⟨r1k, r1n, r1t⟩ : Vl)), (g0, (⟨r0k, r0n, r0t⟩ : Vl)), (gb5, (⟨zk, zn, zt⟩ : Vl)), (gb4, (⟨yk, yn, yt⟩ : Vl)), (w.heap.size, (⟨xk, xn, xt⟩ : Vl))]) := B.out.push (⟨r3k, r3n, r3t⟩ : Vl) 23
                  have hL : Below w.heap.size w (W44.alloc (.cells #[.int .i64 r3k, .int .i64 r3n, .string ⟨List.toArray r3t⟩] 23)) := BL.out.alloc BL.out.size _
                  obtain ⟨W45, hW⟩ : ∃ X, W44.alloc (.cells #[.int .i64 r3k, .int .i64 r3n, .string ⟨List.toArray r3t⟩] 23) = X := ⟨_, rfl⟩
                  obtain ⟨g3, hg⟩ : ∃ g, W44.heap.size = g := ⟨_, rfl⟩
                  rw [hW] at hB hL ⊢
                  rw [hg] at hB ⊢
                  have HGb14_15_8 : Hid (w.heap.size ≤ g3) := Lib.hid (by rw [← hg]; exact BL.out.size)
                  replace B := Lib.hid hB
                  replace BL := Lib.hid hL
                  clear hB hL hW hg
                  replace HL := Lib.hid (show true = BigDivisors_s19 (⟨xk, xn, xt⟩ : Vl) (⟨yk, yn, yt⟩ : Vl) (⟨zk, zn, zt⟩ : Vl) ((⟨r0k, r0n, r0t⟩, r0e) : Vl × Int) ((⟨r1k, r1n, r1t⟩, r1e) : Vl × Int) ((⟨r2k, r2n, r2t⟩, r2e) : Vl × Int) ((⟨r3k, r3n, r3t⟩, r3e) : Vl × Int) from HL.out.trans (by unfold BigDivisors_s20; rw [HR3.out]))
                  -- region 16
                  have cb4_0 : W45.cell? ⟨gb4, 0, none⟩ = some (.int .i64 yk) := (B.out.get 5 rfl).c0
                  have cb4_1 : W45.cell? ⟨gb4, 1, none⟩ = some (.int .i64 yn) := (B.out.get 5 rfl).c1
                  have cb4_2 : W45.cell? ⟨gb4, 2, none⟩ = some (.string ⟨List.toArray yt⟩) := (B.out.get 5 rfl).c2
                  have cb5_0 : W45.cell? ⟨gb5, 0, none⟩ = some (.int .i64 zk) := (B.out.get 4 rfl).c0
                  have cb5_1 : W45.cell? ⟨gb5, 1, none⟩ = some (.int .i64 zn) := (B.out.get 4 rfl).c1
                  have cb5_2 : W45.cell? ⟨gb5, 2, none⟩ = some (.string ⟨List.toArray zt⟩) := (B.out.get 4 rfl).c2
                  obtain ⟨⟨⟨r4k, r4n, r4t⟩, r4e⟩, hr4⟩ : ∃ p, modR (⟨yk, yn, yt⟩ : Vl) (⟨zk, zn, zt⟩ : Vl) = p := ⟨_, rfl⟩
                  have hc4 := fun (W : World) (hW : Env W) => mod_pub (⟨yk, yn, yt⟩ : Vl) (⟨zk, zn, zt⟩ : Vl) HOy.out HOz.out W hW
                  have ho4 := modR_ok (⟨yk, yn, yt⟩ : Vl) (⟨zk, zn, zt⟩ : Vl)
                  rw [hr4] at hc4 ho4
                  simp only [Vl.val, pr] at hc4
                  have HC4 := Lib.hid hc4; have HOr4 : Hid (Vl.ok ⟨r4k, r4n, r4t⟩) := Lib.hid ho4; have HR4 := Lib.hid hr4
                  clear hc4 ho4 hr4
                  go_wp2_with fail
                  refine (HC4.out _ (HE.out.below BL.out)).mono ?_
                  rintro e W46 ⟨rfl, hb⟩
                  clear cb4_0 cb4_1 cb4_2 cb5_0 cb5_1 cb5_2
                  replace B := Lib.hid (B.out.below hb)
                  replace BL := Lib.hid (below_then BL.out hb)
                  clear hb
                  go_upto_region 17 with fail
                  have hB : Bxs (W46.alloc (.cells #[.int .i64 r4k, .int .i64 r4n, .string ⟨List.toArray r4t⟩] 23)) ((W46.heap.size, (⟨r4k, r4n, r4t⟩ : Vl)) :: [(g3, (⟨r3k, r3n, r3t⟩ : Vl)), (g2, (⟨r2k, r2n, r2t⟩ : Vl)), (g1, (⟨r1k, r1n, r1t⟩ : Vl)), (g0, (⟨r0k, r0n, r0t⟩ : Vl)), (gb5, (⟨zk, zn, zt⟩ : Vl)), (gb4, (⟨yk, yn, yt⟩ : Vl)), (w.heap.size, (⟨xk, xn, xt⟩ : Vl))]) := B.out.push (⟨r4k, r4n, r4t⟩ : Vl) 23
                  have hL : Below w.heap.size w (W46.alloc (.cells #[.int .i64 r4k, .int .i64 r4n, .string ⟨List.toArray r4t⟩] 23)) := BL.out.alloc BL.out.size _
                  obtain ⟨W47, hW⟩ : ∃ X, W46.alloc (.cells #[.int .i64 r4k, .int .i64 r4n, .string ⟨List.toArray r4t⟩] 23) = X := ⟨_, rfl⟩
                  obtain ⟨g4, hg⟩ : ∃ g, W46.heap.size = g := ⟨_, rfl⟩
                  rw [hW] at hB hL ⊢
                  rw [hg] at hB ⊢
                  have HGb16_16_9 : Hid (w.heap.size ≤ g4) := Lib.hid (by rw [← hg]; exact BL.out.size)
                  replace B := Lib.hid hB
                  replace BL := Lib.hid hL
                  clear hB hL hW hg
                  replace HL := Lib.hid (show true = BigDivisors_s18 (⟨xk, xn, xt⟩ : Vl) (⟨yk, yn, yt⟩ : Vl) (⟨zk, zn, zt⟩ : Vl) ((⟨r0k, r0n, r0t⟩, r0e) : Vl × Int) ((⟨r1k, r1n, r1t⟩, r1e) : Vl × Int) ((⟨r2k, r2n, r2t⟩, r2e) : Vl × Int) ((⟨r3k, r3n, r3t⟩, r3e) : Vl × Int) ((⟨r4k, r4n, r4t⟩, r4e) : Vl × Int) from HL.out.trans (by unfold BigDivisors_s19; rw [HR4.out]))
                  -- region 17, a test
                  obtain ⟨b15, h⟩ : ∃ b : Bool, (r3e == 0) = b := ⟨_, rfl⟩
                  have HA15 := Lib.hid h
                  clear h
                  obtain ⟨b16, h⟩ : ∃ b : Bool, (r4e == 0) = b := ⟨_, rfl⟩
                  have HA16 := Lib.hid h
                  clear h
                  obtain ⟨b17, h⟩ : ∃ b : Bool, (veqB r3k r3n r3t 1 0 []) = b := ⟨_, rfl⟩
                  have HA17 := Lib.hid h
                  clear h
                  obtain ⟨b18, h⟩ : ∃ b : Bool, (veqB r4k r4n r4t 1 0 []) = b := ⟨_, rfl⟩
                  have HA18 := Lib.hid h
                  clear h
                  obtain ⟨c11, h⟩ : ∃ c : Bool, (((b15 && b16) && b17) && b18) = c := ⟨_, rfl⟩
                  have HCC := Lib.hid h
                  clear h
                  go_upto_region 17 with fail
                  go_cut [131] from 116 to 131 (fun v wx => v = .bool c11 ∧ Hid (Bxs wx [(g4, (⟨r4k, r4n, r4t⟩ : Vl)), (g3, (⟨r3k, r3n, r3t⟩ : Vl)), (g2, (⟨r2k, r2n, r2t⟩ : Vl)), (g1, (⟨r1k, r1n, r1t⟩ : Vl)), (g0, (⟨r0k, r0n, r0t⟩ : Vl)), (gb5, (⟨zk, zn, zt⟩ : Vl)), (gb4, (⟨yk, yn, yt⟩ : Vl)), (w.heap.size, (⟨xk, xn, xt⟩ : Vl))]) ∧ Hid (Below w.heap.size w wx))
                  case first =>
                    clear HL
                    cases b15 with
                    | true =>
                      cases b16 with
                      | true =>
                        cases b17 with
                        | true =>
                          cases b18 with
                          | true =>
                            have f0_0 : ((r3e : Int) == 0) = true := HA15.out
                            have f0_1 : ((r3e : Int) != 0) = false := by have h := HA15.out; simpa using h
                            have f1_0 : ((r4e : Int) == 0) = true := HA16.out
                            have f1_1 : ((r4e : Int) != 0) = false := by have h := HA16.out; simpa using h
                            have f2_0 : (veqB r3k r3n r3t 1 0 []) = true := HA17.out
                            have f3_0 : (veqB r4k r4n r4t 1 0 []) = true := HA18.out
                            refine wp_region_noPanic ?_
                            refine region_late (fun (X : World) => X.cell? ⟨g3, 0, none⟩ = some (.int .i64 r3k) ∧ X.cell? ⟨g3, 1, none⟩ = some (.int .i64 r3n) ∧ X.cell? ⟨g3, 2, none⟩ = some (.string ⟨List.toArray r3t⟩) ∧ X.cell? ⟨g4, 0, none⟩ = some (.int .i64 r4k) ∧ X.cell? ⟨g4, 1, none⟩ = some (.int .i64 r4n) ∧ X.cell? ⟨g4, 2, none⟩ = some (.string ⟨List.toArray r4t⟩)) (fun _ => false) (by kernel_rfl) ?_
                            have hb := (Below.refl W47.heap.size W47).drew
                            obtain ⟨W48, hW⟩ : ∃ X, W47.drew = X := ⟨_, rfl⟩
                            rw [hW] at hb ⊢
                            clear hW
                            replace B := Lib.hid (B.out.below hb)
                            replace BL := Lib.hid (below_then BL.out hb)
                            clear hb
                            have hHeld : W48.cell? ⟨g3, 0, none⟩ = some (.int .i64 r3k) ∧ W48.cell? ⟨g3, 1, none⟩ = some (.int .i64 r3n) ∧ W48.cell? ⟨g3, 2, none⟩ = some (.string ⟨List.toArray r3t⟩) ∧ W48.cell? ⟨g4, 0, none⟩ = some (.int .i64 r4k) ∧ W48.cell? ⟨g4, 1, none⟩ = some (.int .i64 r4n) ∧ W48.cell? ⟨g4, 2, none⟩ = some (.string ⟨List.toArray r4t⟩) := ⟨(B.out.get 1 rfl).c0, (B.out.get 1 rfl).c1, (B.out.get 1 rfl).c2, (B.out.get 0 rfl).c0, (B.out.get 0 rfl).c1, (B.out.get 0 rfl).c2⟩
                            refine late_pure_at (some 116) (i := 0) (v := (.int .i64 r3e)) rfl rfl rfl (by kernel_rfl) (by kernel_rfl) (by kernel_rfl) (fun _ _ _ h => h) (Or.inl ⟨by rfl, by intro w _; go_simp⟩) (fun _ => hHeld) ?_
                            try simp only [Act.put, List.setIfInBounds_toArray, List.set_cons_zero, List.set_cons_succ]
                            refine late_pure_at (some 117) (i := 1) (v := (.bool true)) rfl rfl rfl (by kernel_rfl) (by kernel_rfl) (by kernel_rfl) (fun _ _ _ h => h) (Or.inl ⟨by rfl, by intro w _; go_simp⟩) (fun _ => hHeld) ?_
                            try simp only [Act.put, List.setIfInBounds_toArray, List.set_cons_zero, List.set_cons_succ]
                            refine late_pure_at (some 118) (i := 2) (v := (.bool true)) rfl rfl rfl (by kernel_rfl) (by kernel_rfl) (by kernel_rfl) (fun _ _ _ h => h) (Or.inl ⟨by rfl, by intro w _; go_simp⟩) (fun _ => hHeld) ?_
                            try simp only [Act.put, List.setIfInBounds_toArray, List.set_cons_zero, List.set_cons_succ]
                            refine late_pure_at (some 119) (i := 3) (v := (.int .i64 r4e)) rfl rfl rfl (by kernel_rfl) (by kernel_rfl) (by kernel_rfl) (fun _ _ _ h => h) (Or.inl ⟨by rfl, by intro w _; go_simp⟩) (fun _ => hHeld) ?_
                            try simp only [Act.put, List.setIfInBounds_toArray, List.set_cons_zero, List.set_cons_succ]
                            refine late_pure_at (some 120) (i := 4) (v := (.bool true)) rfl rfl rfl (by kernel_rfl) (by kernel_rfl) (by kernel_rfl) (fun _ _ _ h => h) (Or.inl ⟨by rfl, by intro w _; go_simp⟩) (fun _ => hHeld) ?_
                            try simp only [Act.put, List.setIfInBounds_toArray, List.set_cons_zero, List.set_cons_succ]
                            refine late_pure_at (some 121) (i := 5) (v := (.bool true)) rfl rfl rfl (by kernel_rfl) (by kernel_rfl) (by kernel_rfl) (fun _ _ _ h => h) (Or.inl ⟨by rfl, by intro w _; go_simp⟩) (fun _ => hHeld) ?_
                            try simp only [Act.put, List.setIfInBounds_toArray, List.set_cons_zero, List.set_cons_succ]
                            refine late_pure_at (some 122) (i := 6) (v := (.bool true)) rfl rfl rfl (by kernel_rfl) (by kernel_rfl) (by kernel_rfl) (fun _ _ _ h => h) (Or.inl ⟨by rfl, by intro w _; go_simp⟩) (fun _ => hHeld) ?_
                            try simp only [Act.put, List.setIfInBounds_toArray, List.set_cons_zero, List.set_cons_succ]
                            refine late_take_at (some 123) (i := 7) (v := (.agg #[.int .i64 r3k, .int .i64 r3n, .string ⟨List.toArray r3t⟩])) rfl rfl rfl (by kernel_rfl) (by kernel_rfl) (by kernel_rfl) (by kernel_rfl) (fun _ _ _ h => h) clean_none (Or.inl ⟨by rfl, by intro w hSw; go_split_ands; go_simp⟩) hHeld ?_
                            try simp only [Act.put, List.setIfInBounds_toArray, List.set_cons_zero, List.set_cons_succ]
                            refine late_ready (rs := [8]) (by kernel_rfl) (by simp) ?_
                            refine AllLate.cons rfl (fun K hK => ?_) ?_
                            · skip
                              go_simp
                              refine (num_calls 0 _).mono ?_
                              rintro e W49 ⟨rfl, hb⟩
                              clear hHeld
                              replace B := Lib.hid (B.out.below hb)
                              replace BL := Lib.hid (below_then BL.out hb)
                              clear hb
                              have hHeld : W49.cell? ⟨g3, 0, none⟩ = some (.int .i64 r3k) ∧ W49.cell? ⟨g3, 1, none⟩ = some (.int .i64 r3n) ∧ W49.cell? ⟨g3, 2, none⟩ = some (.string ⟨List.toArray r3t⟩) ∧ W49.cell? ⟨g4, 0, none⟩ = some (.int .i64 r4k) ∧ W49.cell? ⟨g4, 1, none⟩ = some (.int .i64 r4n) ∧ W49.cell? ⟨g4, 2, none⟩ = some (.string ⟨List.toArray r4t⟩) := ⟨(B.out.get 1 rfl).c0, (B.out.get 1 rfl).c1, (B.out.get 1 rfl).c2, (B.out.get 0 rfl).c0, (B.out.get 0 rfl).c1, (B.out.get 0 rfl).c2⟩
                              dsimp only
                              refine hK.out _ _ (fun _ => hHeld) ?_
                              clear hK K
                              try simp only [Act.put, List.setIfInBounds_toArray, List.set_cons_zero, List.set_cons_succ]
                              refine late_pure_at (some 125) (i := 9) (v := (.bool true)) rfl rfl rfl (by kernel_rfl) (by kernel_rfl) (by kernel_rfl) (fun _ _ _ h => h) (Or.inl ⟨by rfl, by intro w _; go_simp⟩) (fun _ => hHeld) ?_
                              try simp only [Act.put, List.setIfInBounds_toArray, List.set_cons_zero, List.set_cons_succ]
                              refine late_pure_at (some 126) (i := 10) (v := (.bool true)) rfl rfl rfl (by kernel_rfl) (by kernel_rfl) (by kernel_rfl) (fun _ _ _ h => h) (Or.inl ⟨by rfl, by intro w _; go_simp⟩) (fun _ => hHeld) ?_
                              try simp only [Act.put, List.setIfInBounds_toArray, List.set_cons_zero, List.set_cons_succ]
                              refine late_pure_at (some 127) (i := 11) (v := (.bool true)) rfl rfl rfl (by kernel_rfl) (by kernel_rfl) (by kernel_rfl) (fun _ _ _ h => h) (Or.inl ⟨by rfl, by intro w _; go_simp⟩) (fun _ => hHeld) ?_
                              try simp only [Act.put, List.setIfInBounds_toArray, List.set_cons_zero, List.set_cons_succ]
                              refine late_take_at (some 128) (i := 12) (v := (.agg #[.int .i64 r4k, .int .i64 r4n, .string ⟨List.toArray r4t⟩])) rfl rfl rfl (by kernel_rfl) (by kernel_rfl) (by kernel_rfl) (by kernel_rfl) (fun _ _ _ h => h) clean_none (Or.inl ⟨by rfl, by intro w hSw; go_split_ands; go_simp⟩) hHeld ?_
                              try simp only [Act.put, List.setIfInBounds_toArray, List.set_cons_zero, List.set_cons_succ]
                              refine late_ready (rs := [13]) (by kernel_rfl) (by simp) ?_
                              refine AllLate.cons rfl (fun K hK => ?_) ?_
                              · skip
                                go_simp
                                refine (num_calls 0 _).mono ?_
                                rintro e W50 ⟨rfl, hb⟩
                                clear hHeld
                                replace B := Lib.hid (B.out.below hb)
                                replace BL := Lib.hid (below_then BL.out hb)
                                clear hb
                                have hHeld : W50.cell? ⟨g3, 0, none⟩ = some (.int .i64 r3k) ∧ W50.cell? ⟨g3, 1, none⟩ = some (.int .i64 r3n) ∧ W50.cell? ⟨g3, 2, none⟩ = some (.string ⟨List.toArray r3t⟩) ∧ W50.cell? ⟨g4, 0, none⟩ = some (.int .i64 r4k) ∧ W50.cell? ⟨g4, 1, none⟩ = some (.int .i64 r4n) ∧ W50.cell? ⟨g4, 2, none⟩ = some (.string ⟨List.toArray r4t⟩) := ⟨(B.out.get 1 rfl).c0, (B.out.get 1 rfl).c1, (B.out.get 1 rfl).c2, (B.out.get 0 rfl).c0, (B.out.get 0 rfl).c1, (B.out.get 0 rfl).c2⟩
                                dsimp only
                                refine hK.out _ _ (fun _ => hHeld) ?_
                                clear hK K
                                try simp only [Act.put, List.setIfInBounds_toArray, List.set_cons_zero, List.set_cons_succ]
                                refine late_pure_at (some 130) (i := 14) (v := (.bool true)) rfl rfl rfl (by kernel_rfl) (by kernel_rfl) (by kernel_rfl) (fun _ _ _ h => h) (Or.inl ⟨by rfl, by intro w _; go_simp⟩) (fun _ => hHeld) ?_
                                try simp only [Act.put, List.setIfInBounds_toArray, List.set_cons_zero, List.set_cons_succ]
                                refine late_pure_at (some 131) (i := 15) (v := (.bool true)) rfl rfl rfl (by kernel_rfl) (by kernel_rfl) (by kernel_rfl) (fun _ _ _ h => h) (Or.inl ⟨by rfl, by intro w _; go_simp⟩) (fun _ => hHeld) ?_
                                try simp only [Act.put, List.setIfInBounds_toArray, List.set_cons_zero, List.set_cons_succ]
                                refine late_done (by kernel_rfl) ?_ _
                                refine NoPanic.normal ?_
                                go_wp2_with fail
                                go_meet
                                exact ⟨congrArg Value.bool HCC.out, B, BL⟩
                              exact AllLate.nil
                            exact AllLate.nil
                          | false =>
                            have f0_0 : ((r3e : Int) == 0) = true := HA15.out
                            have f0_1 : ((r3e : Int) != 0) = false := by have h := HA15.out; simpa using h
                            have f1_0 : ((r4e : Int) == 0) = true := HA16.out
                            have f1_1 : ((r4e : Int) != 0) = false := by have h := HA16.out; simpa using h
                            have f2_0 : (veqB r3k r3n r3t 1 0 []) = true := HA17.out
                            have f3_0 : (veqB r4k r4n r4t 1 0 []) = false := HA18.out
                            refine wp_region_noPanic ?_
                            refine region_late (fun (X : World) => X.cell? ⟨g3, 0, none⟩ = some (.int .i64 r3k) ∧ X.cell? ⟨g3, 1, none⟩ = some (.int .i64 r3n) ∧ X.cell? ⟨g3, 2, none⟩ = some (.string ⟨List.toArray r3t⟩) ∧ X.cell? ⟨g4, 0, none⟩ = some (.int .i64 r4k) ∧ X.cell? ⟨g4, 1, none⟩ = some (.int .i64 r4n) ∧ X.cell? ⟨g4, 2, none⟩ = some (.string ⟨List.toArray r4t⟩)) (fun _ => false) (by kernel_rfl) ?_
                            have hb := (Below.refl W47.heap.size W47).drew
                            obtain ⟨W51, hW⟩ : ∃ X, W47.drew = X := ⟨_, rfl⟩
                            rw [hW] at hb ⊢
                            clear hW
                            replace B := Lib.hid (B.out.below hb)
                            replace BL := Lib.hid (below_then BL.out hb)
                            clear hb
                            have hHeld : W51.cell? ⟨g3, 0, none⟩ = some (.int .i64 r3k) ∧ W51.cell? ⟨g3, 1, none⟩ = some (.int .i64 r3n) ∧ W51.cell? ⟨g3, 2, none⟩ = some (.string ⟨List.toArray r3t⟩) ∧ W51.cell? ⟨g4, 0, none⟩ = some (.int .i64 r4k) ∧ W51.cell? ⟨g4, 1, none⟩ = some (.int .i64 r4n) ∧ W51.cell? ⟨g4, 2, none⟩ = some (.string ⟨List.toArray r4t⟩) := ⟨(B.out.get 1 rfl).c0, (B.out.get 1 rfl).c1, (B.out.get 1 rfl).c2, (B.out.get 0 rfl).c0, (B.out.get 0 rfl).c1, (B.out.get 0 rfl).c2⟩
                            refine late_pure_at (some 116) (i := 0) (v := (.int .i64 r3e)) rfl rfl rfl (by kernel_rfl) (by kernel_rfl) (by kernel_rfl) (fun _ _ _ h => h) (Or.inl ⟨by rfl, by intro w _; go_simp⟩) (fun _ => hHeld) ?_
                            try simp only [Act.put, List.setIfInBounds_toArray, List.set_cons_zero, List.set_cons_succ]
                            refine late_pure_at (some 117) (i := 1) (v := (.bool true)) rfl rfl rfl (by kernel_rfl) (by kernel_rfl) (by kernel_rfl) (fun _ _ _ h => h) (Or.inl ⟨by rfl, by intro w _; go_simp⟩) (fun _ => hHeld) ?_
                            try simp only [Act.put, List.setIfInBounds_toArray, List.set_cons_zero, List.set_cons_succ]
                            refine late_pure_at (some 118) (i := 2) (v := (.bool true)) rfl rfl rfl (by kernel_rfl) (by kernel_rfl) (by kernel_rfl) (fun _ _ _ h => h) (Or.inl ⟨by rfl, by intro w _; go_simp⟩) (fun _ => hHeld) ?_
                            try simp only [Act.put, List.setIfInBounds_toArray, List.set_cons_zero, List.set_cons_succ]
                            refine late_pure_at (some 119) (i := 3) (v := (.int .i64 r4e)) rfl rfl rfl (by kernel_rfl) (by kernel_rfl) (by kernel_rfl) (fun _ _ _ h => h) (Or.inl ⟨by rfl, by intro w _; go_simp⟩) (fun _ => hHeld) ?_
                            try simp only [Act.put, List.setIfInBounds_toArray, List.set_cons_zero, List.set_cons_succ]
                            refine late_pure_at (some 120) (i := 4) (v := (.bool true)) rfl rfl rfl (by kernel_rfl) (by kernel_rfl) (by kernel_rfl) (fun _ _ _ h => h) (Or.inl ⟨by rfl, by intro w _; go_simp⟩) (fun _ => hHeld) ?_
                            try simp only [Act.put, List.setIfInBounds_toArray, List.set_cons_zero, List.set_cons_succ]
                            refine late_pure_at (some 121) (i := 5) (v := (.bool true)) rfl rfl rfl (by kernel_rfl) (by kernel_rfl) (by kernel_rfl) (fun _ _ _ h => h) (Or.inl ⟨by rfl, by intro w _; go_simp⟩) (fun _ => hHeld) ?_
                            try simp only [Act.put, List.setIfInBounds_toArray, List.set_cons_zero, List.set_cons_succ]
                            refine late_pure_at (some 122) (i := 6) (v := (.bool true)) rfl rfl rfl (by kernel_rfl) (by kernel_rfl) (by kernel_rfl) (fun _ _ _ h => h) (Or.inl ⟨by rfl, by intro w _; go_simp⟩) (fun _ => hHeld) ?_
                            try simp only [Act.put, List.setIfInBounds_toArray, List.set_cons_zero, List.set_cons_succ]
                            refine late_take_at (some 123) (i := 7) (v := (.agg #[.int .i64 r3k, .int .i64 r3n, .string ⟨List.toArray r3t⟩])) rfl rfl rfl (by kernel_rfl) (by kernel_rfl) (by kernel_rfl) (by kernel_rfl) (fun _ _ _ h => h) clean_none (Or.inl ⟨by rfl, by intro w hSw; go_split_ands; go_simp⟩) hHeld ?_
                            try simp only [Act.put, List.setIfInBounds_toArray, List.set_cons_zero, List.set_cons_succ]
                            refine late_ready (rs := [8]) (by kernel_rfl) (by simp) ?_
                            refine AllLate.cons rfl (fun K hK => ?_) ?_
                            · skip
                              go_simp
                              refine (num_calls 0 _).mono ?_
                              rintro e W52 ⟨rfl, hb⟩
                              clear hHeld
                              replace B := Lib.hid (B.out.below hb)
                              replace BL := Lib.hid (below_then BL.out hb)
                              clear hb
                              have hHeld : W52.cell? ⟨g3, 0, none⟩ = some (.int .i64 r3k) ∧ W52.cell? ⟨g3, 1, none⟩ = some (.int .i64 r3n) ∧ W52.cell? ⟨g3, 2, none⟩ = some (.string ⟨List.toArray r3t⟩) ∧ W52.cell? ⟨g4, 0, none⟩ = some (.int .i64 r4k) ∧ W52.cell? ⟨g4, 1, none⟩ = some (.int .i64 r4n) ∧ W52.cell? ⟨g4, 2, none⟩ = some (.string ⟨List.toArray r4t⟩) := ⟨(B.out.get 1 rfl).c0, (B.out.get 1 rfl).c1, (B.out.get 1 rfl).c2, (B.out.get 0 rfl).c0, (B.out.get 0 rfl).c1, (B.out.get 0 rfl).c2⟩
                              dsimp only
                              refine hK.out _ _ (fun _ => hHeld) ?_
                              clear hK K
                              try simp only [Act.put, List.setIfInBounds_toArray, List.set_cons_zero, List.set_cons_succ]
                              refine late_pure_at (some 125) (i := 9) (v := (.bool true)) rfl rfl rfl (by kernel_rfl) (by kernel_rfl) (by kernel_rfl) (fun _ _ _ h => h) (Or.inl ⟨by rfl, by intro w _; go_simp⟩) (fun _ => hHeld) ?_
                              try simp only [Act.put, List.setIfInBounds_toArray, List.set_cons_zero, List.set_cons_succ]
                              refine late_pure_at (some 126) (i := 10) (v := (.bool true)) rfl rfl rfl (by kernel_rfl) (by kernel_rfl) (by kernel_rfl) (fun _ _ _ h => h) (Or.inl ⟨by rfl, by intro w _; go_simp⟩) (fun _ => hHeld) ?_
                              try simp only [Act.put, List.setIfInBounds_toArray, List.set_cons_zero, List.set_cons_succ]
                              refine late_pure_at (some 127) (i := 11) (v := (.bool true)) rfl rfl rfl (by kernel_rfl) (by kernel_rfl) (by kernel_rfl) (fun _ _ _ h => h) (Or.inl ⟨by rfl, by intro w _; go_simp⟩) (fun _ => hHeld) ?_
                              try simp only [Act.put, List.setIfInBounds_toArray, List.set_cons_zero, List.set_cons_succ]
                              refine late_take_at (some 128) (i := 12) (v := (.agg #[.int .i64 r4k, .int .i64 r4n, .string ⟨List.toArray r4t⟩])) rfl rfl rfl (by kernel_rfl) (by kernel_rfl) (by kernel_rfl) (by kernel_rfl) (fun _ _ _ h => h) clean_none (Or.inl ⟨by rfl, by intro w hSw; go_split_ands; go_simp⟩) hHeld ?_
                              try simp only [Act.put, List.setIfInBounds_toArray, List.set_cons_zero, List.set_cons_succ]
                              refine late_ready (rs := [13]) (by kernel_rfl) (by simp) ?_
                              refine AllLate.cons rfl (fun K hK => ?_) ?_
                              · skip
                                go_simp
                                refine (num_calls 0 _).mono ?_
                                rintro e W53 ⟨rfl, hb⟩
                                clear hHeld
                                replace B := Lib.hid (B.out.below hb)
                                replace BL := Lib.hid (below_then BL.out hb)
                                clear hb
                                have hHeld : W53.cell? ⟨g3, 0, none⟩ = some (.int .i64 r3k) ∧ W53.cell? ⟨g3, 1, none⟩ = some (.int .i64 r3n) ∧ W53.cell? ⟨g3, 2, none⟩ = some (.string ⟨List.toArray r3t⟩) ∧ W53.cell? ⟨g4, 0, none⟩ = some (.int .i64 r4k) ∧ W53.cell? ⟨g4, 1, none⟩ = some (.int .i64 r4n) ∧ W53.cell? ⟨g4, 2, none⟩ = some (.string ⟨List.toArray r4t⟩) := ⟨(B.out.get 1 rfl).c0, (B.out.get 1 rfl).c1, (B.out.get 1 rfl).c2, (B.out.get 0 rfl).c0, (B.out.get 0 rfl).c1, (B.out.get 0 rfl).c2⟩
                                dsimp only
                                refine hK.out _ _ (fun _ => hHeld) ?_
                                clear hK K
                                try simp only [Act.put, List.setIfInBounds_toArray, List.set_cons_zero, List.set_cons_succ]
                                refine late_pure_at (some 130) (i := 14) (v := (.bool false)) rfl rfl rfl (by kernel_rfl) (by kernel_rfl) (by kernel_rfl) (fun _ _ _ h => h) (Or.inl ⟨by rfl, by intro w _; go_simp⟩) (fun _ => hHeld) ?_
                                try simp only [Act.put, List.setIfInBounds_toArray, List.set_cons_zero, List.set_cons_succ]
                                refine late_pure_at (some 131) (i := 15) (v := (.bool false)) rfl rfl rfl (by kernel_rfl) (by kernel_rfl) (by kernel_rfl) (fun _ _ _ h => h) (Or.inl ⟨by rfl, by intro w _; go_simp⟩) (fun _ => hHeld) ?_
                                try simp only [Act.put, List.setIfInBounds_toArray, List.set_cons_zero, List.set_cons_succ]
                                refine late_done (by kernel_rfl) ?_ _
                                refine NoPanic.normal ?_
                                go_wp2_with fail
                                go_meet
                                exact ⟨congrArg Value.bool HCC.out, B, BL⟩
                              exact AllLate.nil
                            exact AllLate.nil
                        | false =>
                          have f0_0 : ((r3e : Int) == 0) = true := HA15.out
                          have f0_1 : ((r3e : Int) != 0) = false := by have h := HA15.out; simpa using h
                          have f1_0 : ((r4e : Int) == 0) = true := HA16.out
                          have f1_1 : ((r4e : Int) != 0) = false := by have h := HA16.out; simpa using h
                          have f2_0 : (veqB r3k r3n r3t 1 0 []) = false := HA17.out
                          refine wp_region_noPanic ?_
                          refine region_late (fun (X : World) => X.cell? ⟨g3, 0, none⟩ = some (.int .i64 r3k) ∧ X.cell? ⟨g3, 1, none⟩ = some (.int .i64 r3n) ∧ X.cell? ⟨g3, 2, none⟩ = some (.string ⟨List.toArray r3t⟩)) (fun _ => false) (by kernel_rfl) ?_
                          have hb := (Below.refl W47.heap.size W47).drew
                          obtain ⟨W54, hW⟩ : ∃ X, W47.drew = X := ⟨_, rfl⟩
                          rw [hW] at hb ⊢
                          clear hW
                          replace B := Lib.hid (B.out.below hb)
                          replace BL := Lib.hid (below_then BL.out hb)
                          clear hb
                          have hHeld : W54.cell? ⟨g3, 0, none⟩ = some (.int .i64 r3k) ∧ W54.cell? ⟨g3, 1, none⟩ = some (.int .i64 r3n) ∧ W54.cell? ⟨g3, 2, none⟩ = some (.string ⟨List.toArray r3t⟩) := ⟨(B.out.get 1 rfl).c0, (B.out.get 1 rfl).c1, (B.out.get 1 rfl).c2⟩
                          refine late_pure_at (some 116) (i := 0) (v := (.int .i64 r3e)) rfl rfl rfl (by kernel_rfl) (by kernel_rfl) (by kernel_rfl) (fun _ _ _ h => h) (Or.inl ⟨by rfl, by intro w _; go_simp⟩) (fun _ => hHeld) ?_
                          try simp only [Act.put, List.setIfInBounds_toArray, List.set_cons_zero, List.set_cons_succ]
                          refine late_pure_at (some 117) (i := 1) (v := (.bool true)) rfl rfl rfl (by kernel_rfl) (by kernel_rfl) (by kernel_rfl) (fun _ _ _ h => h) (Or.inl ⟨by rfl, by intro w _; go_simp⟩) (fun _ => hHeld) ?_
                          try simp only [Act.put, List.setIfInBounds_toArray, List.set_cons_zero, List.set_cons_succ]
                          refine late_pure_at (some 118) (i := 2) (v := (.bool true)) rfl rfl rfl (by kernel_rfl) (by kernel_rfl) (by kernel_rfl) (fun _ _ _ h => h) (Or.inl ⟨by rfl, by intro w _; go_simp⟩) (fun _ => hHeld) ?_
                          try simp only [Act.put, List.setIfInBounds_toArray, List.set_cons_zero, List.set_cons_succ]
                          refine late_pure_at (some 119) (i := 3) (v := (.int .i64 r4e)) rfl rfl rfl (by kernel_rfl) (by kernel_rfl) (by kernel_rfl) (fun _ _ _ h => h) (Or.inl ⟨by rfl, by intro w _; go_simp⟩) (fun _ => hHeld) ?_
                          try simp only [Act.put, List.setIfInBounds_toArray, List.set_cons_zero, List.set_cons_succ]
                          refine late_pure_at (some 120) (i := 4) (v := (.bool true)) rfl rfl rfl (by kernel_rfl) (by kernel_rfl) (by kernel_rfl) (fun _ _ _ h => h) (Or.inl ⟨by rfl, by intro w _; go_simp⟩) (fun _ => hHeld) ?_
                          try simp only [Act.put, List.setIfInBounds_toArray, List.set_cons_zero, List.set_cons_succ]
                          refine late_pure_at (some 121) (i := 5) (v := (.bool true)) rfl rfl rfl (by kernel_rfl) (by kernel_rfl) (by kernel_rfl) (fun _ _ _ h => h) (Or.inl ⟨by rfl, by intro w _; go_simp⟩) (fun _ => hHeld) ?_
                          try simp only [Act.put, List.setIfInBounds_toArray, List.set_cons_zero, List.set_cons_succ]
                          refine late_pure_at (some 122) (i := 6) (v := (.bool true)) rfl rfl rfl (by kernel_rfl) (by kernel_rfl) (by kernel_rfl) (fun _ _ _ h => h) (Or.inl ⟨by rfl, by intro w _; go_simp⟩) (fun _ => hHeld) ?_
                          try simp only [Act.put, List.setIfInBounds_toArray, List.set_cons_zero, List.set_cons_succ]
                          refine late_take_at (some 123) (i := 7) (v := (.agg #[.int .i64 r3k, .int .i64 r3n, .string ⟨List.toArray r3t⟩])) rfl rfl rfl (by kernel_rfl) (by kernel_rfl) (by kernel_rfl) (by kernel_rfl) (fun _ _ _ h => h) clean_none (Or.inl ⟨by rfl, by intro w hSw; go_split_ands; go_simp⟩) hHeld ?_
                          try simp only [Act.put, List.setIfInBounds_toArray, List.set_cons_zero, List.set_cons_succ]
                          refine late_ready (rs := [8]) (by kernel_rfl) (by simp) ?_
                          refine AllLate.cons rfl (fun K hK => ?_) ?_
                          · skip
                            go_simp
                            refine (num_calls 0 _).mono ?_
                            rintro e W55 ⟨rfl, hb⟩
                            clear hHeld
                            replace B := Lib.hid (B.out.below hb)
                            replace BL := Lib.hid (below_then BL.out hb)
                            clear hb
                            have hHeld : W55.cell? ⟨g3, 0, none⟩ = some (.int .i64 r3k) ∧ W55.cell? ⟨g3, 1, none⟩ = some (.int .i64 r3n) ∧ W55.cell? ⟨g3, 2, none⟩ = some (.string ⟨List.toArray r3t⟩) := ⟨(B.out.get 1 rfl).c0, (B.out.get 1 rfl).c1, (B.out.get 1 rfl).c2⟩
                            dsimp only
                            refine hK.out _ _ (fun _ => hHeld) ?_
                            clear hK K
                            try simp only [Act.put, List.setIfInBounds_toArray, List.set_cons_zero, List.set_cons_succ]
                            refine late_pure_at (some 125) (i := 9) (v := (.bool false)) rfl rfl rfl (by kernel_rfl) (by kernel_rfl) (by kernel_rfl) (fun _ _ _ h => h) (Or.inl ⟨by rfl, by intro w _; go_simp⟩) (fun _ => hHeld) ?_
                            try simp only [Act.put, List.setIfInBounds_toArray, List.set_cons_zero, List.set_cons_succ]
                            refine late_pure_at (some 126) (i := 10) (v := (.bool false)) rfl rfl rfl (by kernel_rfl) (by kernel_rfl) (by kernel_rfl) (fun _ _ _ h => h) (Or.inl ⟨by rfl, by intro w _; go_simp⟩) (fun _ => hHeld) ?_
                            try simp only [Act.put, List.setIfInBounds_toArray, List.set_cons_zero, List.set_cons_succ]
                            refine late_pure_at (some 127) (i := 11) (v := (.bool false)) rfl rfl rfl (by kernel_rfl) (by kernel_rfl) (by kernel_rfl) (fun _ _ _ h => h) (Or.inl ⟨by rfl, by intro w _; go_simp⟩) (fun _ => hHeld) ?_
                            try simp only [Act.put, List.setIfInBounds_toArray, List.set_cons_zero, List.set_cons_succ]
                            refine late_pure_at (some 128) (i := 12) (v := undef) rfl rfl rfl (by kernel_rfl) (by kernel_rfl) (by kernel_rfl) (fun _ _ _ h => h) (Or.inr ⟨by rfl, rfl⟩) (fun _ => hHeld) ?_
                            try simp only [Act.put, List.setIfInBounds_toArray, List.set_cons_zero, List.set_cons_succ]
                            refine late_pure_at (some 129) (i := 13) (v := undef) rfl rfl rfl (by kernel_rfl) (by kernel_rfl) (by kernel_rfl) (fun _ _ _ h => h) (Or.inr ⟨by rfl, rfl⟩) (fun _ => hHeld) ?_
                            try simp only [Act.put, List.setIfInBounds_toArray, List.set_cons_zero, List.set_cons_succ]
                            refine late_pure_at (some 130) (i := 14) (v := undef) rfl rfl rfl (by kernel_rfl) (by kernel_rfl) (by kernel_rfl) (fun _ _ _ h => h) (Or.inr ⟨by rfl, rfl⟩) (fun _ => hHeld) ?_
                            try simp only [Act.put, List.setIfInBounds_toArray, List.set_cons_zero, List.set_cons_succ]
                            refine late_pure_at (some 131) (i := 15) (v := (.bool false)) rfl rfl rfl (by kernel_rfl) (by kernel_rfl) (by kernel_rfl) (fun _ _ _ h => h) (Or.inl ⟨by rfl, by intro w _; go_simp⟩) (fun _ => hHeld) ?_
                            try simp only [Act.put, List.setIfInBounds_toArray, List.set_cons_zero, List.set_cons_succ]
                            refine late_done (by kernel_rfl) ?_ _
                            refine NoPanic.normal ?_
                            go_wp2_with fail
                            go_meet
                            exact ⟨congrArg Value.bool HCC.out, B, BL⟩
                          exact AllLate.nil
                      | false =>
                        have f0_0 : ((r3e : Int) == 0) = true := HA15.out
                        have f0_1 : ((r3e : Int) != 0) = false := by have h := HA15.out; simpa using h
                        have f1_0 : ((r4e : Int) == 0) = false := HA16.out
                        have f1_1 : ((r4e : Int) != 0) = true := by have h := HA16.out; simpa using h
                        refine wp_region_noPanic ?_
                        refine region_late (fun (X : World) => True) (fun _ => false) (by kernel_rfl) ?_
                        have hb := (Below.refl W47.heap.size W47).drew
                        obtain ⟨W56, hW⟩ : ∃ X, W47.drew = X := ⟨_, rfl⟩
                        rw [hW] at hb ⊢
                        clear hW
                        replace B := Lib.hid (B.out.below hb)
                        replace BL := Lib.hid (below_then BL.out hb)
                        clear hb
                        have hHeld : True := trivial
                        refine late_pure_at (some 116) (i := 0) (v := (.int .i64 r3e)) rfl rfl rfl (by kernel_rfl) (by kernel_rfl) (by kernel_rfl) (fun _ _ _ h => h) (Or.inl ⟨by rfl, by intro w _; go_simp⟩) (fun _ => hHeld) ?_
                        try simp only [Act.put, List.setIfInBounds_toArray, List.set_cons_zero, List.set_cons_succ]
                        refine late_pure_at (some 117) (i := 1) (v := (.bool true)) rfl rfl rfl (by kernel_rfl) (by kernel_rfl) (by kernel_rfl) (fun _ _ _ h => h) (Or.inl ⟨by rfl, by intro w _; go_simp⟩) (fun _ => hHeld) ?_
                        try simp only [Act.put, List.setIfInBounds_toArray, List.set_cons_zero, List.set_cons_succ]
                        refine late_pure_at (some 118) (i := 2) (v := (.bool true)) rfl rfl rfl (by kernel_rfl) (by kernel_rfl) (by kernel_rfl) (fun _ _ _ h => h) (Or.inl ⟨by rfl, by intro w _; go_simp⟩) (fun _ => hHeld) ?_
                        try simp only [Act.put, List.setIfInBounds_toArray, List.set_cons_zero, List.set_cons_succ]
                        refine late_pure_at (some 119) (i := 3) (v := (.int .i64 r4e)) rfl rfl rfl (by kernel_rfl) (by kernel_rfl) (by kernel_rfl) (fun _ _ _ h => h) (Or.inl ⟨by rfl, by intro w _; go_simp⟩) (fun _ => hHeld) ?_
                        try simp only [Act.put, List.setIfInBounds_toArray, List.set_cons_zero, List.set_cons_succ]
                        refine late_pure_at (some 120) (i := 4) (v := (.bool false)) rfl rfl rfl (by kernel_rfl) (by kernel_rfl) (by kernel_rfl) (fun _ _ _ h => h) (Or.inl ⟨by rfl, by intro w _; go_simp⟩) (fun _ => hHeld) ?_
                        try simp only [Act.put, List.setIfInBounds_toArray, List.set_cons_zero, List.set_cons_succ]
                        refine late_pure_at (some 121) (i := 5) (v := (.bool false)) rfl rfl rfl (by kernel_rfl) (by kernel_rfl) (by kernel_rfl) (fun _ _ _ h => h) (Or.inl ⟨by rfl, by intro w _; go_simp⟩) (fun _ => hHeld) ?_
                        try simp only [Act.put, List.setIfInBounds_toArray, List.set_cons_zero, List.set_cons_succ]
                        refine late_pure_at (some 122) (i := 6) (v := (.bool false)) rfl rfl rfl (by kernel_rfl) (by kernel_rfl) (by kernel_rfl) (fun _ _ _ h => h) (Or.inl ⟨by rfl, by intro w _; go_simp⟩) (fun _ => hHeld) ?_
                        try simp only [Act.put, List.setIfInBounds_toArray, List.set_cons_zero, List.set_cons_succ]
                        refine late_pure_at (some 123) (i := 7) (v := undef) rfl rfl rfl (by kernel_rfl) (by kernel_rfl) (by kernel_rfl) (fun _ _ _ h => h) (Or.inr ⟨by rfl, rfl⟩) (fun _ => hHeld) ?_
                        try simp only [Act.put, List.setIfInBounds_toArray, List.set_cons_zero, List.set_cons_succ]
                        refine late_pure_at (some 124) (i := 8) (v := undef) rfl rfl rfl (by kernel_rfl) (by kernel_rfl) (by kernel_rfl) (fun _ _ _ h => h) (Or.inr ⟨by rfl, rfl⟩) (fun _ => hHeld) ?_
                        try simp only [Act.put, List.setIfInBounds_toArray, List.set_cons_zero, List.set_cons_succ]
                        refine late_pure_at (some 125) (i := 9) (v := undef) rfl rfl rfl (by kernel_rfl) (by kernel_rfl) (by kernel_rfl) (fun _ _ _ h => h) (Or.inr ⟨by rfl, rfl⟩) (fun _ => hHeld) ?_
                        try simp only [Act.put, List.setIfInBounds_toArray, List.set_cons_zero, List.set_cons_succ]
                        refine late_pure_at (some 126) (i := 10) (v := (.bool false)) rfl rfl rfl (by kernel_rfl) (by kernel_rfl) (by kernel_rfl) (fun _ _ _ h => h) (Or.inl ⟨by rfl, by intro w _; go_simp⟩) (fun _ => hHeld) ?_
                        try simp only [Act.put, List.setIfInBounds_toArray, List.set_cons_zero, List.set_cons_succ]
                        refine late_pure_at (some 127) (i := 11) (v := (.bool false)) rfl rfl rfl (by kernel_rfl) (by kernel_rfl) (by kernel_rfl) (fun _ _ _ h => h) (Or.inl ⟨by rfl, by intro w _; go_simp⟩) (fun _ => hHeld) ?_
                        try simp only [Act.put, List.setIfInBounds_toArray, List.set_cons_zero, List.set_cons_succ]
                        refine late_pure_at (some 128) (i := 12) (v := undef) rfl rfl rfl (by kernel_rfl) (by kernel_rfl) (by kernel_rfl) (fun _ _ _ h => h) (Or.inr ⟨by rfl, rfl⟩) (fun _ => hHeld) ?_
                        try simp only [Act.put, List.setIfInBounds_toArray, List.set_cons_zero, List.set_cons_succ]
                        refine late_pure_at (some 129) (i := 13) (v := undef) rfl rfl rfl (by kernel_rfl) (by kernel_rfl) (by kernel_rfl) (fun _ _ _ h => h) (Or.inr ⟨by rfl, rfl⟩) (fun _ => hHeld) ?_
                        try simp only [Act.put, List.setIfInBounds_toArray, List.set_cons_zero, List.set_cons_succ]
                        refine late_pure_at (some 130) (i := 14) (v := undef) rfl rfl rfl (by kernel_rfl) (by kernel_rfl) (by kernel_rfl) (fun _ _ _ h => h) (Or.inr ⟨by rfl, rfl⟩) (fun _ => hHeld) ?_
                        try simp only [Act.put, List.setIfInBounds_toArray, List.set_cons_zero, List.set_cons_succ]
                        refine late_pure_at (some 131) (i := 15) (v := (.bool false)) rfl rfl rfl (by kernel_rfl) (by kernel_rfl) (by kernel_rfl) (fun _ _ _ h => h) (Or.inl ⟨by rfl, by intro w _; go_simp⟩) (fun _ => hHeld) ?_
                        try simp only [Act.put, List.setIfInBounds_toArray, List.set_cons_zero, List.set_cons_succ]
                        refine late_done (by kernel_rfl) ?_ _
                        refine NoPanic.normal ?_
                        go_wp2_with fail
                        go_meet
                        exact ⟨congrArg Value.bool HCC.out, B, BL⟩
                    | false =>
                      have f0_0 : ((r3e : Int) == 0) = false := HA15.out
                      have f0_1 : ((r3e : Int) != 0) = true := by have h := HA15.out; simpa using h
                      refine wp_region_noPanic ?_
                      refine region_late (fun (X : World) => True) (fun _ => false) (by kernel_rfl) ?_
                      have hb := (Below.refl W47.heap.size W47).drew
                      obtain ⟨W57, hW⟩ : ∃ X, W47.drew = X := ⟨_, rfl⟩
                      rw [hW] at hb ⊢
                      clear hW
                      replace B := Lib.hid (B.out.below hb)
                      replace BL := Lib.hid (below_then BL.out hb)
                      clear hb
                      have hHeld : True := trivial
                      refine late_pure_at (some 116) (i := 0) (v := (.int .i64 r3e)) rfl rfl rfl (by kernel_rfl) (by kernel_rfl) (by kernel_rfl) (fun _ _ _ h => h) (Or.inl ⟨by rfl, by intro w _; go_simp⟩) (fun _ => hHeld) ?_
                      try simp only [Act.put, List.setIfInBounds_toArray, List.set_cons_zero, List.set_cons_succ]
                      refine late_pure_at (some 117) (i := 1) (v := (.bool false)) rfl rfl rfl (by kernel_rfl) (by kernel_rfl) (by kernel_rfl) (fun _ _ _ h => h) (Or.inl ⟨by rfl, by intro w _; go_simp⟩) (fun _ => hHeld) ?_
                      try simp only [Act.put, List.setIfInBounds_toArray, List.set_cons_zero, List.set_cons_succ]
                      refine late_pure_at (some 118) (i := 2) (v := (.bool false)) rfl rfl rfl (by kernel_rfl) (by kernel_rfl) (by kernel_rfl) (fun _ _ _ h => h) (Or.inl ⟨by rfl, by intro w _; go_simp⟩) (fun _ => hHeld) ?_
                      try simp only [Act.put, List.setIfInBounds_toArray, List.set_cons_zero, List.set_cons_succ]
                      refine late_pure_at (some 119) (i := 3) (v := undef) rfl rfl rfl (by kernel_rfl) (by kernel_rfl) (by kernel_rfl) (fun _ _ _ h => h) (Or.inr ⟨by rfl, rfl⟩) (fun _ => hHeld) ?_
                      try simp only [Act.put, List.setIfInBounds_toArray, List.set_cons_zero, List.set_cons_succ]
                      refine late_pure_at (some 120) (i := 4) (v := undef) rfl rfl rfl (by kernel_rfl) (by kernel_rfl) (by kernel_rfl) (fun _ _ _ h => h) (Or.inr ⟨by rfl, rfl⟩) (fun _ => hHeld) ?_
                      try simp only [Act.put, List.setIfInBounds_toArray, List.set_cons_zero, List.set_cons_succ]
                      refine late_pure_at (some 121) (i := 5) (v := (.bool false)) rfl rfl rfl (by kernel_rfl) (by kernel_rfl) (by kernel_rfl) (fun _ _ _ h => h) (Or.inl ⟨by rfl, by intro w _; go_simp⟩) (fun _ => hHeld) ?_
                      try simp only [Act.put, List.setIfInBounds_toArray, List.set_cons_zero, List.set_cons_succ]
                      refine late_pure_at (some 122) (i := 6) (v := (.bool false)) rfl rfl rfl (by kernel_rfl) (by kernel_rfl) (by kernel_rfl) (fun _ _ _ h => h) (Or.inl ⟨by rfl, by intro w _; go_simp⟩) (fun _ => hHeld) ?_
                      try simp only [Act.put, List.setIfInBounds_toArray, List.set_cons_zero, List.set_cons_succ]
                      refine late_pure_at (some 123) (i := 7) (v := undef) rfl rfl rfl (by kernel_rfl) (by kernel_rfl) (by kernel_rfl) (fun _ _ _ h => h) (Or.inr ⟨by rfl, rfl⟩) (fun _ => hHeld) ?_
                      try simp only [Act.put, List.setIfInBounds_toArray, List.set_cons_zero, List.set_cons_succ]
                      refine late_pure_at (some 124) (i := 8) (v := undef) rfl rfl rfl (by kernel_rfl) (by kernel_rfl) (by kernel_rfl) (fun _ _ _ h => h) (Or.inr ⟨by rfl, rfl⟩) (fun _ => hHeld) ?_
                      try simp only [Act.put, List.setIfInBounds_toArray, List.set_cons_zero, List.set_cons_succ]
                      refine late_pure_at (some 125) (i := 9) (v := undef) rfl rfl rfl (by kernel_rfl) (by kernel_rfl) (by kernel_rfl) (fun _ _ _ h => h) (Or.inr ⟨by rfl, rfl⟩) (fun _ => hHeld) ?_
                      try simp only [Act.put, List.setIfInBounds_toArray, List.set_cons_zero, List.set_cons_succ]
                      refine late_pure_at (some 126) (i := 10) (v := (.bool false)) rfl rfl rfl (by kernel_rfl) (by kernel_rfl) (by kernel_rfl) (fun _ _ _ h => h) (Or.inl ⟨by rfl, by intro w _; go_simp⟩) (fun _ => hHeld) ?_
                      try simp only [Act.put, List.setIfInBounds_toArray, List.set_cons_zero, List.set_cons_succ]
                      refine late_pure_at (some 127) (i := 11) (v := (.bool false)) rfl rfl rfl (by kernel_rfl) (by kernel_rfl) (by kernel_rfl) (fun _ _ _ h => h) (Or.inl ⟨by rfl, by intro w _; go_simp⟩) (fun _ => hHeld) ?_
                      try simp only [Act.put, List.setIfInBounds_toArray, List.set_cons_zero, List.set_cons_succ]
                      refine late_pure_at (some 128) (i := 12) (v := undef) rfl rfl rfl (by kernel_rfl) (by kernel_rfl) (by kernel_rfl) (fun _ _ _ h => h) (Or.inr ⟨by rfl, rfl⟩) (fun _ => hHeld) ?_
                      try simp only [Act.put, List.setIfInBounds_toArray, List.set_cons_zero, List.set_cons_succ]
                      refine late_pure_at (some 129) (i := 13) (v := undef) rfl rfl rfl (by kernel_rfl) (by kernel_rfl) (by kernel_rfl) (fun _ _ _ h => h) (Or.inr ⟨by rfl, rfl⟩) (fun _ => hHeld) ?_
                      try simp only [Act.put, List.setIfInBounds_toArray, List.set_cons_zero, List.set_cons_succ]
                      refine late_pure_at (some 130) (i := 14) (v := undef) rfl rfl rfl (by kernel_rfl) (by kernel_rfl) (by kernel_rfl) (fun _ _ _ h => h) (Or.inr ⟨by rfl, rfl⟩) (fun _ => hHeld) ?_
                      try simp only [Act.put, List.setIfInBounds_toArray, List.set_cons_zero, List.set_cons_succ]
                      refine late_pure_at (some 131) (i := 15) (v := (.bool false)) rfl rfl rfl (by kernel_rfl) (by kernel_rfl) (by kernel_rfl) (fun _ _ _ h => h) (Or.inl ⟨by rfl, by intro w _; go_simp⟩) (fun _ => hHeld) ?_
                      try simp only [Act.put, List.setIfInBounds_toArray, List.set_cons_zero, List.set_cons_succ]
                      refine late_done (by kernel_rfl) ?_ _
                      refine NoPanic.normal ?_
                      go_wp2_with fail
                      go_meet
                      exact ⟨congrArg Value.bool HCC.out, B, BL⟩
                  case rest =>
                    clear B BL
                    obtain ⟨rfl, B, BL⟩ := hcut
                    obtain ⟨W58, hW⟩ : ∃ X, wc = X := ⟨_, rfl⟩
                    rw [hW] at B BL ⊢
                    clear hW
                    have HCW : Hid (((((r3e == 0) && (r4e == 0)) && (veqB r3k r3n r3t 1 0 [])) && (veqB r4k r4n r4t 1 0 [])) = c11) := Lib.hid (by rw [HA15.out, HA16.out, HA17.out, HA18.out]; exact HCC.out)
                    clear HCC HA15 HA16 HA17 HA18
                    cases c11 with
                    | true =>
                      replace HL := Lib.hid (show true = BigDivisors_s12 (⟨xk, xn, xt⟩ : Vl) (⟨yk, yn, yt⟩ : Vl) (⟨zk, zn, zt⟩ : Vl) ((⟨r0k, r0n, r0t⟩, r0e) : Vl × Int) ((⟨r1k, r1n, r1t⟩, r1e) : Vl × Int) ((⟨r2k, r2n, r2t⟩, r2e) : Vl × Int) ((⟨r3k, r3n, r3t⟩, r3e) : Vl × Int) ((⟨r4k, r4n, r4t⟩, r4e) : Vl × Int) from HL.out.trans (if_pos HCW.out))
                      -- region 18
                      have cb8_4_1_0 : W58.cell? ⟨g0, 0, none⟩ = some (.int .i64 r0k) := (B.out.get 4 rfl).c0
                      have cb8_4_1_1 : W58.cell? ⟨g0, 1, none⟩ = some (.int .i64 r0n) := (B.out.get 4 rfl).c1
                      have cb8_4_1_2 : W58.cell? ⟨g0, 2, none⟩ = some (.string ⟨List.toArray r0t⟩) := (B.out.get 4 rfl).c2
                      have cb5_0 : W58.cell? ⟨gb5, 0, none⟩ = some (.int .i64 zk) := (B.out.get 5 rfl).c0
                      have cb5_1 : W58.cell? ⟨gb5, 1, none⟩ = some (.int .i64 zn) := (B.out.get 5 rfl).c1
                      have cb5_2 : W58.cell? ⟨gb5, 2, none⟩ = some (.string ⟨List.toArray zt⟩) := (B.out.get 5 rfl).c2
                      obtain ⟨⟨⟨r5k, r5n, r5t⟩, r5e⟩, hr5⟩ : ∃ p, modR (⟨r0k, r0n, r0t⟩ : Vl) (⟨zk, zn, zt⟩ : Vl) = p := ⟨_, rfl⟩
                      have hc5 := fun (W : World) (hW : Env W) => mod_pub (⟨r0k, r0n, r0t⟩ : Vl) (⟨zk, zn, zt⟩ : Vl) HOr0.out HOz.out W hW
                      have ho5 := modR_ok (⟨r0k, r0n, r0t⟩ : Vl) (⟨zk, zn, zt⟩ : Vl)
                      rw [hr5] at hc5 ho5
                      simp only [Vl.val, pr] at hc5
                      have HC5 := Lib.hid hc5; have HOr5 : Hid (Vl.ok ⟨r5k, r5n, r5t⟩) := Lib.hid ho5; have HR5 := Lib.hid hr5
                      clear hc5 ho5 hr5
                      go_wp2_with fail
                      refine (HC5.out _ (HE.out.below BL.out)).mono ?_
                      rintro e W59 ⟨rfl, hb⟩
                      clear cb8_4_1_0 cb8_4_1_1 cb8_4_1_2 cb5_0 cb5_1 cb5_2
                      replace B := Lib.hid (B.out.below hb)
                      replace BL := Lib.hid (below_then BL.out hb)
                      clear hb
                      go_upto_region 19 with fail
                      have hB : Bxs (W59.alloc (.cells #[.int .i64 r5k, .int .i64 r5n, .string ⟨List.toArray r5t⟩] 23)) ((W59.heap.size, (⟨r5k, r5n, r5t⟩ : Vl)) :: [(g4, (⟨r4k, r4n, r4t⟩ : Vl)), (g3, (⟨r3k, r3n, r3t⟩ : Vl)), (g2, (⟨r2k, r2n, r2t⟩ : Vl)), (g1, (⟨r1k, r1n, r1t⟩ : Vl)), (g0, (⟨r0k, r0n, r0t⟩ : Vl)), (gb5, (⟨zk, zn, zt⟩ : Vl)), (gb4, (⟨yk, yn, yt⟩ : Vl)), (w.heap.size, (⟨xk, xn, xt⟩ : Vl))]) := B.out.push (⟨r5k, r5n, r5t⟩ : Vl) 23
                      have hL : Below w.heap.size w (W59.alloc (.cells #[.int .i64 r5k, .int .i64 r5n, .string ⟨List.toArray r5t⟩] 23)) := BL.out.alloc BL.out.size _
                      obtain ⟨W60, hW⟩ : ∃ X, W59.alloc (.cells #[.int .i64 r5k, .int .i64 r5n, .string ⟨List.toArray r5t⟩] 23) = X := ⟨_, rfl⟩
                      obtain ⟨g5, hg⟩ : ∃ g, W59.heap.size = g := ⟨_, rfl⟩
                      rw [hW] at hB hL ⊢
                      rw [hg] at hB ⊢
                      have HGb18_18_11 : Hid (w.heap.size ≤ g5) := Lib.hid (by rw [← hg]; exact BL.out.size)
                      replace B := Lib.hid hB
                      replace BL := Lib.hid hL
                      clear hB hL hW hg
                      replace HL := Lib.hid (show true = BigDivisors_s11 (⟨xk, xn, xt⟩ : Vl) (⟨yk, yn, yt⟩ : Vl) (⟨zk, zn, zt⟩ : Vl) ((⟨r0k, r0n, r0t⟩, r0e) : Vl × Int) ((⟨r1k, r1n, r1t⟩, r1e) : Vl × Int) ((⟨r2k, r2n, r2t⟩, r2e) : Vl × Int) ((⟨r3k, r3n, r3t⟩, r3e) : Vl × Int) ((⟨r4k, r4n, r4t⟩, r4e) : Vl × Int) ((⟨r5k, r5n, r5t⟩, r5e) : Vl × Int) from HL.out.trans (by unfold BigDivisors_s12; rw [HR5.out]))
                      -- region 19, a test
                      obtain ⟨b19, h⟩ : ∃ b : Bool, (r5e == 0) = b := ⟨_, rfl⟩
                      have HA19 := Lib.hid h
                      clear h
                      obtain ⟨b20, h⟩ : ∃ b : Bool, (veqB r5k r5n r5t 1 0 []) = b := ⟨_, rfl⟩
                      have HA20 := Lib.hid h
                      clear h
                      have HCF : ((!(r5e == 0)) || (!(veqB r5k r5n r5t 1 0 []))) = false := Bool.eq_false_iff.2 fun h => Bool.noConfusion (show true = false from HL.out.trans (if_pos h))
                      have HCB : ((!b19) || (!b20)) = false := by
                        have h := HCF
                        rw [HA19.out, HA20.out] at h
                        exact h
                      have HCW := Lib.hid HCF
                      have HCC := Lib.hid HCB
                      clear HCF HCB
                      go_upto_region 19 with fail
                      go_cut [144] from 138 to 144 (fun v wx => v = .bool false ∧ Hid (Bxs wx [(g5, (⟨r5k, r5n, r5t⟩ : Vl)), (g4, (⟨r4k, r4n, r4t⟩ : Vl)), (g3, (⟨r3k, r3n, r3t⟩ : Vl)), (g2, (⟨r2k, r2n, r2t⟩ : Vl)), (g1, (⟨r1k, r1n, r1t⟩ : Vl)), (g0, (⟨r0k, r0n, r0t⟩ : Vl)), (gb5, (⟨zk, zn, zt⟩ : Vl)), (gb4, (⟨yk, yn, yt⟩ : Vl)), (w.heap.size, (⟨xk, xn, xt⟩ : Vl))]) ∧ Hid (Below w.heap.size w wx))
                      case first =>
                        clear HL
                        cases b19 with
                        | true =>
                          cases b20 with
                          | true =>
                            have f0_0 : ((r5e : Int) == 0) = true := HA19.out
                            have f0_1 : ((r5e : Int) != 0) = false := by have h := HA19.out; simpa using h
                            have f1_0 : (veqB r5k r5n r5t 1 0 []) = true := HA20.out
                            refine wp_region_noPanic ?_
                            refine region_late (fun (X : World) => X.cell? ⟨g5, 0, none⟩ = some (.int .i64 r5k) ∧ X.cell? ⟨g5, 1, none⟩ = some (.int .i64 r5n) ∧ X.cell? ⟨g5, 2, none⟩ = some (.string ⟨List.toArray r5t⟩)) (fun _ => false) (by kernel_rfl) ?_
                            have hb := (Below.refl W60.heap.size W60).drew
                            obtain ⟨W61, hW⟩ : ∃ X, W60.drew = X := ⟨_, rfl⟩
                            rw [hW] at hb ⊢
                            clear hW
                            replace B := Lib.hid (B.out.below hb)
                            replace BL := Lib.hid (below_then BL.out hb)
                            clear hb
                            have hHeld : W61.cell? ⟨g5, 0, none⟩ = some (.int .i64 r5k) ∧ W61.cell? ⟨g5, 1, none⟩ = some (.int .i64 r5n) ∧ W61.cell? ⟨g5, 2, none⟩ = some (.string ⟨List.toArray r5t⟩) := ⟨(B.out.get 0 rfl).c0, (B.out.get 0 rfl).c1, (B.out.get 0 rfl).c2⟩
                            refine late_pure_at (some 138) (i := 0) (v := (.int .i64 r5e)) rfl rfl rfl (by kernel_rfl) (by kernel_rfl) (by kernel_rfl) (fun _ _ _ h => h) (Or.inl ⟨by rfl, by intro w _; go_simp⟩) (fun _ => hHeld) ?_
                            try simp only [Act.put, List.setIfInBounds_toArray, List.set_cons_zero, List.set_cons_succ]
                            refine late_pure_at (some 139) (i := 1) (v := (.bool false)) rfl rfl rfl (by kernel_rfl) (by kernel_rfl) (by kernel_rfl) (fun _ _ _ h => h) (Or.inl ⟨by rfl, by intro w _; go_simp⟩) (fun _ => hHeld) ?_
                            try simp only [Act.put, List.setIfInBounds_toArray, List.set_cons_zero, List.set_cons_succ]
                            refine late_pure_at (some 140) (i := 2) (v := (.bool false)) rfl rfl rfl (by kernel_rfl) (by kernel_rfl) (by kernel_rfl) (fun _ _ _ h => h) (Or.inl ⟨by rfl, by intro w _; go_simp⟩) (fun _ => hHeld) ?_
                            try simp only [Act.put, List.setIfInBounds_toArray, List.set_cons_zero, List.set_cons_succ]
                            refine late_take_at (some 141) (i := 3) (v := (.agg #[.int .i64 r5k, .int .i64 r5n, .string ⟨List.toArray r5t⟩])) rfl rfl rfl (by kernel_rfl) (by kernel_rfl) (by kernel_rfl) (by kernel_rfl) (fun _ _ _ h => h) clean_none (Or.inl ⟨by rfl, by intro w hSw; go_split_ands; go_simp⟩) hHeld ?_
                            try simp only [Act.put, List.setIfInBounds_toArray, List.set_cons_zero, List.set_cons_succ]
                            refine late_ready (rs := [4]) (by kernel_rfl) (by simp) ?_
                            refine AllLate.cons rfl (fun K hK => ?_) ?_
                            · skip
                              go_simp
                              refine (num_calls 0 _).mono ?_
                              rintro e W62 ⟨rfl, hb⟩
                              clear hHeld
                              replace B := Lib.hid (B.out.below hb)
                              replace BL := Lib.hid (below_then BL.out hb)
                              clear hb
                              have hHeld : W62.cell? ⟨g5, 0, none⟩ = some (.int .i64 r5k) ∧ W62.cell? ⟨g5, 1, none⟩ = some (.int .i64 r5n) ∧ W62.cell? ⟨g5, 2, none⟩ = some (.string ⟨List.toArray r5t⟩) := ⟨(B.out.get 0 rfl).c0, (B.out.get 0 rfl).c1, (B.out.get 0 rfl).c2⟩
                              dsimp only
                              refine hK.out _ _ (fun _ => hHeld) ?_
                              clear hK K
                              try simp only [Act.put, List.setIfInBounds_toArray, List.set_cons_zero, List.set_cons_succ]
                              refine late_pure_at (some 143) (i := 5) (v := (.bool false)) rfl rfl rfl (by kernel_rfl) (by kernel_rfl) (by kernel_rfl) (fun _ _ _ h => h) (Or.inl ⟨by rfl, by intro w _; go_simp⟩) (fun _ => hHeld) ?_
                              try simp only [Act.put, List.setIfInBounds_toArray, List.set_cons_zero, List.set_cons_succ]
                              refine late_pure_at (some 144) (i := 6) (v := (.bool false)) rfl rfl rfl (by kernel_rfl) (by kernel_rfl) (by kernel_rfl) (fun _ _ _ h => h) (Or.inl ⟨by rfl, by intro w _; go_simp⟩) (fun _ => hHeld) ?_
                              try simp only [Act.put, List.setIfInBounds_toArray, List.set_cons_zero, List.set_cons_succ]
                              refine late_done (by kernel_rfl) ?_ _
                              refine NoPanic.normal ?_
                              go_wp2_with fail
                              go_meet
                              exact ⟨rfl, B, BL⟩
                            exact AllLate.nil
                          | false =>
                            exact Bool.noConfusion (show true = false from HCC.out)
                        | false =>
                          exact Bool.noConfusion (show true = false from HCC.out)
                      case rest =>
                        clear B BL
                        obtain ⟨rfl, B, BL⟩ := hcut
                        obtain ⟨W63, hW⟩ : ∃ X, wc = X := ⟨_, rfl⟩
                        rw [hW] at B BL ⊢
                        clear hW
                        clear HCC HA19 HA20
                        replace HL := Lib.hid (show true = BigDivisors_s10 (⟨xk, xn, xt⟩ : Vl) (⟨yk, yn, yt⟩ : Vl) (⟨zk, zn, zt⟩ : Vl) ((⟨r0k, r0n, r0t⟩, r0e) : Vl × Int) ((⟨r1k, r1n, r1t⟩, r1e) : Vl × Int) ((⟨r2k, r2n, r2t⟩, r2e) : Vl × Int) ((⟨r3k, r3n, r3t⟩, r3e) : Vl × Int) ((⟨r4k, r4n, r4t⟩, r4e) : Vl × Int) ((⟨r5k, r5n, r5t⟩, r5e) : Vl × Int) from HL.out.trans ((if_neg (fun h => Bool.noConfusion (HCW.out.symm.trans h)))))
                        -- region 21
                        have cb3_0 : W63.cell? ⟨w.heap.size, 0, none⟩ = some (.int .i64 xk) := (B.out.get 8 rfl).c0
                        have cb3_1 : W63.cell? ⟨w.heap.size, 1, none⟩ = some (.int .i64 xn) := (B.out.get 8 rfl).c1
                        have cb3_2 : W63.cell? ⟨w.heap.size, 2, none⟩ = some (.string ⟨List.toArray xt⟩) := (B.out.get 8 rfl).c2
                        have cb4_0 : W63.cell? ⟨gb4, 0, none⟩ = some (.int .i64 yk) := (B.out.get 7 rfl).c0
                        have cb4_1 : W63.cell? ⟨gb4, 1, none⟩ = some (.int .i64 yn) := (B.out.get 7 rfl).c1
                        have cb4_2 : W63.cell? ⟨gb4, 2, none⟩ = some (.string ⟨List.toArray yt⟩) := (B.out.get 7 rfl).c2
                        obtain ⟨⟨⟨r6k, r6n, r6t⟩, r6e⟩, hr6⟩ : ∃ p, modR (⟨xk, xn, xt⟩ : Vl) (⟨yk, yn, yt⟩ : Vl) = p := ⟨_, rfl⟩
                        have hc6 := fun (W : World) (hW : Env W) => mod_pub (⟨xk, xn, xt⟩ : Vl) (⟨yk, yn, yt⟩ : Vl) HOx.out HOy.out W hW
                        have ho6 := modR_ok (⟨xk, xn, xt⟩ : Vl) (⟨yk, yn, yt⟩ : Vl)
                        rw [hr6] at hc6 ho6
                        simp only [Vl.val, pr] at hc6
                        have HC6 := Lib.hid hc6; have HOr6 : Hid (Vl.ok ⟨r6k, r6n, r6t⟩) := Lib.hid ho6; have HR6 := Lib.hid hr6
                        clear hc6 ho6 hr6
                        go_wp2_with fail
                        refine (HC6.out _ (HE.out.below BL.out)).mono ?_
                        rintro e W64 ⟨rfl, hb⟩
                        clear cb3_0 cb3_1 cb3_2 cb4_0 cb4_1 cb4_2
                        replace B := Lib.hid (B.out.below hb)
                        replace BL := Lib.hid (below_then BL.out hb)
                        clear hb
                        go_upto_region 22 with fail
                        have hB : Bxs (W64.alloc (.cells #[.int .i64 r6k, .int .i64 r6n, .string ⟨List.toArray r6t⟩] 23)) ((W64.heap.size, (⟨r6k, r6n, r6t⟩ : Vl)) :: [(g5, (⟨r5k, r5n, r5t⟩ : Vl)), (g4, (⟨r4k, r4n, r4t⟩ : Vl)), (g3, (⟨r3k, r3n, r3t⟩ : Vl)), (g2, (⟨r2k, r2n, r2t⟩ : Vl)), (g1, (⟨r1k, r1n, r1t⟩ : Vl)), (g0, (⟨r0k, r0n, r0t⟩ : Vl)), (gb5, (⟨zk, zn, zt⟩ : Vl)), (gb4, (⟨yk, yn, yt⟩ : Vl)), (w.heap.size, (⟨xk, xn, xt⟩ : Vl))]) := B.out.push (⟨r6k, r6n, r6t⟩ : Vl) 23
                        have hL : Below w.heap.size w (W64.alloc (.cells #[.int .i64 r6k, .int .i64 r6n, .string ⟨List.toArray r6t⟩] 23)) := BL.out.alloc BL.out.size _
                        obtain ⟨W65, hW⟩ : ∃ X, W64.alloc (.cells #[.int .i64 r6k, .int .i64 r6n, .string ⟨List.toArray r6t⟩] 23) = X := ⟨_, rfl⟩
                        obtain ⟨g6, hg⟩ : ∃ g, W64.heap.size = g := ⟨_, rfl⟩
                        rw [hW] at hB hL ⊢
                        rw [hg] at hB ⊢
                        have HGb20_21_13 : Hid (w.heap.size ≤ g6) := Lib.hid (by rw [← hg]; exact BL.out.size)
                        replace B := Lib.hid hB
                        replace BL := Lib.hid hL
                        clear hB hL hW hg
                        replace HL := Lib.hid (show true = BigDivisors_s9 (⟨xk, xn, xt⟩ : Vl) (⟨yk, yn, yt⟩ : Vl) (⟨zk, zn, zt⟩ : Vl) ((⟨r0k, r0n, r0t⟩, r0e) : Vl × Int) ((⟨r1k, r1n, r1t⟩, r1e) : Vl × Int) ((⟨r2k, r2n, r2t⟩, r2e) : Vl × Int) ((⟨r3k, r3n, r3t⟩, r3e) : Vl × Int) ((⟨r4k, r4n, r4t⟩, r4e) : Vl × Int) ((⟨r5k, r5n, r5t⟩, r5e) : Vl × Int) ((⟨r6k, r6n, r6t⟩, r6e) : Vl × Int) from HL.out.trans (by unfold BigDivisors_s10; rw [HR6.out]))
                        -- region 22, a test
                        obtain ⟨b21, h⟩ : ∃ b : Bool, (r6e == 0) = b := ⟨_, rfl⟩
                        have HA21 := Lib.hid h
                        clear h
                        obtain ⟨c15, h⟩ : ∃ c : Bool, (!b21) = c := ⟨_, rfl⟩
                        have HCC := Lib.hid h
                        clear h
                        go_upto_region 22 with fail
                        go_cut [152] from 151 to 152 (fun v wx => v = .bool c15 ∧ Hid (Bxs wx [(g6, (⟨r6k, r6n, r6t⟩ : Vl)), (g5, (⟨r5k, r5n, r5t⟩ : Vl)), (g4, (⟨r4k, r4n, r4t⟩ : Vl)), (g3, (⟨r3k, r3n, r3t⟩ : Vl)), (g2, (⟨r2k, r2n, r2t⟩ : Vl)), (g1, (⟨r1k, r1n, r1t⟩ : Vl)), (g0, (⟨r0k, r0n, r0t⟩ : Vl)), (gb5, (⟨zk, zn, zt⟩ : Vl)), (gb4, (⟨yk, yn, yt⟩ : Vl)), (w.heap.size, (⟨xk, xn, xt⟩ : Vl))]) ∧ Hid (Below w.heap.size w wx))
                        case first =>
                          clear HL
                          cases b21 with
                          | true =>
                            have f0_0 : ((r6e : Int) == 0) = true := HA21.out
                            have f0_1 : ((r6e : Int) != 0) = false := by have h := HA21.out; simpa using h
                            go_wp2_with fail
                            go_meet
                            exact ⟨congrArg Value.bool HCC.out, B, BL⟩
                          | false =>
                            have f0_0 : ((r6e : Int) == 0) = false := HA21.out
                            have f0_1 : ((r6e : Int) != 0) = true := by have h := HA21.out; simpa using h
                            go_wp2_with fail
                            go_meet
                            exact ⟨congrArg Value.bool HCC.out, B, BL⟩
                        case rest =>
                          clear B BL
                          obtain ⟨rfl, B, BL⟩ := hcut
                          obtain ⟨W66, hW⟩ : ∃ X, wc = X := ⟨_, rfl⟩
                          rw [hW] at B BL ⊢
                          clear hW
                          have HCW : Hid ((!(r6e == 0)) = c15) := Lib.hid (by rw [HA21.out]; exact HCC.out)
                          clear HCC HA21
                          cases c15 with
                          | true =>
                            replace HL := Lib.hid (show true = BigDivisors_s6 (⟨xk, xn, xt⟩ : Vl) (⟨yk, yn, yt⟩ : Vl) (⟨zk, zn, zt⟩ : Vl) ((⟨r0k, r0n, r0t⟩, r0e) : Vl × Int) ((⟨r1k, r1n, r1t⟩, r1e) : Vl × Int) ((⟨r2k, r2n, r2t⟩, r2e) : Vl × Int) ((⟨r3k, r3n, r3t⟩, r3e) : Vl × Int) ((⟨r4k, r4n, r4t⟩, r4e) : Vl × Int) ((⟨r5k, r5n, r5t⟩, r5e) : Vl × Int) ((⟨r6k, r6n, r6t⟩, r6e) : Vl × Int) from HL.out.trans (if_pos HCW.out))
                            go_wp2_with fail
                            go_ret
                            exact ⟨rfl, BL.out⟩
                          | false =>
                            replace HL := Lib.hid (show true = BigDivisors_s8 (⟨xk, xn, xt⟩ : Vl) (⟨yk, yn, yt⟩ : Vl) (⟨zk, zn, zt⟩ : Vl) ((⟨r0k, r0n, r0t⟩, r0e) : Vl × Int) ((⟨r1k, r1n, r1t⟩, r1e) : Vl × Int) ((⟨r2k, r2n, r2t⟩, r2e) : Vl × Int) ((⟨r3k, r3n, r3t⟩, r3e) : Vl × Int) ((⟨r4k, r4n, r4t⟩, r4e) : Vl × Int) ((⟨r5k, r5n, r5t⟩, r5e) : Vl × Int) ((⟨r6k, r6n, r6t⟩, r6e) : Vl × Int) from HL.out.trans ((if_neg (fun h => Bool.noConfusion (HCW.out.symm.trans h)))))
                            -- region 24
                            have cb4_0 : W66.cell? ⟨gb4, 0, none⟩ = some (.int .i64 yk) := (B.out.get 8 rfl).c0
                            have cb4_1 : W66.cell? ⟨gb4, 1, none⟩ = some (.int .i64 yn) := (B.out.get 8 rfl).c1
                            have cb4_2 : W66.cell? ⟨gb4, 2, none⟩ = some (.string ⟨List.toArray yt⟩) := (B.out.get 8 rfl).c2
                            have cb20_21_13_0 : W66.cell? ⟨g6, 0, none⟩ = some (.int .i64 r6k) := (B.out.get 0 rfl).c0
                            have cb20_21_13_1 : W66.cell? ⟨g6, 1, none⟩ = some (.int .i64 r6n) := (B.out.get 0 rfl).c1
                            have cb20_21_13_2 : W66.cell? ⟨g6, 2, none⟩ = some (.string ⟨List.toArray r6t⟩) := (B.out.get 0 rfl).c2
                            obtain ⟨⟨⟨r7k, r7n, r7t⟩, r7e⟩, hr7⟩ : ∃ p, gcdR (⟨yk, yn, yt⟩ : Vl) (⟨r6k, r6n, r6t⟩ : Vl) = p := ⟨_, rfl⟩
                            have hc7 := fun (W : World) (hW : Env W) => gcd_pub (⟨yk, yn, yt⟩ : Vl) (⟨r6k, r6n, r6t⟩ : Vl) HOy.out HOr6.out W hW
                            have ho7 := gcdR_ok (⟨yk, yn, yt⟩ : Vl) (⟨r6k, r6n, r6t⟩ : Vl)
                            rw [hr7] at hc7 ho7
                            simp only [Vl.val, pr] at hc7
                            have HC7 := Lib.hid hc7; have HOr7 : Hid (Vl.ok ⟨r7k, r7n, r7t⟩) := Lib.hid ho7; have HR7 := Lib.hid hr7
                            clear hc7 ho7 hr7
                            go_wp2_with fail
                            refine (HC7.out _ (HE.out.below BL.out)).mono ?_
                            rintro e W67 ⟨rfl, hb⟩
                            clear cb4_0 cb4_1 cb4_2 cb20_21_13_0 cb20_21_13_1 cb20_21_13_2
                            replace B := Lib.hid (B.out.below hb)
                            replace BL := Lib.hid (below_then BL.out hb)
                            clear hb
                            go_upto_region 25 with fail
                            have hB : Bxs (W67.alloc (.cells #[.int .i64 r7k, .int .i64 r7n, .string ⟨List.toArray r7t⟩] 23)) ((W67.heap.size, (⟨r7k, r7n, r7t⟩ : Vl)) :: [(g6, (⟨r6k, r6n, r6t⟩ : Vl)), (g5, (⟨r5k, r5n, r5t⟩ : Vl)), (g4, (⟨r4k, r4n, r4t⟩ : Vl)), (g3, (⟨r3k, r3n, r3t⟩ : Vl)), (g2, (⟨r2k, r2n, r2t⟩ : Vl)), (g1, (⟨r1k, r1n, r1t⟩ : Vl)), (g0, (⟨r0k, r0n, r0t⟩ : Vl)), (gb5, (⟨zk, zn, zt⟩ : Vl)), (gb4, (⟨yk, yn, yt⟩ : Vl)), (w.heap.size, (⟨xk, xn, xt⟩ : Vl))]) := B.out.push (⟨r7k, r7n, r7t⟩ : Vl) 23
                            have hL : Below w.heap.size w (W67.alloc (.cells #[.int .i64 r7k, .int .i64 r7n, .string ⟨List.toArray r7t⟩] 23)) := BL.out.alloc BL.out.size _
                            obtain ⟨W68, hW⟩ : ∃ X, W67.alloc (.cells #[.int .i64 r7k, .int .i64 r7n, .string ⟨List.toArray r7t⟩] 23) = X := ⟨_, rfl⟩
                            obtain ⟨g7, hg⟩ : ∃ g, W67.heap.size = g := ⟨_, rfl⟩
                            rw [hW] at hB hL ⊢
                            rw [hg] at hB ⊢
                            have HGb22_24_15 : Hid (w.heap.size ≤ g7) := Lib.hid (by rw [← hg]; exact BL.out.size)
                            replace B := Lib.hid hB
                            replace BL := Lib.hid hL
                            clear hB hL hW hg
                            replace HL := Lib.hid (show true = BigDivisors_s7 (⟨xk, xn, xt⟩ : Vl) (⟨yk, yn, yt⟩ : Vl) (⟨zk, zn, zt⟩ : Vl) ((⟨r0k, r0n, r0t⟩, r0e) : Vl × Int) ((⟨r1k, r1n, r1t⟩, r1e) : Vl × Int) ((⟨r2k, r2n, r2t⟩, r2e) : Vl × Int) ((⟨r3k, r3n, r3t⟩, r3e) : Vl × Int) ((⟨r4k, r4n, r4t⟩, r4e) : Vl × Int) ((⟨r5k, r5n, r5t⟩, r5e) : Vl × Int) ((⟨r6k, r6n, r6t⟩, r6e) : Vl × Int) ((⟨r7k, r7n, r7t⟩, r7e) : Vl × Int) from HL.out.trans (by unfold BigDivisors_s8; rw [HR7.out]))
                            -- region 25, the end
                            obtain ⟨b22, h⟩ : ∃ b : Bool, (r7e == 0) = b := ⟨_, rfl⟩
                            have HA22 := Lib.hid h
                            clear h
                            obtain ⟨b23, h⟩ : ∃ b : Bool, (veqB r7k r7n r7t r0k r0n r0t) = b := ⟨_, rfl⟩
                            have HA23 := Lib.hid h
                            clear h
                            cases b22 with
                            | true =>
                              cases b23 with
                              | true =>
                                clear HL
                                have f0_0 : ((r7e : Int) == 0) = true := HA22.out
                                have f0_1 : ((r7e : Int) != 0) = false := by have h := HA22.out; simpa using h
                                have f1_0 : (veqB r7k r7n r7t r0k r0n r0t) = true := HA23.out
                                have cb22_24_15_0 : W68.cell? ⟨g7, 0, none⟩ = some (.int .i64 r7k) := (B.out.get 0 rfl).c0
                                have cb22_24_15_1 : W68.cell? ⟨g7, 1, none⟩ = some (.int .i64 r7n) := (B.out.get 0 rfl).c1
                                have cb22_24_15_2 : W68.cell? ⟨g7, 2, none⟩ = some (.string ⟨List.toArray r7t⟩) := (B.out.get 0 rfl).c2
                                have cb8_4_1_0 : W68.cell? ⟨g0, 0, none⟩ = some (.int .i64 r0k) := (B.out.get 7 rfl).c0
                                have cb8_4_1_1 : W68.cell? ⟨g0, 1, none⟩ = some (.int .i64 r0n) := (B.out.get 7 rfl).c1
                                have cb8_4_1_2 : W68.cell? ⟨g0, 2, none⟩ = some (.string ⟨List.toArray r0t⟩) := (B.out.get 7 rfl).c2
                                go_wp2_with fail
                                go_ret
                                exact ⟨rfl, BL.out⟩
                              | false =>
                                exact Bool.noConfusion (show true = false from HL.out.trans (by show ((true && (r7e == 0)) && (veqB r7k r7n r7t r0k r0n r0t)) = false; rw [HA22.out, HA23.out]; rfl))
                            | false =>
                              exact Bool.noConfusion (show true = false from HL.out.trans (by show ((true && (r7e == 0)) && (veqB r7k r7n r7t r0k r0n r0t)) = false; rw [HA22.out]; rfl))
                    | false =>
                      replace HL := Lib.hid (show true = BigDivisors_s17 (⟨xk, xn, xt⟩ : Vl) (⟨yk, yn, yt⟩ : Vl) (⟨zk, zn, zt⟩ : Vl) ((⟨r0k, r0n, r0t⟩, r0e) : Vl × Int) ((⟨r1k, r1n, r1t⟩, r1e) : Vl × Int) ((⟨r2k, r2n, r2t⟩, r2e) : Vl × Int) ((⟨r3k, r3n, r3t⟩, r3e) : Vl × Int) ((⟨r4k, r4n, r4t⟩, r4e) : Vl × Int) from HL.out.trans ((if_neg (fun h => Bool.noConfusion (HCW.out.symm.trans h)))))
                      -- region 21
                      have cb3_0 : W58.cell? ⟨w.heap.size, 0, none⟩ = some (.int .i64 xk) := (B.out.get 7 rfl).c0
                      have cb3_1 : W58.cell? ⟨w.heap.size, 1, none⟩ = some (.int .i64 xn) := (B.out.get 7 rfl).c1
                      have cb3_2 : W58.cell? ⟨w.heap.size, 2, none⟩ = some (.string ⟨List.toArray xt⟩) := (B.out.get 7 rfl).c2
                      have cb4_0 : W58.cell? ⟨gb4, 0, none⟩ = some (.int .i64 yk) := (B.out.get 6 rfl).c0
                      have cb4_1 : W58.cell? ⟨gb4, 1, none⟩ = some (.int .i64 yn) := (B.out.get 6 rfl).c1
                      have cb4_2 : W58.cell? ⟨gb4, 2, none⟩ = some (.string ⟨List.toArray yt⟩) := (B.out.get 6 rfl).c2
                      obtain ⟨⟨⟨r8k, r8n, r8t⟩, r8e⟩, hr8⟩ : ∃ p, modR (⟨xk, xn, xt⟩ : Vl) (⟨yk, yn, yt⟩ : Vl) = p := ⟨_, rfl⟩
                      have hc8 := fun (W : World) (hW : Env W) => mod_pub (⟨xk, xn, xt⟩ : Vl) (⟨yk, yn, yt⟩ : Vl) HOx.out HOy.out W hW
                      have ho8 := modR_ok (⟨xk, xn, xt⟩ : Vl) (⟨yk, yn, yt⟩ : Vl)
                      rw [hr8] at hc8 ho8
                      simp only [Vl.val, pr] at hc8
                      have HC8 := Lib.hid hc8; have HOr8 : Hid (Vl.ok ⟨r8k, r8n, r8t⟩) := Lib.hid ho8; have HR8 := Lib.hid hr8
                      clear hc8 ho8 hr8
                      go_wp2_with fail
                      refine (HC8.out _ (HE.out.below BL.out)).mono ?_
                      rintro e W69 ⟨rfl, hb⟩
                      clear cb3_0 cb3_1 cb3_2 cb4_0 cb4_1 cb4_2
                      replace B := Lib.hid (B.out.below hb)
                      replace BL := Lib.hid (below_then BL.out hb)
                      clear hb
                      go_upto_region 22 with fail
                      have hB : Bxs (W69.alloc (.cells #[.int .i64 r8k, .int .i64 r8n, .string ⟨List.toArray r8t⟩] 23)) ((W69.heap.size, (⟨r8k, r8n, r8t⟩ : Vl)) :: [(g4, (⟨r4k, r4n, r4t⟩ : Vl)), (g3, (⟨r3k, r3n, r3t⟩ : Vl)), (g2, (⟨r2k, r2n, r2t⟩ : Vl)), (g1, (⟨r1k, r1n, r1t⟩ : Vl)), (g0, (⟨r0k, r0n, r0t⟩ : Vl)), (gb5, (⟨zk, zn, zt⟩ : Vl)), (gb4, (⟨yk, yn, yt⟩ : Vl)), (w.heap.size, (⟨xk, xn, xt⟩ : Vl))]) := B.out.push (⟨r8k, r8n, r8t⟩ : Vl) 23
                      have hL : Below w.heap.size w (W69.alloc (.cells #[.int .i64 r8k, .int .i64 r8n, .string ⟨List.toArray r8t⟩] 23)) := BL.out.alloc BL.out.size _
                      obtain ⟨W70, hW⟩ : ∃ X, W69.alloc (.cells #[.int .i64 r8k, .int .i64 r8n, .string ⟨List.toArray r8t⟩] 23) = X := ⟨_, rfl⟩
                      obtain ⟨g8, hg⟩ : ∃ g, W69.heap.size = g := ⟨_, rfl⟩
                      rw [hW] at hB hL ⊢
                      rw [hg] at hB ⊢
                      have HGb20_21_16 : Hid (w.heap.size ≤ g8) := Lib.hid (by rw [← hg]; exact BL.out.size)
                      replace B := Lib.hid hB
                      replace BL := Lib.hid hL
                      clear hB hL hW hg
                      replace HL := Lib.hid (show true = BigDivisors_s16 (⟨xk, xn, xt⟩ : Vl) (⟨yk, yn, yt⟩ : Vl) (⟨zk, zn, zt⟩ : Vl) ((⟨r0k, r0n, r0t⟩, r0e) : Vl × Int) ((⟨r1k, r1n, r1t⟩, r1e) : Vl × Int) ((⟨r2k, r2n, r2t⟩, r2e) : Vl × Int) ((⟨r3k, r3n, r3t⟩, r3e) : Vl × Int) ((⟨r4k, r4n, r4t⟩, r4e) : Vl × Int) ((⟨r8k, r8n, r8t⟩, r8e) : Vl × Int) from HL.out.trans (by unfold BigDivisors_s17; rw [HR8.out]))
                      -- region 22, a test
                      obtain ⟨b24, h⟩ : ∃ b : Bool, (r8e == 0) = b := ⟨_, rfl⟩
                      have HA24 := Lib.hid h
                      clear h
                      obtain ⟨c18, h⟩ : ∃ c : Bool, (!b24) = c := ⟨_, rfl⟩
                      have HCC := Lib.hid h
                      clear h
                      go_upto_region 22 with fail
                      go_cut [152] from 151 to 152 (fun v wx => v = .bool c18 ∧ Hid (Bxs wx [(g8, (⟨r8k, r8n, r8t⟩ : Vl)), (g4, (⟨r4k, r4n, r4t⟩ : Vl)), (g3, (⟨r3k, r3n, r3t⟩ : Vl)), (g2, (⟨r2k, r2n, r2t⟩ : Vl)), (g1, (⟨r1k, r1n, r1t⟩ : Vl)), (g0, (⟨r0k, r0n, r0t⟩ : Vl)), (gb5, (⟨zk, zn, zt⟩ : Vl)), (gb4, (⟨yk, yn, yt⟩ : Vl)), (w.heap.size, (⟨xk, xn, xt⟩ : Vl))]) ∧ Hid (Below w.heap.size w wx))
                      case first =>
                        clear HL
                        cases b24 with
                        | true =>
                          have f0_0 : ((r8e : Int) == 0) = true := HA24.out
                          have f0_1 : ((r8e : Int) != 0) = false := by have h := HA24.out; simpa using h
                          go_wp2_with fail
                          go_meet
                          exact ⟨congrArg Value.bool HCC.out, B, BL⟩
                        | false =>
                          have f0_0 : ((r8e : Int) == 0) = false := HA24.out
                          have f0_1 : ((r8e : Int) != 0) = true := by have h := HA24.out; simpa using h
                          go_wp2_with fail
                          go_meet
                          exact ⟨congrArg Value.bool HCC.out, B, BL⟩
                      case rest =>
                        clear B BL
                        obtain ⟨rfl, B, BL⟩ := hcut
                        obtain ⟨W71, hW⟩ : ∃ X, wc = X := ⟨_, rfl⟩
                        rw [hW] at B BL ⊢
                        clear hW
                        have HCW : Hid ((!(r8e == 0)) = c18) := Lib.hid (by rw [HA24.out]; exact HCC.out)
                        clear HCC HA24
                        cases c18 with
                        | true =>
                          replace HL := Lib.hid (show true = BigDivisors_s13 (⟨xk, xn, xt⟩ : Vl) (⟨yk, yn, yt⟩ : Vl) (⟨zk, zn, zt⟩ : Vl) ((⟨r0k, r0n, r0t⟩, r0e) : Vl × Int) ((⟨r1k, r1n, r1t⟩, r1e) : Vl × Int) ((⟨r2k, r2n, r2t⟩, r2e) : Vl × Int) ((⟨r3k, r3n, r3t⟩, r3e) : Vl × Int) ((⟨r4k, r4n, r4t⟩, r4e) : Vl × Int) ((⟨r8k, r8n, r8t⟩, r8e) : Vl × Int) from HL.out.trans (if_pos HCW.out))
                          go_wp2_with fail
                          go_ret
                          exact ⟨rfl, BL.out⟩
                        | false =>
                          replace HL := Lib.hid (show true = BigDivisors_s15 (⟨xk, xn, xt⟩ : Vl) (⟨yk, yn, yt⟩ : Vl) (⟨zk, zn, zt⟩ : Vl) ((⟨r0k, r0n, r0t⟩, r0e) : Vl × Int) ((⟨r1k, r1n, r1t⟩, r1e) : Vl × Int) ((⟨r2k, r2n, r2t⟩, r2e) : Vl × Int) ((⟨r3k, r3n, r3t⟩, r3e) : Vl × Int) ((⟨r4k, r4n, r4t⟩, r4e) : Vl × Int) ((⟨r8k, r8n, r8t⟩, r8e) : Vl × Int) from HL.out.trans ((if_neg (fun h => Bool.noConfusion (HCW.out.symm.trans h)))))
                          -- region 24
                          have cb4_0 : W71.cell? ⟨gb4, 0, none⟩ = some (.int .i64 yk) := (B.out.get 7 rfl).c0
                          have cb4_1 : W71.cell? ⟨gb4, 1, none⟩ = some (.int .i64 yn) := (B.out.get 7 rfl).c1
                          have cb4_2 : W71.cell? ⟨gb4, 2, none⟩ = some (.string ⟨List.toArray yt⟩) := (B.out.get 7 rfl).c2
                          have cb20_21_16_0 : W71.cell? ⟨g8, 0, none⟩ = some (.int .i64 r8k) := (B.out.get 0 rfl).c0
                          have cb20_21_16_1 : W71.cell? ⟨g8, 1, none⟩ = some (.int .i64 r8n) := (B.out.get 0 rfl).c1
                          have cb20_21_16_2 : W71.cell? ⟨g8, 2, none⟩ = some (.string ⟨List.toArray r8t⟩) := (B.out.get 0 rfl).c2
                          obtain ⟨⟨⟨r9k, r9n, r9t⟩, r9e⟩, hr9⟩ : ∃ p, gcdR (⟨yk, yn, yt⟩ : Vl) (⟨r8k, r8n, r8t⟩ : Vl) = p := ⟨_, rfl⟩
                          have hc9 := fun (W : World) (hW : Env W) => gcd_pub (⟨yk, yn, yt⟩ : Vl) (⟨r8k, r8n, r8t⟩ : Vl) HOy.out HOr8.out W hW
                          have ho9 := gcdR_ok (⟨yk, yn, yt⟩ : Vl) (⟨r8k, r8n, r8t⟩ : Vl)
                          rw [hr9] at hc9 ho9
                          simp only [Vl.val, pr] at hc9
                          have HC9 := Lib.hid hc9; have HOr9 : Hid (Vl.ok ⟨r9k, r9n, r9t⟩) := Lib.hid ho9; have HR9 := Lib.hid hr9
                          clear hc9 ho9 hr9
                          go_wp2_with fail
                          refine (HC9.out _ (HE.out.below BL.out)).mono ?_
                          rintro e W72 ⟨rfl, hb⟩
                          clear cb4_0 cb4_1 cb4_2 cb20_21_16_0 cb20_21_16_1 cb20_21_16_2
                          replace B := Lib.hid (B.out.below hb)
                          replace BL := Lib.hid (below_then BL.out hb)
                          clear hb
                          go_upto_region 25 with fail
                          have hB : Bxs (W72.alloc (.cells #[.int .i64 r9k, .int .i64 r9n, .string ⟨List.toArray r9t⟩] 23)) ((W72.heap.size, (⟨r9k, r9n, r9t⟩ : Vl)) :: [(g8, (⟨r8k, r8n, r8t⟩ : Vl)), (g4, (⟨r4k, r4n, r4t⟩ : Vl)), (g3, (⟨r3k, r3n, r3t⟩ : Vl)), (g2, (⟨r2k, r2n, r2t⟩ : Vl)), (g1, (⟨r1k, r1n, r1t⟩ : Vl)), (g0, (⟨r0k, r0n, r0t⟩ : Vl)), (gb5, (⟨zk, zn, zt⟩ : Vl)), (gb4, (⟨yk, yn, yt⟩ : Vl)), (w.heap.size, (⟨xk, xn, xt⟩ : Vl))]) := B.out.push (⟨r9k, r9n, r9t⟩ : Vl) 23
                          have hL : Below w.heap.size w (W72.alloc (.cells #[.int .i64 r9k, .int .i64 r9n, .string ⟨List.toArray r9t⟩] 23)) := BL.out.alloc BL.out.size _
                          obtain ⟨W73, hW⟩ : ∃ X, W72.alloc (.cells #[.int .i64 r9k, .int .i64 r9n, .string ⟨List.toArray r9t⟩] 23) = X := ⟨_, rfl⟩
                          obtain ⟨g9, hg⟩ : ∃ g, W72.heap.size = g := ⟨_, rfl⟩
                          rw [hW] at hB hL ⊢
                          rw [hg] at hB ⊢
                          have HGb22_24_18 : Hid (w.heap.size ≤ g9) := Lib.hid (by rw [← hg]; exact BL.out.size)
                          replace B := Lib.hid hB
                          replace BL := Lib.hid hL
                          clear hB hL hW hg
                          replace HL := Lib.hid (show true = BigDivisors_s14 (⟨xk, xn, xt⟩ : Vl) (⟨yk, yn, yt⟩ : Vl) (⟨zk, zn, zt⟩ : Vl) ((⟨r0k, r0n, r0t⟩, r0e) : Vl × Int) ((⟨r1k, r1n, r1t⟩, r1e) : Vl × Int) ((⟨r2k, r2n, r2t⟩, r2e) : Vl × Int) ((⟨r3k, r3n, r3t⟩, r3e) : Vl × Int) ((⟨r4k, r4n, r4t⟩, r4e) : Vl × Int) ((⟨r8k, r8n, r8t⟩, r8e) : Vl × Int) ((⟨r9k, r9n, r9t⟩, r9e) : Vl × Int) from HL.out.trans (by unfold BigDivisors_s15; rw [HR9.out]))
                          -- region 25, the end
                          obtain ⟨b25, h⟩ : ∃ b : Bool, (r9e == 0) = b := ⟨_, rfl⟩
                          have HA25 := Lib.hid h
                          clear h
                          obtain ⟨b26, h⟩ : ∃ b : Bool, (veqB r9k r9n r9t r0k r0n r0t) = b := ⟨_, rfl⟩
                          have HA26 := Lib.hid h
                          clear h
                          cases b25 with
                          | true =>
                            cases b26 with
                            | true =>
                              clear HL
                              have f0_0 : ((r9e : Int) == 0) = true := HA25.out
                              have f0_1 : ((r9e : Int) != 0) = false := by have h := HA25.out; simpa using h
                              have f1_0 : (veqB r9k r9n r9t r0k r0n r0t) = true := HA26.out
                              have cb22_24_18_0 : W73.cell? ⟨g9, 0, none⟩ = some (.int .i64 r9k) := (B.out.get 0 rfl).c0
                              have cb22_24_18_1 : W73.cell? ⟨g9, 1, none⟩ = some (.int .i64 r9n) := (B.out.get 0 rfl).c1
                              have cb22_24_18_2 : W73.cell? ⟨g9, 2, none⟩ = some (.string ⟨List.toArray r9t⟩) := (B.out.get 0 rfl).c2
                              have cb8_4_1_0 : W73.cell? ⟨g0, 0, none⟩ = some (.int .i64 r0k) := (B.out.get 6 rfl).c0
                              have cb8_4_1_1 : W73.cell? ⟨g0, 1, none⟩ = some (.int .i64 r0n) := (B.out.get 6 rfl).c1
                              have cb8_4_1_2 : W73.cell? ⟨g0, 2, none⟩ = some (.string ⟨List.toArray r0t⟩) := (B.out.get 6 rfl).c2
                              go_wp2_with fail
                              go_ret
                              exact ⟨rfl, BL.out⟩
                            | false =>
                              exact Bool.noConfusion (show true = false from HL.out.trans (by show ((true && (r9e == 0)) && (veqB r9k r9n r9t r0k r0n r0t)) = false; rw [HA25.out, HA26.out]; rfl))
                          | false =>
                            exact Bool.noConfusion (show true = false from HL.out.trans (by show ((true && (r9e == 0)) && (veqB r9k r9n r9t r0k r0n r0t)) = false; rw [HA25.out]; rfl))
end Go.Proofs.YthjpbbbmnmhmmaaGreatDoor
