import Derived.Test.YthjpbbbmnmhmmaaGreatDoorA31
set_option linter.unusedVariables false
set_option linter.unusedSimpArgs false
namespace Go.Proofs.YthjpbbbmnmhmmaaGreatDoor
open Go.RowKit Go.Shelf Go.Lib
attribute [local go_sem ↓] run_val_eql run_val_neq

def BigRing_s0 (x : Vl) (y : Vl) (z : Vl) : Bool := true
def BigRing_s1 (x : Vl) (y : Vl) (z : Vl) (r0 : Vl × Int) (r1 : Vl × Int) (r2 : Vl × Int) (r3 : Vl × Int) : Bool := false
def BigRing_s2 (x : Vl) (y : Vl) (z : Vl) (r0 : Vl × Int) (r1 : Vl × Int) (r2 : Vl × Int) (r3 : Vl × Int) (r4 : Vl × Int) (r5 : Vl × Int) (r6 : Vl × Int) : Bool := false
def BigRing_s3 (x : Vl) (y : Vl) (z : Vl) (r0 : Vl × Int) (r1 : Vl × Int) (r2 : Vl × Int) (r3 : Vl × Int) (r4 : Vl × Int) (r5 : Vl × Int) (r6 : Vl × Int) (r7 : Vl × Int) : Bool := false
def BigRing_s4 (x : Vl) (y : Vl) (z : Vl) (r0 : Vl × Int) (r1 : Vl × Int) (r2 : Vl × Int) (r3 : Vl × Int) (r4 : Vl × Int) (r5 : Vl × Int) (r6 : Vl × Int) (r7 : Vl × Int) (r8 : Vl × Int) (r9 : Vl × Int) (r10 : Vl × Int) : Bool := false
def BigRing_s5 (x : Vl) (y : Vl) (z : Vl) (r0 : Vl × Int) (r1 : Vl × Int) (r2 : Vl × Int) (r3 : Vl × Int) (r4 : Vl × Int) (r5 : Vl × Int) (r6 : Vl × Int) (r7 : Vl × Int) (r8 : Vl × Int) (r9 : Vl × Int) (r10 : Vl × Int) (r11 : Vl × Int) (r12 : Vl × Int) (r13 : Vl × Int) : Bool := (true && ((((((!(r4.2 == 0)) || (!(r2.2 == 0))) || (!(r11.2 == 0))) || (!(r12.2 == 0))) || (!(r13.2 == 0))) || (veq r12.1 r13.1)))
def BigRing_s6 (x : Vl) (y : Vl) (z : Vl) (r0 : Vl × Int) (r1 : Vl × Int) (r2 : Vl × Int) (r3 : Vl × Int) (r4 : Vl × Int) (r5 : Vl × Int) (r6 : Vl × Int) (r7 : Vl × Int) (r8 : Vl × Int) (r9 : Vl × Int) (r10 : Vl × Int) (r11 : Vl × Int) (r12 : Vl × Int) : Bool := BigRing_s5 x y z r0 r1 r2 r3 r4 r5 r6 r7 r8 r9 r10 r11 r12 (addR r2.1 r11.1)
def BigRing_s7 (x : Vl) (y : Vl) (z : Vl) (r0 : Vl × Int) (r1 : Vl × Int) (r2 : Vl × Int) (r3 : Vl × Int) (r4 : Vl × Int) (r5 : Vl × Int) (r6 : Vl × Int) (r7 : Vl × Int) (r8 : Vl × Int) (r9 : Vl × Int) (r10 : Vl × Int) (r11 : Vl × Int) : Bool := BigRing_s6 x y z r0 r1 r2 r3 r4 r5 r6 r7 r8 r9 r10 r11 (mulR x r4.1)
def BigRing_s8 (x : Vl) (y : Vl) (z : Vl) (r0 : Vl × Int) (r1 : Vl × Int) (r2 : Vl × Int) (r3 : Vl × Int) (r4 : Vl × Int) (r5 : Vl × Int) (r6 : Vl × Int) (r7 : Vl × Int) (r8 : Vl × Int) (r9 : Vl × Int) (r10 : Vl × Int) : Bool := BigRing_s7 x y z r0 r1 r2 r3 r4 r5 r6 r7 r8 r9 r10 (mulR x z)
def BigRing_s9 (x : Vl) (y : Vl) (z : Vl) (r0 : Vl × Int) (r1 : Vl × Int) (r2 : Vl × Int) (r3 : Vl × Int) (r4 : Vl × Int) (r5 : Vl × Int) (r6 : Vl × Int) (r7 : Vl × Int) (r8 : Vl × Int) (r9 : Vl × Int) (r10 : Vl × Int) : Bool := if (((((r2.2 == 0) && (r8.2 == 0)) && (r9.2 == 0)) && (r10.2 == 0)) && (!(veq r9.1 r10.1))) = true then BigRing_s4 x y z r0 r1 r2 r3 r4 r5 r6 r7 r8 r9 r10 else BigRing_s8 x y z r0 r1 r2 r3 r4 r5 r6 r7 r8 r9 r10
def BigRing_s10 (x : Vl) (y : Vl) (z : Vl) (r0 : Vl × Int) (r1 : Vl × Int) (r2 : Vl × Int) (r3 : Vl × Int) (r4 : Vl × Int) (r5 : Vl × Int) (r6 : Vl × Int) (r7 : Vl × Int) (r8 : Vl × Int) (r9 : Vl × Int) : Bool := BigRing_s9 x y z r0 r1 r2 r3 r4 r5 r6 r7 r8 r9 (mulR x r8.1)
def BigRing_s11 (x : Vl) (y : Vl) (z : Vl) (r0 : Vl × Int) (r1 : Vl × Int) (r2 : Vl × Int) (r3 : Vl × Int) (r4 : Vl × Int) (r5 : Vl × Int) (r6 : Vl × Int) (r7 : Vl × Int) (r8 : Vl × Int) : Bool := BigRing_s10 x y z r0 r1 r2 r3 r4 r5 r6 r7 r8 (mulR r2.1 z)
def BigRing_s12 (x : Vl) (y : Vl) (z : Vl) (r0 : Vl × Int) (r1 : Vl × Int) (r2 : Vl × Int) (r3 : Vl × Int) (r4 : Vl × Int) (r5 : Vl × Int) (r6 : Vl × Int) (r7 : Vl × Int) : Bool := BigRing_s11 x y z r0 r1 r2 r3 r4 r5 r6 r7 (mulR y z)
def BigRing_s13 (x : Vl) (y : Vl) (z : Vl) (r0 : Vl × Int) (r1 : Vl × Int) (r2 : Vl × Int) (r3 : Vl × Int) (r4 : Vl × Int) (r5 : Vl × Int) (r6 : Vl × Int) (r7 : Vl × Int) : Bool := if ((r0.2 == 0) && ((!(r7.2 == 0)) || (!(veq r7.1 x)))) = true then BigRing_s3 x y z r0 r1 r2 r3 r4 r5 r6 r7 else BigRing_s12 x y z r0 r1 r2 r3 r4 r5 r6 r7
def BigRing_s14 (x : Vl) (y : Vl) (z : Vl) (r0 : Vl × Int) (r1 : Vl × Int) (r2 : Vl × Int) (r3 : Vl × Int) (r4 : Vl × Int) (r5 : Vl × Int) (r6 : Vl × Int) : Bool := BigRing_s13 x y z r0 r1 r2 r3 r4 r5 r6 (subR r0.1 y)
def BigRing_s15 (x : Vl) (y : Vl) (z : Vl) (r0 : Vl × Int) (r1 : Vl × Int) (r2 : Vl × Int) (r3 : Vl × Int) (r4 : Vl × Int) (r5 : Vl × Int) (r6 : Vl × Int) : Bool := if (((r0.2 == 0) && (r4.2 == 0)) && ((!(veq r5.1 r6.1)) || (!(r5.2 == r6.2)))) = true then BigRing_s2 x y z r0 r1 r2 r3 r4 r5 r6 else BigRing_s14 x y z r0 r1 r2 r3 r4 r5 r6
def BigRing_s16 (x : Vl) (y : Vl) (z : Vl) (r0 : Vl × Int) (r1 : Vl × Int) (r2 : Vl × Int) (r3 : Vl × Int) (r4 : Vl × Int) (r5 : Vl × Int) : Bool := BigRing_s15 x y z r0 r1 r2 r3 r4 r5 (addR x r4.1)
def BigRing_s17 (x : Vl) (y : Vl) (z : Vl) (r0 : Vl × Int) (r1 : Vl × Int) (r2 : Vl × Int) (r3 : Vl × Int) (r4 : Vl × Int) : Bool := BigRing_s16 x y z r0 r1 r2 r3 r4 (addR r0.1 z)
def BigRing_s18 (x : Vl) (y : Vl) (z : Vl) (r0 : Vl × Int) (r1 : Vl × Int) (r2 : Vl × Int) (r3 : Vl × Int) : Bool := BigRing_s17 x y z r0 r1 r2 r3 (addR y z)
def BigRing_s19 (x : Vl) (y : Vl) (z : Vl) (r0 : Vl × Int) (r1 : Vl × Int) (r2 : Vl × Int) (r3 : Vl × Int) : Bool := if ((((!(veq r0.1 r1.1)) || (!(r0.2 == r1.2))) || (!(veq r2.1 r3.1))) || (!(r2.2 == r3.2))) = true then BigRing_s1 x y z r0 r1 r2 r3 else BigRing_s18 x y z r0 r1 r2 r3
def BigRing_s20 (x : Vl) (y : Vl) (z : Vl) (r0 : Vl × Int) (r1 : Vl × Int) (r2 : Vl × Int) : Bool := BigRing_s19 x y z r0 r1 r2 (mulR y x)
def BigRing_s21 (x : Vl) (y : Vl) (z : Vl) (r0 : Vl × Int) (r1 : Vl × Int) : Bool := BigRing_s20 x y z r0 r1 (mulR x y)
def BigRing_s22 (x : Vl) (y : Vl) (z : Vl) (r0 : Vl × Int) : Bool := BigRing_s21 x y z r0 (addR y x)
def BigRing_s23 (x : Vl) (y : Vl) (z : Vl) : Bool := BigRing_s22 x y z (addR x y)
def BigRing_s24 (x : Vl) (y : Vl) (z : Vl) : Bool := if (((!(shortB x)) || (!(shortB y))) || (!(shortB z))) = true then BigRing_s0 x y z else BigRing_s23 x y z

set_option maxRecDepth 100000 in
set_option maxHeartbeats 16000000 in
theorem walk_BigRing (x : Vl) (y : Vl) (z : Vl) (hx : x.inp) (hy : y.inp) (hz : z.inp) (w : World) (hE : Env w) (hr : true = BigRing_s24 x y z) :
    Calls Tryz.prog 4 #[x.val, y.val, z.val] w fun e w' => e = .returned (.bool true) ∧ Below w.heap.size w w' := by
  obtain ⟨xk, xn, xt⟩ := x
  obtain ⟨yk, yn, yt⟩ := y
  obtain ⟨zk, zn, zt⟩ := z
  have HIx := Lib.hid hx
  have HIy := Lib.hid hy
  have HIz := Lib.hid hz
  have HE := Lib.hid hE
  have HL := Lib.hid hr
  clear hE hr hx hy hz
  simp only [Vl.val]
  go_enter Tryz.func4, Tryz.ntmps4
  go_upto_region 1 with fail
  have hB : Bxs (((w.alloc (.cells #[.int .i64 xk, .int .i64 xn, .string ⟨List.toArray xt⟩] 23)).alloc (.cells #[.int .i64 yk, .int .i64 yn, .string ⟨List.toArray yt⟩] 23)).alloc (.cells #[.int .i64 zk, .int .i64 zn, .string ⟨List.toArray zt⟩] 23)) [(w.heap.size + 1 + 1, (⟨zk, zn, zt⟩ : Vl)), (w.heap.size + 1, (⟨yk, yn, yt⟩ : Vl)), (w.heap.size, (⟨xk, xn, xt⟩ : Vl))] := by
    have h := ((((show Bxs w [] from trivial).push (⟨xk, xn, xt⟩ : Vl) 23).push (⟨yk, yn, yt⟩ : Vl) 23).push (⟨zk, zn, zt⟩ : Vl) 23)
    simpa only [World.size_alloc] using h
  have hL : Below w.heap.size w (((w.alloc (.cells #[.int .i64 xk, .int .i64 xn, .string ⟨List.toArray xt⟩] 23)).alloc (.cells #[.int .i64 yk, .int .i64 yn, .string ⟨List.toArray yt⟩] 23)).alloc (.cells #[.int .i64 zk, .int .i64 zn, .string ⟨List.toArray zt⟩] 23)) := ((((Below.refl w.heap.size w).alloc (Nat.le_refl _) (.cells #[.int .i64 xk, .int .i64 xn, .string ⟨List.toArray xt⟩] 23)).alloc (by simp <;> omega) (.cells #[.int .i64 yk, .int .i64 yn, .string ⟨List.toArray yt⟩] 23)).alloc (by simp <;> omega) (.cells #[.int .i64 zk, .int .i64 zn, .string ⟨List.toArray zt⟩] 23))
  obtain ⟨W1, hW⟩ : ∃ X, (((w.alloc (.cells #[.int .i64 xk, .int .i64 xn, .string ⟨List.toArray xt⟩] 23)).alloc (.cells #[.int .i64 yk, .int .i64 yn, .string ⟨List.toArray yt⟩] 23)).alloc (.cells #[.int .i64 zk, .int .i64 zn, .string ⟨List.toArray zt⟩] 23)) = X := ⟨_, rfl⟩
  rw [hW] at hB hL ⊢
  clear hW
  obtain ⟨gb5, hg⟩ : ∃ g, w.heap.size + 1 + 1 = g := ⟨_, rfl⟩
  have HGb5 : Hid (w.heap.size ≤ gb5) := Lib.hid (by omega)
  rw [hg] at hB ⊢
  clear hg
  obtain ⟨gb4, hg⟩ : ∃ g, w.heap.size + 1 = g := ⟨_, rfl⟩
  have HGb4 : Hid (w.heap.size ≤ gb4) := Lib.hid (by omega)
  rw [hg] at hB ⊢
  clear hg
  have HGb3 : Hid (w.heap.size ≤ w.heap.size) := Lib.hid (Nat.le_refl _)
  have B := Lib.hid hB
  have BL := Lib.hid hL
  clear hB hL
  -- region 1
  go_wp2_with fail
  refine (awakeV _ (HE.out.below BL.out)).mono ?_
  rintro e W2 ⟨rfl, hb⟩
  replace B := Lib.hid (B.out.below hb)
  replace BL := Lib.hid (below_then BL.out hb)
  clear hb
  go_upto_region 2 with fail
  -- region 2, a test
  obtain ⟨b0, h⟩ : ∃ b : Bool, (shortB (⟨xk, xn, xt⟩ : Vl)) = b := ⟨_, rfl⟩
  have HA0 := Lib.hid h
  clear h
  obtain ⟨b1, h⟩ : ∃ b : Bool, (shortB (⟨yk, yn, yt⟩ : Vl)) = b := ⟨_, rfl⟩
  have HA1 := Lib.hid h
  clear h
  obtain ⟨b2, h⟩ : ∃ b : Bool, (shortB (⟨zk, zn, zt⟩ : Vl)) = b := ⟨_, rfl⟩
  have HA2 := Lib.hid h
  clear h
  obtain ⟨c1, h⟩ : ∃ c : Bool, (((!b0) || (!b1)) || (!b2)) = c := ⟨_, rfl⟩
  have HCC := Lib.hid h
  clear h
  go_upto_region 2 with fail
  go_cut [40] from 28 to 40 (fun v wx => v = .bool c1 ∧ Hid (Bxs wx [(gb5, (⟨zk, zn, zt⟩ : Vl)), (gb4, (⟨yk, yn, yt⟩ : Vl)), (w.heap.size, (⟨xk, xn, xt⟩ : Vl))]) ∧ Hid (Below w.heap.size w wx))
  case first =>
    clear HL
    cases b0 with
    | true =>
      cases b1 with
      | true =>
        cases b2 with
        | true =>
          have cb3_0 : W2.cell? ⟨w.heap.size, 0, none⟩ = some (.int .i64 xk) := (B.out.get 2 rfl).c0
          have cb3_1 : W2.cell? ⟨w.heap.size, 1, none⟩ = some (.int .i64 xn) := (B.out.get 2 rfl).c1
          have cb3_2 : W2.cell? ⟨w.heap.size, 2, none⟩ = some (.string ⟨List.toArray xt⟩) := (B.out.get 2 rfl).c2
          have cb4_0 : W2.cell? ⟨gb4, 0, none⟩ = some (.int .i64 yk) := (B.out.get 1 rfl).c0
          have cb4_1 : W2.cell? ⟨gb4, 1, none⟩ = some (.int .i64 yn) := (B.out.get 1 rfl).c1
          have cb4_2 : W2.cell? ⟨gb4, 2, none⟩ = some (.string ⟨List.toArray yt⟩) := (B.out.get 1 rfl).c2
          have cb5_0 : W2.cell? ⟨gb5, 0, none⟩ = some (.int .i64 zk) := (B.out.get 0 rfl).c0
          have cb5_1 : W2.cell? ⟨gb5, 1, none⟩ = some (.int .i64 zn) := (B.out.get 0 rfl).c1
          have cb5_2 : W2.cell? ⟨gb5, 2, none⟩ = some (.string ⟨List.toArray zt⟩) := (B.out.get 0 rfl).c2
          go_wp2_with fail
          refine (short_calls xk xn xt HIx.out.2 _).mono ?_
          rw [HA0.out]
          rintro e W3 ⟨rfl, hb⟩
          clear cb3_0 cb3_1 cb3_2 cb4_0 cb4_1 cb4_2 cb5_0 cb5_1 cb5_2
          replace B := Lib.hid (B.out.below hb)
          replace BL := Lib.hid (below_then BL.out hb)
          clear hb
          have cb3_0 : W3.cell? ⟨w.heap.size, 0, none⟩ = some (.int .i64 xk) := (B.out.get 2 rfl).c0
          have cb3_1 : W3.cell? ⟨w.heap.size, 1, none⟩ = some (.int .i64 xn) := (B.out.get 2 rfl).c1
          have cb3_2 : W3.cell? ⟨w.heap.size, 2, none⟩ = some (.string ⟨List.toArray xt⟩) := (B.out.get 2 rfl).c2
          have cb4_0 : W3.cell? ⟨gb4, 0, none⟩ = some (.int .i64 yk) := (B.out.get 1 rfl).c0
          have cb4_1 : W3.cell? ⟨gb4, 1, none⟩ = some (.int .i64 yn) := (B.out.get 1 rfl).c1
          have cb4_2 : W3.cell? ⟨gb4, 2, none⟩ = some (.string ⟨List.toArray yt⟩) := (B.out.get 1 rfl).c2
          have cb5_0 : W3.cell? ⟨gb5, 0, none⟩ = some (.int .i64 zk) := (B.out.get 0 rfl).c0
          have cb5_1 : W3.cell? ⟨gb5, 1, none⟩ = some (.int .i64 zn) := (B.out.get 0 rfl).c1
          have cb5_2 : W3.cell? ⟨gb5, 2, none⟩ = some (.string ⟨List.toArray zt⟩) := (B.out.get 0 rfl).c2
          go_wp2_with fail
          refine (short_calls yk yn yt HIy.out.2 _).mono ?_
          rw [HA1.out]
          rintro e W4 ⟨rfl, hb⟩
          clear cb3_0 cb3_1 cb3_2 cb4_0 cb4_1 cb4_2 cb5_0 cb5_1 cb5_2
          replace B := Lib.hid (B.out.below hb)
          replace BL := Lib.hid (below_then BL.out hb)
          clear hb
          have cb3_0 : W4.cell? ⟨w.heap.size, 0, none⟩ = some (.int .i64 xk) := (B.out.get 2 rfl).c0
          have cb3_1 : W4.cell? ⟨w.heap.size, 1, none⟩ = some (.int .i64 xn) := (B.out.get 2 rfl).c1
          have cb3_2 : W4.cell? ⟨w.heap.size, 2, none⟩ = some (.string ⟨List.toArray xt⟩) := (B.out.get 2 rfl).c2
          have cb4_0 : W4.cell? ⟨gb4, 0, none⟩ = some (.int .i64 yk) := (B.out.get 1 rfl).c0
          have cb4_1 : W4.cell? ⟨gb4, 1, none⟩ = some (.int .i64 yn) := (B.out.get 1 rfl).c1
          have cb4_2 : W4.cell? ⟨gb4, 2, none⟩ = some (.string ⟨List.toArray yt⟩) := (B.out.get 1 rfl).c2
          have cb5_0 : W4.cell? ⟨gb5, 0, none⟩ = some (.int .i64 zk) := (B.out.get 0 rfl).c0
          have cb5_1 : W4.cell? ⟨gb5, 1, none⟩ = some (.int .i64 zn) := (B.out.get 0 rfl).c1
          have cb5_2 : W4.cell? ⟨gb5, 2, none⟩ = some (.string ⟨List.toArray zt⟩) := (B.out.get 0 rfl).c2
          go_wp2_with fail
          refine (short_calls zk zn zt HIz.out.2 _).mono ?_
          rw [HA2.out]
          rintro e W5 ⟨rfl, hb⟩
          clear cb3_0 cb3_1 cb3_2 cb4_0 cb4_1 cb4_2 cb5_0 cb5_1 cb5_2
          replace B := Lib.hid (B.out.below hb)
          replace BL := Lib.hid (below_then BL.out hb)
          clear hb
          have cb3_0 : W5.cell? ⟨w.heap.size, 0, none⟩ = some (.int .i64 xk) := (B.out.get 2 rfl).c0
          have cb3_1 : W5.cell? ⟨w.heap.size, 1, none⟩ = some (.int .i64 xn) := (B.out.get 2 rfl).c1
          have cb3_2 : W5.cell? ⟨w.heap.size, 2, none⟩ = some (.string ⟨List.toArray xt⟩) := (B.out.get 2 rfl).c2
          have cb4_0 : W5.cell? ⟨gb4, 0, none⟩ = some (.int .i64 yk) := (B.out.get 1 rfl).c0
          have cb4_1 : W5.cell? ⟨gb4, 1, none⟩ = some (.int .i64 yn) := (B.out.get 1 rfl).c1
          have cb4_2 : W5.cell? ⟨gb4, 2, none⟩ = some (.string ⟨List.toArray yt⟩) := (B.out.get 1 rfl).c2
          have cb5_0 : W5.cell? ⟨gb5, 0, none⟩ = some (.int .i64 zk) := (B.out.get 0 rfl).c0
          have cb5_1 : W5.cell? ⟨gb5, 1, none⟩ = some (.int .i64 zn) := (B.out.get 0 rfl).c1
          have cb5_2 : W5.cell? ⟨gb5, 2, none⟩ = some (.string ⟨List.toArray zt⟩) := (B.out.get 0 rfl).c2
          go_wp2_with fail
          go_meet
          exact ⟨congrArg Value.bool HCC.out, B, BL⟩
        | false =>
          have cb3_0 : W2.cell? ⟨w.heap.size, 0, none⟩ = some (.int .i64 xk) := (B.out.get 2 rfl).c0
          have cb3_1 : W2.cell? ⟨w.heap.size, 1, none⟩ = some (.int .i64 xn) := (B.out.get 2 rfl).c1
          have cb3_2 : W2.cell? ⟨w.heap.size, 2, none⟩ = some (.string ⟨List.toArray xt⟩) := (B.out.get 2 rfl).c2
          have cb4_0 : W2.cell? ⟨gb4, 0, none⟩ = some (.int .i64 yk) := (B.out.get 1 rfl).c0
          have cb4_1 : W2.cell? ⟨gb4, 1, none⟩ = some (.int .i64 yn) := (B.out.get 1 rfl).c1
          have cb4_2 : W2.cell? ⟨gb4, 2, none⟩ = some (.string ⟨List.toArray yt⟩) := (B.out.get 1 rfl).c2
          have cb5_0 : W2.cell? ⟨gb5, 0, none⟩ = some (.int .i64 zk) := (B.out.get 0 rfl).c0
          have cb5_1 : W2.cell? ⟨gb5, 1, none⟩ = some (.int .i64 zn) := (B.out.get 0 rfl).c1
          have cb5_2 : W2.cell? ⟨gb5, 2, none⟩ = some (.string ⟨List.toArray zt⟩) := (B.out.get 0 rfl).c2
          go_wp2_with fail
          refine (short_calls xk xn xt HIx.out.2 _).mono ?_
          rw [HA0.out]
          rintro e W6 ⟨rfl, hb⟩
          clear cb3_0 cb3_1 cb3_2 cb4_0 cb4_1 cb4_2 cb5_0 cb5_1 cb5_2
          replace B := Lib.hid (B.out.below hb)
          replace BL := Lib.hid (below_then BL.out hb)
          clear hb
          have cb3_0 : W6.cell? ⟨w.heap.size, 0, none⟩ = some (.int .i64 xk) := (B.out.get 2 rfl).c0
          have cb3_1 : W6.cell? ⟨w.heap.size, 1, none⟩ = some (.int .i64 xn) := (B.out.get 2 rfl).c1
          have cb3_2 : W6.cell? ⟨w.heap.size, 2, none⟩ = some (.string ⟨List.toArray xt⟩) := (B.out.get 2 rfl).c2
          have cb4_0 : W6.cell? ⟨gb4, 0, none⟩ = some (.int .i64 yk) := (B.out.get 1 rfl).c0
          have cb4_1 : W6.cell? ⟨gb4, 1, none⟩ = some (.int .i64 yn) := (B.out.get 1 rfl).c1
          have cb4_2 : W6.cell? ⟨gb4, 2, none⟩ = some (.string ⟨List.toArray yt⟩) := (B.out.get 1 rfl).c2
          have cb5_0 : W6.cell? ⟨gb5, 0, none⟩ = some (.int .i64 zk) := (B.out.get 0 rfl).c0
          have cb5_1 : W6.cell? ⟨gb5, 1, none⟩ = some (.int .i64 zn) := (B.out.get 0 rfl).c1
          have cb5_2 : W6.cell? ⟨gb5, 2, none⟩ = some (.string ⟨List.toArray zt⟩) := (B.out.get 0 rfl).c2
          go_wp2_with fail
          refine (short_calls yk yn yt HIy.out.2 _).mono ?_
          rw [HA1.out]
          rintro e W7 ⟨rfl, hb⟩
          clear cb3_0 cb3_1 cb3_2 cb4_0 cb4_1 cb4_2 cb5_0 cb5_1 cb5_2
          replace B := Lib.hid (B.out.below hb)
          replace BL := Lib.hid (below_then BL.out hb)
          clear hb
          have cb3_0 : W7.cell? ⟨w.heap.size, 0, none⟩ = some (.int .i64 xk) := (B.out.get 2 rfl).c0
          have cb3_1 : W7.cell? ⟨w.heap.size, 1, none⟩ = some (.int .i64 xn) := (B.out.get 2 rfl).c1
          have cb3_2 : W7.cell? ⟨w.heap.size, 2, none⟩ = some (.string ⟨List.toArray xt⟩) := (B.out.get 2 rfl).c2
          have cb4_0 : W7.cell? ⟨gb4, 0, none⟩ = some (.int .i64 yk) := (B.out.get 1 rfl).c0
          have cb4_1 : W7.cell? ⟨gb4, 1, none⟩ = some (.int .i64 yn) := (B.out.get 1 rfl).c1
          have cb4_2 : W7.cell? ⟨gb4, 2, none⟩ = some (.string ⟨List.toArray yt⟩) := (B.out.get 1 rfl).c2
          have cb5_0 : W7.cell? ⟨gb5, 0, none⟩ = some (.int .i64 zk) := (B.out.get 0 rfl).c0
          have cb5_1 : W7.cell? ⟨gb5, 1, none⟩ = some (.int .i64 zn) := (B.out.get 0 rfl).c1
          have cb5_2 : W7.cell? ⟨gb5, 2, none⟩ = some (.string ⟨List.toArray zt⟩) := (B.out.get 0 rfl).c2
          go_wp2_with fail
          refine (short_calls zk zn zt HIz.out.2 _).mono ?_
          rw [HA2.out]
          rintro e W8 ⟨rfl, hb⟩
          clear cb3_0 cb3_1 cb3_2 cb4_0 cb4_1 cb4_2 cb5_0 cb5_1 cb5_2
          replace B := Lib.hid (B.out.below hb)
          replace BL := Lib.hid (below_then BL.out hb)
          clear hb
          have cb3_0 : W8.cell? ⟨w.heap.size, 0, none⟩ = some (.int .i64 xk) := (B.out.get 2 rfl).c0
          have cb3_1 : W8.cell? ⟨w.heap.size, 1, none⟩ = some (.int .i64 xn) := (B.out.get 2 rfl).c1
          have cb3_2 : W8.cell? ⟨w.heap.size, 2, none⟩ = some (.string ⟨List.toArray xt⟩) := (B.out.get 2 rfl).c2
          have cb4_0 : W8.cell? ⟨gb4, 0, none⟩ = some (.int .i64 yk) := (B.out.get 1 rfl).c0
          have cb4_1 : W8.cell? ⟨gb4, 1, none⟩ = some (.int .i64 yn) := (B.out.get 1 rfl).c1
          have cb4_2 : W8.cell? ⟨gb4, 2, none⟩ = some (.string ⟨List.toArray yt⟩) := (B.out.get 1 rfl).c2
          have cb5_0 : W8.cell? ⟨gb5, 0, none⟩ = some (.int .i64 zk) := (B.out.get 0 rfl).c0
          have cb5_1 : W8.cell? ⟨gb5, 1, none⟩ = some (.int .i64 zn) := (B.out.get 0 rfl).c1
          have cb5_2 : W8.cell? ⟨gb5, 2, none⟩ = some (.string ⟨List.toArray zt⟩) := (B.out.get 0 rfl).c2
          go_wp2_with fail
          go_meet
          exact ⟨congrArg Value.bool HCC.out, B, BL⟩
      | false =>
        have cb3_0 : W2.cell? ⟨w.heap.size, 0, none⟩ = some (.int .i64 xk) := (B.out.get 2 rfl).c0
        have cb3_1 : W2.cell? ⟨w.heap.size, 1, none⟩ = some (.int .i64 xn) := (B.out.get 2 rfl).c1
        have cb3_2 : W2.cell? ⟨w.heap.size, 2, none⟩ = some (.string ⟨List.toArray xt⟩) := (B.out.get 2 rfl).c2
        have cb4_0 : W2.cell? ⟨gb4, 0, none⟩ = some (.int .i64 yk) := (B.out.get 1 rfl).c0
        have cb4_1 : W2.cell? ⟨gb4, 1, none⟩ = some (.int .i64 yn) := (B.out.get 1 rfl).c1
        have cb4_2 : W2.cell? ⟨gb4, 2, none⟩ = some (.string ⟨List.toArray yt⟩) := (B.out.get 1 rfl).c2
        go_wp2_with fail
        refine (short_calls xk xn xt HIx.out.2 _).mono ?_
        rw [HA0.out]
        rintro e W9 ⟨rfl, hb⟩
        clear cb3_0 cb3_1 cb3_2 cb4_0 cb4_1 cb4_2
        replace B := Lib.hid (B.out.below hb)
        replace BL := Lib.hid (below_then BL.out hb)
        clear hb
        have cb3_0 : W9.cell? ⟨w.heap.size, 0, none⟩ = some (.int .i64 xk) := (B.out.get 2 rfl).c0
        have cb3_1 : W9.cell? ⟨w.heap.size, 1, none⟩ = some (.int .i64 xn) := (B.out.get 2 rfl).c1
        have cb3_2 : W9.cell? ⟨w.heap.size, 2, none⟩ = some (.string ⟨List.toArray xt⟩) := (B.out.get 2 rfl).c2
        have cb4_0 : W9.cell? ⟨gb4, 0, none⟩ = some (.int .i64 yk) := (B.out.get 1 rfl).c0
        have cb4_1 : W9.cell? ⟨gb4, 1, none⟩ = some (.int .i64 yn) := (B.out.get 1 rfl).c1
        have cb4_2 : W9.cell? ⟨gb4, 2, none⟩ = some (.string ⟨List.toArray yt⟩) := (B.out.get 1 rfl).c2
        go_wp2_with fail
        refine (short_calls yk yn yt HIy.out.2 _).mono ?_
        rw [HA1.out]
        rintro e W10 ⟨rfl, hb⟩
        clear cb3_0 cb3_1 cb3_2 cb4_0 cb4_1 cb4_2
        replace B := Lib.hid (B.out.below hb)
        replace BL := Lib.hid (below_then BL.out hb)
        clear hb
        have cb3_0 : W10.cell? ⟨w.heap.size, 0, none⟩ = some (.int .i64 xk) := (B.out.get 2 rfl).c0
        have cb3_1 : W10.cell? ⟨w.heap.size, 1, none⟩ = some (.int .i64 xn) := (B.out.get 2 rfl).c1
        have cb3_2 : W10.cell? ⟨w.heap.size, 2, none⟩ = some (.string ⟨List.toArray xt⟩) := (B.out.get 2 rfl).c2
        have cb4_0 : W10.cell? ⟨gb4, 0, none⟩ = some (.int .i64 yk) := (B.out.get 1 rfl).c0
        have cb4_1 : W10.cell? ⟨gb4, 1, none⟩ = some (.int .i64 yn) := (B.out.get 1 rfl).c1
        have cb4_2 : W10.cell? ⟨gb4, 2, none⟩ = some (.string ⟨List.toArray yt⟩) := (B.out.get 1 rfl).c2
        go_wp2_with fail
        go_meet
        exact ⟨congrArg Value.bool HCC.out, B, BL⟩
    | false =>
      have cb3_0 : W2.cell? ⟨w.heap.size, 0, none⟩ = some (.int .i64 xk) := (B.out.get 2 rfl).c0
      have cb3_1 : W2.cell? ⟨w.heap.size, 1, none⟩ = some (.int .i64 xn) := (B.out.get 2 rfl).c1
      have cb3_2 : W2.cell? ⟨w.heap.size, 2, none⟩ = some (.string ⟨List.toArray xt⟩) := (B.out.get 2 rfl).c2
      go_wp2_with fail
      refine (short_calls xk xn xt HIx.out.2 _).mono ?_
      rw [HA0.out]
      rintro e W11 ⟨rfl, hb⟩
      clear cb3_0 cb3_1 cb3_2
      replace B := Lib.hid (B.out.below hb)
      replace BL := Lib.hid (below_then BL.out hb)
      clear hb
      have cb3_0 : W11.cell? ⟨w.heap.size, 0, none⟩ = some (.int .i64 xk) := (B.out.get 2 rfl).c0
      have cb3_1 : W11.cell? ⟨w.heap.size, 1, none⟩ = some (.int .i64 xn) := (B.out.get 2 rfl).c1
      have cb3_2 : W11.cell? ⟨w.heap.size, 2, none⟩ = some (.string ⟨List.toArray xt⟩) := (B.out.get 2 rfl).c2
      go_wp2_with fail
      go_meet
      exact ⟨congrArg Value.bool HCC.out, B, BL⟩
  case rest =>
    clear B BL
    obtain ⟨rfl, B, BL⟩ := hcut
    obtain ⟨W12, hW⟩ : ∃ X, wc = X := ⟨_, rfl⟩
    rw [hW] at B BL ⊢
    clear hW
    have HCW : Hid ((((!(shortB (⟨xk, xn, xt⟩ : Vl))) || (!(shortB (⟨yk, yn, yt⟩ : Vl)))) || (!(shortB (⟨zk, zn, zt⟩ : Vl)))) = c1) := Lib.hid (by rw [HA0.out, HA1.out, HA2.out]; exact HCC.out)
    clear HCC HA0 HA1 HA2
    cases c1 with
    | true =>
      replace HL := Lib.hid (show true = BigRing_s0 (⟨xk, xn, xt⟩ : Vl) (⟨yk, yn, yt⟩ : Vl) (⟨zk, zn, zt⟩ : Vl) from HL.out.trans (if_pos HCW.out))
      go_wp2_with fail
      go_ret
      exact ⟨rfl, BL.out⟩
    | false =>
      have HOx : Hid (Vl.ok (⟨xk, xn, xt⟩ : Vl)) := Lib.hid ⟨HIx.out.1, by have h := HCW.out; simp [shortB] at h; show xt.length ≤ 100000; omega⟩
      have HOy : Hid (Vl.ok (⟨yk, yn, yt⟩ : Vl)) := Lib.hid ⟨HIy.out.1, by have h := HCW.out; simp [shortB] at h; show yt.length ≤ 100000; omega⟩
      have HOz : Hid (Vl.ok (⟨zk, zn, zt⟩ : Vl)) := Lib.hid ⟨HIz.out.1, by have h := HCW.out; simp [shortB] at h; show zt.length ≤ 100000; omega⟩
      replace HL := Lib.hid (show true = BigRing_s23 (⟨xk, xn, xt⟩ : Vl) (⟨yk, yn, yt⟩ : Vl) (⟨zk, zn, zt⟩ : Vl) from HL.out.trans ((if_neg (fun h => Bool.noConfusion (HCW.out.symm.trans h)))))
      -- region 4
      have cb3_0 : W12.cell? ⟨w.heap.size, 0, none⟩ = some (.int .i64 xk) := (B.out.get 2 rfl).c0
      have cb3_1 : W12.cell? ⟨w.heap.size, 1, none⟩ = some (.int .i64 xn) := (B.out.get 2 rfl).c1
      have cb3_2 : W12.cell? ⟨w.heap.size, 2, none⟩ = some (.string ⟨List.toArray xt⟩) := (B.out.get 2 rfl).c2
      have cb4_0 : W12.cell? ⟨gb4, 0, none⟩ = some (.int .i64 yk) := (B.out.get 1 rfl).c0
      have cb4_1 : W12.cell? ⟨gb4, 1, none⟩ = some (.int .i64 yn) := (B.out.get 1 rfl).c1
      have cb4_2 : W12.cell? ⟨gb4, 2, none⟩ = some (.string ⟨List.toArray yt⟩) := (B.out.get 1 rfl).c2
      obtain ⟨⟨⟨r0k, r0n, r0t⟩, r0e⟩, hr0⟩ : ∃ p, addR (⟨xk, xn, xt⟩ : Vl) (⟨yk, yn, yt⟩ : Vl) = p := ⟨_, rfl⟩
      have hc0 := fun (W : World) (hW : Env W) => add_pub (⟨xk, xn, xt⟩ : Vl) (⟨yk, yn, yt⟩ : Vl) HOx.out HOy.out W hW
      have ho0 := addR_ok (⟨xk, xn, xt⟩ : Vl) (⟨yk, yn, yt⟩ : Vl)
      rw [hr0] at hc0 ho0
      simp only [Vl.val, pr] at hc0
      have HC0 := Lib.hid hc0; have HOr0 : Hid (Vl.ok ⟨r0k, r0n, r0t⟩) := Lib.hid ho0; have HR0 := Lib.hid hr0
      clear hc0 ho0 hr0
      go_wp2_with fail
      refine (HC0.out _ (HE.out.below BL.out)).mono ?_
      rintro e W13 ⟨rfl, hb⟩
      clear cb3_0 cb3_1 cb3_2 cb4_0 cb4_1 cb4_2
      replace B := Lib.hid (B.out.below hb)
      replace BL := Lib.hid (below_then BL.out hb)
      clear hb
      go_upto_region 5 with fail
      have hB : Bxs (W13.alloc (.cells #[.int .i64 r0k, .int .i64 r0n, .string ⟨List.toArray r0t⟩] 23)) ((W13.heap.size, (⟨r0k, r0n, r0t⟩ : Vl)) :: [(gb5, (⟨zk, zn, zt⟩ : Vl)), (gb4, (⟨yk, yn, yt⟩ : Vl)), (w.heap.size, (⟨xk, xn, xt⟩ : Vl))]) := B.out.push (⟨r0k, r0n, r0t⟩ : Vl) 23
      have hL : Below w.heap.size w (W13.alloc (.cells #[.int .i64 r0k, .int .i64 r0n, .string ⟨List.toArray r0t⟩] 23)) := BL.out.alloc BL.out.size _
      obtain ⟨W14, hW⟩ : ∃ X, W13.alloc (.cells #[.int .i64 r0k, .int .i64 r0n, .string ⟨List.toArray r0t⟩] 23) = X := ⟨_, rfl⟩
      obtain ⟨g0, hg⟩ : ∃ g, W13.heap.size = g := ⟨_, rfl⟩
      rw [hW] at hB hL ⊢
      rw [hg] at hB ⊢
      have HGb8_4_1 : Hid (w.heap.size ≤ g0) := Lib.hid (by rw [← hg]; exact BL.out.size)
      replace B := Lib.hid hB
      replace BL := Lib.hid hL
      clear hB hL hW hg
      replace HL := Lib.hid (show true = BigRing_s22 (⟨xk, xn, xt⟩ : Vl) (⟨yk, yn, yt⟩ : Vl) (⟨zk, zn, zt⟩ : Vl) ((⟨r0k, r0n, r0t⟩, r0e) : Vl × Int) from HL.out.trans (by unfold BigRing_s23; rw [HR0.out]))
      -- region 5
      have cb4_0 : W14.cell? ⟨gb4, 0, none⟩ = some (.int .i64 yk) := (B.out.get 2 rfl).c0
      have cb4_1 : W14.cell? ⟨gb4, 1, none⟩ = some (.int .i64 yn) := (B.out.get 2 rfl).c1
      have cb4_2 : W14.cell? ⟨gb4, 2, none⟩ = some (.string ⟨List.toArray yt⟩) := (B.out.get 2 rfl).c2
      have cb3_0 : W14.cell? ⟨w.heap.size, 0, none⟩ = some (.int .i64 xk) := (B.out.get 3 rfl).c0
      have cb3_1 : W14.cell? ⟨w.heap.size, 1, none⟩ = some (.int .i64 xn) := (B.out.get 3 rfl).c1
      have cb3_2 : W14.cell? ⟨w.heap.size, 2, none⟩ = some (.string ⟨List.toArray xt⟩) := (B.out.get 3 rfl).c2
      obtain ⟨⟨⟨r1k, r1n, r1t⟩, r1e⟩, hr1⟩ : ∃ p, addR (⟨yk, yn, yt⟩ : Vl) (⟨xk, xn, xt⟩ : Vl) = p := ⟨_, rfl⟩
      have hc1 := fun (W : World) (hW : Env W) => add_pub (⟨yk, yn, yt⟩ : Vl) (⟨xk, xn, xt⟩ : Vl) HOy.out HOx.out W hW
      have ho1 := addR_ok (⟨yk, yn, yt⟩ : Vl) (⟨xk, xn, xt⟩ : Vl)
      rw [hr1] at hc1 ho1
      simp only [Vl.val, pr] at hc1
      have HC1 := Lib.hid hc1; have HOr1 : Hid (Vl.ok ⟨r1k, r1n, r1t⟩) := Lib.hid ho1; have HR1 := Lib.hid hr1
      clear hc1 ho1 hr1
      go_wp2_with fail
      refine (HC1.out _ (HE.out.below BL.out)).mono ?_
      rintro e W15 ⟨rfl, hb⟩
      clear cb4_0 cb4_1 cb4_2 cb3_0 cb3_1 cb3_2
      replace B := Lib.hid (B.out.below hb)
      replace BL := Lib.hid (below_then BL.out hb)
      clear hb
      go_upto_region 6 with fail
      have hB : Bxs (W15.alloc (.cells #[.int .i64 r1k, .int .i64 r1n, .string ⟨List.toArray r1t⟩] 23)) ((W15.heap.size, (⟨r1k, r1n, r1t⟩ : Vl)) :: [(g0, (⟨r0k, r0n, r0t⟩ : Vl)), (gb5, (⟨zk, zn, zt⟩ : Vl)), (gb4, (⟨yk, yn, yt⟩ : Vl)), (w.heap.size, (⟨xk, xn, xt⟩ : Vl))]) := B.out.push (⟨r1k, r1n, r1t⟩ : Vl) 23
      have hL : Below w.heap.size w (W15.alloc (.cells #[.int .i64 r1k, .int .i64 r1n, .string ⟨List.toArray r1t⟩] 23)) := BL.out.alloc BL.out.size _
      obtain ⟨W16, hW⟩ : ∃ X, W15.alloc (.cells #[.int .i64 r1k, .int .i64 r1n, .string ⟨List.toArray r1t⟩] 23) = X := ⟨_, rfl⟩
      obtain ⟨g1, hg⟩ : ∃ g, W15.heap.size = g := ⟨_, rfl⟩
      rw [hW] at hB hL ⊢
      rw [hg] at hB ⊢
      have HGb10_5_2 : Hid (w.heap.size ≤ g1) := Lib.hid (by rw [← hg]; exact BL.out.size)
      replace B := Lib.hid hB
      replace BL := Lib.hid hL
      clear hB hL hW hg
      replace HL := Lib.hid (show true = BigRing_s21 (⟨xk, xn, xt⟩ : Vl) (⟨yk, yn, yt⟩ : Vl) (⟨zk, zn, zt⟩ : Vl) ((⟨r0k, r0n, r0t⟩, r0e) : Vl × Int) ((⟨r1k, r1n, r1t⟩, r1e) : Vl × Int) from HL.out.trans (by unfold BigRing_s22; rw [HR1.out]))
      -- region 6
      have cb3_0 : W16.cell? ⟨w.heap.size, 0, none⟩ = some (.int .i64 xk) := (B.out.get 4 rfl).c0
      have cb3_1 : W16.cell? ⟨w.heap.size, 1, none⟩ = some (.int .i64 xn) := (B.out.get 4 rfl).c1
      have cb3_2 : W16.cell? ⟨w.heap.size, 2, none⟩ = some (.string ⟨List.toArray xt⟩) := (B.out.get 4 rfl).c2
      have cb4_0 : W16.cell? ⟨gb4, 0, none⟩ = some (.int .i64 yk) := (B.out.get 3 rfl).c0
      have cb4_1 : W16.cell? ⟨gb4, 1, none⟩ = some (.int .i64 yn) := (B.out.get 3 rfl).c1
      have cb4_2 : W16.cell? ⟨gb4, 2, none⟩ = some (.string ⟨List.toArray yt⟩) := (B.out.get 3 rfl).c2
      obtain ⟨⟨⟨r2k, r2n, r2t⟩, r2e⟩, hr2⟩ : ∃ p, mulR (⟨xk, xn, xt⟩ : Vl) (⟨yk, yn, yt⟩ : Vl) = p := ⟨_, rfl⟩
      have hc2 := fun (W : World) (hW : Env W) => mul_pub (⟨xk, xn, xt⟩ : Vl) (⟨yk, yn, yt⟩ : Vl) HOx.out HOy.out W hW
      have ho2 := mulR_ok (⟨xk, xn, xt⟩ : Vl) (⟨yk, yn, yt⟩ : Vl)
      rw [hr2] at hc2 ho2
      simp only [Vl.val, pr] at hc2
      have HC2 := Lib.hid hc2; have HOr2 : Hid (Vl.ok ⟨r2k, r2n, r2t⟩) := Lib.hid ho2; have HR2 := Lib.hid hr2
      clear hc2 ho2 hr2
      go_wp2_with fail
      refine (HC2.out _ (HE.out.below BL.out)).mono ?_
      rintro e W17 ⟨rfl, hb⟩
      clear cb3_0 cb3_1 cb3_2 cb4_0 cb4_1 cb4_2
      replace B := Lib.hid (B.out.below hb)
      replace BL := Lib.hid (below_then BL.out hb)
      clear hb
      go_upto_region 7 with fail
      have hB : Bxs (W17.alloc (.cells #[.int .i64 r2k, .int .i64 r2n, .string ⟨List.toArray r2t⟩] 23)) ((W17.heap.size, (⟨r2k, r2n, r2t⟩ : Vl)) :: [(g1, (⟨r1k, r1n, r1t⟩ : Vl)), (g0, (⟨r0k, r0n, r0t⟩ : Vl)), (gb5, (⟨zk, zn, zt⟩ : Vl)), (gb4, (⟨yk, yn, yt⟩ : Vl)), (w.heap.size, (⟨xk, xn, xt⟩ : Vl))]) := B.out.push (⟨r2k, r2n, r2t⟩ : Vl) 23
      have hL : Below w.heap.size w (W17.alloc (.cells #[.int .i64 r2k, .int .i64 r2n, .string ⟨List.toArray r2t⟩] 23)) := BL.out.alloc BL.out.size _
      obtain ⟨W18, hW⟩ : ∃ X, W17.alloc (.cells #[.int .i64 r2k, .int .i64 r2n, .string ⟨List.toArray r2t⟩] 23) = X := ⟨_, rfl⟩
      obtain ⟨g2, hg⟩ : ∃ g, W17.heap.size = g := ⟨_, rfl⟩
      rw [hW] at hB hL ⊢
      rw [hg] at hB ⊢
      have HGb12_6_3 : Hid (w.heap.size ≤ g2) := Lib.hid (by rw [← hg]; exact BL.out.size)
      replace B := Lib.hid hB
      replace BL := Lib.hid hL
      clear hB hL hW hg
      replace HL := Lib.hid (show true = BigRing_s20 (⟨xk, xn, xt⟩ : Vl) (⟨yk, yn, yt⟩ : Vl) (⟨zk, zn, zt⟩ : Vl) ((⟨r0k, r0n, r0t⟩, r0e) : Vl × Int) ((⟨r1k, r1n, r1t⟩, r1e) : Vl × Int) ((⟨r2k, r2n, r2t⟩, r2e) : Vl × Int) from HL.out.trans (by unfold BigRing_s21; rw [HR2.out]))
      -- region 7
      have cb4_0 : W18.cell? ⟨gb4, 0, none⟩ = some (.int .i64 yk) := (B.out.get 4 rfl).c0
      have cb4_1 : W18.cell? ⟨gb4, 1, none⟩ = some (.int .i64 yn) := (B.out.get 4 rfl).c1
      have cb4_2 : W18.cell? ⟨gb4, 2, none⟩ = some (.string ⟨List.toArray yt⟩) := (B.out.get 4 rfl).c2
      have cb3_0 : W18.cell? ⟨w.heap.size, 0, none⟩ = some (.int .i64 xk) := (B.out.get 5 rfl).c0
      have cb3_1 : W18.cell? ⟨w.heap.size, 1, none⟩ = some (.int .i64 xn) := (B.out.get 5 rfl).c1
      have cb3_2 : W18.cell? ⟨w.heap.size, 2, none⟩ = some (.string ⟨List.toArray xt⟩) := (B.out.get 5 rfl).c2
      obtain ⟨⟨⟨r3k, r3n, r3t⟩, r3e⟩, hr3⟩ : ∃ p, mulR (⟨yk, yn, yt⟩ : Vl) (⟨xk, xn, xt⟩ : Vl) = p := ⟨_, rfl⟩
      have hc3 := fun (W : World) (hW : Env W) => mul_pub (⟨yk, yn, yt⟩ : Vl) (⟨xk, xn, xt⟩ : Vl) HOy.out HOx.out W hW
      have ho3 := mulR_ok (⟨yk, yn, yt⟩ : Vl) (⟨xk, xn, xt⟩ : Vl)
      rw [hr3] at hc3 ho3
      simp only [Vl.val, pr] at hc3
      have HC3 := Lib.hid hc3; have HOr3 : Hid (Vl.ok ⟨r3k, r3n, r3t⟩) := Lib.hid ho3; have HR3 := Lib.hid hr3
      clear hc3 ho3 hr3
      go_wp2_with fail
      refine (HC3.out _ (HE.out.below BL.out)).mono ?_
      rintro e W19 ⟨rfl, hb⟩
      clear cb4_0 cb4_1 cb4_2 cb3_0 cb3_1 cb3_2
      replace B := Lib.hid (B.out.below hb)
      replace BL := Lib.hid (below_then BL.out hb)
      clear hb
      go_upto_region 8 with fail
      have hB : Bxs (W19.alloc (.cells #[.int .i64 r3k, .int .i64 r3n, .string ⟨List.toArray r3t⟩] 23)) ((W19.heap.size, (⟨r3k, r3n, r3t⟩ : Vl)) :: [(g2, (⟨r2k, r2n, r2t⟩ : Vl)), (g1, (⟨r1k, r1n, r1t⟩ : Vl)), (g0, (⟨r0k, r0n, r0t⟩ : Vl)), (gb5, (⟨zk, zn, zt⟩ : Vl)), (gb4, (⟨yk, yn, yt⟩ : Vl)), (w.heap.size, (⟨xk, xn, xt⟩ : Vl))]) := B.out.push (⟨r3k, r3n, r3t⟩ : Vl) 23
      have hL : Below w.heap.size w (W19.alloc (.cells #[.int .i64 r3k, .int .i64 r3n, .string ⟨List.toArray r3t⟩] 23)) := BL.out.alloc BL.out.size _
      obtain ⟨W20, hW⟩ : ∃ X, W19.alloc (.cells #[.int .i64 r3k, .int .i64 r3n, .string ⟨List.toArray r3t⟩] 23) = X := ⟨_, rfl⟩
      obtain ⟨g3, hg⟩ : ∃ g, W19.heap.size = g := ⟨_, rfl⟩
      rw [hW] at hB hL ⊢
      rw [hg] at hB ⊢
      have HGb14_7_4 : Hid (w.heap.size ≤ g3) := Lib.hid (by rw [← hg]; exact BL.out.size)
      replace B := Lib.hid hB
      replace BL := Lib.hid hL
      clear hB hL hW hg
      replace HL := Lib.hid (show true = BigRing_s19 (⟨xk, xn, xt⟩ : Vl) (⟨yk, yn, yt⟩ : Vl) (⟨zk, zn, zt⟩ : Vl) ((⟨r0k, r0n, r0t⟩, r0e) : Vl × Int) ((⟨r1k, r1n, r1t⟩, r1e) : Vl × Int) ((⟨r2k, r2n, r2t⟩, r2e) : Vl × Int) ((⟨r3k, r3n, r3t⟩, r3e) : Vl × Int) from HL.out.trans (by unfold BigRing_s20; rw [HR3.out]))
      -- region 8, a test
      obtain ⟨b3, h⟩ : ∃ b : Bool, (veqB r0k r0n r0t r1k r1n r1t) = b := ⟨_, rfl⟩
      have HA3 := Lib.hid h
      clear h
      obtain ⟨b4, h⟩ : ∃ b : Bool, (r0e == r1e) = b := ⟨_, rfl⟩
      have HA4 := Lib.hid h
      clear h
      obtain ⟨b5, h⟩ : ∃ b : Bool, (veqB r2k r2n r2t r3k r3n r3t) = b := ⟨_, rfl⟩
      have HA5 := Lib.hid h
      clear h
      obtain ⟨b6, h⟩ : ∃ b : Bool, (r2e == r3e) = b := ⟨_, rfl⟩
      have HA6 := Lib.hid h
      clear h
      have HCF : ((((!(veqB r0k r0n r0t r1k r1n r1t)) || (!(r0e == r1e))) || (!(veqB r2k r2n r2t r3k r3n r3t))) || (!(r2e == r3e))) = false := Bool.eq_false_iff.2 fun h => Bool.noConfusion (show true = false from HL.out.trans (if_pos h))
      have HCB : ((((!b3) || (!b4)) || (!b5)) || (!b6)) = false := by
        have h := HCF
        rw [HA3.out, HA4.out, HA5.out, HA6.out] at h
        exact h
      have HCW := Lib.hid HCF
      have HCC := Lib.hid HCB
      clear HCF HCB
      go_upto_region 8 with fail
      go_cut [83] from 66 to 83 (fun v wx => v = .bool false ∧ Hid (Bxs wx [(g3, (⟨r3k, r3n, r3t⟩ : Vl)), (g2, (⟨r2k, r2n, r2t⟩ : Vl)), (g1, (⟨r1k, r1n, r1t⟩ : Vl)), (g0, (⟨r0k, r0n, r0t⟩ : Vl)), (gb5, (⟨zk, zn, zt⟩ : Vl)), (gb4, (⟨yk, yn, yt⟩ : Vl)), (w.heap.size, (⟨xk, xn, xt⟩ : Vl))]) ∧ Hid (Below w.heap.size w wx))
      case first =>
        clear HL
        cases b3 with
        | true =>
          cases b4 with
          | true =>
            cases b5 with
            | true =>
              cases b6 with
              | true =>
                have f0_0 : (veqB r0k r0n r0t r1k r1n r1t) = true := HA3.out
                have f1_0 : ((r0e : Int) == r1e) = true := HA4.out
                have f1_1 : ((r0e : Int) != r1e) = false := by have h := HA4.out; simpa using h
                have f2_0 : (veqB r2k r2n r2t r3k r3n r3t) = true := HA5.out
                have f3_0 : ((r2e : Int) == r3e) = true := HA6.out
                have f3_1 : ((r2e : Int) != r3e) = false := by have h := HA6.out; simpa using h
                have cb8_4_1_0 : W20.cell? ⟨g0, 0, none⟩ = some (.int .i64 r0k) := (B.out.get 3 rfl).c0
                have cb8_4_1_1 : W20.cell? ⟨g0, 1, none⟩ = some (.int .i64 r0n) := (B.out.get 3 rfl).c1
                have cb8_4_1_2 : W20.cell? ⟨g0, 2, none⟩ = some (.string ⟨List.toArray r0t⟩) := (B.out.get 3 rfl).c2
                have cb10_5_2_0 : W20.cell? ⟨g1, 0, none⟩ = some (.int .i64 r1k) := (B.out.get 2 rfl).c0
                have cb10_5_2_1 : W20.cell? ⟨g1, 1, none⟩ = some (.int .i64 r1n) := (B.out.get 2 rfl).c1
                have cb10_5_2_2 : W20.cell? ⟨g1, 2, none⟩ = some (.string ⟨List.toArray r1t⟩) := (B.out.get 2 rfl).c2
                have cb12_6_3_0 : W20.cell? ⟨g2, 0, none⟩ = some (.int .i64 r2k) := (B.out.get 1 rfl).c0
                have cb12_6_3_1 : W20.cell? ⟨g2, 1, none⟩ = some (.int .i64 r2n) := (B.out.get 1 rfl).c1
                have cb12_6_3_2 : W20.cell? ⟨g2, 2, none⟩ = some (.string ⟨List.toArray r2t⟩) := (B.out.get 1 rfl).c2
                have cb14_7_4_0 : W20.cell? ⟨g3, 0, none⟩ = some (.int .i64 r3k) := (B.out.get 0 rfl).c0
                have cb14_7_4_1 : W20.cell? ⟨g3, 1, none⟩ = some (.int .i64 r3n) := (B.out.get 0 rfl).c1
                have cb14_7_4_2 : W20.cell? ⟨g3, 2, none⟩ = some (.string ⟨List.toArray r3t⟩) := (B.out.get 0 rfl).c2
                go_wp2_with fail
                go_meet
                exact ⟨rfl, B, BL⟩
              | false =>
                exact Bool.noConfusion (show true = false from HCC.out)
            | false =>
              exact Bool.noConfusion (show true = false from HCC.out)
          | false =>
            exact Bool.noConfusion (show true = false from HCC.out)
        | false =>
          exact Bool.noConfusion (show true = false from HCC.out)
      case rest =>
        clear B BL
        obtain ⟨rfl, B, BL⟩ := hcut
        obtain ⟨W21, hW⟩ : ∃ X, wc = X := ⟨_, rfl⟩
        rw [hW] at B BL ⊢
        clear hW
        clear HCC HA3 HA4 HA5 HA6
        replace HL := Lib.hid (show true = BigRing_s18 (⟨xk, xn, xt⟩ : Vl) (⟨yk, yn, yt⟩ : Vl) (⟨zk, zn, zt⟩ : Vl) ((⟨r0k, r0n, r0t⟩, r0e) : Vl × Int) ((⟨r1k, r1n, r1t⟩, r1e) : Vl × Int) ((⟨r2k, r2n, r2t⟩, r2e) : Vl × Int) ((⟨r3k, r3n, r3t⟩, r3e) : Vl × Int) from HL.out.trans ((if_neg (fun h => Bool.noConfusion (HCW.out.symm.trans h)))))
        -- region 10
        have cb4_0 : W21.cell? ⟨gb4, 0, none⟩ = some (.int .i64 yk) := (B.out.get 5 rfl).c0
        have cb4_1 : W21.cell? ⟨gb4, 1, none⟩ = some (.int .i64 yn) := (B.out.get 5 rfl).c1
        have cb4_2 : W21.cell? ⟨gb4, 2, none⟩ = some (.string ⟨List.toArray yt⟩) := (B.out.get 5 rfl).c2
        have cb5_0 : W21.cell? ⟨gb5, 0, none⟩ = some (.int .i64 zk) := (B.out.get 4 rfl).c0
        have cb5_1 : W21.cell? ⟨gb5, 1, none⟩ = some (.int .i64 zn) := (B.out.get 4 rfl).c1
        have cb5_2 : W21.cell? ⟨gb5, 2, none⟩ = some (.string ⟨List.toArray zt⟩) := (B.out.get 4 rfl).c2
        obtain ⟨⟨⟨r4k, r4n, r4t⟩, r4e⟩, hr4⟩ : ∃ p, addR (⟨yk, yn, yt⟩ : Vl) (⟨zk, zn, zt⟩ : Vl) = p := ⟨_, rfl⟩
        have hc4 := fun (W : World) (hW : Env W) => add_pub (⟨yk, yn, yt⟩ : Vl) (⟨zk, zn, zt⟩ : Vl) HOy.out HOz.out W hW
        have ho4 := addR_ok (⟨yk, yn, yt⟩ : Vl) (⟨zk, zn, zt⟩ : Vl)
        rw [hr4] at hc4 ho4
        simp only [Vl.val, pr] at hc4
        have HC4 := Lib.hid hc4; have HOr4 : Hid (Vl.ok ⟨r4k, r4n, r4t⟩) := Lib.hid ho4; have HR4 := Lib.hid hr4
        clear hc4 ho4 hr4
        go_wp2_with fail
        refine (HC4.out _ (HE.out.below BL.out)).mono ?_
        rintro e W22 ⟨rfl, hb⟩
        clear cb4_0 cb4_1 cb4_2 cb5_0 cb5_1 cb5_2
        replace B := Lib.hid (B.out.below hb)
        replace BL := Lib.hid (below_then BL.out hb)
        clear hb
        go_upto_region 11 with fail
        have hB : Bxs (W22.alloc (.cells #[.int .i64 r4k, .int .i64 r4n, .string ⟨List.toArray r4t⟩] 23)) ((W22.heap.size, (⟨r4k, r4n, r4t⟩ : Vl)) :: [(g3, (⟨r3k, r3n, r3t⟩ : Vl)), (g2, (⟨r2k, r2n, r2t⟩ : Vl)), (g1, (⟨r1k, r1n, r1t⟩ : Vl)), (g0, (⟨r0k, r0n, r0t⟩ : Vl)), (gb5, (⟨zk, zn, zt⟩ : Vl)), (gb4, (⟨yk, yn, yt⟩ : Vl)), (w.heap.size, (⟨xk, xn, xt⟩ : Vl))]) := B.out.push (⟨r4k, r4n, r4t⟩ : Vl) 23
        have hL : Below w.heap.size w (W22.alloc (.cells #[.int .i64 r4k, .int .i64 r4n, .string ⟨List.toArray r4t⟩] 23)) := BL.out.alloc BL.out.size _
        obtain ⟨W23, hW⟩ : ∃ X, W22.alloc (.cells #[.int .i64 r4k, .int .i64 r4n, .string ⟨List.toArray r4t⟩] 23) = X := ⟨_, rfl⟩
        obtain ⟨g4, hg⟩ : ∃ g, W22.heap.size = g := ⟨_, rfl⟩
        rw [hW] at hB hL ⊢
        rw [hg] at hB ⊢
        have HGb16_10_6 : Hid (w.heap.size ≤ g4) := Lib.hid (by rw [← hg]; exact BL.out.size)
        replace B := Lib.hid hB
        replace BL := Lib.hid hL
        clear hB hL hW hg
        replace HL := Lib.hid (show true = BigRing_s17 (⟨xk, xn, xt⟩ : Vl) (⟨yk, yn, yt⟩ : Vl) (⟨zk, zn, zt⟩ : Vl) ((⟨r0k, r0n, r0t⟩, r0e) : Vl × Int) ((⟨r1k, r1n, r1t⟩, r1e) : Vl × Int) ((⟨r2k, r2n, r2t⟩, r2e) : Vl × Int) ((⟨r3k, r3n, r3t⟩, r3e) : Vl × Int) ((⟨r4k, r4n, r4t⟩, r4e) : Vl × Int) from HL.out.trans (by unfold BigRing_s18; rw [HR4.out]))
        -- region 11
        have cb8_4_1_0 : W23.cell? ⟨g0, 0, none⟩ = some (.int .i64 r0k) := (B.out.get 4 rfl).c0
        have cb8_4_1_1 : W23.cell? ⟨g0, 1, none⟩ = some (.int .i64 r0n) := (B.out.get 4 rfl).c1
        have cb8_4_1_2 : W23.cell? ⟨g0, 2, none⟩ = some (.string ⟨List.toArray r0t⟩) := (B.out.get 4 rfl).c2
        have cb5_0 : W23.cell? ⟨gb5, 0, none⟩ = some (.int .i64 zk) := (B.out.get 5 rfl).c0
        have cb5_1 : W23.cell? ⟨gb5, 1, none⟩ = some (.int .i64 zn) := (B.out.get 5 rfl).c1
        have cb5_2 : W23.cell? ⟨gb5, 2, none⟩ = some (.string ⟨List.toArray zt⟩) := (B.out.get 5 rfl).c2
        obtain ⟨⟨⟨r5k, r5n, r5t⟩, r5e⟩, hr5⟩ : ∃ p, addR (⟨r0k, r0n, r0t⟩ : Vl) (⟨zk, zn, zt⟩ : Vl) = p := ⟨_, rfl⟩
        have hc5 := fun (W : World) (hW : Env W) => add_pub (⟨r0k, r0n, r0t⟩ : Vl) (⟨zk, zn, zt⟩ : Vl) HOr0.out HOz.out W hW
        have ho5 := addR_ok (⟨r0k, r0n, r0t⟩ : Vl) (⟨zk, zn, zt⟩ : Vl)
        rw [hr5] at hc5 ho5
        simp only [Vl.val, pr] at hc5
        have HC5 := Lib.hid hc5; have HOr5 : Hid (Vl.ok ⟨r5k, r5n, r5t⟩) := Lib.hid ho5; have HR5 := Lib.hid hr5
        clear hc5 ho5 hr5
        go_wp2_with fail
        refine (HC5.out _ (HE.out.below BL.out)).mono ?_
        rintro e W24 ⟨rfl, hb⟩
        clear cb8_4_1_0 cb8_4_1_1 cb8_4_1_2 cb5_0 cb5_1 cb5_2
        replace B := Lib.hid (B.out.below hb)
        replace BL := Lib.hid (below_then BL.out hb)
        clear hb
        go_upto_region 12 with fail
        have hB : Bxs (W24.alloc (.cells #[.int .i64 r5k, .int .i64 r5n, .string ⟨List.toArray r5t⟩] 23)) ((W24.heap.size, (⟨r5k, r5n, r5t⟩ : Vl)) :: [(g4, (⟨r4k, r4n, r4t⟩ : Vl)), (g3, (⟨r3k, r3n, r3t⟩ : Vl)), (g2, (⟨r2k, r2n, r2t⟩ : Vl)), (g1, (⟨r1k, r1n, r1t⟩ : Vl)), (g0, (⟨r0k, r0n, r0t⟩ : Vl)), (gb5, (⟨zk, zn, zt⟩ : Vl)), (gb4, (⟨yk, yn, yt⟩ : Vl)), (w.heap.size, (⟨xk, xn, xt⟩ : Vl))]) := B.out.push (⟨r5k, r5n, r5t⟩ : Vl) 23
        have hL : Below w.heap.size w (W24.alloc (.cells #[.int .i64 r5k, .int .i64 r5n, .string ⟨List.toArray r5t⟩] 23)) := BL.out.alloc BL.out.size _
        obtain ⟨W25, hW⟩ : ∃ X, W24.alloc (.cells #[.int .i64 r5k, .int .i64 r5n, .string ⟨List.toArray r5t⟩] 23) = X := ⟨_, rfl⟩
        obtain ⟨g5, hg⟩ : ∃ g, W24.heap.size = g := ⟨_, rfl⟩
        rw [hW] at hB hL ⊢
        rw [hg] at hB ⊢
        have HGb17_11_7 : Hid (w.heap.size ≤ g5) := Lib.hid (by rw [← hg]; exact BL.out.size)
        replace B := Lib.hid hB
        replace BL := Lib.hid hL
        clear hB hL hW hg
        replace HL := Lib.hid (show true = BigRing_s16 (⟨xk, xn, xt⟩ : Vl) (⟨yk, yn, yt⟩ : Vl) (⟨zk, zn, zt⟩ : Vl) ((⟨r0k, r0n, r0t⟩, r0e) : Vl × Int) ((⟨r1k, r1n, r1t⟩, r1e) : Vl × Int) ((⟨r2k, r2n, r2t⟩, r2e) : Vl × Int) ((⟨r3k, r3n, r3t⟩, r3e) : Vl × Int) ((⟨r4k, r4n, r4t⟩, r4e) : Vl × Int) ((⟨r5k, r5n, r5t⟩, r5e) : Vl × Int) from HL.out.trans (by unfold BigRing_s17; rw [HR5.out]))
        -- region 12
        have cb3_0 : W25.cell? ⟨w.heap.size, 0, none⟩ = some (.int .i64 xk) := (B.out.get 8 rfl).c0
        have cb3_1 : W25.cell? ⟨w.heap.size, 1, none⟩ = some (.int .i64 xn) := (B.out.get 8 rfl).c1
        have cb3_2 : W25.cell? ⟨w.heap.size, 2, none⟩ = some (.string ⟨List.toArray xt⟩) := (B.out.get 8 rfl).c2
        have cb16_10_6_0 : W25.cell? ⟨g4, 0, none⟩ = some (.int .i64 r4k) := (B.out.get 1 rfl).c0
        have cb16_10_6_1 : W25.cell? ⟨g4, 1, none⟩ = some (.int .i64 r4n) := (B.out.get 1 rfl).c1
        have cb16_10_6_2 : W25.cell? ⟨g4, 2, none⟩ = some (.string ⟨List.toArray r4t⟩) := (B.out.get 1 rfl).c2
        obtain ⟨⟨⟨r6k, r6n, r6t⟩, r6e⟩, hr6⟩ : ∃ p, addR (⟨xk, xn, xt⟩ : Vl) (⟨r4k, r4n, r4t⟩ : Vl) = p := ⟨_, rfl⟩
        have hc6 := fun (W : World) (hW : Env W) => add_pub (⟨xk, xn, xt⟩ : Vl) (⟨r4k, r4n, r4t⟩ : Vl) HOx.out HOr4.out W hW
        have ho6 := addR_ok (⟨xk, xn, xt⟩ : Vl) (⟨r4k, r4n, r4t⟩ : Vl)
        rw [hr6] at hc6 ho6
        simp only [Vl.val, pr] at hc6
        have HC6 := Lib.hid hc6; have HOr6 : Hid (Vl.ok ⟨r6k, r6n, r6t⟩) := Lib.hid ho6; have HR6 := Lib.hid hr6
        clear hc6 ho6 hr6
        go_wp2_with fail
        refine (HC6.out _ (HE.out.below BL.out)).mono ?_
        rintro e W26 ⟨rfl, hb⟩
        clear cb3_0 cb3_1 cb3_2 cb16_10_6_0 cb16_10_6_1 cb16_10_6_2
        replace B := Lib.hid (B.out.below hb)
        replace BL := Lib.hid (below_then BL.out hb)
        clear hb
        go_upto_region 13 with fail
        have hB : Bxs (W26.alloc (.cells #[.int .i64 r6k, .int .i64 r6n, .string ⟨List.toArray r6t⟩] 23)) ((W26.heap.size, (⟨r6k, r6n, r6t⟩ : Vl)) :: [(g5, (⟨r5k, r5n, r5t⟩ : Vl)), (g4, (⟨r4k, r4n, r4t⟩ : Vl)), (g3, (⟨r3k, r3n, r3t⟩ : Vl)), (g2, (⟨r2k, r2n, r2t⟩ : Vl)), (g1, (⟨r1k, r1n, r1t⟩ : Vl)), (g0, (⟨r0k, r0n, r0t⟩ : Vl)), (gb5, (⟨zk, zn, zt⟩ : Vl)), (gb4, (⟨yk, yn, yt⟩ : Vl)), (w.heap.size, (⟨xk, xn, xt⟩ : Vl))]) := B.out.push (⟨r6k, r6n, r6t⟩ : Vl) 23
        have hL : Below w.heap.size w (W26.alloc (.cells #[.int .i64 r6k, .int .i64 r6n, .string ⟨List.toArray r6t⟩] 23)) := BL.out.alloc BL.out.size _
        obtain ⟨W27, hW⟩ : ∃ X, W26.alloc (.cells #[.int .i64 r6k, .int .i64 r6n, .string ⟨List.toArray r6t⟩] 23) = X := ⟨_, rfl⟩
        obtain ⟨g6, hg⟩ : ∃ g, W26.heap.size = g := ⟨_, rfl⟩
        rw [hW] at hB hL ⊢
        rw [hg] at hB ⊢
        have HGb19_12_8 : Hid (w.heap.size ≤ g6) := Lib.hid (by rw [← hg]; exact BL.out.size)
        replace B := Lib.hid hB
        replace BL := Lib.hid hL
        clear hB hL hW hg
        replace HL := Lib.hid (show true = BigRing_s15 (⟨xk, xn, xt⟩ : Vl) (⟨yk, yn, yt⟩ : Vl) (⟨zk, zn, zt⟩ : Vl) ((⟨r0k, r0n, r0t⟩, r0e) : Vl × Int) ((⟨r1k, r1n, r1t⟩, r1e) : Vl × Int) ((⟨r2k, r2n, r2t⟩, r2e) : Vl × Int) ((⟨r3k, r3n, r3t⟩, r3e) : Vl × Int) ((⟨r4k, r4n, r4t⟩, r4e) : Vl × Int) ((⟨r5k, r5n, r5t⟩, r5e) : Vl × Int) ((⟨r6k, r6n, r6t⟩, r6e) : Vl × Int) from HL.out.trans (by unfold BigRing_s16; rw [HR6.out]))
        -- region 13, a test
        obtain ⟨b7, h⟩ : ∃ b : Bool, (r0e == 0) = b := ⟨_, rfl⟩
        have HA7 := Lib.hid h
        clear h
        obtain ⟨b8, h⟩ : ∃ b : Bool, (r4e == 0) = b := ⟨_, rfl⟩
        have HA8 := Lib.hid h
        clear h
        obtain ⟨b9, h⟩ : ∃ b : Bool, (veqB r5k r5n r5t r6k r6n r6t) = b := ⟨_, rfl⟩
        have HA9 := Lib.hid h
        clear h
        obtain ⟨b10, h⟩ : ∃ b : Bool, (r5e == r6e) = b := ⟨_, rfl⟩
        have HA10 := Lib.hid h
        clear h
        have HCF : (((r0e == 0) && (r4e == 0)) && ((!(veqB r5k r5n r5t r6k r6n r6t)) || (!(r5e == r6e)))) = false := Bool.eq_false_iff.2 fun h => Bool.noConfusion (show true = false from HL.out.trans (if_pos h))
        have HCB : ((b7 && b8) && ((!b9) || (!b10))) = false := by
          have h := HCF
          rw [HA7.out, HA8.out, HA9.out, HA10.out] at h
          exact h
        have HCW := Lib.hid HCF
        have HCC := Lib.hid HCB
        clear HCF HCB
        go_upto_region 13 with fail
        go_cut [117] from 102 to 117 (fun v wx => v = .bool false ∧ Hid (Bxs wx [(g6, (⟨r6k, r6n, r6t⟩ : Vl)), (g5, (⟨r5k, r5n, r5t⟩ : Vl)), (g4, (⟨r4k, r4n, r4t⟩ : Vl)), (g3, (⟨r3k, r3n, r3t⟩ : Vl)), (g2, (⟨r2k, r2n, r2t⟩ : Vl)), (g1, (⟨r1k, r1n, r1t⟩ : Vl)), (g0, (⟨r0k, r0n, r0t⟩ : Vl)), (gb5, (⟨zk, zn, zt⟩ : Vl)), (gb4, (⟨yk, yn, yt⟩ : Vl)), (w.heap.size, (⟨xk, xn, xt⟩ : Vl))]) ∧ Hid (Below w.heap.size w wx))
        case first =>
          clear HL
          cases b7 with
          | true =>
            cases b8 with
            | true =>
              cases b9 with
              | true =>
                cases b10 with
                | true =>
                  have f0_0 : ((r0e : Int) == 0) = true := HA7.out
                  have f0_1 : ((r0e : Int) != 0) = false := by have h := HA7.out; simpa using h
                  have f1_0 : ((r4e : Int) == 0) = true := HA8.out
                  have f1_1 : ((r4e : Int) != 0) = false := by have h := HA8.out; simpa using h
                  have f2_0 : (veqB r5k r5n r5t r6k r6n r6t) = true := HA9.out
                  have f3_0 : ((r5e : Int) == r6e) = true := HA10.out
                  have f3_1 : ((r5e : Int) != r6e) = false := by have h := HA10.out; simpa using h
                  have cb17_11_7_0 : W27.cell? ⟨g5, 0, none⟩ = some (.int .i64 r5k) := (B.out.get 1 rfl).c0
                  have cb17_11_7_1 : W27.cell? ⟨g5, 1, none⟩ = some (.int .i64 r5n) := (B.out.get 1 rfl).c1
                  have cb17_11_7_2 : W27.cell? ⟨g5, 2, none⟩ = some (.string ⟨List.toArray r5t⟩) := (B.out.get 1 rfl).c2
                  have cb19_12_8_0 : W27.cell? ⟨g6, 0, none⟩ = some (.int .i64 r6k) := (B.out.get 0 rfl).c0
                  have cb19_12_8_1 : W27.cell? ⟨g6, 1, none⟩ = some (.int .i64 r6n) := (B.out.get 0 rfl).c1
                  have cb19_12_8_2 : W27.cell? ⟨g6, 2, none⟩ = some (.string ⟨List.toArray r6t⟩) := (B.out.get 0 rfl).c2
                  go_wp2_with fail
                  go_meet
                  exact ⟨rfl, B, BL⟩
                | false =>
                  exact Bool.noConfusion (show true = false from HCC.out)
              | false =>
                exact Bool.noConfusion (show true = false from HCC.out)
            | false =>
              have f0_0 : ((r0e : Int) == 0) = true := HA7.out
              have f0_1 : ((r0e : Int) != 0) = false := by have h := HA7.out; simpa using h
              have f1_0 : ((r4e : Int) == 0) = false := HA8.out
              have f1_1 : ((r4e : Int) != 0) = true := by have h := HA8.out; simpa using h
              go_wp2_with fail
              go_meet
              exact ⟨rfl, B, BL⟩
          | false =>
            have f0_0 : ((r0e : Int) == 0) = false := HA7.out
            have f0_1 : ((r0e : Int) != 0) = true := by have h := HA7.out; simpa using h
            go_wp2_with fail
            go_meet
            exact ⟨rfl, B, BL⟩
        case rest =>
          clear B BL
          obtain ⟨rfl, B, BL⟩ := hcut
          obtain ⟨W28, hW⟩ : ∃ X, wc = X := ⟨_, rfl⟩
          rw [hW] at B BL ⊢
          clear hW
          clear HCC HA7 HA8 HA9 HA10
          replace HL := Lib.hid (show true = BigRing_s14 (⟨xk, xn, xt⟩ : Vl) (⟨yk, yn, yt⟩ : Vl) (⟨zk, zn, zt⟩ : Vl) ((⟨r0k, r0n, r0t⟩, r0e) : Vl × Int) ((⟨r1k, r1n, r1t⟩, r1e) : Vl × Int) ((⟨r2k, r2n, r2t⟩, r2e) : Vl × Int) ((⟨r3k, r3n, r3t⟩, r3e) : Vl × Int) ((⟨r4k, r4n, r4t⟩, r4e) : Vl × Int) ((⟨r5k, r5n, r5t⟩, r5e) : Vl × Int) ((⟨r6k, r6n, r6t⟩, r6e) : Vl × Int) from HL.out.trans ((if_neg (fun h => Bool.noConfusion (HCW.out.symm.trans h)))))
          -- region 15
          have cb8_4_1_0 : W28.cell? ⟨g0, 0, none⟩ = some (.int .i64 r0k) := (B.out.get 6 rfl).c0
          have cb8_4_1_1 : W28.cell? ⟨g0, 1, none⟩ = some (.int .i64 r0n) := (B.out.get 6 rfl).c1
          have cb8_4_1_2 : W28.cell? ⟨g0, 2, none⟩ = some (.string ⟨List.toArray r0t⟩) := (B.out.get 6 rfl).c2
          have cb4_0 : W28.cell? ⟨gb4, 0, none⟩ = some (.int .i64 yk) := (B.out.get 8 rfl).c0
          have cb4_1 : W28.cell? ⟨gb4, 1, none⟩ = some (.int .i64 yn) := (B.out.get 8 rfl).c1
          have cb4_2 : W28.cell? ⟨gb4, 2, none⟩ = some (.string ⟨List.toArray yt⟩) := (B.out.get 8 rfl).c2
          obtain ⟨⟨⟨r7k, r7n, r7t⟩, r7e⟩, hr7⟩ : ∃ p, subR (⟨r0k, r0n, r0t⟩ : Vl) (⟨yk, yn, yt⟩ : Vl) = p := ⟨_, rfl⟩
          have hc7 := fun (W : World) (hW : Env W) => sub_pub (⟨r0k, r0n, r0t⟩ : Vl) (⟨yk, yn, yt⟩ : Vl) HOr0.out HOy.out W hW
          have ho7 := subR_ok (⟨r0k, r0n, r0t⟩ : Vl) (⟨yk, yn, yt⟩ : Vl)
          rw [hr7] at hc7 ho7
          simp only [Vl.val, pr] at hc7
          have HC7 := Lib.hid hc7; have HOr7 : Hid (Vl.ok ⟨r7k, r7n, r7t⟩) := Lib.hid ho7; have HR7 := Lib.hid hr7
          clear hc7 ho7 hr7
          go_wp2_with fail
          refine (HC7.out _ (HE.out.below BL.out)).mono ?_
          rintro e W29 ⟨rfl, hb⟩
          clear cb8_4_1_0 cb8_4_1_1 cb8_4_1_2 cb4_0 cb4_1 cb4_2
          replace B := Lib.hid (B.out.below hb)
          replace BL := Lib.hid (below_then BL.out hb)
          clear hb
          go_upto_region 16 with fail
          have hB : Bxs (W29.alloc (.cells #[.int .i64 r7k, .int .i64 r7n, .string ⟨List.toArray r7t⟩] 23)) ((W29.heap.size, (⟨r7k, r7n, r7t⟩ : Vl)) :: [(g6, (⟨r6k, r6n, r6t⟩ : Vl)), (g5, (⟨r5k, r5n, r5t⟩ : Vl)), (g4, (⟨r4k, r4n, r4t⟩ : Vl)), (g3, (⟨r3k, r3n, r3t⟩ : Vl)), (g2, (⟨r2k, r2n, r2t⟩ : Vl)), (g1, (⟨r1k, r1n, r1t⟩ : Vl)), (g0, (⟨r0k, r0n, r0t⟩ : Vl)), (gb5, (⟨zk, zn, zt⟩ : Vl)), (gb4, (⟨yk, yn, yt⟩ : Vl)), (w.heap.size, (⟨xk, xn, xt⟩ : Vl))]) := B.out.push (⟨r7k, r7n, r7t⟩ : Vl) 23
          have hL : Below w.heap.size w (W29.alloc (.cells #[.int .i64 r7k, .int .i64 r7n, .string ⟨List.toArray r7t⟩] 23)) := BL.out.alloc BL.out.size _
          obtain ⟨W30, hW⟩ : ∃ X, W29.alloc (.cells #[.int .i64 r7k, .int .i64 r7n, .string ⟨List.toArray r7t⟩] 23) = X := ⟨_, rfl⟩
          obtain ⟨g7, hg⟩ : ∃ g, W29.heap.size = g := ⟨_, rfl⟩
          rw [hW] at hB hL ⊢
          rw [hg] at hB ⊢
          have HGb21_15_10 : Hid (w.heap.size ≤ g7) := Lib.hid (by rw [← hg]; exact BL.out.size)
          replace B := Lib.hid hB
          replace BL := Lib.hid hL
          clear hB hL hW hg
          replace HL := Lib.hid (show true = BigRing_s13 (⟨xk, xn, xt⟩ : Vl) (⟨yk, yn, yt⟩ : Vl) (⟨zk, zn, zt⟩ : Vl) ((⟨r0k, r0n, r0t⟩, r0e) : Vl × Int) ((⟨r1k, r1n, r1t⟩, r1e) : Vl × Int) ((⟨r2k, r2n, r2t⟩, r2e) : Vl × Int) ((⟨r3k, r3n, r3t⟩, r3e) : Vl × Int) ((⟨r4k, r4n, r4t⟩, r4e) : Vl × Int) ((⟨r5k, r5n, r5t⟩, r5e) : Vl × Int) ((⟨r6k, r6n, r6t⟩, r6e) : Vl × Int) ((⟨r7k, r7n, r7t⟩, r7e) : Vl × Int) from HL.out.trans (by unfold BigRing_s14; rw [HR7.out]))
          -- region 16, a test
          obtain ⟨b11, h⟩ : ∃ b : Bool, (r0e == 0) = b := ⟨_, rfl⟩
          have HA11 := Lib.hid h
          clear h
          obtain ⟨b12, h⟩ : ∃ b : Bool, (r7e == 0) = b := ⟨_, rfl⟩
          have HA12 := Lib.hid h
          clear h
          obtain ⟨b13, h⟩ : ∃ b : Bool, (veqB r7k r7n r7t xk xn xt) = b := ⟨_, rfl⟩
          have HA13 := Lib.hid h
          clear h
          have HCF : ((r0e == 0) && ((!(r7e == 0)) || (!(veqB r7k r7n r7t xk xn xt)))) = false := Bool.eq_false_iff.2 fun h => Bool.noConfusion (show true = false from HL.out.trans (if_pos h))
          have HCB : (b11 && ((!b12) || (!b13))) = false := by
            have h := HCF
            rw [HA11.out, HA12.out, HA13.out] at h
            exact h
          have HCW := Lib.hid HCF
          have HCC := Lib.hid HCB
          clear HCF HCB
          go_upto_region 16 with fail
          go_cut [134] from 124 to 134 (fun v wx => v = .bool false ∧ Hid (Bxs wx [(g7, (⟨r7k, r7n, r7t⟩ : Vl)), (g6, (⟨r6k, r6n, r6t⟩ : Vl)), (g5, (⟨r5k, r5n, r5t⟩ : Vl)), (g4, (⟨r4k, r4n, r4t⟩ : Vl)), (g3, (⟨r3k, r3n, r3t⟩ : Vl)), (g2, (⟨r2k, r2n, r2t⟩ : Vl)), (g1, (⟨r1k, r1n, r1t⟩ : Vl)), (g0, (⟨r0k, r0n, r0t⟩ : Vl)), (gb5, (⟨zk, zn, zt⟩ : Vl)), (gb4, (⟨yk, yn, yt⟩ : Vl)), (w.heap.size, (⟨xk, xn, xt⟩ : Vl))]) ∧ Hid (Below w.heap.size w wx))
          case first =>
            clear HL
            cases b11 with
            | true =>
              cases b12 with
              | true =>
                cases b13 with
                | true =>
                  have f0_0 : ((r0e : Int) == 0) = true := HA11.out
                  have f0_1 : ((r0e : Int) != 0) = false := by have h := HA11.out; simpa using h
                  have f1_0 : ((r7e : Int) == 0) = true := HA12.out
                  have f1_1 : ((r7e : Int) != 0) = false := by have h := HA12.out; simpa using h
                  have f2_0 : (veqB r7k r7n r7t xk xn xt) = true := HA13.out
                  have cb21_15_10_0 : W30.cell? ⟨g7, 0, none⟩ = some (.int .i64 r7k) := (B.out.get 0 rfl).c0
                  have cb21_15_10_1 : W30.cell? ⟨g7, 1, none⟩ = some (.int .i64 r7n) := (B.out.get 0 rfl).c1
                  have cb21_15_10_2 : W30.cell? ⟨g7, 2, none⟩ = some (.string ⟨List.toArray r7t⟩) := (B.out.get 0 rfl).c2
                  have cb3_0 : W30.cell? ⟨w.heap.size, 0, none⟩ = some (.int .i64 xk) := (B.out.get 10 rfl).c0
                  have cb3_1 : W30.cell? ⟨w.heap.size, 1, none⟩ = some (.int .i64 xn) := (B.out.get 10 rfl).c1
                  have cb3_2 : W30.cell? ⟨w.heap.size, 2, none⟩ = some (.string ⟨List.toArray xt⟩) := (B.out.get 10 rfl).c2
                  go_wp2_with fail
                  go_meet
                  exact ⟨rfl, B, BL⟩
                | false =>
                  exact Bool.noConfusion (show true = false from HCC.out)
              | false =>
                exact Bool.noConfusion (show true = false from HCC.out)
            | false =>
              have f0_0 : ((r0e : Int) == 0) = false := HA11.out
              have f0_1 : ((r0e : Int) != 0) = true := by have h := HA11.out; simpa using h
              go_wp2_with fail
              go_meet
              exact ⟨rfl, B, BL⟩
          case rest =>
            clear B BL
            obtain ⟨rfl, B, BL⟩ := hcut
            obtain ⟨W31, hW⟩ : ∃ X, wc = X := ⟨_, rfl⟩
            rw [hW] at B BL ⊢
            clear hW
            clear HCC HA11 HA12 HA13
            replace HL := Lib.hid (show true = BigRing_s12 (⟨xk, xn, xt⟩ : Vl) (⟨yk, yn, yt⟩ : Vl) (⟨zk, zn, zt⟩ : Vl) ((⟨r0k, r0n, r0t⟩, r0e) : Vl × Int) ((⟨r1k, r1n, r1t⟩, r1e) : Vl × Int) ((⟨r2k, r2n, r2t⟩, r2e) : Vl × Int) ((⟨r3k, r3n, r3t⟩, r3e) : Vl × Int) ((⟨r4k, r4n, r4t⟩, r4e) : Vl × Int) ((⟨r5k, r5n, r5t⟩, r5e) : Vl × Int) ((⟨r6k, r6n, r6t⟩, r6e) : Vl × Int) ((⟨r7k, r7n, r7t⟩, r7e) : Vl × Int) from HL.out.trans ((if_neg (fun h => Bool.noConfusion (HCW.out.symm.trans h)))))
            -- region 18
            have cb4_0 : W31.cell? ⟨gb4, 0, none⟩ = some (.int .i64 yk) := (B.out.get 9 rfl).c0
            have cb4_1 : W31.cell? ⟨gb4, 1, none⟩ = some (.int .i64 yn) := (B.out.get 9 rfl).c1
            have cb4_2 : W31.cell? ⟨gb4, 2, none⟩ = some (.string ⟨List.toArray yt⟩) := (B.out.get 9 rfl).c2
            have cb5_0 : W31.cell? ⟨gb5, 0, none⟩ = some (.int .i64 zk) := (B.out.get 8 rfl).c0
            have cb5_1 : W31.cell? ⟨gb5, 1, none⟩ = some (.int .i64 zn) := (B.out.get 8 rfl).c1
            have cb5_2 : W31.cell? ⟨gb5, 2, none⟩ = some (.string ⟨List.toArray zt⟩) := (B.out.get 8 rfl).c2
            obtain ⟨⟨⟨r8k, r8n, r8t⟩, r8e⟩, hr8⟩ : ∃ p, mulR (⟨yk, yn, yt⟩ : Vl) (⟨zk, zn, zt⟩ : Vl) = p := ⟨_, rfl⟩
            have hc8 := fun (W : World) (hW : Env W) => mul_pub (⟨yk, yn, yt⟩ : Vl) (⟨zk, zn, zt⟩ : Vl) HOy.out HOz.out W hW
            have ho8 := mulR_ok (⟨yk, yn, yt⟩ : Vl) (⟨zk, zn, zt⟩ : Vl)
            rw [hr8] at hc8 ho8
            simp only [Vl.val, pr] at hc8
            have HC8 := Lib.hid hc8; have HOr8 : Hid (Vl.ok ⟨r8k, r8n, r8t⟩) := Lib.hid ho8; have HR8 := Lib.hid hr8
            clear hc8 ho8 hr8
            go_wp2_with fail
            refine (HC8.out _ (HE.out.below BL.out)).mono ?_
            rintro e W32 ⟨rfl, hb⟩
            clear cb4_0 cb4_1 cb4_2 cb5_0 cb5_1 cb5_2
            replace B := Lib.hid (B.out.below hb)
            replace BL := Lib.hid (below_then BL.out hb)
            clear hb
            go_upto_region 19 with fail
            have hB : Bxs (W32.alloc (.cells #[.int .i64 r8k, .int .i64 r8n, .string ⟨List.toArray r8t⟩] 23)) ((W32.heap.size, (⟨r8k, r8n, r8t⟩ : Vl)) :: [(g7, (⟨r7k, r7n, r7t⟩ : Vl)), (g6, (⟨r6k, r6n, r6t⟩ : Vl)), (g5, (⟨r5k, r5n, r5t⟩ : Vl)), (g4, (⟨r4k, r4n, r4t⟩ : Vl)), (g3, (⟨r3k, r3n, r3t⟩ : Vl)), (g2, (⟨r2k, r2n, r2t⟩ : Vl)), (g1, (⟨r1k, r1n, r1t⟩ : Vl)), (g0, (⟨r0k, r0n, r0t⟩ : Vl)), (gb5, (⟨zk, zn, zt⟩ : Vl)), (gb4, (⟨yk, yn, yt⟩ : Vl)), (w.heap.size, (⟨xk, xn, xt⟩ : Vl))]) := B.out.push (⟨r8k, r8n, r8t⟩ : Vl) 23
            have hL : Below w.heap.size w (W32.alloc (.cells #[.int .i64 r8k, .int .i64 r8n, .string ⟨List.toArray r8t⟩] 23)) := BL.out.alloc BL.out.size _
            obtain ⟨W33, hW⟩ : ∃ X, W32.alloc (.cells #[.int .i64 r8k, .int .i64 r8n, .string ⟨List.toArray r8t⟩] 23) = X := ⟨_, rfl⟩
            obtain ⟨g8, hg⟩ : ∃ g, W32.heap.size = g := ⟨_, rfl⟩
            rw [hW] at hB hL ⊢
            rw [hg] at hB ⊢
            have HGb23_18_12 : Hid (w.heap.size ≤ g8) := Lib.hid (by rw [← hg]; exact BL.out.size)
            replace B := Lib.hid hB
            replace BL := Lib.hid hL
            clear hB hL hW hg
            replace HL := Lib.hid (show true = BigRing_s11 (⟨xk, xn, xt⟩ : Vl) (⟨yk, yn, yt⟩ : Vl) (⟨zk, zn, zt⟩ : Vl) ((⟨r0k, r0n, r0t⟩, r0e) : Vl × Int) ((⟨r1k, r1n, r1t⟩, r1e) : Vl × Int) ((⟨r2k, r2n, r2t⟩, r2e) : Vl × Int) ((⟨r3k, r3n, r3t⟩, r3e) : Vl × Int) ((⟨r4k, r4n, r4t⟩, r4e) : Vl × Int) ((⟨r5k, r5n, r5t⟩, r5e) : Vl × Int) ((⟨r6k, r6n, r6t⟩, r6e) : Vl × Int) ((⟨r7k, r7n, r7t⟩, r7e) : Vl × Int) ((⟨r8k, r8n, r8t⟩, r8e) : Vl × Int) from HL.out.trans (by unfold BigRing_s12; rw [HR8.out]))
            -- region 19
            have cb12_6_3_0 : W33.cell? ⟨g2, 0, none⟩ = some (.int .i64 r2k) := (B.out.get 6 rfl).c0
            have cb12_6_3_1 : W33.cell? ⟨g2, 1, none⟩ = some (.int .i64 r2n) := (B.out.get 6 rfl).c1
            have cb12_6_3_2 : W33.cell? ⟨g2, 2, none⟩ = some (.string ⟨List.toArray r2t⟩) := (B.out.get 6 rfl).c2
            have cb5_0 : W33.cell? ⟨gb5, 0, none⟩ = some (.int .i64 zk) := (B.out.get 9 rfl).c0
            have cb5_1 : W33.cell? ⟨gb5, 1, none⟩ = some (.int .i64 zn) := (B.out.get 9 rfl).c1
            have cb5_2 : W33.cell? ⟨gb5, 2, none⟩ = some (.string ⟨List.toArray zt⟩) := (B.out.get 9 rfl).c2
            obtain ⟨⟨⟨r9k, r9n, r9t⟩, r9e⟩, hr9⟩ : ∃ p, mulR (⟨r2k, r2n, r2t⟩ : Vl) (⟨zk, zn, zt⟩ : Vl) = p := ⟨_, rfl⟩
            have hc9 := fun (W : World) (hW : Env W) => mul_pub (⟨r2k, r2n, r2t⟩ : Vl) (⟨zk, zn, zt⟩ : Vl) HOr2.out HOz.out W hW
            have ho9 := mulR_ok (⟨r2k, r2n, r2t⟩ : Vl) (⟨zk, zn, zt⟩ : Vl)
            rw [hr9] at hc9 ho9
            simp only [Vl.val, pr] at hc9
            have HC9 := Lib.hid hc9; have HOr9 : Hid (Vl.ok ⟨r9k, r9n, r9t⟩) := Lib.hid ho9; have HR9 := Lib.hid hr9
            clear hc9 ho9 hr9
            go_wp2_with fail
            refine (HC9.out _ (HE.out.below BL.out)).mono ?_
            rintro e W34 ⟨rfl, hb⟩
            clear cb12_6_3_0 cb12_6_3_1 cb12_6_3_2 cb5_0 cb5_1 cb5_2
            replace B := Lib.hid (B.out.below hb)
            replace BL := Lib.hid (below_then BL.out hb)
            clear hb
            have cb17_11_7_0 : W34.cell? ⟨g5, 0, none⟩ = some (.int .i64 r5k) := (B.out.get 3 rfl).c0
            have cb17_11_7_1 : W34.cell? ⟨g5, 1, none⟩ = some (.int .i64 r5n) := (B.out.get 3 rfl).c1
            have cb17_11_7_2 : W34.cell? ⟨g5, 2, none⟩ = some (.string ⟨List.toArray r5t⟩) := (B.out.get 3 rfl).c2
            have zb17_11_7_0 : W34.frozen? ⟨g5, 0, none⟩ = false := (B.out.get 3 rfl).f0
            have zb17_11_7_1 : W34.frozen? ⟨g5, 1, none⟩ = false := (B.out.get 3 rfl).f1
            have zb17_11_7_2 : W34.frozen? ⟨g5, 2, none⟩ = false := (B.out.get 3 rfl).f2
            have zb17_11_7_l : g5 < W34.heap.size := (B.out.get 3 rfl).lt
            go_upto_region 20 with fail
            clear cb17_11_7_0 cb17_11_7_1 cb17_11_7_2 zb17_11_7_0 zb17_11_7_1 zb17_11_7_2 zb17_11_7_l
            have hB : Bxs (((W34.setCell ⟨g5, 0, none⟩ (.int .i64 r9k)).setCell ⟨g5, 1, none⟩ (.int .i64 r9n)).setCell ⟨g5, 2, none⟩ (.string ⟨List.toArray r9t⟩)) [(g8, (⟨r8k, r8n, r8t⟩ : Vl)), (g7, (⟨r7k, r7n, r7t⟩ : Vl)), (g6, (⟨r6k, r6n, r6t⟩ : Vl)), (g5, (⟨r9k, r9n, r9t⟩ : Vl)), (g4, (⟨r4k, r4n, r4t⟩ : Vl)), (g3, (⟨r3k, r3n, r3t⟩ : Vl)), (g2, (⟨r2k, r2n, r2t⟩ : Vl)), (g1, (⟨r1k, r1n, r1t⟩ : Vl)), (g0, (⟨r0k, r0n, r0t⟩ : Vl)), (gb5, (⟨zk, zn, zt⟩ : Vl)), (gb4, (⟨yk, yn, yt⟩ : Vl)), (w.heap.size, (⟨xk, xn, xt⟩ : Vl))] := B.out.put (b := (⟨r9k, r9n, r9t⟩ : Vl)) 3 rfl
            have hL : Below w.heap.size w (((W34.setCell ⟨g5, 0, none⟩ (.int .i64 r9k)).setCell ⟨g5, 1, none⟩ (.int .i64 r9n)).setCell ⟨g5, 2, none⟩ (.string ⟨List.toArray r9t⟩)) := below_putV BL.out HGb17_11_7.out (⟨r9k, r9n, r9t⟩ : Vl)
            obtain ⟨W35, hW⟩ : ∃ X, ((W34.setCell ⟨g5, 0, none⟩ (.int .i64 r9k)).setCell ⟨g5, 1, none⟩ (.int .i64 r9n)).setCell ⟨g5, 2, none⟩ (.string ⟨List.toArray r9t⟩) = X := ⟨_, rfl⟩
            rw [hW] at hB hL ⊢
            replace B := Lib.hid hB
            replace BL := Lib.hid hL
            clear hB hL hW
            replace HL := Lib.hid (show true = BigRing_s10 (⟨xk, xn, xt⟩ : Vl) (⟨yk, yn, yt⟩ : Vl) (⟨zk, zn, zt⟩ : Vl) ((⟨r0k, r0n, r0t⟩, r0e) : Vl × Int) ((⟨r1k, r1n, r1t⟩, r1e) : Vl × Int) ((⟨r2k, r2n, r2t⟩, r2e) : Vl × Int) ((⟨r3k, r3n, r3t⟩, r3e) : Vl × Int) ((⟨r4k, r4n, r4t⟩, r4e) : Vl × Int) ((⟨r5k, r5n, r5t⟩, r5e) : Vl × Int) ((⟨r6k, r6n, r6t⟩, r6e) : Vl × Int) ((⟨r7k, r7n, r7t⟩, r7e) : Vl × Int) ((⟨r8k, r8n, r8t⟩, r8e) : Vl × Int) ((⟨r9k, r9n, r9t⟩, r9e) : Vl × Int) from HL.out.trans (by unfold BigRing_s11; rw [HR9.out]))
            -- region 20
            have cb3_0 : W35.cell? ⟨w.heap.size, 0, none⟩ = some (.int .i64 xk) := (B.out.get 11 rfl).c0
            have cb3_1 : W35.cell? ⟨w.heap.size, 1, none⟩ = some (.int .i64 xn) := (B.out.get 11 rfl).c1
            have cb3_2 : W35.cell? ⟨w.heap.size, 2, none⟩ = some (.string ⟨List.toArray xt⟩) := (B.out.get 11 rfl).c2
            have cb23_18_12_0 : W35.cell? ⟨g8, 0, none⟩ = some (.int .i64 r8k) := (B.out.get 0 rfl).c0
            have cb23_18_12_1 : W35.cell? ⟨g8, 1, none⟩ = some (.int .i64 r8n) := (B.out.get 0 rfl).c1
            have cb23_18_12_2 : W35.cell? ⟨g8, 2, none⟩ = some (.string ⟨List.toArray r8t⟩) := (B.out.get 0 rfl).c2
            obtain ⟨⟨⟨r10k, r10n, r10t⟩, r10e⟩, hr10⟩ : ∃ p, mulR (⟨xk, xn, xt⟩ : Vl) (⟨r8k, r8n, r8t⟩ : Vl) = p := ⟨_, rfl⟩
            have hc10 := fun (W : World) (hW : Env W) => mul_pub (⟨xk, xn, xt⟩ : Vl) (⟨r8k, r8n, r8t⟩ : Vl) HOx.out HOr8.out W hW
            have ho10 := mulR_ok (⟨xk, xn, xt⟩ : Vl) (⟨r8k, r8n, r8t⟩ : Vl)
            rw [hr10] at hc10 ho10
            simp only [Vl.val, pr] at hc10
            have HC10 := Lib.hid hc10; have HOr10 : Hid (Vl.ok ⟨r10k, r10n, r10t⟩) := Lib.hid ho10; have HR10 := Lib.hid hr10
            clear hc10 ho10 hr10
            go_wp2_with fail
            refine (HC10.out _ (HE.out.below BL.out)).mono ?_
            rintro e W36 ⟨rfl, hb⟩
            clear cb3_0 cb3_1 cb3_2 cb23_18_12_0 cb23_18_12_1 cb23_18_12_2
            replace B := Lib.hid (B.out.below hb)
            replace BL := Lib.hid (below_then BL.out hb)
            clear hb
            have cb19_12_8_0 : W36.cell? ⟨g6, 0, none⟩ = some (.int .i64 r6k) := (B.out.get 2 rfl).c0
            have cb19_12_8_1 : W36.cell? ⟨g6, 1, none⟩ = some (.int .i64 r6n) := (B.out.get 2 rfl).c1
            have cb19_12_8_2 : W36.cell? ⟨g6, 2, none⟩ = some (.string ⟨List.toArray r6t⟩) := (B.out.get 2 rfl).c2
            have zb19_12_8_0 : W36.frozen? ⟨g6, 0, none⟩ = false := (B.out.get 2 rfl).f0
            have zb19_12_8_1 : W36.frozen? ⟨g6, 1, none⟩ = false := (B.out.get 2 rfl).f1
            have zb19_12_8_2 : W36.frozen? ⟨g6, 2, none⟩ = false := (B.out.get 2 rfl).f2
            have zb19_12_8_l : g6 < W36.heap.size := (B.out.get 2 rfl).lt
            go_upto_region 21 with fail
            clear cb19_12_8_0 cb19_12_8_1 cb19_12_8_2 zb19_12_8_0 zb19_12_8_1 zb19_12_8_2 zb19_12_8_l
            have hB : Bxs (((W36.setCell ⟨g6, 0, none⟩ (.int .i64 r10k)).setCell ⟨g6, 1, none⟩ (.int .i64 r10n)).setCell ⟨g6, 2, none⟩ (.string ⟨List.toArray r10t⟩)) [(g8, (⟨r8k, r8n, r8t⟩ : Vl)), (g7, (⟨r7k, r7n, r7t⟩ : Vl)), (g6, (⟨r10k, r10n, r10t⟩ : Vl)), (g5, (⟨r9k, r9n, r9t⟩ : Vl)), (g4, (⟨r4k, r4n, r4t⟩ : Vl)), (g3, (⟨r3k, r3n, r3t⟩ : Vl)), (g2, (⟨r2k, r2n, r2t⟩ : Vl)), (g1, (⟨r1k, r1n, r1t⟩ : Vl)), (g0, (⟨r0k, r0n, r0t⟩ : Vl)), (gb5, (⟨zk, zn, zt⟩ : Vl)), (gb4, (⟨yk, yn, yt⟩ : Vl)), (w.heap.size, (⟨xk, xn, xt⟩ : Vl))] := B.out.put (b := (⟨r10k, r10n, r10t⟩ : Vl)) 2 rfl
            have hL : Below w.heap.size w (((W36.setCell ⟨g6, 0, none⟩ (.int .i64 r10k)).setCell ⟨g6, 1, none⟩ (.int .i64 r10n)).setCell ⟨g6, 2, none⟩ (.string ⟨List.toArray r10t⟩)) := below_putV BL.out HGb19_12_8.out (⟨r10k, r10n, r10t⟩ : Vl)
            obtain ⟨W37, hW⟩ : ∃ X, ((W36.setCell ⟨g6, 0, none⟩ (.int .i64 r10k)).setCell ⟨g6, 1, none⟩ (.int .i64 r10n)).setCell ⟨g6, 2, none⟩ (.string ⟨List.toArray r10t⟩) = X := ⟨_, rfl⟩
            rw [hW] at hB hL ⊢
            replace B := Lib.hid hB
            replace BL := Lib.hid hL
            clear hB hL hW
            replace HL := Lib.hid (show true = BigRing_s9 (⟨xk, xn, xt⟩ : Vl) (⟨yk, yn, yt⟩ : Vl) (⟨zk, zn, zt⟩ : Vl) ((⟨r0k, r0n, r0t⟩, r0e) : Vl × Int) ((⟨r1k, r1n, r1t⟩, r1e) : Vl × Int) ((⟨r2k, r2n, r2t⟩, r2e) : Vl × Int) ((⟨r3k, r3n, r3t⟩, r3e) : Vl × Int) ((⟨r4k, r4n, r4t⟩, r4e) : Vl × Int) ((⟨r5k, r5n, r5t⟩, r5e) : Vl × Int) ((⟨r6k, r6n, r6t⟩, r6e) : Vl × Int) ((⟨r7k, r7n, r7t⟩, r7e) : Vl × Int) ((⟨r8k, r8n, r8t⟩, r8e) : Vl × Int) ((⟨r9k, r9n, r9t⟩, r9e) : Vl × Int) ((⟨r10k, r10n, r10t⟩, r10e) : Vl × Int) from HL.out.trans (by unfold BigRing_s10; rw [HR10.out]))
            -- region 21, a test
            obtain ⟨b14, h⟩ : ∃ b : Bool, (r2e == 0) = b := ⟨_, rfl⟩
            have HA14 := Lib.hid h
            clear h
            obtain ⟨b15, h⟩ : ∃ b : Bool, (r8e == 0) = b := ⟨_, rfl⟩
            have HA15 := Lib.hid h
            clear h
            obtain ⟨b16, h⟩ : ∃ b : Bool, (r9e == 0) = b := ⟨_, rfl⟩
            have HA16 := Lib.hid h
            clear h
            obtain ⟨b17, h⟩ : ∃ b : Bool, (r10e == 0) = b := ⟨_, rfl⟩
            have HA17 := Lib.hid h
            clear h
            obtain ⟨b18, h⟩ : ∃ b : Bool, (veqB r9k r9n r9t r10k r10n r10t) = b := ⟨_, rfl⟩
            have HA18 := Lib.hid h
            clear h
            have HCF : (((((r2e == 0) && (r8e == 0)) && (r9e == 0)) && (r10e == 0)) && (!(veqB r9k r9n r9t r10k r10n r10t))) = false := Bool.eq_false_iff.2 fun h => Bool.noConfusion (show true = false from HL.out.trans (if_pos h))
            have HCB : ((((b14 && b15) && b16) && b17) && (!b18)) = false := by
              have h := HCF
              rw [HA14.out, HA15.out, HA16.out, HA17.out, HA18.out] at h
              exact h
            have HCW := Lib.hid HCF
            have HCC := Lib.hid HCB
            clear HCF HCB
            go_upto_region 21 with fail
            go_cut [171] from 153 to 171 (fun v wx => v = .bool false ∧ Hid (Bxs wx [(g8, (⟨r8k, r8n, r8t⟩ : Vl)), (g7, (⟨r7k, r7n, r7t⟩ : Vl)), (g6, (⟨r10k, r10n, r10t⟩ : Vl)), (g5, (⟨r9k, r9n, r9t⟩ : Vl)), (g4, (⟨r4k, r4n, r4t⟩ : Vl)), (g3, (⟨r3k, r3n, r3t⟩ : Vl)), (g2, (⟨r2k, r2n, r2t⟩ : Vl)), (g1, (⟨r1k, r1n, r1t⟩ : Vl)), (g0, (⟨r0k, r0n, r0t⟩ : Vl)), (gb5, (⟨zk, zn, zt⟩ : Vl)), (gb4, (⟨yk, yn, yt⟩ : Vl)), (w.heap.size, (⟨xk, xn, xt⟩ : Vl))]) ∧ Hid (Below w.heap.size w wx))
            case first =>
              clear HL
              cases b14 with
              | true =>
                cases b15 with
                | true =>
                  cases b16 with
                  | true =>
                    cases b17 with
                    | true =>
                      cases b18 with
                      | true =>
                        have f0_0 : ((r2e : Int) == 0) = true := HA14.out
                        have f0_1 : ((r2e : Int) != 0) = false := by have h := HA14.out; simpa using h
                        have f1_0 : ((r8e : Int) == 0) = true := HA15.out
                        have f1_1 : ((r8e : Int) != 0) = false := by have h := HA15.out; simpa using h
                        have f2_0 : ((r9e : Int) == 0) = true := HA16.out
                        have f2_1 : ((r9e : Int) != 0) = false := by have h := HA16.out; simpa using h
                        have f3_0 : ((r10e : Int) == 0) = true := HA17.out
                        have f3_1 : ((r10e : Int) != 0) = false := by have h := HA17.out; simpa using h
                        have f4_0 : (veqB r9k r9n r9t r10k r10n r10t) = true := HA18.out
                        have cb17_11_7_0 : W37.cell? ⟨g5, 0, none⟩ = some (.int .i64 r9k) := (B.out.get 3 rfl).c0
                        have cb17_11_7_1 : W37.cell? ⟨g5, 1, none⟩ = some (.int .i64 r9n) := (B.out.get 3 rfl).c1
                        have cb17_11_7_2 : W37.cell? ⟨g5, 2, none⟩ = some (.string ⟨List.toArray r9t⟩) := (B.out.get 3 rfl).c2
                        have cb19_12_8_0 : W37.cell? ⟨g6, 0, none⟩ = some (.int .i64 r10k) := (B.out.get 2 rfl).c0
                        have cb19_12_8_1 : W37.cell? ⟨g6, 1, none⟩ = some (.int .i64 r10n) := (B.out.get 2 rfl).c1
                        have cb19_12_8_2 : W37.cell? ⟨g6, 2, none⟩ = some (.string ⟨List.toArray r10t⟩) := (B.out.get 2 rfl).c2
                        go_wp2_with fail
                        go_meet
                        exact ⟨rfl, B, BL⟩
                      | false =>
                        exact Bool.noConfusion (show true = false from HCC.out)
                    | false =>
                      have f0_0 : ((r2e : Int) == 0) = true := HA14.out
                      have f0_1 : ((r2e : Int) != 0) = false := by have h := HA14.out; simpa using h
                      have f1_0 : ((r8e : Int) == 0) = true := HA15.out
                      have f1_1 : ((r8e : Int) != 0) = false := by have h := HA15.out; simpa using h
                      have f2_0 : ((r9e : Int) == 0) = true := HA16.out
                      have f2_1 : ((r9e : Int) != 0) = false := by have h := HA16.out; simpa using h
                      have f3_0 : ((r10e : Int) == 0) = false := HA17.out
                      have f3_1 : ((r10e : Int) != 0) = true := by have h := HA17.out; simpa using h
                      go_wp2_with fail
                      go_meet
                      exact ⟨rfl, B, BL⟩
                  | false =>
                    have f0_0 : ((r2e : Int) == 0) = true := HA14.out
                    have f0_1 : ((r2e : Int) != 0) = false := by have h := HA14.out; simpa using h
                    have f1_0 : ((r8e : Int) == 0) = true := HA15.out
                    have f1_1 : ((r8e : Int) != 0) = false := by have h := HA15.out; simpa using h
                    have f2_0 : ((r9e : Int) == 0) = false := HA16.out
                    have f2_1 : ((r9e : Int) != 0) = true := by have h := HA16.out; simpa using h
                    go_wp2_with fail
                    go_meet
                    exact ⟨rfl, B, BL⟩
                | false =>
                  have f0_0 : ((r2e : Int) == 0) = true := HA14.out
                  have f0_1 : ((r2e : Int) != 0) = false := by have h := HA14.out; simpa using h
                  have f1_0 : ((r8e : Int) == 0) = false := HA15.out
                  have f1_1 : ((r8e : Int) != 0) = true := by have h := HA15.out; simpa using h
                  go_wp2_with fail
                  go_meet
                  exact ⟨rfl, B, BL⟩
              | false =>
                have f0_0 : ((r2e : Int) == 0) = false := HA14.out
                have f0_1 : ((r2e : Int) != 0) = true := by have h := HA14.out; simpa using h
                go_wp2_with fail
                go_meet
                exact ⟨rfl, B, BL⟩
            case rest =>
              clear B BL
              obtain ⟨rfl, B, BL⟩ := hcut
              obtain ⟨W38, hW⟩ : ∃ X, wc = X := ⟨_, rfl⟩
              rw [hW] at B BL ⊢
              clear hW
              clear HCC HA14 HA15 HA16 HA17 HA18
              replace HL := Lib.hid (show true = BigRing_s8 (⟨xk, xn, xt⟩ : Vl) (⟨yk, yn, yt⟩ : Vl) (⟨zk, zn, zt⟩ : Vl) ((⟨r0k, r0n, r0t⟩, r0e) : Vl × Int) ((⟨r1k, r1n, r1t⟩, r1e) : Vl × Int) ((⟨r2k, r2n, r2t⟩, r2e) : Vl × Int) ((⟨r3k, r3n, r3t⟩, r3e) : Vl × Int) ((⟨r4k, r4n, r4t⟩, r4e) : Vl × Int) ((⟨r5k, r5n, r5t⟩, r5e) : Vl × Int) ((⟨r6k, r6n, r6t⟩, r6e) : Vl × Int) ((⟨r7k, r7n, r7t⟩, r7e) : Vl × Int) ((⟨r8k, r8n, r8t⟩, r8e) : Vl × Int) ((⟨r9k, r9n, r9t⟩, r9e) : Vl × Int) ((⟨r10k, r10n, r10t⟩, r10e) : Vl × Int) from HL.out.trans ((if_neg (fun h => Bool.noConfusion (HCW.out.symm.trans h)))))
              -- region 23
              have cb3_0 : W38.cell? ⟨w.heap.size, 0, none⟩ = some (.int .i64 xk) := (B.out.get 11 rfl).c0
              have cb3_1 : W38.cell? ⟨w.heap.size, 1, none⟩ = some (.int .i64 xn) := (B.out.get 11 rfl).c1
              have cb3_2 : W38.cell? ⟨w.heap.size, 2, none⟩ = some (.string ⟨List.toArray xt⟩) := (B.out.get 11 rfl).c2
              have cb5_0 : W38.cell? ⟨gb5, 0, none⟩ = some (.int .i64 zk) := (B.out.get 9 rfl).c0
              have cb5_1 : W38.cell? ⟨gb5, 1, none⟩ = some (.int .i64 zn) := (B.out.get 9 rfl).c1
              have cb5_2 : W38.cell? ⟨gb5, 2, none⟩ = some (.string ⟨List.toArray zt⟩) := (B.out.get 9 rfl).c2
              obtain ⟨⟨⟨r11k, r11n, r11t⟩, r11e⟩, hr11⟩ : ∃ p, mulR (⟨xk, xn, xt⟩ : Vl) (⟨zk, zn, zt⟩ : Vl) = p := ⟨_, rfl⟩
              have hc11 := fun (W : World) (hW : Env W) => mul_pub (⟨xk, xn, xt⟩ : Vl) (⟨zk, zn, zt⟩ : Vl) HOx.out HOz.out W hW
              have ho11 := mulR_ok (⟨xk, xn, xt⟩ : Vl) (⟨zk, zn, zt⟩ : Vl)
              rw [hr11] at hc11 ho11
              simp only [Vl.val, pr] at hc11
              have HC11 := Lib.hid hc11; have HOr11 : Hid (Vl.ok ⟨r11k, r11n, r11t⟩) := Lib.hid ho11; have HR11 := Lib.hid hr11
              clear hc11 ho11 hr11
              go_wp2_with fail
              refine (HC11.out _ (HE.out.below BL.out)).mono ?_
              rintro e W39 ⟨rfl, hb⟩
              clear cb3_0 cb3_1 cb3_2 cb5_0 cb5_1 cb5_2
              replace B := Lib.hid (B.out.below hb)
              replace BL := Lib.hid (below_then BL.out hb)
              clear hb
              go_upto_region 24 with fail
              have hB : Bxs (W39.alloc (.cells #[.int .i64 r11k, .int .i64 r11n, .string ⟨List.toArray r11t⟩] 23)) ((W39.heap.size, (⟨r11k, r11n, r11t⟩ : Vl)) :: [(g8, (⟨r8k, r8n, r8t⟩ : Vl)), (g7, (⟨r7k, r7n, r7t⟩ : Vl)), (g6, (⟨r10k, r10n, r10t⟩ : Vl)), (g5, (⟨r9k, r9n, r9t⟩ : Vl)), (g4, (⟨r4k, r4n, r4t⟩ : Vl)), (g3, (⟨r3k, r3n, r3t⟩ : Vl)), (g2, (⟨r2k, r2n, r2t⟩ : Vl)), (g1, (⟨r1k, r1n, r1t⟩ : Vl)), (g0, (⟨r0k, r0n, r0t⟩ : Vl)), (gb5, (⟨zk, zn, zt⟩ : Vl)), (gb4, (⟨yk, yn, yt⟩ : Vl)), (w.heap.size, (⟨xk, xn, xt⟩ : Vl))]) := B.out.push (⟨r11k, r11n, r11t⟩ : Vl) 23
              have hL : Below w.heap.size w (W39.alloc (.cells #[.int .i64 r11k, .int .i64 r11n, .string ⟨List.toArray r11t⟩] 23)) := BL.out.alloc BL.out.size _
              obtain ⟨W40, hW⟩ : ∃ X, W39.alloc (.cells #[.int .i64 r11k, .int .i64 r11n, .string ⟨List.toArray r11t⟩] 23) = X := ⟨_, rfl⟩
              obtain ⟨g9, hg⟩ : ∃ g, W39.heap.size = g := ⟨_, rfl⟩
              rw [hW] at hB hL ⊢
              rw [hg] at hB ⊢
              have HGb25_23_14 : Hid (w.heap.size ≤ g9) := Lib.hid (by rw [← hg]; exact BL.out.size)
              replace B := Lib.hid hB
              replace BL := Lib.hid hL
              clear hB hL hW hg
              replace HL := Lib.hid (show true = BigRing_s7 (⟨xk, xn, xt⟩ : Vl) (⟨yk, yn, yt⟩ : Vl) (⟨zk, zn, zt⟩ : Vl) ((⟨r0k, r0n, r0t⟩, r0e) : Vl × Int) ((⟨r1k, r1n, r1t⟩, r1e) : Vl × Int) ((⟨r2k, r2n, r2t⟩, r2e) : Vl × Int) ((⟨r3k, r3n, r3t⟩, r3e) : Vl × Int) ((⟨r4k, r4n, r4t⟩, r4e) : Vl × Int) ((⟨r5k, r5n, r5t⟩, r5e) : Vl × Int) ((⟨r6k, r6n, r6t⟩, r6e) : Vl × Int) ((⟨r7k, r7n, r7t⟩, r7e) : Vl × Int) ((⟨r8k, r8n, r8t⟩, r8e) : Vl × Int) ((⟨r9k, r9n, r9t⟩, r9e) : Vl × Int) ((⟨r10k, r10n, r10t⟩, r10e) : Vl × Int) ((⟨r11k, r11n, r11t⟩, r11e) : Vl × Int) from HL.out.trans (by unfold BigRing_s8; rw [HR11.out]))
              -- region 24
              have cb3_0 : W40.cell? ⟨w.heap.size, 0, none⟩ = some (.int .i64 xk) := (B.out.get 12 rfl).c0
              have cb3_1 : W40.cell? ⟨w.heap.size, 1, none⟩ = some (.int .i64 xn) := (B.out.get 12 rfl).c1
              have cb3_2 : W40.cell? ⟨w.heap.size, 2, none⟩ = some (.string ⟨List.toArray xt⟩) := (B.out.get 12 rfl).c2
              have cb16_10_6_0 : W40.cell? ⟨g4, 0, none⟩ = some (.int .i64 r4k) := (B.out.get 5 rfl).c0
              have cb16_10_6_1 : W40.cell? ⟨g4, 1, none⟩ = some (.int .i64 r4n) := (B.out.get 5 rfl).c1
              have cb16_10_6_2 : W40.cell? ⟨g4, 2, none⟩ = some (.string ⟨List.toArray r4t⟩) := (B.out.get 5 rfl).c2
              obtain ⟨⟨⟨r12k, r12n, r12t⟩, r12e⟩, hr12⟩ : ∃ p, mulR (⟨xk, xn, xt⟩ : Vl) (⟨r4k, r4n, r4t⟩ : Vl) = p := ⟨_, rfl⟩
              have hc12 := fun (W : World) (hW : Env W) => mul_pub (⟨xk, xn, xt⟩ : Vl) (⟨r4k, r4n, r4t⟩ : Vl) HOx.out HOr4.out W hW
              have ho12 := mulR_ok (⟨xk, xn, xt⟩ : Vl) (⟨r4k, r4n, r4t⟩ : Vl)
              rw [hr12] at hc12 ho12
              simp only [Vl.val, pr] at hc12
              have HC12 := Lib.hid hc12; have HOr12 : Hid (Vl.ok ⟨r12k, r12n, r12t⟩) := Lib.hid ho12; have HR12 := Lib.hid hr12
              clear hc12 ho12 hr12
              go_wp2_with fail
              refine (HC12.out _ (HE.out.below BL.out)).mono ?_
              rintro e W41 ⟨rfl, hb⟩
              clear cb3_0 cb3_1 cb3_2 cb16_10_6_0 cb16_10_6_1 cb16_10_6_2
              replace B := Lib.hid (B.out.below hb)
              replace BL := Lib.hid (below_then BL.out hb)
              clear hb
              have cb17_11_7_0 : W41.cell? ⟨g5, 0, none⟩ = some (.int .i64 r9k) := (B.out.get 4 rfl).c0
              have cb17_11_7_1 : W41.cell? ⟨g5, 1, none⟩ = some (.int .i64 r9n) := (B.out.get 4 rfl).c1
              have cb17_11_7_2 : W41.cell? ⟨g5, 2, none⟩ = some (.string ⟨List.toArray r9t⟩) := (B.out.get 4 rfl).c2
              have zb17_11_7_0 : W41.frozen? ⟨g5, 0, none⟩ = false := (B.out.get 4 rfl).f0
              have zb17_11_7_1 : W41.frozen? ⟨g5, 1, none⟩ = false := (B.out.get 4 rfl).f1
              have zb17_11_7_2 : W41.frozen? ⟨g5, 2, none⟩ = false := (B.out.get 4 rfl).f2
              have zb17_11_7_l : g5 < W41.heap.size := (B.out.get 4 rfl).lt
              go_upto_region 25 with fail
              clear cb17_11_7_0 cb17_11_7_1 cb17_11_7_2 zb17_11_7_0 zb17_11_7_1 zb17_11_7_2 zb17_11_7_l
              have hB : Bxs (((W41.setCell ⟨g5, 0, none⟩ (.int .i64 r12k)).setCell ⟨g5, 1, none⟩ (.int .i64 r12n)).setCell ⟨g5, 2, none⟩ (.string ⟨List.toArray r12t⟩)) [(g9, (⟨r11k, r11n, r11t⟩ : Vl)), (g8, (⟨r8k, r8n, r8t⟩ : Vl)), (g7, (⟨r7k, r7n, r7t⟩ : Vl)), (g6, (⟨r10k, r10n, r10t⟩ : Vl)), (g5, (⟨r12k, r12n, r12t⟩ : Vl)), (g4, (⟨r4k, r4n, r4t⟩ : Vl)), (g3, (⟨r3k, r3n, r3t⟩ : Vl)), (g2, (⟨r2k, r2n, r2t⟩ : Vl)), (g1, (⟨r1k, r1n, r1t⟩ : Vl)), (g0, (⟨r0k, r0n, r0t⟩ : Vl)), (gb5, (⟨zk, zn, zt⟩ : Vl)), (gb4, (⟨yk, yn, yt⟩ : Vl)), (w.heap.size, (⟨xk, xn, xt⟩ : Vl))] := B.out.put (b := (⟨r12k, r12n, r12t⟩ : Vl)) 4 rfl
              have hL : Below w.heap.size w (((W41.setCell ⟨g5, 0, none⟩ (.int .i64 r12k)).setCell ⟨g5, 1, none⟩ (.int .i64 r12n)).setCell ⟨g5, 2, none⟩ (.string ⟨List.toArray r12t⟩)) := below_putV BL.out HGb17_11_7.out (⟨r12k, r12n, r12t⟩ : Vl)
              obtain ⟨W42, hW⟩ : ∃ X, ((W41.setCell ⟨g5, 0, none⟩ (.int .i64 r12k)).setCell ⟨g5, 1, none⟩ (.int .i64 r12n)).setCell ⟨g5, 2, none⟩ (.string ⟨List.toArray r12t⟩) = X := ⟨_, rfl⟩
              rw [hW] at hB hL ⊢
              replace B := Lib.hid hB
              replace BL := Lib.hid hL
              clear hB hL hW
              replace HL := Lib.hid (show true = BigRing_s6 (⟨xk, xn, xt⟩ : Vl) (⟨yk, yn, yt⟩ : Vl) (⟨zk, zn, zt⟩ : Vl) ((⟨r0k, r0n, r0t⟩, r0e) : Vl × Int) ((⟨r1k, r1n, r1t⟩, r1e) : Vl × Int) ((⟨r2k, r2n, r2t⟩, r2e) : Vl × Int) ((⟨r3k, r3n, r3t⟩, r3e) : Vl × Int) ((⟨r4k, r4n, r4t⟩, r4e) : Vl × Int) ((⟨r5k, r5n, r5t⟩, r5e) : Vl × Int) ((⟨r6k, r6n, r6t⟩, r6e) : Vl × Int) ((⟨r7k, r7n, r7t⟩, r7e) : Vl × Int) ((⟨r8k, r8n, r8t⟩, r8e) : Vl × Int) ((⟨r9k, r9n, r9t⟩, r9e) : Vl × Int) ((⟨r10k, r10n, r10t⟩, r10e) : Vl × Int) ((⟨r11k, r11n, r11t⟩, r11e) : Vl × Int) ((⟨r12k, r12n, r12t⟩, r12e) : Vl × Int) from HL.out.trans (by unfold BigRing_s7; rw [HR12.out]))
              -- region 25
              have cb12_6_3_0 : W42.cell? ⟨g2, 0, none⟩ = some (.int .i64 r2k) := (B.out.get 7 rfl).c0
              have cb12_6_3_1 : W42.cell? ⟨g2, 1, none⟩ = some (.int .i64 r2n) := (B.out.get 7 rfl).c1
              have cb12_6_3_2 : W42.cell? ⟨g2, 2, none⟩ = some (.string ⟨List.toArray r2t⟩) := (B.out.get 7 rfl).c2
              have cb25_23_14_0 : W42.cell? ⟨g9, 0, none⟩ = some (.int .i64 r11k) := (B.out.get 0 rfl).c0
              have cb25_23_14_1 : W42.cell? ⟨g9, 1, none⟩ = some (.int .i64 r11n) := (B.out.get 0 rfl).c1
              have cb25_23_14_2 : W42.cell? ⟨g9, 2, none⟩ = some (.string ⟨List.toArray r11t⟩) := (B.out.get 0 rfl).c2
              obtain ⟨⟨⟨r13k, r13n, r13t⟩, r13e⟩, hr13⟩ : ∃ p, addR (⟨r2k, r2n, r2t⟩ : Vl) (⟨r11k, r11n, r11t⟩ : Vl) = p := ⟨_, rfl⟩
              have hc13 := fun (W : World) (hW : Env W) => add_pub (⟨r2k, r2n, r2t⟩ : Vl) (⟨r11k, r11n, r11t⟩ : Vl) HOr2.out HOr11.out W hW
              have ho13 := addR_ok (⟨r2k, r2n, r2t⟩ : Vl) (⟨r11k, r11n, r11t⟩ : Vl)
              rw [hr13] at hc13 ho13
              simp only [Vl.val, pr] at hc13
              have HC13 := Lib.hid hc13; have HOr13 : Hid (Vl.ok ⟨r13k, r13n, r13t⟩) := Lib.hid ho13; have HR13 := Lib.hid hr13
              clear hc13 ho13 hr13
              go_wp2_with fail
              refine (HC13.out _ (HE.out.below BL.out)).mono ?_
              rintro e W43 ⟨rfl, hb⟩
              clear cb12_6_3_0 cb12_6_3_1 cb12_6_3_2 cb25_23_14_0 cb25_23_14_1 cb25_23_14_2
              replace B := Lib.hid (B.out.below hb)
              replace BL := Lib.hid (below_then BL.out hb)
              clear hb
              have cb19_12_8_0 : W43.cell? ⟨g6, 0, none⟩ = some (.int .i64 r10k) := (B.out.get 3 rfl).c0
              have cb19_12_8_1 : W43.cell? ⟨g6, 1, none⟩ = some (.int .i64 r10n) := (B.out.get 3 rfl).c1
              have cb19_12_8_2 : W43.cell? ⟨g6, 2, none⟩ = some (.string ⟨List.toArray r10t⟩) := (B.out.get 3 rfl).c2
              have zb19_12_8_0 : W43.frozen? ⟨g6, 0, none⟩ = false := (B.out.get 3 rfl).f0
              have zb19_12_8_1 : W43.frozen? ⟨g6, 1, none⟩ = false := (B.out.get 3 rfl).f1
              have zb19_12_8_2 : W43.frozen? ⟨g6, 2, none⟩ = false := (B.out.get 3 rfl).f2
              have zb19_12_8_l : g6 < W43.heap.size := (B.out.get 3 rfl).lt
              go_upto_region 26 with fail
              clear cb19_12_8_0 cb19_12_8_1 cb19_12_8_2 zb19_12_8_0 zb19_12_8_1 zb19_12_8_2 zb19_12_8_l
              have hB : Bxs (((W43.setCell ⟨g6, 0, none⟩ (.int .i64 r13k)).setCell ⟨g6, 1, none⟩ (.int .i64 r13n)).setCell ⟨g6, 2, none⟩ (.string ⟨List.toArray r13t⟩)) [(g9, (⟨r11k, r11n, r11t⟩ : Vl)), (g8, (⟨r8k, r8n, r8t⟩ : Vl)), (g7, (⟨r7k, r7n, r7t⟩ : Vl)), (g6, (⟨r13k, r13n, r13t⟩ : Vl)), (g5, (⟨r12k, r12n, r12t⟩ : Vl)), (g4, (⟨r4k, r4n, r4t⟩ : Vl)), (g3, (⟨r3k, r3n, r3t⟩ : Vl)), (g2, (⟨r2k, r2n, r2t⟩ : Vl)), (g1, (⟨r1k, r1n, r1t⟩ : Vl)), (g0, (⟨r0k, r0n, r0t⟩ : Vl)), (gb5, (⟨zk, zn, zt⟩ : Vl)), (gb4, (⟨yk, yn, yt⟩ : Vl)), (w.heap.size, (⟨xk, xn, xt⟩ : Vl))] := B.out.put (b := (⟨r13k, r13n, r13t⟩ : Vl)) 3 rfl
              have hL : Below w.heap.size w (((W43.setCell ⟨g6, 0, none⟩ (.int .i64 r13k)).setCell ⟨g6, 1, none⟩ (.int .i64 r13n)).setCell ⟨g6, 2, none⟩ (.string ⟨List.toArray r13t⟩)) := below_putV BL.out HGb19_12_8.out (⟨r13k, r13n, r13t⟩ : Vl)
              obtain ⟨W44, hW⟩ : ∃ X, ((W43.setCell ⟨g6, 0, none⟩ (.int .i64 r13k)).setCell ⟨g6, 1, none⟩ (.int .i64 r13n)).setCell ⟨g6, 2, none⟩ (.string ⟨List.toArray r13t⟩) = X := ⟨_, rfl⟩
              rw [hW] at hB hL ⊢
              replace B := Lib.hid hB
              replace BL := Lib.hid hL
              clear hB hL hW
              replace HL := Lib.hid (show true = BigRing_s5 (⟨xk, xn, xt⟩ : Vl) (⟨yk, yn, yt⟩ : Vl) (⟨zk, zn, zt⟩ : Vl) ((⟨r0k, r0n, r0t⟩, r0e) : Vl × Int) ((⟨r1k, r1n, r1t⟩, r1e) : Vl × Int) ((⟨r2k, r2n, r2t⟩, r2e) : Vl × Int) ((⟨r3k, r3n, r3t⟩, r3e) : Vl × Int) ((⟨r4k, r4n, r4t⟩, r4e) : Vl × Int) ((⟨r5k, r5n, r5t⟩, r5e) : Vl × Int) ((⟨r6k, r6n, r6t⟩, r6e) : Vl × Int) ((⟨r7k, r7n, r7t⟩, r7e) : Vl × Int) ((⟨r8k, r8n, r8t⟩, r8e) : Vl × Int) ((⟨r9k, r9n, r9t⟩, r9e) : Vl × Int) ((⟨r10k, r10n, r10t⟩, r10e) : Vl × Int) ((⟨r11k, r11n, r11t⟩, r11e) : Vl × Int) ((⟨r12k, r12n, r12t⟩, r12e) : Vl × Int) ((⟨r13k, r13n, r13t⟩, r13e) : Vl × Int) from HL.out.trans (by unfold BigRing_s6; rw [HR13.out]))
              -- region 26, the end
              obtain ⟨b19, h⟩ : ∃ b : Bool, (r4e == 0) = b := ⟨_, rfl⟩
              have HA19 := Lib.hid h
              clear h
              obtain ⟨b20, h⟩ : ∃ b : Bool, (r2e == 0) = b := ⟨_, rfl⟩
              have HA20 := Lib.hid h
              clear h
              obtain ⟨b21, h⟩ : ∃ b : Bool, (r11e == 0) = b := ⟨_, rfl⟩
              have HA21 := Lib.hid h
              clear h
              obtain ⟨b22, h⟩ : ∃ b : Bool, (r12e == 0) = b := ⟨_, rfl⟩
              have HA22 := Lib.hid h
              clear h
              obtain ⟨b23, h⟩ : ∃ b : Bool, (r13e == 0) = b := ⟨_, rfl⟩
              have HA23 := Lib.hid h
              clear h
              obtain ⟨b24, h⟩ : ∃ b : Bool, (veqB r12k r12n r12t r13k r13n r13t) = b := ⟨_, rfl⟩
              have HA24 := Lib.hid h
              clear h
              cases b19 with
              | true =>
                cases b20 with
                | true =>
                  cases b21 with
                  | true =>
                    cases b22 with
                    | true =>
                      cases b23 with
                      | true =>
                        cases b24 with
                        | true =>
                          clear HL
                          have f0_0 : ((r4e : Int) == 0) = true := HA19.out
                          have f0_1 : ((r4e : Int) != 0) = false := by have h := HA19.out; simpa using h
                          have f1_0 : ((r2e : Int) == 0) = true := HA20.out
                          have f1_1 : ((r2e : Int) != 0) = false := by have h := HA20.out; simpa using h
                          have f2_0 : ((r11e : Int) == 0) = true := HA21.out
                          have f2_1 : ((r11e : Int) != 0) = false := by have h := HA21.out; simpa using h
                          have f3_0 : ((r12e : Int) == 0) = true := HA22.out
                          have f3_1 : ((r12e : Int) != 0) = false := by have h := HA22.out; simpa using h
                          have f4_0 : ((r13e : Int) == 0) = true := HA23.out
                          have f4_1 : ((r13e : Int) != 0) = false := by have h := HA23.out; simpa using h
                          have f5_0 : (veqB r12k r12n r12t r13k r13n r13t) = true := HA24.out
                          have cb17_11_7_0 : W44.cell? ⟨g5, 0, none⟩ = some (.int .i64 r12k) := (B.out.get 4 rfl).c0
                          have cb17_11_7_1 : W44.cell? ⟨g5, 1, none⟩ = some (.int .i64 r12n) := (B.out.get 4 rfl).c1
                          have cb17_11_7_2 : W44.cell? ⟨g5, 2, none⟩ = some (.string ⟨List.toArray r12t⟩) := (B.out.get 4 rfl).c2
                          have cb19_12_8_0 : W44.cell? ⟨g6, 0, none⟩ = some (.int .i64 r13k) := (B.out.get 3 rfl).c0
                          have cb19_12_8_1 : W44.cell? ⟨g6, 1, none⟩ = some (.int .i64 r13n) := (B.out.get 3 rfl).c1
                          have cb19_12_8_2 : W44.cell? ⟨g6, 2, none⟩ = some (.string ⟨List.toArray r13t⟩) := (B.out.get 3 rfl).c2
                          go_wp2_with fail
                          go_ret
                          exact ⟨rfl, BL.out⟩
                        | false =>
                          exact Bool.noConfusion (show true = false from HL.out.trans (by show (true && ((((((!(r4e == 0)) || (!(r2e == 0))) || (!(r11e == 0))) || (!(r12e == 0))) || (!(r13e == 0))) || (veqB r12k r12n r12t r13k r13n r13t))) = false; rw [HA19.out, HA20.out, HA21.out, HA22.out, HA23.out, HA24.out]; rfl))
                      | false =>
                        clear HL
                        have f0_0 : ((r4e : Int) == 0) = true := HA19.out
                        have f0_1 : ((r4e : Int) != 0) = false := by have h := HA19.out; simpa using h
                        have f1_0 : ((r2e : Int) == 0) = true := HA20.out
                        have f1_1 : ((r2e : Int) != 0) = false := by have h := HA20.out; simpa using h
                        have f2_0 : ((r11e : Int) == 0) = true := HA21.out
                        have f2_1 : ((r11e : Int) != 0) = false := by have h := HA21.out; simpa using h
                        have f3_0 : ((r12e : Int) == 0) = true := HA22.out
                        have f3_1 : ((r12e : Int) != 0) = false := by have h := HA22.out; simpa using h
                        have f4_0 : ((r13e : Int) == 0) = false := HA23.out
                        have f4_1 : ((r13e : Int) != 0) = true := by have h := HA23.out; simpa using h
                        go_wp2_with fail
                        go_ret
                        exact ⟨rfl, BL.out⟩
                    | false =>
                      clear HL
                      have f0_0 : ((r4e : Int) == 0) = true := HA19.out
                      have f0_1 : ((r4e : Int) != 0) = false := by have h := HA19.out; simpa using h
                      have f1_0 : ((r2e : Int) == 0) = true := HA20.out
                      have f1_1 : ((r2e : Int) != 0) = false := by have h := HA20.out; simpa using h
                      have f2_0 : ((r11e : Int) == 0) = true := HA21.out
                      have f2_1 : ((r11e : Int) != 0) = false := by have h := HA21.out; simpa using h
                      have f3_0 : ((r12e : Int) == 0) = false := HA22.out
                      have f3_1 : ((r12e : Int) != 0) = true := by have h := HA22.out; simpa using h
                      go_wp2_with fail
                      go_ret
                      exact ⟨rfl, BL.out⟩
                  | false =>
                    clear HL
                    have f0_0 : ((r4e : Int) == 0) = true := HA19.out
                    have f0_1 : ((r4e : Int) != 0) = false := by have h := HA19.out; simpa using h
                    have f1_0 : ((r2e : Int) == 0) = true := HA20.out
                    have f1_1 : ((r2e : Int) != 0) = false := by have h := HA20.out; simpa using h
                    have f2_0 : ((r11e : Int) == 0) = false := HA21.out
                    have f2_1 : ((r11e : Int) != 0) = true := by have h := HA21.out; simpa using h
                    go_wp2_with fail
                    go_ret
                    exact ⟨rfl, BL.out⟩
                | false =>
                  clear HL
                  have f0_0 : ((r4e : Int) == 0) = true := HA19.out
                  have f0_1 : ((r4e : Int) != 0) = false := by have h := HA19.out; simpa using h
                  have f1_0 : ((r2e : Int) == 0) = false := HA20.out
                  have f1_1 : ((r2e : Int) != 0) = true := by have h := HA20.out; simpa using h
                  go_wp2_with fail
                  go_ret
                  exact ⟨rfl, BL.out⟩
              | false =>
                clear HL
                have f0_0 : ((r4e : Int) == 0) = false := HA19.out
                have f0_1 : ((r4e : Int) != 0) = true := by have h := HA19.out; simpa using h
                go_wp2_with fail
                go_ret
                exact ⟨rfl, BL.out⟩
end Go.Proofs.YthjpbbbmnmhmmaaGreatDoor
