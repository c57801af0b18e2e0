import Derived.Test.YthjpbbbmnmhmmaaGreatDoorA31
import Derived.Test.YthjpbbbmnmhmmaaGreatDoorRf2
set_option linter.unusedVariables false
set_option linter.unusedSimpArgs false
namespace Go.Proofs.YthjpbbbmnmhmmaaGreatDoor
open Go.RowKit Go.Shelf Go.Lib
attribute [local go_sem ↓] run_val_eql run_val_neq

def BigSums_s0 (x : Vl) (y : Vl) : Bool := true
def BigSums_s1 (x : Vl) (y : Vl) (r0 : Vl × Int) (r1 : Vl × Int) : Bool := false
def BigSums_s2 (x : Vl) (y : Vl) (r0 : Vl × Int) (r1 : Vl × Int) (r2 : Vl × Int) (r3 : Vl × Int) : Bool := false
def BigSums_s3 (x : Vl) (y : Vl) (r0 : Vl × Int) (r1 : Vl × Int) (r2 : Vl × Int) (r3 : Vl × Int) (r4 : Vl × Int) (r5 : Vl × Int) (r6 : Bool × Int) (r7 : Bool × Int) : Bool := ((((true && (veq r4.1 r5.1)) && (r4.2 == r5.2)) && (r6.1 == r7.1)) && (r6.2 == r7.2))
def BigSums_s4 (x : Vl) (y : Vl) (r0 : Vl × Int) (r1 : Vl × Int) (r2 : Vl × Int) (r3 : Vl × Int) (r4 : Vl × Int) (r5 : Vl × Int) (r6 : Bool × Int) : Bool := BigSums_s3 x y r0 r1 r2 r3 r4 r5 r6 (lessR x y)
def BigSums_s5 (x : Vl) (y : Vl) (r0 : Vl × Int) (r1 : Vl × Int) (r2 : Vl × Int) (r3 : Vl × Int) (r4 : Vl × Int) (r5 : Vl × Int) : Bool := BigSums_s4 x y r0 r1 r2 r3 r4 r5 (lessR x y)
def BigSums_s6 (x : Vl) (y : Vl) (r0 : Vl × Int) (r1 : Vl × Int) (r2 : Vl × Int) (r3 : Vl × Int) (r4 : Vl × Int) : Bool := BigSums_s5 x y r0 r1 r2 r3 r4 (mulR x y)
def BigSums_s7 (x : Vl) (y : Vl) (r0 : Vl × Int) (r1 : Vl × Int) (r2 : Vl × Int) (r3 : Vl × Int) : Bool := BigSums_s6 x y r0 r1 r2 r3 (mulR x y)
def BigSums_s8 (x : Vl) (y : Vl) (r0 : Vl × Int) (r1 : Vl × Int) (r2 : Vl × Int) (r3 : Vl × Int) : Bool := if ((!(veq r2.1 r3.1)) || (!(r2.2 == r3.2))) = true then BigSums_s2 x y r0 r1 r2 r3 else BigSums_s7 x y r0 r1 r2 r3
def BigSums_s9 (x : Vl) (y : Vl) (r0 : Vl × Int) (r1 : Vl × Int) (r2 : Vl × Int) : Bool := BigSums_s8 x y r0 r1 r2 (subR x y)
def BigSums_s10 (x : Vl) (y : Vl) (r0 : Vl × Int) (r1 : Vl × Int) : Bool := BigSums_s9 x y r0 r1 (subR x y)
def BigSums_s11 (x : Vl) (y : Vl) (r0 : Vl × Int) (r1 : Vl × Int) : Bool := if ((!(veq r0.1 r1.1)) || (!(r0.2 == r1.2))) = true then BigSums_s1 x y r0 r1 else BigSums_s10 x y r0 r1
def BigSums_s12 (x : Vl) (y : Vl) (r0 : Vl × Int) : Bool := BigSums_s11 x y r0 (addR x y)
def BigSums_s13 (x : Vl) (y : Vl) : Bool := BigSums_s12 x y (addR x y)
def BigSums_s14 (x : Vl) (y : Vl) : Bool := if ((!(shortB x)) || (!(shortB y))) = true then BigSums_s0 x y else BigSums_s13 x y

set_option maxRecDepth 100000 in
set_option maxHeartbeats 16000000 in
theorem walk_BigSums (x : Vl) (y : Vl) (hx : x.inp) (hy : y.inp) (w : World) (hE : Env w) (hr : true = BigSums_s14 x y) :
    Calls Tryz.prog 9 #[x.val, y.val] w fun e w' => e = .returned (.bool true) ∧ Below w.heap.size w w' := by
  obtain ⟨xk, xn, xt⟩ := x
  obtain ⟨yk, yn, yt⟩ := y
  have HIx := Lib.hid hx
  have HIy := Lib.hid hy
  have HE := Lib.hid hE
  have HL := Lib.hid hr
  clear hE hr hx hy
  simp only [Vl.val]
  go_enter Tryz.func9, Tryz.ntmps9
  go_upto_region 1 with fail
  have hB : Bxs ((w.alloc (.cells #[.int .i64 xk, .int .i64 xn, .string ⟨List.toArray xt⟩] 23)).alloc (.cells #[.int .i64 yk, .int .i64 yn, .string ⟨List.toArray yt⟩] 23)) [(w.heap.size + 1, (⟨yk, yn, yt⟩ : Vl)), (w.heap.size, (⟨xk, xn, xt⟩ : Vl))] := by
    have h := (((show Bxs w [] from trivial).push (⟨xk, xn, xt⟩ : Vl) 23).push (⟨yk, yn, yt⟩ : Vl) 23)
    simpa only [World.size_alloc] using h
  have hL : Below w.heap.size w ((w.alloc (.cells #[.int .i64 xk, .int .i64 xn, .string ⟨List.toArray xt⟩] 23)).alloc (.cells #[.int .i64 yk, .int .i64 yn, .string ⟨List.toArray yt⟩] 23)) := (((Below.refl w.heap.size w).alloc (Nat.le_refl _) (.cells #[.int .i64 xk, .int .i64 xn, .string ⟨List.toArray xt⟩] 23)).alloc (by simp <;> omega) (.cells #[.int .i64 yk, .int .i64 yn, .string ⟨List.toArray yt⟩] 23))
  obtain ⟨W1, hW⟩ : ∃ X, ((w.alloc (.cells #[.int .i64 xk, .int .i64 xn, .string ⟨List.toArray xt⟩] 23)).alloc (.cells #[.int .i64 yk, .int .i64 yn, .string ⟨List.toArray yt⟩] 23)) = X := ⟨_, rfl⟩
  rw [hW] at hB hL ⊢
  clear hW
  obtain ⟨gb3, hg⟩ : ∃ g, w.heap.size + 1 = g := ⟨_, rfl⟩
  have HGb3 : Hid (w.heap.size ≤ gb3) := Lib.hid (by omega)
  rw [hg] at hB ⊢
  clear hg
  have HGb2 : Hid (w.heap.size ≤ w.heap.size) := Lib.hid (Nat.le_refl _)
  have B := Lib.hid hB
  have BL := Lib.hid hL
  clear hB hL
  -- region 1
  go_wp2_with fail
  refine (awakeV _ (HE.out.below BL.out)).mono ?_
  rintro e W2 ⟨rfl, hb⟩
  replace B := Lib.hid (B.out.below hb)
  replace BL := Lib.hid (below_then BL.out hb)
  clear hb
  go_upto_region 2 with fail
  -- region 2, a test
  obtain ⟨b0, h⟩ : ∃ b : Bool, (shortB (⟨xk, xn, xt⟩ : Vl)) = b := ⟨_, rfl⟩
  have HA0 := Lib.hid h
  clear h
  obtain ⟨b1, h⟩ : ∃ b : Bool, (shortB (⟨yk, yn, yt⟩ : Vl)) = b := ⟨_, rfl⟩
  have HA1 := Lib.hid h
  clear h
  obtain ⟨c1, h⟩ : ∃ c : Bool, ((!b0) || (!b1)) = c := ⟨_, rfl⟩
  have HCC := Lib.hid h
  clear h
  go_upto_region 2 with fail
  go_cut [22] from 15 to 22 (fun v wx => v = .bool c1 ∧ Hid (Bxs wx [(gb3, (⟨yk, yn, yt⟩ : Vl)), (w.heap.size, (⟨xk, xn, xt⟩ : Vl))]) ∧ Hid (Below w.heap.size w wx))
  case first =>
    clear HL
    cases b0 with
    | true =>
      cases b1 with
      | true =>
        have cb2_0 : W2.cell? ⟨w.heap.size, 0, none⟩ = some (.int .i64 xk) := (B.out.get 1 rfl).c0
        have cb2_1 : W2.cell? ⟨w.heap.size, 1, none⟩ = some (.int .i64 xn) := (B.out.get 1 rfl).c1
        have cb2_2 : W2.cell? ⟨w.heap.size, 2, none⟩ = some (.string ⟨List.toArray xt⟩) := (B.out.get 1 rfl).c2
        have cb3_0 : W2.cell? ⟨gb3, 0, none⟩ = some (.int .i64 yk) := (B.out.get 0 rfl).c0
        have cb3_1 : W2.cell? ⟨gb3, 1, none⟩ = some (.int .i64 yn) := (B.out.get 0 rfl).c1
        have cb3_2 : W2.cell? ⟨gb3, 2, none⟩ = some (.string ⟨List.toArray yt⟩) := (B.out.get 0 rfl).c2
        go_wp2_with fail
        refine (short_calls xk xn xt HIx.out.2 _).mono ?_
        rw [HA0.out]
        rintro e W3 ⟨rfl, hb⟩
        clear cb2_0 cb2_1 cb2_2 cb3_0 cb3_1 cb3_2
        replace B := Lib.hid (B.out.below hb)
        replace BL := Lib.hid (below_then BL.out hb)
        clear hb
        have cb2_0 : W3.cell? ⟨w.heap.size, 0, none⟩ = some (.int .i64 xk) := (B.out.get 1 rfl).c0
        have cb2_1 : W3.cell? ⟨w.heap.size, 1, none⟩ = some (.int .i64 xn) := (B.out.get 1 rfl).c1
        have cb2_2 : W3.cell? ⟨w.heap.size, 2, none⟩ = some (.string ⟨List.toArray xt⟩) := (B.out.get 1 rfl).c2
        have cb3_0 : W3.cell? ⟨gb3, 0, none⟩ = some (.int .i64 yk) := (B.out.get 0 rfl).c0
        have cb3_1 : W3.cell? ⟨gb3, 1, none⟩ = some (.int .i64 yn) := (B.out.get 0 rfl).c1
        have cb3_2 : W3.cell? ⟨gb3, 2, none⟩ = some (.string ⟨List.toArray yt⟩) := (B.out.get 0 rfl).c2
        go_wp2_with fail
        refine (short_calls yk yn yt HIy.out.2 _).mono ?_
        rw [HA1.out]
        rintro e W4 ⟨rfl, hb⟩
        clear cb2_0 cb2_1 cb2_2 cb3_0 cb3_1 cb3_2
        replace B := Lib.hid (B.out.below hb)
        replace BL := Lib.hid (below_then BL.out hb)
        clear hb
        have cb2_0 : W4.cell? ⟨w.heap.size, 0, none⟩ = some (.int .i64 xk) := (B.out.get 1 rfl).c0
        have cb2_1 : W4.cell? ⟨w.heap.size, 1, none⟩ = some (.int .i64 xn) := (B.out.get 1 rfl).c1
        have cb2_2 : W4.cell? ⟨w.heap.size, 2, none⟩ = some (.string ⟨List.toArray xt⟩) := (B.out.get 1 rfl).c2
        have cb3_0 : W4.cell? ⟨gb3, 0, none⟩ = some (.int .i64 yk) := (B.out.get 0 rfl).c0
        have cb3_1 : W4.cell? ⟨gb3, 1, none⟩ = some (.int .i64 yn) := (B.out.get 0 rfl).c1
        have cb3_2 : W4.cell? ⟨gb3, 2, none⟩ = some (.string ⟨List.toArray yt⟩) := (B.out.get 0 rfl).c2
        go_wp2_with fail
        go_meet
        exact ⟨congrArg Value.bool HCC.out, B, BL⟩
      | false =>
        have cb2_0 : W2.cell? ⟨w.heap.size, 0, none⟩ = some (.int .i64 xk) := (B.out.get 1 rfl).c0
        have cb2_1 : W2.cell? ⟨w.heap.size, 1, none⟩ = some (.int .i64 xn) := (B.out.get 1 rfl).c1
        have cb2_2 : W2.cell? ⟨w.heap.size, 2, none⟩ = some (.string ⟨List.toArray xt⟩) := (B.out.get 1 rfl).c2
        have cb3_0 : W2.cell? ⟨gb3, 0, none⟩ = some (.int .i64 yk) := (B.out.get 0 rfl).c0
        have cb3_1 : W2.cell? ⟨gb3, 1, none⟩ = some (.int .i64 yn) := (B.out.get 0 rfl).c1
        have cb3_2 : W2.cell? ⟨gb3, 2, none⟩ = some (.string ⟨List.toArray yt⟩) := (B.out.get 0 rfl).c2
        go_wp2_with fail
        refine (short_calls xk xn xt HIx.out.2 _).mono ?_
        rw [HA0.out]
        rintro e W5 ⟨rfl, hb⟩
        clear cb2_0 cb2_1 cb2_2 cb3_0 cb3_1 cb3_2
        replace B := Lib.hid (B.out.below hb)
        replace BL := Lib.hid (below_then BL.out hb)
        clear hb
        have cb2_0 : W5.cell? ⟨w.heap.size, 0, none⟩ = some (.int .i64 xk) := (B.out.get 1 rfl).c0
        have cb2_1 : W5.cell? ⟨w.heap.size, 1, none⟩ = some (.int .i64 xn) := (B.out.get 1 rfl).c1
        have cb2_2 : W5.cell? ⟨w.heap.size, 2, none⟩ = some (.string ⟨List.toArray xt⟩) := (B.out.get 1 rfl).c2
        have cb3_0 : W5.cell? ⟨gb3, 0, none⟩ = some (.int .i64 yk) := (B.out.get 0 rfl).c0
        have cb3_1 : W5.cell? ⟨gb3, 1, none⟩ = some (.int .i64 yn) := (B.out.get 0 rfl).c1
        have cb3_2 : W5.cell? ⟨gb3, 2, none⟩ = some (.string ⟨List.toArray yt⟩) := (B.out.get 0 rfl).c2
        go_wp2_with fail
        refine (short_calls yk yn yt HIy.out.2 _).mono ?_
        rw [HA1.out]
        rintro e W6 ⟨rfl, hb⟩
        clear cb2_0 cb2_1 cb2_2 cb3_0 cb3_1 cb3_2
        replace B := Lib.hid (B.out.below hb)
        replace BL := Lib.hid (below_then BL.out hb)
        clear hb
        have cb2_0 : W6.cell? ⟨w.heap.size, 0, none⟩ = some (.int .i64 xk) := (B.out.get 1 rfl).c0
        have cb2_1 : W6.cell? ⟨w.heap.size, 1, none⟩ = some (.int .i64 xn) := (B.out.get 1 rfl).c1
        have cb2_2 : W6.cell? ⟨w.heap.size, 2, none⟩ = some (.string ⟨List.toArray xt⟩) := (B.out.get 1 rfl).c2
        have cb3_0 : W6.cell? ⟨gb3, 0, none⟩ = some (.int .i64 yk) := (B.out.get 0 rfl).c0
        have cb3_1 : W6.cell? ⟨gb3, 1, none⟩ = some (.int .i64 yn) := (B.out.get 0 rfl).c1
        have cb3_2 : W6.cell? ⟨gb3, 2, none⟩ = some (.string ⟨List.toArray yt⟩) := (B.out.get 0 rfl).c2
        go_wp2_with fail
        go_meet
        exact ⟨congrArg Value.bool HCC.out, B, BL⟩
    | false =>
      have cb2_0 : W2.cell? ⟨w.heap.size, 0, none⟩ = some (.int .i64 xk) := (B.out.get 1 rfl).c0
      have cb2_1 : W2.cell? ⟨w.heap.size, 1, none⟩ = some (.int .i64 xn) := (B.out.get 1 rfl).c1
      have cb2_2 : W2.cell? ⟨w.heap.size, 2, none⟩ = some (.string ⟨List.toArray xt⟩) := (B.out.get 1 rfl).c2
      go_wp2_with fail
      refine (short_calls xk xn xt HIx.out.2 _).mono ?_
      rw [HA0.out]
      rintro e W7 ⟨rfl, hb⟩
      clear cb2_0 cb2_1 cb2_2
      replace B := Lib.hid (B.out.below hb)
      replace BL := Lib.hid (below_then BL.out hb)
      clear hb
      have cb2_0 : W7.cell? ⟨w.heap.size, 0, none⟩ = some (.int .i64 xk) := (B.out.get 1 rfl).c0
      have cb2_1 : W7.cell? ⟨w.heap.size, 1, none⟩ = some (.int .i64 xn) := (B.out.get 1 rfl).c1
      have cb2_2 : W7.cell? ⟨w.heap.size, 2, none⟩ = some (.string ⟨List.toArray xt⟩) := (B.out.get 1 rfl).c2
      go_wp2_with fail
      go_meet
      exact ⟨congrArg Value.bool HCC.out, B, BL⟩
  case rest =>
    clear B BL
    obtain ⟨rfl, B, BL⟩ := hcut
    obtain ⟨W8, hW⟩ : ∃ X, wc = X := ⟨_, rfl⟩
    rw [hW] at B BL ⊢
    clear hW
    have HCW : Hid (((!(shortB (⟨xk, xn, xt⟩ : Vl))) || (!(shortB (⟨yk, yn, yt⟩ : Vl)))) = c1) := Lib.hid (by rw [HA0.out, HA1.out]; exact HCC.out)
    clear HCC HA0 HA1
    cases c1 with
    | true =>
      replace HL := Lib.hid (show true = BigSums_s0 (⟨xk, xn, xt⟩ : Vl) (⟨yk, yn, yt⟩ : Vl) from HL.out.trans (if_pos HCW.out))
      go_wp2_with fail
      go_ret
      exact ⟨rfl, BL.out⟩
    | false =>
      have HOx : Hid (Vl.ok (⟨xk, xn, xt⟩ : Vl)) := Lib.hid ⟨HIx.out.1, by have h := HCW.out; simp [shortB] at h; show xt.length ≤ 100000; omega⟩
      have HOy : Hid (Vl.ok (⟨yk, yn, yt⟩ : Vl)) := Lib.hid ⟨HIy.out.1, by have h := HCW.out; simp [shortB] at h; show yt.length ≤ 100000; omega⟩
      replace HL := Lib.hid (show true = BigSums_s13 (⟨xk, xn, xt⟩ : Vl) (⟨yk, yn, yt⟩ : Vl) from HL.out.trans ((if_neg (fun h => Bool.noConfusion (HCW.out.symm.trans h)))))
      -- region 4
      have cb2_0 : W8.cell? ⟨w.heap.size, 0, none⟩ = some (.int .i64 xk) := (B.out.get 1 rfl).c0
      have cb2_1 : W8.cell? ⟨w.heap.size, 1, none⟩ = some (.int .i64 xn) := (B.out.get 1 rfl).c1
      have cb2_2 : W8.cell? ⟨w.heap.size, 2, none⟩ = some (.string ⟨List.toArray xt⟩) := (B.out.get 1 rfl).c2
      have cb3_0 : W8.cell? ⟨gb3, 0, none⟩ = some (.int .i64 yk) := (B.out.get 0 rfl).c0
      have cb3_1 : W8.cell? ⟨gb3, 1, none⟩ = some (.int .i64 yn) := (B.out.get 0 rfl).c1
      have cb3_2 : W8.cell? ⟨gb3, 2, none⟩ = some (.string ⟨List.toArray yt⟩) := (B.out.get 0 rfl).c2
      obtain ⟨⟨⟨r0k, r0n, r0t⟩, r0e⟩, hr0⟩ : ∃ p, addR (⟨xk, xn, xt⟩ : Vl) (⟨yk, yn, yt⟩ : Vl) = p := ⟨_, rfl⟩
      have hc0 := fun (W : World) (hW : Env W) => add_pub (⟨xk, xn, xt⟩ : Vl) (⟨yk, yn, yt⟩ : Vl) HOx.out HOy.out W hW
      have ho0 := addR_ok (⟨xk, xn, xt⟩ : Vl) (⟨yk, yn, yt⟩ : Vl)
      rw [hr0] at hc0 ho0
      simp only [Vl.val, pr] at hc0
      have HC0 := Lib.hid hc0; have HOr0 : Hid (Vl.ok ⟨r0k, r0n, r0t⟩) := Lib.hid ho0; have HR0 := Lib.hid hr0
      clear hc0 ho0 hr0
      go_wp2_with fail
      refine (HC0.out _ (HE.out.below BL.out)).mono ?_
      rintro e W9 ⟨rfl, hb⟩
      clear cb2_0 cb2_1 cb2_2 cb3_0 cb3_1 cb3_2
      replace B := Lib.hid (B.out.below hb)
      replace BL := Lib.hid (below_then BL.out hb)
      clear hb
      go_upto_region 5 with fail
      have hB : Bxs (W9.alloc (.cells #[.int .i64 r0k, .int .i64 r0n, .string ⟨List.toArray r0t⟩] 23)) ((W9.heap.size, (⟨r0k, r0n, r0t⟩ : Vl)) :: [(gb3, (⟨yk, yn, yt⟩ : Vl)), (w.heap.size, (⟨xk, xn, xt⟩ : Vl))]) := B.out.push (⟨r0k, r0n, r0t⟩ : Vl) 23
      have hL : Below w.heap.size w (W9.alloc (.cells #[.int .i64 r0k, .int .i64 r0n, .string ⟨List.toArray r0t⟩] 23)) := BL.out.alloc BL.out.size _
      obtain ⟨W10, hW⟩ : ∃ X, W9.alloc (.cells #[.int .i64 r0k, .int .i64 r0n, .string ⟨List.toArray r0t⟩] 23) = X := ⟨_, rfl⟩
      obtain ⟨g0, hg⟩ : ∃ g, W9.heap.size = g := ⟨_, rfl⟩
      rw [hW] at hB hL ⊢
      rw [hg] at hB ⊢
      have HGb6_4_1 : Hid (w.heap.size ≤ g0) := Lib.hid (by rw [← hg]; exact BL.out.size)
      replace B := Lib.hid hB
      replace BL := Lib.hid hL
      clear hB hL hW hg
      replace HL := Lib.hid (show true = BigSums_s12 (⟨xk, xn, xt⟩ : Vl) (⟨yk, yn, yt⟩ : Vl) ((⟨r0k, r0n, r0t⟩, r0e) : Vl × Int) from HL.out.trans (by unfold BigSums_s13; rw [HR0.out]))
      -- region 5
      have cb2_0 : W10.cell? ⟨w.heap.size, 0, none⟩ = some (.int .i64 xk) := (B.out.get 2 rfl).c0
      have cb2_1 : W10.cell? ⟨w.heap.size, 1, none⟩ = some (.int .i64 xn) := (B.out.get 2 rfl).c1
      have cb2_2 : W10.cell? ⟨w.heap.size, 2, none⟩ = some (.string ⟨List.toArray xt⟩) := (B.out.get 2 rfl).c2
      have cb3_0 : W10.cell? ⟨gb3, 0, none⟩ = some (.int .i64 yk) := (B.out.get 1 rfl).c0
      have cb3_1 : W10.cell? ⟨gb3, 1, none⟩ = some (.int .i64 yn) := (B.out.get 1 rfl).c1
      have cb3_2 : W10.cell? ⟨gb3, 2, none⟩ = some (.string ⟨List.toArray yt⟩) := (B.out.get 1 rfl).c2
      obtain ⟨⟨⟨r1k, r1n, r1t⟩, r1e⟩, hr1⟩ : ∃ p, addR (⟨xk, xn, xt⟩ : Vl) (⟨yk, yn, yt⟩ : Vl) = p := ⟨_, rfl⟩
      have hc1 := fun (W : World) (hW : Env W) => radd_pub (⟨xk, xn, xt⟩ : Vl) (⟨yk, yn, yt⟩ : Vl) HOx.out HOy.out W hW
      have ho1 := addR_ok (⟨xk, xn, xt⟩ : Vl) (⟨yk, yn, yt⟩ : Vl)
      rw [hr1] at hc1 ho1
      simp only [Vl.val, pr] at hc1
      have HC1 := Lib.hid hc1; have HOr1 : Hid (Vl.ok ⟨r1k, r1n, r1t⟩) := Lib.hid ho1; have HR1 := Lib.hid hr1
      clear hc1 ho1 hr1
      go_wp2_with fail
      refine (HC1.out _ (HE.out.below BL.out)).mono ?_
      rintro e W11 ⟨rfl, hb⟩
      clear cb2_0 cb2_1 cb2_2 cb3_0 cb3_1 cb3_2
      replace B := Lib.hid (B.out.below hb)
      replace BL := Lib.hid (below_then BL.out hb)
      clear hb
      go_upto_region 6 with fail
      have hB : Bxs (W11.alloc (.cells #[.int .i64 r1k, .int .i64 r1n, .string ⟨List.toArray r1t⟩] 23)) ((W11.heap.size, (⟨r1k, r1n, r1t⟩ : Vl)) :: [(g0, (⟨r0k, r0n, r0t⟩ : Vl)), (gb3, (⟨yk, yn, yt⟩ : Vl)), (w.heap.size, (⟨xk, xn, xt⟩ : Vl))]) := B.out.push (⟨r1k, r1n, r1t⟩ : Vl) 23
      have hL : Below w.heap.size w (W11.alloc (.cells #[.int .i64 r1k, .int .i64 r1n, .string ⟨List.toArray r1t⟩] 23)) := BL.out.alloc BL.out.size _
      obtain ⟨W12, hW⟩ : ∃ X, W11.alloc (.cells #[.int .i64 r1k, .int .i64 r1n, .string ⟨List.toArray r1t⟩] 23) = X := ⟨_, rfl⟩
      obtain ⟨g1, hg⟩ : ∃ g, W11.heap.size = g := ⟨_, rfl⟩
      rw [hW] at hB hL ⊢
      rw [hg] at hB ⊢
      have HGb8_5_2 : Hid (w.heap.size ≤ g1) := Lib.hid (by rw [← hg]; exact BL.out.size)
      replace B := Lib.hid hB
      replace BL := Lib.hid hL
      clear hB hL hW hg
      replace HL := Lib.hid (show true = BigSums_s11 (⟨xk, xn, xt⟩ : Vl) (⟨yk, yn, yt⟩ : Vl) ((⟨r0k, r0n, r0t⟩, r0e) : Vl × Int) ((⟨r1k, r1n, r1t⟩, r1e) : Vl × Int) from HL.out.trans (by unfold BigSums_s12; rw [HR1.out]))
      -- region 6, a test
      obtain ⟨b2, h⟩ : ∃ b : Bool, (veqB r0k r0n r0t r1k r1n r1t) = b := ⟨_, rfl⟩
      have HA2 := Lib.hid h
      clear h
      obtain ⟨b3, h⟩ : ∃ b : Bool, (r0e == r1e) = b := ⟨_, rfl⟩
      have HA3 := Lib.hid h
      clear h
      have HCF : ((!(veqB r0k r0n r0t r1k r1n r1t)) || (!(r0e == r1e))) = false := Bool.eq_false_iff.2 fun h => Bool.noConfusion (show true = false from HL.out.trans (if_pos h))
      have HCB : ((!b2) || (!b3)) = false := by
        have h := HCF
        rw [HA2.out, HA3.out] at h
        exact h
      have HCW := Lib.hid HCF
      have HCC := Lib.hid HCB
      clear HCF HCB
      go_upto_region 6 with fail
      go_cut [43] from 36 to 43 (fun v wx => v = .bool false ∧ Hid (Bxs wx [(g1, (⟨r1k, r1n, r1t⟩ : Vl)), (g0, (⟨r0k, r0n, r0t⟩ : Vl)), (gb3, (⟨yk, yn, yt⟩ : Vl)), (w.heap.size, (⟨xk, xn, xt⟩ : Vl))]) ∧ Hid (Below w.heap.size w wx))
      case first =>
        clear HL
        cases b2 with
        | true =>
          cases b3 with
          | true =>
            have f0_0 : (veqB r0k r0n r0t r1k r1n r1t) = true := HA2.out
            have f1_0 : ((r0e : Int) == r1e) = true := HA3.out
            have f1_1 : ((r0e : Int) != r1e) = false := by have h := HA3.out; simpa using h
            have cb6_4_1_0 : W12.cell? ⟨g0, 0, none⟩ = some (.int .i64 r0k) := (B.out.get 1 rfl).c0
            have cb6_4_1_1 : W12.cell? ⟨g0, 1, none⟩ = some (.int .i64 r0n) := (B.out.get 1 rfl).c1
            have cb6_4_1_2 : W12.cell? ⟨g0, 2, none⟩ = some (.string ⟨List.toArray r0t⟩) := (B.out.get 1 rfl).c2
            have cb8_5_2_0 : W12.cell? ⟨g1, 0, none⟩ = some (.int .i64 r1k) := (B.out.get 0 rfl).c0
            have cb8_5_2_1 : W12.cell? ⟨g1, 1, none⟩ = some (.int .i64 r1n) := (B.out.get 0 rfl).c1
            have cb8_5_2_2 : W12.cell? ⟨g1, 2, none⟩ = some (.string ⟨List.toArray r1t⟩) := (B.out.get 0 rfl).c2
            go_wp2_with fail
            go_meet
            exact ⟨rfl, B, BL⟩
          | false =>
            exact Bool.noConfusion (show true = false from HCC.out)
        | false =>
          exact Bool.noConfusion (show true = false from HCC.out)
      case rest =>
        clear B BL
        obtain ⟨rfl, B, BL⟩ := hcut
        obtain ⟨W13, hW⟩ : ∃ X, wc = X := ⟨_, rfl⟩
        rw [hW] at B BL ⊢
        clear hW
        clear HCC HA2 HA3
        replace HL := Lib.hid (show true = BigSums_s10 (⟨xk, xn, xt⟩ : Vl) (⟨yk, yn, yt⟩ : Vl) ((⟨r0k, r0n, r0t⟩, r0e) : Vl × Int) ((⟨r1k, r1n, r1t⟩, r1e) : Vl × Int) from HL.out.trans ((if_neg (fun h => Bool.noConfusion (HCW.out.symm.trans h)))))
        -- region 8
        have cb2_0 : W13.cell? ⟨w.heap.size, 0, none⟩ = some (.int .i64 xk) := (B.out.get 3 rfl).c0
        have cb2_1 : W13.cell? ⟨w.heap.size, 1, none⟩ = some (.int .i64 xn) := (B.out.get 3 rfl).c1
        have cb2_2 : W13.cell? ⟨w.heap.size, 2, none⟩ = some (.string ⟨List.toArray xt⟩) := (B.out.get 3 rfl).c2
        have cb3_0 : W13.cell? ⟨gb3, 0, none⟩ = some (.int .i64 yk) := (B.out.get 2 rfl).c0
        have cb3_1 : W13.cell? ⟨gb3, 1, none⟩ = some (.int .i64 yn) := (B.out.get 2 rfl).c1
        have cb3_2 : W13.cell? ⟨gb3, 2, none⟩ = some (.string ⟨List.toArray yt⟩) := (B.out.get 2 rfl).c2
        obtain ⟨⟨⟨r2k, r2n, r2t⟩, r2e⟩, hr2⟩ : ∃ p, subR (⟨xk, xn, xt⟩ : Vl) (⟨yk, yn, yt⟩ : Vl) = p := ⟨_, rfl⟩
        have hc2 := fun (W : World) (hW : Env W) => sub_pub (⟨xk, xn, xt⟩ : Vl) (⟨yk, yn, yt⟩ : Vl) HOx.out HOy.out W hW
        have ho2 := subR_ok (⟨xk, xn, xt⟩ : Vl) (⟨yk, yn, yt⟩ : Vl)
        rw [hr2] at hc2 ho2
        simp only [Vl.val, pr] at hc2
        have HC2 := Lib.hid hc2; have HOr2 : Hid (Vl.ok ⟨r2k, r2n, r2t⟩) := Lib.hid ho2; have HR2 := Lib.hid hr2
        clear hc2 ho2 hr2
        go_wp2_with fail
        refine (HC2.out _ (HE.out.below BL.out)).mono ?_
        rintro e W14 ⟨rfl, hb⟩
        clear cb2_0 cb2_1 cb2_2 cb3_0 cb3_1 cb3_2
        replace B := Lib.hid (B.out.below hb)
        replace BL := Lib.hid (below_then BL.out hb)
        clear hb
        have cb6_4_1_0 : W14.cell? ⟨g0, 0, none⟩ = some (.int .i64 r0k) := (B.out.get 1 rfl).c0
        have cb6_4_1_1 : W14.cell? ⟨g0, 1, none⟩ = some (.int .i64 r0n) := (B.out.get 1 rfl).c1
        have cb6_4_1_2 : W14.cell? ⟨g0, 2, none⟩ = some (.string ⟨List.toArray r0t⟩) := (B.out.get 1 rfl).c2
        have zb6_4_1_0 : W14.frozen? ⟨g0, 0, none⟩ = false := (B.out.get 1 rfl).f0
        have zb6_4_1_1 : W14.frozen? ⟨g0, 1, none⟩ = false := (B.out.get 1 rfl).f1
        have zb6_4_1_2 : W14.frozen? ⟨g0, 2, none⟩ = false := (B.out.get 1 rfl).f2
        have zb6_4_1_l : g0 < W14.heap.size := (B.out.get 1 rfl).lt
        go_upto_region 9 with fail
        clear cb6_4_1_0 cb6_4_1_1 cb6_4_1_2 zb6_4_1_0 zb6_4_1_1 zb6_4_1_2 zb6_4_1_l
        have hB : Bxs (((W14.setCell ⟨g0, 0, none⟩ (.int .i64 r2k)).setCell ⟨g0, 1, none⟩ (.int .i64 r2n)).setCell ⟨g0, 2, none⟩ (.string ⟨List.toArray r2t⟩)) [(g1, (⟨r1k, r1n, r1t⟩ : Vl)), (g0, (⟨r2k, r2n, r2t⟩ : Vl)), (gb3, (⟨yk, yn, yt⟩ : Vl)), (w.heap.size, (⟨xk, xn, xt⟩ : Vl))] := B.out.put (b := (⟨r2k, r2n, r2t⟩ : Vl)) 1 rfl
        have hL : Below w.heap.size w (((W14.setCell ⟨g0, 0, none⟩ (.int .i64 r2k)).setCell ⟨g0, 1, none⟩ (.int .i64 r2n)).setCell ⟨g0, 2, none⟩ (.string ⟨List.toArray r2t⟩)) := below_putV BL.out HGb6_4_1.out (⟨r2k, r2n, r2t⟩ : Vl)
        obtain ⟨W15, hW⟩ : ∃ X, ((W14.setCell ⟨g0, 0, none⟩ (.int .i64 r2k)).setCell ⟨g0, 1, none⟩ (.int .i64 r2n)).setCell ⟨g0, 2, none⟩ (.string ⟨List.toArray r2t⟩) = X := ⟨_, rfl⟩
        rw [hW] at hB hL ⊢
        replace B := Lib.hid hB
        replace BL := Lib.hid hL
        clear hB hL hW
        replace HL := Lib.hid (show true = BigSums_s9 (⟨xk, xn, xt⟩ : Vl) (⟨yk, yn, yt⟩ : Vl) ((⟨r0k, r0n, r0t⟩, r0e) : Vl × Int) ((⟨r1k, r1n, r1t⟩, r1e) : Vl × Int) ((⟨r2k, r2n, r2t⟩, r2e) : Vl × Int) from HL.out.trans (by unfold BigSums_s10; rw [HR2.out]))
        -- region 9
        have cb2_0 : W15.cell? ⟨w.heap.size, 0, none⟩ = some (.int .i64 xk) := (B.out.get 3 rfl).c0
        have cb2_1 : W15.cell? ⟨w.heap.size, 1, none⟩ = some (.int .i64 xn) := (B.out.get 3 rfl).c1
        have cb2_2 : W15.cell? ⟨w.heap.size, 2, none⟩ = some (.string ⟨List.toArray xt⟩) := (B.out.get 3 rfl).c2
        have cb3_0 : W15.cell? ⟨gb3, 0, none⟩ = some (.int .i64 yk) := (B.out.get 2 rfl).c0
        have cb3_1 : W15.cell? ⟨gb3, 1, none⟩ = some (.int .i64 yn) := (B.out.get 2 rfl).c1
        have cb3_2 : W15.cell? ⟨gb3, 2, none⟩ = some (.string ⟨List.toArray yt⟩) := (B.out.get 2 rfl).c2
        obtain ⟨⟨⟨r3k, r3n, r3t⟩, r3e⟩, hr3⟩ : ∃ p, subR (⟨xk, xn, xt⟩ : Vl) (⟨yk, yn, yt⟩ : Vl) = p := ⟨_, rfl⟩
        have hc3 := fun (W : World) (hW : Env W) => rsub_pub (⟨xk, xn, xt⟩ : Vl) (⟨yk, yn, yt⟩ : Vl) HOx.out HOy.out W hW
        have ho3 := subR_ok (⟨xk, xn, xt⟩ : Vl) (⟨yk, yn, yt⟩ : Vl)
        rw [hr3] at hc3 ho3
        simp only [Vl.val, pr] at hc3
        have HC3 := Lib.hid hc3; have HOr3 : Hid (Vl.ok ⟨r3k, r3n, r3t⟩) := Lib.hid ho3; have HR3 := Lib.hid hr3
        clear hc3 ho3 hr3
        go_wp2_with fail
        refine (HC3.out _ (HE.out.below BL.out)).mono ?_
        rintro e W16 ⟨rfl, hb⟩
        clear cb2_0 cb2_1 cb2_2 cb3_0 cb3_1 cb3_2
        replace B := Lib.hid (B.out.below hb)
        replace BL := Lib.hid (below_then BL.out hb)
        clear hb
        have cb8_5_2_0 : W16.cell? ⟨g1, 0, none⟩ = some (.int .i64 r1k) := (B.out.get 0 rfl).c0
        have cb8_5_2_1 : W16.cell? ⟨g1, 1, none⟩ = some (.int .i64 r1n) := (B.out.get 0 rfl).c1
        have cb8_5_2_2 : W16.cell? ⟨g1, 2, none⟩ = some (.string ⟨List.toArray r1t⟩) := (B.out.get 0 rfl).c2
        have zb8_5_2_0 : W16.frozen? ⟨g1, 0, none⟩ = false := (B.out.get 0 rfl).f0
        have zb8_5_2_1 : W16.frozen? ⟨g1, 1, none⟩ = false := (B.out.get 0 rfl).f1
        have zb8_5_2_2 : W16.frozen? ⟨g1, 2, none⟩ = false := (B.out.get 0 rfl).f2
        have zb8_5_2_l : g1 < W16.heap.size := (B.out.get 0 rfl).lt
        go_upto_region 10 with fail
        clear cb8_5_2_0 cb8_5_2_1 cb8_5_2_2 zb8_5_2_0 zb8_5_2_1 zb8_5_2_2 zb8_5_2_l
        have hB : Bxs (((W16.setCell ⟨g1, 0, none⟩ (.int .i64 r3k)).setCell ⟨g1, 1, none⟩ (.int .i64 r3n)).setCell ⟨g1, 2, none⟩ (.string ⟨List.toArray r3t⟩)) [(g1, (⟨r3k, r3n, r3t⟩ : Vl)), (g0, (⟨r2k, r2n, r2t⟩ : Vl)), (gb3, (⟨yk, yn, yt⟩ : Vl)), (w.heap.size, (⟨xk, xn, xt⟩ : Vl))] := B.out.put (b := (⟨r3k, r3n, r3t⟩ : Vl)) 0 rfl
        have hL : Below w.heap.size w (((W16.setCell ⟨g1, 0, none⟩ (.int .i64 r3k)).setCell ⟨g1, 1, none⟩ (.int .i64 r3n)).setCell ⟨g1, 2, none⟩ (.string ⟨List.toArray r3t⟩)) := below_putV BL.out HGb8_5_2.out (⟨r3k, r3n, r3t⟩ : Vl)
        obtain ⟨W17, hW⟩ : ∃ X, ((W16.setCell ⟨g1, 0, none⟩ (.int .i64 r3k)).setCell ⟨g1, 1, none⟩ (.int .i64 r3n)).setCell ⟨g1, 2, none⟩ (.string ⟨List.toArray r3t⟩) = X := ⟨_, rfl⟩
        rw [hW] at hB hL ⊢
        replace B := Lib.hid hB
        replace BL := Lib.hid hL
        clear hB hL hW
        replace HL := Lib.hid (show true = BigSums_s8 (⟨xk, xn, xt⟩ : Vl) (⟨yk, yn, yt⟩ : Vl) ((⟨r0k, r0n, r0t⟩, r0e) : Vl × Int) ((⟨r1k, r1n, r1t⟩, r1e) : Vl × Int) ((⟨r2k, r2n, r2t⟩, r2e) : Vl × Int) ((⟨r3k, r3n, r3t⟩, r3e) : Vl × Int) from HL.out.trans (by unfold BigSums_s9; rw [HR3.out]))
        -- region 10, a test
        obtain ⟨b4, h⟩ : ∃ b : Bool, (veqB r2k r2n r2t r3k r3n r3t) = b := ⟨_, rfl⟩
        have HA4 := Lib.hid h
        clear h
        obtain ⟨b5, h⟩ : ∃ b : Bool, (r2e == r3e) = b := ⟨_, rfl⟩
        have HA5 := Lib.hid h
        clear h
        have HCF : ((!(veqB r2k r2n r2t r3k r3n r3t)) || (!(r2e == r3e))) = false := Bool.eq_false_iff.2 fun h => Bool.noConfusion (show true = false from HL.out.trans (if_pos h))
        have HCB : ((!b4) || (!b5)) = false := by
          have h := HCF
          rw [HA4.out, HA5.out] at h
          exact h
        have HCW := Lib.hid HCF
        have HCC := Lib.hid HCB
        clear HCF HCB
        go_upto_region 10 with fail
        go_cut [63] from 56 to 63 (fun v wx => v = .bool false ∧ Hid (Bxs wx [(g1, (⟨r3k, r3n, r3t⟩ : Vl)), (g0, (⟨r2k, r2n, r2t⟩ : Vl)), (gb3, (⟨yk, yn, yt⟩ : Vl)), (w.heap.size, (⟨xk, xn, xt⟩ : Vl))]) ∧ Hid (Below w.heap.size w wx))
        case first =>
          clear HL
          cases b4 with
          | true =>
            cases b5 with
            | true =>
              have f0_0 : (veqB r2k r2n r2t r3k r3n r3t) = true := HA4.out
              have f1_0 : ((r2e : Int) == r3e) = true := HA5.out
              have f1_1 : ((r2e : Int) != r3e) = false := by have h := HA5.out; simpa using h
              have cb6_4_1_0 : W17.cell? ⟨g0, 0, none⟩ = some (.int .i64 r2k) := (B.out.get 1 rfl).c0
              have cb6_4_1_1 : W17.cell? ⟨g0, 1, none⟩ = some (.int .i64 r2n) := (B.out.get 1 rfl).c1
              have cb6_4_1_2 : W17.cell? ⟨g0, 2, none⟩ = some (.string ⟨List.toArray r2t⟩) := (B.out.get 1 rfl).c2
              have cb8_5_2_0 : W17.cell? ⟨g1, 0, none⟩ = some (.int .i64 r3k) := (B.out.get 0 rfl).c0
              have cb8_5_2_1 : W17.cell? ⟨g1, 1, none⟩ = some (.int .i64 r3n) := (B.out.get 0 rfl).c1
              have cb8_5_2_2 : W17.cell? ⟨g1, 2, none⟩ = some (.string ⟨List.toArray r3t⟩) := (B.out.get 0 rfl).c2
              go_wp2_with fail
              go_meet
              exact ⟨rfl, B, BL⟩
            | false =>
              exact Bool.noConfusion (show true = false from HCC.out)
          | false =>
            exact Bool.noConfusion (show true = false from HCC.out)
        case rest =>
          clear B BL
          obtain ⟨rfl, B, BL⟩ := hcut
          obtain ⟨W18, hW⟩ : ∃ X, wc = X := ⟨_, rfl⟩
          rw [hW] at B BL ⊢
          clear hW
          clear HCC HA4 HA5
          replace HL := Lib.hid (show true = BigSums_s7 (⟨xk, xn, xt⟩ : Vl) (⟨yk, yn, yt⟩ : Vl) ((⟨r0k, r0n, r0t⟩, r0e) : Vl × Int) ((⟨r1k, r1n, r1t⟩, r1e) : Vl × Int) ((⟨r2k, r2n, r2t⟩, r2e) : Vl × Int) ((⟨r3k, r3n, r3t⟩, r3e) : Vl × Int) from HL.out.trans ((if_neg (fun h => Bool.noConfusion (HCW.out.symm.trans h)))))
          -- region 12
          have cb2_0 : W18.cell? ⟨w.heap.size, 0, none⟩ = some (.int .i64 xk) := (B.out.get 3 rfl).c0
          have cb2_1 : W18.cell? ⟨w.heap.size, 1, none⟩ = some (.int .i64 xn) := (B.out.get 3 rfl).c1
          have cb2_2 : W18.cell? ⟨w.heap.size, 2, none⟩ = some (.string ⟨List.toArray xt⟩) := (B.out.get 3 rfl).c2
          have cb3_0 : W18.cell? ⟨gb3, 0, none⟩ = some (.int .i64 yk) := (B.out.get 2 rfl).c0
          have cb3_1 : W18.cell? ⟨gb3, 1, none⟩ = some (.int .i64 yn) := (B.out.get 2 rfl).c1
          have cb3_2 : W18.cell? ⟨gb3, 2, none⟩ = some (.string ⟨List.toArray yt⟩) := (B.out.get 2 rfl).c2
          obtain ⟨⟨⟨r4k, r4n, r4t⟩, r4e⟩, hr4⟩ : ∃ p, mulR (⟨xk, xn, xt⟩ : Vl) (⟨yk, yn, yt⟩ : Vl) = p := ⟨_, rfl⟩
          have hc4 := fun (W : World) (hW : Env W) => mul_pub (⟨xk, xn, xt⟩ : Vl) (⟨yk, yn, yt⟩ : Vl) HOx.out HOy.out W hW
          have ho4 := mulR_ok (⟨xk, xn, xt⟩ : Vl) (⟨yk, yn, yt⟩ : Vl)
          rw [hr4] at hc4 ho4
          simp only [Vl.val, pr] at hc4
          have HC4 := Lib.hid hc4; have HOr4 : Hid (Vl.ok ⟨r4k, r4n, r4t⟩) := Lib.hid ho4; have HR4 := Lib.hid hr4
          clear hc4 ho4 hr4
          go_wp2_with fail
          refine (HC4.out _ (HE.out.below BL.out)).mono ?_
          rintro e W19 ⟨rfl, hb⟩
          clear cb2_0 cb2_1 cb2_2 cb3_0 cb3_1 cb3_2
          replace B := Lib.hid (B.out.below hb)
          replace BL := Lib.hid (below_then BL.out hb)
          clear hb
          have cb6_4_1_0 : W19.cell? ⟨g0, 0, none⟩ = some (.int .i64 r2k) := (B.out.get 1 rfl).c0
          have cb6_4_1_1 : W19.cell? ⟨g0, 1, none⟩ = some (.int .i64 r2n) := (B.out.get 1 rfl).c1
          have cb6_4_1_2 : W19.cell? ⟨g0, 2, none⟩ = some (.string ⟨List.toArray r2t⟩) := (B.out.get 1 rfl).c2
          have zb6_4_1_0 : W19.frozen? ⟨g0, 0, none⟩ = false := (B.out.get 1 rfl).f0
          have zb6_4_1_1 : W19.frozen? ⟨g0, 1, none⟩ = false := (B.out.get 1 rfl).f1
          have zb6_4_1_2 : W19.frozen? ⟨g0, 2, none⟩ = false := (B.out.get 1 rfl).f2
          have zb6_4_1_l : g0 < W19.heap.size := (B.out.get 1 rfl).lt
          go_upto_region 13 with fail
          clear cb6_4_1_0 cb6_4_1_1 cb6_4_1_2 zb6_4_1_0 zb6_4_1_1 zb6_4_1_2 zb6_4_1_l
          have hB : Bxs (((W19.setCell ⟨g0, 0, none⟩ (.int .i64 r4k)).setCell ⟨g0, 1, none⟩ (.int .i64 r4n)).setCell ⟨g0, 2, none⟩ (.string ⟨List.toArray r4t⟩)) [(g1, (⟨r3k, r3n, r3t⟩ : Vl)), (g0, (⟨r4k, r4n, r4t⟩ : Vl)), (gb3, (⟨yk, yn, yt⟩ : Vl)), (w.heap.size, (⟨xk, xn, xt⟩ : Vl))] := B.out.put (b := (⟨r4k, r4n, r4t⟩ : Vl)) 1 rfl
          have hL : Below w.heap.size w (((W19.setCell ⟨g0, 0, none⟩ (.int .i64 r4k)).setCell ⟨g0, 1, none⟩ (.int .i64 r4n)).setCell ⟨g0, 2, none⟩ (.string ⟨List.toArray r4t⟩)) := below_putV BL.out HGb6_4_1.out (⟨r4k, r4n, r4t⟩ : Vl)
          obtain ⟨W20, hW⟩ : ∃ X, ((W19.setCell ⟨g0, 0, none⟩ (.int .i64 r4k)).setCell ⟨g0, 1, none⟩ (.int .i64 r4n)).setCell ⟨g0, 2, none⟩ (.string ⟨List.toArray r4t⟩) = X := ⟨_, rfl⟩
          rw [hW] at hB hL ⊢
          replace B := Lib.hid hB
          replace BL := Lib.hid hL
          clear hB hL hW
          replace HL := Lib.hid (show true = BigSums_s6 (⟨xk, xn, xt⟩ : Vl) (⟨yk, yn, yt⟩ : Vl) ((⟨r0k, r0n, r0t⟩, r0e) : Vl × Int) ((⟨r1k, r1n, r1t⟩, r1e) : Vl × Int) ((⟨r2k, r2n, r2t⟩, r2e) : Vl × Int) ((⟨r3k, r3n, r3t⟩, r3e) : Vl × Int) ((⟨r4k, r4n, r4t⟩, r4e) : Vl × Int) from HL.out.trans (by unfold BigSums_s7; rw [HR4.out]))
          -- region 13
          have cb2_0 : W20.cell? ⟨w.heap.size, 0, none⟩ = some (.int .i64 xk) := (B.out.get 3 rfl).c0
          have cb2_1 : W20.cell? ⟨w.heap.size, 1, none⟩ = some (.int .i64 xn) := (B.out.get 3 rfl).c1
          have cb2_2 : W20.cell? ⟨w.heap.size, 2, none⟩ = some (.string ⟨List.toArray xt⟩) := (B.out.get 3 rfl).c2
          have cb3_0 : W20.cell? ⟨gb3, 0, none⟩ = some (.int .i64 yk) := (B.out.get 2 rfl).c0
          have cb3_1 : W20.cell? ⟨gb3, 1, none⟩ = some (.int .i64 yn) := (B.out.get 2 rfl).c1
          have cb3_2 : W20.cell? ⟨gb3, 2, none⟩ = some (.string ⟨List.toArray yt⟩) := (B.out.get 2 rfl).c2
          obtain ⟨⟨⟨r5k, r5n, r5t⟩, r5e⟩, hr5⟩ : ∃ p, mulR (⟨xk, xn, xt⟩ : Vl) (⟨yk, yn, yt⟩ : Vl) = p := ⟨_, rfl⟩
          have hc5 := fun (W : World) (hW : Env W) => rmul_pub (⟨xk, xn, xt⟩ : Vl) (⟨yk, yn, yt⟩ : Vl) HOx.out HOy.out W hW
          have ho5 := mulR_ok (⟨xk, xn, xt⟩ : Vl) (⟨yk, yn, yt⟩ : Vl)
          rw [hr5] at hc5 ho5
          simp only [Vl.val, pr] at hc5
          have HC5 := Lib.hid hc5; have HOr5 : Hid (Vl.ok ⟨r5k, r5n, r5t⟩) := Lib.hid ho5; have HR5 := Lib.hid hr5
          clear hc5 ho5 hr5
          go_wp2_with fail
          refine (HC5.out _ (HE.out.below BL.out)).mono ?_
          rintro e W21 ⟨rfl, hb⟩
          clear cb2_0 cb2_1 cb2_2 cb3_0 cb3_1 cb3_2
          replace B := Lib.hid (B.out.below hb)
          replace BL := Lib.hid (below_then BL.out hb)
          clear hb
          have cb8_5_2_0 : W21.cell? ⟨g1, 0, none⟩ = some (.int .i64 r3k) := (B.out.get 0 rfl).c0
          have cb8_5_2_1 : W21.cell? ⟨g1, 1, none⟩ = some (.int .i64 r3n) := (B.out.get 0 rfl).c1
          have cb8_5_2_2 : W21.cell? ⟨g1, 2, none⟩ = some (.string ⟨List.toArray r3t⟩) := (B.out.get 0 rfl).c2
          have zb8_5_2_0 : W21.frozen? ⟨g1, 0, none⟩ = false := (B.out.get 0 rfl).f0
          have zb8_5_2_1 : W21.frozen? ⟨g1, 1, none⟩ = false := (B.out.get 0 rfl).f1
          have zb8_5_2_2 : W21.frozen? ⟨g1, 2, none⟩ = false := (B.out.get 0 rfl).f2
          have zb8_5_2_l : g1 < W21.heap.size := (B.out.get 0 rfl).lt
          go_upto_region 14 with fail
          clear cb8_5_2_0 cb8_5_2_1 cb8_5_2_2 zb8_5_2_0 zb8_5_2_1 zb8_5_2_2 zb8_5_2_l
          have hB : Bxs (((W21.setCell ⟨g1, 0, none⟩ (.int .i64 r5k)).setCell ⟨g1, 1, none⟩ (.int .i64 r5n)).setCell ⟨g1, 2, none⟩ (.string ⟨List.toArray r5t⟩)) [(g1, (⟨r5k, r5n, r5t⟩ : Vl)), (g0, (⟨r4k, r4n, r4t⟩ : Vl)), (gb3, (⟨yk, yn, yt⟩ : Vl)), (w.heap.size, (⟨xk, xn, xt⟩ : Vl))] := B.out.put (b := (⟨r5k, r5n, r5t⟩ : Vl)) 0 rfl
          have hL : Below w.heap.size w (((W21.setCell ⟨g1, 0, none⟩ (.int .i64 r5k)).setCell ⟨g1, 1, none⟩ (.int .i64 r5n)).setCell ⟨g1, 2, none⟩ (.string ⟨List.toArray r5t⟩)) := below_putV BL.out HGb8_5_2.out (⟨r5k, r5n, r5t⟩ : Vl)
          obtain ⟨W22, hW⟩ : ∃ X, ((W21.setCell ⟨g1, 0, none⟩ (.int .i64 r5k)).setCell ⟨g1, 1, none⟩ (.int .i64 r5n)).setCell ⟨g1, 2, none⟩ (.string ⟨List.toArray r5t⟩) = X := ⟨_, rfl⟩
          rw [hW] at hB hL ⊢
          replace B := Lib.hid hB
          replace BL := Lib.hid hL
          clear hB hL hW
          replace HL := Lib.hid (show true = BigSums_s5 (⟨xk, xn, xt⟩ : Vl) (⟨yk, yn, yt⟩ : Vl) ((⟨r0k, r0n, r0t⟩, r0e) : Vl × Int) ((⟨r1k, r1n, r1t⟩, r1e) : Vl × Int) ((⟨r2k, r2n, r2t⟩, r2e) : Vl × Int) ((⟨r3k, r3n, r3t⟩, r3e) : Vl × Int) ((⟨r4k, r4n, r4t⟩, r4e) : Vl × Int) ((⟨r5k, r5n, r5t⟩, r5e) : Vl × Int) from HL.out.trans (by unfold BigSums_s6; rw [HR5.out]))
          -- region 14
          have cb2_0 : W22.cell? ⟨w.heap.size, 0, none⟩ = some (.int .i64 xk) := (B.out.get 3 rfl).c0
          have cb2_1 : W22.cell? ⟨w.heap.size, 1, none⟩ = some (.int .i64 xn) := (B.out.get 3 rfl).c1
          have cb2_2 : W22.cell? ⟨w.heap.size, 2, none⟩ = some (.string ⟨List.toArray xt⟩) := (B.out.get 3 rfl).c2
          have cb3_0 : W22.cell? ⟨gb3, 0, none⟩ = some (.int .i64 yk) := (B.out.get 2 rfl).c0
          have cb3_1 : W22.cell? ⟨gb3, 1, none⟩ = some (.int .i64 yn) := (B.out.get 2 rfl).c1
          have cb3_2 : W22.cell? ⟨gb3, 2, none⟩ = some (.string ⟨List.toArray yt⟩) := (B.out.get 2 rfl).c2
          obtain ⟨⟨r6b, r6e⟩, hr6⟩ : ∃ p, lessR (⟨xk, xn, xt⟩ : Vl) (⟨yk, yn, yt⟩ : Vl) = p := ⟨_, rfl⟩
          have hc6 := fun (W : World) (hW : Env W) => lessV (⟨xk, xn, xt⟩ : Vl) (⟨yk, yn, yt⟩ : Vl) HOx.out HOy.out W hW
          rw [hr6] at hc6
          simp only [Vl.val] at hc6
          have HC6 := Lib.hid hc6; have HR6 := Lib.hid hr6
          clear hc6 hr6
          go_wp2_with fail
          refine (HC6.out _ (HE.out.below BL.out)).mono ?_
          rintro e W23 ⟨rfl, hb⟩
          clear cb2_0 cb2_1 cb2_2 cb3_0 cb3_1 cb3_2
          replace B := Lib.hid (B.out.below hb)
          replace BL := Lib.hid (below_then BL.out hb)
          clear hb
          go_upto_region 15 with fail
          replace HL := Lib.hid (show true = BigSums_s4 (⟨xk, xn, xt⟩ : Vl) (⟨yk, yn, yt⟩ : Vl) ((⟨r0k, r0n, r0t⟩, r0e) : Vl × Int) ((⟨r1k, r1n, r1t⟩, r1e) : Vl × Int) ((⟨r2k, r2n, r2t⟩, r2e) : Vl × Int) ((⟨r3k, r3n, r3t⟩, r3e) : Vl × Int) ((⟨r4k, r4n, r4t⟩, r4e) : Vl × Int) ((⟨r5k, r5n, r5t⟩, r5e) : Vl × Int) ((r6b, r6e) : Bool × Int) from HL.out.trans (by unfold BigSums_s5; rw [HR6.out]))
          -- region 15
          have cb2_0 : W23.cell? ⟨w.heap.size, 0, none⟩ = some (.int .i64 xk) := (B.out.get 3 rfl).c0
          have cb2_1 : W23.cell? ⟨w.heap.size, 1, none⟩ = some (.int .i64 xn) := (B.out.get 3 rfl).c1
          have cb2_2 : W23.cell? ⟨w.heap.size, 2, none⟩ = some (.string ⟨List.toArray xt⟩) := (B.out.get 3 rfl).c2
          have cb3_0 : W23.cell? ⟨gb3, 0, none⟩ = some (.int .i64 yk) := (B.out.get 2 rfl).c0
          have cb3_1 : W23.cell? ⟨gb3, 1, none⟩ = some (.int .i64 yn) := (B.out.get 2 rfl).c1
          have cb3_2 : W23.cell? ⟨gb3, 2, none⟩ = some (.string ⟨List.toArray yt⟩) := (B.out.get 2 rfl).c2
          obtain ⟨⟨r7b, r7e⟩, hr7⟩ : ∃ p, lessR (⟨xk, xn, xt⟩ : Vl) (⟨yk, yn, yt⟩ : Vl) = p := ⟨_, rfl⟩
          have hc7 := fun (W : World) (hW : Env W) => rlessV (⟨xk, xn, xt⟩ : Vl) (⟨yk, yn, yt⟩ : Vl) HOx.out HOy.out W hW
          rw [hr7] at hc7
          simp only [Vl.val] at hc7
          have HC7 := Lib.hid hc7; have HR7 := Lib.hid hr7
          clear hc7 hr7
          go_wp2_with fail
          refine (HC7.out _ (HE.out.below BL.out)).mono ?_
          rintro e W24 ⟨rfl, hb⟩
          clear cb2_0 cb2_1 cb2_2 cb3_0 cb3_1 cb3_2
          replace B := Lib.hid (B.out.below hb)
          replace BL := Lib.hid (below_then BL.out hb)
          clear hb
          go_upto_region 16 with fail
          replace HL := Lib.hid (show true = BigSums_s3 (⟨xk, xn, xt⟩ : Vl) (⟨yk, yn, yt⟩ : Vl) ((⟨r0k, r0n, r0t⟩, r0e) : Vl × Int) ((⟨r1k, r1n, r1t⟩, r1e) : Vl × Int) ((⟨r2k, r2n, r2t⟩, r2e) : Vl × Int) ((⟨r3k, r3n, r3t⟩, r3e) : Vl × Int) ((⟨r4k, r4n, r4t⟩, r4e) : Vl × Int) ((⟨r5k, r5n, r5t⟩, r5e) : Vl × Int) ((r6b, r6e) : Bool × Int) ((r7b, r7e) : Bool × Int) from HL.out.trans (by unfold BigSums_s4; rw [HR7.out]))
          -- region 16, the end
          obtain ⟨b6, h⟩ : ∃ b : Bool, (veqB r4k r4n r4t r5k r5n r5t) = b := ⟨_, rfl⟩
          have HA6 := Lib.hid h
          clear h
          obtain ⟨b7, h⟩ : ∃ b : Bool, (r4e == r5e) = b := ⟨_, rfl⟩
          have HA7 := Lib.hid h
          clear h
          obtain ⟨b8, h⟩ : ∃ b : Bool, (r6e == r7e) = b := ⟨_, rfl⟩
          have HA8 := Lib.hid h
          clear h
          cases b6 with
          | true =>
            cases b7 with
            | true =>
              cases r6b with
              | true =>
                cases r7b with
                | true =>
                  cases b8 with
                  | true =>
                    clear HL
                    have f0_0 : (veqB r4k r4n r4t r5k r5n r5t) = true := HA6.out
                    have f1_0 : ((r4e : Int) == r5e) = true := HA7.out
                    have f1_1 : ((r4e : Int) != r5e) = false := by have h := HA7.out; simpa using h
                    have f2_0 : ((r6e : Int) == r7e) = true := HA8.out
                    have f2_1 : ((r6e : Int) != r7e) = false := by have h := HA8.out; simpa using h
                    have cb6_4_1_0 : W24.cell? ⟨g0, 0, none⟩ = some (.int .i64 r4k) := (B.out.get 1 rfl).c0
                    have cb6_4_1_1 : W24.cell? ⟨g0, 1, none⟩ = some (.int .i64 r4n) := (B.out.get 1 rfl).c1
                    have cb6_4_1_2 : W24.cell? ⟨g0, 2, none⟩ = some (.string ⟨List.toArray r4t⟩) := (B.out.get 1 rfl).c2
                    have cb8_5_2_0 : W24.cell? ⟨g1, 0, none⟩ = some (.int .i64 r5k) := (B.out.get 0 rfl).c0
                    have cb8_5_2_1 : W24.cell? ⟨g1, 1, none⟩ = some (.int .i64 r5n) := (B.out.get 0 rfl).c1
                    have cb8_5_2_2 : W24.cell? ⟨g1, 2, none⟩ = some (.string ⟨List.toArray r5t⟩) := (B.out.get 0 rfl).c2
                    go_wp2_with fail
                    go_ret
                    exact ⟨rfl, BL.out⟩
                  | false =>
                    exact Bool.noConfusion (show true = false from HL.out.trans (by show ((((true && (veqB r4k r4n r4t r5k r5n r5t)) && (r4e == r5e)) && (true == true)) && (r6e == r7e)) = false; rw [HA6.out, HA7.out, HA8.out]; rfl))
                | false =>
                  exact Bool.noConfusion (show true = false from HL.out.trans (by show ((((true && (veqB r4k r4n r4t r5k r5n r5t)) && (r4e == r5e)) && (true == false)) && (r6e == r7e)) = false; rw [HA6.out, HA7.out]; rfl))
              | false =>
                cases r7b with
                | true =>
                  exact Bool.noConfusion (show true = false from HL.out.trans (by show ((((true && (veqB r4k r4n r4t r5k r5n r5t)) && (r4e == r5e)) && (false == true)) && (r6e == r7e)) = false; rw [HA6.out, HA7.out]; rfl))
                | false =>
                  cases b8 with
                  | true =>
                    clear HL
                    have f0_0 : (veqB r4k r4n r4t r5k r5n r5t) = true := HA6.out
                    have f1_0 : ((r4e : Int) == r5e) = true := HA7.out
                    have f1_1 : ((r4e : Int) != r5e) = false := by have h := HA7.out; simpa using h
                    have f2_0 : ((r6e : Int) == r7e) = true := HA8.out
                    have f2_1 : ((r6e : Int) != r7e) = false := by have h := HA8.out; simpa using h
                    have cb6_4_1_0 : W24.cell? ⟨g0, 0, none⟩ = some (.int .i64 r4k) := (B.out.get 1 rfl).c0
                    have cb6_4_1_1 : W24.cell? ⟨g0, 1, none⟩ = some (.int .i64 r4n) := (B.out.get 1 rfl).c1
                    have cb6_4_1_2 : W24.cell? ⟨g0, 2, none⟩ = some (.string ⟨List.toArray r4t⟩) := (B.out.get 1 rfl).c2
                    have cb8_5_2_0 : W24.cell? ⟨g1, 0, none⟩ = some (.int .i64 r5k) := (B.out.get 0 rfl).c0
                    have cb8_5_2_1 : W24.cell? ⟨g1, 1, none⟩ = some (.int .i64 r5n) := (B.out.get 0 rfl).c1
                    have cb8_5_2_2 : W24.cell? ⟨g1, 2, none⟩ = some (.string ⟨List.toArray r5t⟩) := (B.out.get 0 rfl).c2
                    go_wp2_with fail
                    go_ret
                    exact ⟨rfl, BL.out⟩
                  | false =>
                    exact Bool.noConfusion (show true = false from HL.out.trans (by show ((((true && (veqB r4k r4n r4t r5k r5n r5t)) && (r4e == r5e)) && (false == false)) && (r6e == r7e)) = false; rw [HA6.out, HA7.out, HA8.out]; rfl))
            | false =>
              exact Bool.noConfusion (show true = false from HL.out.trans (by show ((((true && (veqB r4k r4n r4t r5k r5n r5t)) && (r4e == r5e)) && (r6b == r7b)) && (r6e == r7e)) = false; rw [HA6.out, HA7.out]; rfl))
          | false =>
            exact Bool.noConfusion (show true = false from HL.out.trans (by show ((((true && (veqB r4k r4n r4t r5k r5n r5t)) && (r4e == r5e)) && (r6b == r7b)) && (r6e == r7e)) = false; rw [HA6.out]; rfl))
end Go.Proofs.YthjpbbbmnmhmmaaGreatDoor
