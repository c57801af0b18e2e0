import Derived.Test.YthjpbbbmnmhmmaaGreatDoorA31
import Derived.Test.YthjpbbbmnmhmmaaGreatDoorRf3
set_option linter.unusedVariables false
set_option linter.unusedSimpArgs false
namespace Go.Proofs.YthjpbbbmnmhmmaaGreatDoor
open Go.RowKit Go.Shelf Go.Lib
attribute [local go_sem ↓] run_val_eql run_val_neq

def BigParts_s0 (x : Vl) (y : Vl) (n : Int) : Bool := true
def BigParts_s1 (x : Vl) (y : Vl) (n : Int) (r0 : Vl × Int) (r1 : Vl × Int) : Bool := false
def BigParts_s2 (x : Vl) (y : Vl) (n : Int) (r0 : Vl × Int) (r1 : Vl × Int) (r2 : Vl × Int) (r3 : Vl × Int) : Bool := false
def BigParts_s3 (x : Vl) (y : Vl) (n : Int) (r0 : Vl × Int) (r1 : Vl × Int) (r2 : Vl × Int) (r3 : Vl × Int) (r4 : Vl × Int) (r5 : Vl × Int) : Bool := false
def BigParts_s4 (x : Vl) (y : Vl) (n : Int) (r0 : Vl × Int) (r1 : Vl × Int) (r2 : Vl × Int) (r3 : Vl × Int) (r4 : Vl × Int) (r5 : Vl × Int) (r6 : Vl × Int) (r7 : Vl × Int) (r8 : Vl × Int) (r9 : Vl × Int) : Bool := ((((true && (veq r6.1 r7.1)) && (r6.2 == r7.2)) && (veq r8.1 r9.1)) && (r8.2 == r9.2))
def BigParts_s5 (x : Vl) (y : Vl) (n : Int) (r0 : Vl × Int) (r1 : Vl × Int) (r2 : Vl × Int) (r3 : Vl × Int) (r4 : Vl × Int) (r5 : Vl × Int) (r6 : Vl × Int) (r7 : Vl × Int) (r8 : Vl × Int) : Bool := BigParts_s4 x y n r0 r1 r2 r3 r4 r5 r6 r7 r8 (rootR x)
def BigParts_s6 (x : Vl) (y : Vl) (n : Int) (r0 : Vl × Int) (r1 : Vl × Int) (r2 : Vl × Int) (r3 : Vl × Int) (r4 : Vl × Int) (r5 : Vl × Int) (r6 : Vl × Int) (r7 : Vl × Int) : Bool := BigParts_s5 x y n r0 r1 r2 r3 r4 r5 r6 r7 (rootR x)
def BigParts_s7 (x : Vl) (y : Vl) (n : Int) (r0 : Vl × Int) (r1 : Vl × Int) (r2 : Vl × Int) (r3 : Vl × Int) (r4 : Vl × Int) (r5 : Vl × Int) (r6 : Vl × Int) : Bool := BigParts_s6 x y n r0 r1 r2 r3 r4 r5 r6 (gcdR x y)
def BigParts_s8 (x : Vl) (y : Vl) (n : Int) (r0 : Vl × Int) (r1 : Vl × Int) (r2 : Vl × Int) (r3 : Vl × Int) (r4 : Vl × Int) (r5 : Vl × Int) : Bool := BigParts_s7 x y n r0 r1 r2 r3 r4 r5 (gcdR x y)
def BigParts_s9 (x : Vl) (y : Vl) (n : Int) (r0 : Vl × Int) (r1 : Vl × Int) (r2 : Vl × Int) (r3 : Vl × Int) (r4 : Vl × Int) (r5 : Vl × Int) : Bool := if ((!(veq r4.1 r5.1)) || (!(r4.2 == r5.2))) = true then BigParts_s3 x y n r0 r1 r2 r3 r4 r5 else BigParts_s8 x y n r0 r1 r2 r3 r4 r5
def BigParts_s10 (x : Vl) (y : Vl) (n : Int) (r0 : Vl × Int) (r1 : Vl × Int) (r2 : Vl × Int) (r3 : Vl × Int) (r4 : Vl × Int) : Bool := BigParts_s9 x y n r0 r1 r2 r3 r4 (powR x n)
def BigParts_s11 (x : Vl) (y : Vl) (n : Int) (r0 : Vl × Int) (r1 : Vl × Int) (r2 : Vl × Int) (r3 : Vl × Int) : Bool := BigParts_s10 x y n r0 r1 r2 r3 (powR x n)
def BigParts_s12 (x : Vl) (y : Vl) (n : Int) (r0 : Vl × Int) (r1 : Vl × Int) (r2 : Vl × Int) (r3 : Vl × Int) : Bool := if ((!(veq r2.1 r3.1)) || (!(r2.2 == r3.2))) = true then BigParts_s2 x y n r0 r1 r2 r3 else BigParts_s11 x y n r0 r1 r2 r3
def BigParts_s13 (x : Vl) (y : Vl) (n : Int) (r0 : Vl × Int) (r1 : Vl × Int) (r2 : Vl × Int) : Bool := BigParts_s12 x y n r0 r1 r2 (modR x y)
def BigParts_s14 (x : Vl) (y : Vl) (n : Int) (r0 : Vl × Int) (r1 : Vl × Int) : Bool := BigParts_s13 x y n r0 r1 (modR x y)
def BigParts_s15 (x : Vl) (y : Vl) (n : Int) (r0 : Vl × Int) (r1 : Vl × Int) : Bool := if ((!(veq r0.1 r1.1)) || (!(r0.2 == r1.2))) = true then BigParts_s1 x y n r0 r1 else BigParts_s14 x y n r0 r1
def BigParts_s16 (x : Vl) (y : Vl) (n : Int) (r0 : Vl × Int) : Bool := BigParts_s15 x y n r0 (divR x y)
def BigParts_s17 (x : Vl) (y : Vl) (n : Int) : Bool := BigParts_s16 x y n (divR x y)
def BigParts_s18 (x : Vl) (y : Vl) (n : Int) : Bool := if ((!(shortB x)) || (!(shortB y))) = true then BigParts_s0 x y n else BigParts_s17 x y n

set_option maxRecDepth 100000 in
set_option maxHeartbeats 16000000 in
theorem walk_BigParts (x : Vl) (y : Vl) (n : Int) (hx : x.inp) (hy : y.inp) (hn : Small64 n) (w : World) (hE : Env w) (hr : true = BigParts_s18 x y n) :
    Calls Tryz.prog 3 #[x.val, y.val, .int .i64 n] w fun e w' => e = .returned (.bool true) ∧ Below w.heap.size w w' := by
  obtain ⟨xk, xn, xt⟩ := x
  obtain ⟨yk, yn, yt⟩ := y
  have HIx := Lib.hid hx
  have HIy := Lib.hid hy
  have HIn := Lib.hid hn
  have HE := Lib.hid hE
  have HL := Lib.hid hr
  clear hE hr hx hy hn
  simp only [Vl.val]
  go_enter Tryz.func3, Tryz.ntmps3
  go_upto_region 1 with fail
  have hB : Bxs ((w.alloc (.cells #[.int .i64 xk, .int .i64 xn, .string ⟨List.toArray xt⟩] 23)).alloc (.cells #[.int .i64 yk, .int .i64 yn, .string ⟨List.toArray yt⟩] 23)) [(w.heap.size + 1, (⟨yk, yn, yt⟩ : Vl)), (w.heap.size, (⟨xk, xn, xt⟩ : Vl))] := by
    have h := (((show Bxs w [] from trivial).push (⟨xk, xn, xt⟩ : Vl) 23).push (⟨yk, yn, yt⟩ : Vl) 23)
    simpa only [World.size_alloc] using h
  have hL : Below w.heap.size w ((w.alloc (.cells #[.int .i64 xk, .int .i64 xn, .string ⟨List.toArray xt⟩] 23)).alloc (.cells #[.int .i64 yk, .int .i64 yn, .string ⟨List.toArray yt⟩] 23)) := (((Below.refl w.heap.size w).alloc (Nat.le_refl _) (.cells #[.int .i64 xk, .int .i64 xn, .string ⟨List.toArray xt⟩] 23)).alloc (by simp <;> omega) (.cells #[.int .i64 yk, .int .i64 yn, .string ⟨List.toArray yt⟩] 23))
  obtain ⟨W1, hW⟩ : ∃ X, ((w.alloc (.cells #[.int .i64 xk, .int .i64 xn, .string ⟨List.toArray xt⟩] 23)).alloc (.cells #[.int .i64 yk, .int .i64 yn, .string ⟨List.toArray yt⟩] 23)) = X := ⟨_, rfl⟩
  rw [hW] at hB hL ⊢
  clear hW
  obtain ⟨gb4, hg⟩ : ∃ g, w.heap.size + 1 = g := ⟨_, rfl⟩
  have HGb4 : Hid (w.heap.size ≤ gb4) := Lib.hid (by omega)
  rw [hg] at hB ⊢
  clear hg
  have HGb3 : Hid (w.heap.size ≤ w.heap.size) := Lib.hid (Nat.le_refl _)
  have B := Lib.hid hB
  have BL := Lib.hid hL
  clear hB hL
  -- region 1
  go_wp2_with fail
  refine (awakeV _ (HE.out.below BL.out)).mono ?_
  rintro e W2 ⟨rfl, hb⟩
  replace B := Lib.hid (B.out.below hb)
  replace BL := Lib.hid (below_then BL.out hb)
  clear hb
  go_upto_region 2 with fail
  -- region 2, a test
  obtain ⟨b0, h⟩ : ∃ b : Bool, (shortB (⟨xk, xn, xt⟩ : Vl)) = b := ⟨_, rfl⟩
  have HA0 := Lib.hid h
  clear h
  obtain ⟨b1, h⟩ : ∃ b : Bool, (shortB (⟨yk, yn, yt⟩ : Vl)) = b := ⟨_, rfl⟩
  have HA1 := Lib.hid h
  clear h
  obtain ⟨c1, h⟩ : ∃ c : Bool, ((!b0) || (!b1)) = c := ⟨_, rfl⟩
  have HCC := Lib.hid h
  clear h
  go_upto_region 2 with fail
  go_cut [24] from 17 to 24 (fun v wx => v = .bool c1 ∧ Hid (Bxs wx [(gb4, (⟨yk, yn, yt⟩ : Vl)), (w.heap.size, (⟨xk, xn, xt⟩ : Vl))]) ∧ Hid (Below w.heap.size w wx))
  case first =>
    clear HL
    cases b0 with
    | true =>
      cases b1 with
      | true =>
        have cb3_0 : W2.cell? ⟨w.heap.size, 0, none⟩ = some (.int .i64 xk) := (B.out.get 1 rfl).c0
        have cb3_1 : W2.cell? ⟨w.heap.size, 1, none⟩ = some (.int .i64 xn) := (B.out.get 1 rfl).c1
        have cb3_2 : W2.cell? ⟨w.heap.size, 2, none⟩ = some (.string ⟨List.toArray xt⟩) := (B.out.get 1 rfl).c2
        have cb4_0 : W2.cell? ⟨gb4, 0, none⟩ = some (.int .i64 yk) := (B.out.get 0 rfl).c0
        have cb4_1 : W2.cell? ⟨gb4, 1, none⟩ = some (.int .i64 yn) := (B.out.get 0 rfl).c1
        have cb4_2 : W2.cell? ⟨gb4, 2, none⟩ = some (.string ⟨List.toArray yt⟩) := (B.out.get 0 rfl).c2
        go_wp2_with fail
        refine (short_calls xk xn xt HIx.out.2 _).mono ?_
        rw [HA0.out]
        rintro e W3 ⟨rfl, hb⟩
        clear cb3_0 cb3_1 cb3_2 cb4_0 cb4_1 cb4_2
        replace B := Lib.hid (B.out.below hb)
        replace BL := Lib.hid (below_then BL.out hb)
        clear hb
        have cb3_0 : W3.cell? ⟨w.heap.size, 0, none⟩ = some (.int .i64 xk) := (B.out.get 1 rfl).c0
        have cb3_1 : W3.cell? ⟨w.heap.size, 1, none⟩ = some (.int .i64 xn) := (B.out.get 1 rfl).c1
        have cb3_2 : W3.cell? ⟨w.heap.size, 2, none⟩ = some (.string ⟨List.toArray xt⟩) := (B.out.get 1 rfl).c2
        have cb4_0 : W3.cell? ⟨gb4, 0, none⟩ = some (.int .i64 yk) := (B.out.get 0 rfl).c0
        have cb4_1 : W3.cell? ⟨gb4, 1, none⟩ = some (.int .i64 yn) := (B.out.get 0 rfl).c1
        have cb4_2 : W3.cell? ⟨gb4, 2, none⟩ = some (.string ⟨List.toArray yt⟩) := (B.out.get 0 rfl).c2
        go_wp2_with fail
        refine (short_calls yk yn yt HIy.out.2 _).mono ?_
        rw [HA1.out]
        rintro e W4 ⟨rfl, hb⟩
        clear cb3_0 cb3_1 cb3_2 cb4_0 cb4_1 cb4_2
        replace B := Lib.hid (B.out.below hb)
        replace BL := Lib.hid (below_then BL.out hb)
        clear hb
        have cb3_0 : W4.cell? ⟨w.heap.size, 0, none⟩ = some (.int .i64 xk) := (B.out.get 1 rfl).c0
        have cb3_1 : W4.cell? ⟨w.heap.size, 1, none⟩ = some (.int .i64 xn) := (B.out.get 1 rfl).c1
        have cb3_2 : W4.cell? ⟨w.heap.size, 2, none⟩ = some (.string ⟨List.toArray xt⟩) := (B.out.get 1 rfl).c2
        have cb4_0 : W4.cell? ⟨gb4, 0, none⟩ = some (.int .i64 yk) := (B.out.get 0 rfl).c0
        have cb4_1 : W4.cell? ⟨gb4, 1, none⟩ = some (.int .i64 yn) := (B.out.get 0 rfl).c1
        have cb4_2 : W4.cell? ⟨gb4, 2, none⟩ = some (.string ⟨List.toArray yt⟩) := (B.out.get 0 rfl).c2
        go_wp2_with fail
        go_meet
        exact ⟨congrArg Value.bool HCC.out, B, BL⟩
      | false =>
        have cb3_0 : W2.cell? ⟨w.heap.size, 0, none⟩ = some (.int .i64 xk) := (B.out.get 1 rfl).c0
        have cb3_1 : W2.cell? ⟨w.heap.size, 1, none⟩ = some (.int .i64 xn) := (B.out.get 1 rfl).c1
        have cb3_2 : W2.cell? ⟨w.heap.size, 2, none⟩ = some (.string ⟨List.toArray xt⟩) := (B.out.get 1 rfl).c2
        have cb4_0 : W2.cell? ⟨gb4, 0, none⟩ = some (.int .i64 yk) := (B.out.get 0 rfl).c0
        have cb4_1 : W2.cell? ⟨gb4, 1, none⟩ = some (.int .i64 yn) := (B.out.get 0 rfl).c1
        have cb4_2 : W2.cell? ⟨gb4, 2, none⟩ = some (.string ⟨List.toArray yt⟩) := (B.out.get 0 rfl).c2
        go_wp2_with fail
        refine (short_calls xk xn xt HIx.out.2 _).mono ?_
        rw [HA0.out]
        rintro e W5 ⟨rfl, hb⟩
        clear cb3_0 cb3_1 cb3_2 cb4_0 cb4_1 cb4_2
        replace B := Lib.hid (B.out.below hb)
        replace BL := Lib.hid (below_then BL.out hb)
        clear hb
        have cb3_0 : W5.cell? ⟨w.heap.size, 0, none⟩ = some (.int .i64 xk) := (B.out.get 1 rfl).c0
        have cb3_1 : W5.cell? ⟨w.heap.size, 1, none⟩ = some (.int .i64 xn) := (B.out.get 1 rfl).c1
        have cb3_2 : W5.cell? ⟨w.heap.size, 2, none⟩ = some (.string ⟨List.toArray xt⟩) := (B.out.get 1 rfl).c2
        have cb4_0 : W5.cell? ⟨gb4, 0, none⟩ = some (.int .i64 yk) := (B.out.get 0 rfl).c0
        have cb4_1 : W5.cell? ⟨gb4, 1, none⟩ = some (.int .i64 yn) := (B.out.get 0 rfl).c1
        have cb4_2 : W5.cell? ⟨gb4, 2, none⟩ = some (.string ⟨List.toArray yt⟩) := (B.out.get 0 rfl).c2
        go_wp2_with fail
        refine (short_calls yk yn yt HIy.out.2 _).mono ?_
        rw [HA1.out]
        rintro e W6 ⟨rfl, hb⟩
        clear cb3_0 cb3_1 cb3_2 cb4_0 cb4_1 cb4_2
        replace B := Lib.hid (B.out.below hb)
        replace BL := Lib.hid (below_then BL.out hb)
        clear hb
        have cb3_0 : W6.cell? ⟨w.heap.size, 0, none⟩ = some (.int .i64 xk) := (B.out.get 1 rfl).c0
        have cb3_1 : W6.cell? ⟨w.heap.size, 1, none⟩ = some (.int .i64 xn) := (B.out.get 1 rfl).c1
        have cb3_2 : W6.cell? ⟨w.heap.size, 2, none⟩ = some (.string ⟨List.toArray xt⟩) := (B.out.get 1 rfl).c2
        have cb4_0 : W6.cell? ⟨gb4, 0, none⟩ = some (.int .i64 yk) := (B.out.get 0 rfl).c0
        have cb4_1 : W6.cell? ⟨gb4, 1, none⟩ = some (.int .i64 yn) := (B.out.get 0 rfl).c1
        have cb4_2 : W6.cell? ⟨gb4, 2, none⟩ = some (.string ⟨List.toArray yt⟩) := (B.out.get 0 rfl).c2
        go_wp2_with fail
        go_meet
        exact ⟨congrArg Value.bool HCC.out, B, BL⟩
    | false =>
      have cb3_0 : W2.cell? ⟨w.heap.size, 0, none⟩ = some (.int .i64 xk) := (B.out.get 1 rfl).c0
      have cb3_1 : W2.cell? ⟨w.heap.size, 1, none⟩ = some (.int .i64 xn) := (B.out.get 1 rfl).c1
      have cb3_2 : W2.cell? ⟨w.heap.size, 2, none⟩ = some (.string ⟨List.toArray xt⟩) := (B.out.get 1 rfl).c2
      go_wp2_with fail
      refine (short_calls xk xn xt HIx.out.2 _).mono ?_
      rw [HA0.out]
      rintro e W7 ⟨rfl, hb⟩
      clear cb3_0 cb3_1 cb3_2
      replace B := Lib.hid (B.out.below hb)
      replace BL := Lib.hid (below_then BL.out hb)
      clear hb
      have cb3_0 : W7.cell? ⟨w.heap.size, 0, none⟩ = some (.int .i64 xk) := (B.out.get 1 rfl).c0
      have cb3_1 : W7.cell? ⟨w.heap.size, 1, none⟩ = some (.int .i64 xn) := (B.out.get 1 rfl).c1
      have cb3_2 : W7.cell? ⟨w.heap.size, 2, none⟩ = some (.string ⟨List.toArray xt⟩) := (B.out.get 1 rfl).c2
      go_wp2_with fail
      go_meet
      exact ⟨congrArg Value.bool HCC.out, B, BL⟩
  case rest =>
    clear B BL
    obtain ⟨rfl, B, BL⟩ := hcut
    obtain ⟨W8, hW⟩ : ∃ X, wc = X := ⟨_, rfl⟩
    rw [hW] at B BL ⊢
    clear hW
    have HCW : Hid (((!(shortB (⟨xk, xn, xt⟩ : Vl))) || (!(shortB (⟨yk, yn, yt⟩ : Vl)))) = c1) := Lib.hid (by rw [HA0.out, HA1.out]; exact HCC.out)
    clear HCC HA0 HA1
    cases c1 with
    | true =>
      replace HL := Lib.hid (show true = BigParts_s0 (⟨xk, xn, xt⟩ : Vl) (⟨yk, yn, yt⟩ : Vl) n from HL.out.trans (if_pos HCW.out))
      go_wp2_with fail
      go_ret
      exact ⟨rfl, BL.out⟩
    | false =>
      have HOx : Hid (Vl.ok (⟨xk, xn, xt⟩ : Vl)) := Lib.hid ⟨HIx.out.1, by have h := HCW.out; simp [shortB] at h; show xt.length ≤ 100000; omega⟩
      have HOy : Hid (Vl.ok (⟨yk, yn, yt⟩ : Vl)) := Lib.hid ⟨HIy.out.1, by have h := HCW.out; simp [shortB] at h; show yt.length ≤ 100000; omega⟩
      replace HL := Lib.hid (show true = BigParts_s17 (⟨xk, xn, xt⟩ : Vl) (⟨yk, yn, yt⟩ : Vl) n from HL.out.trans ((if_neg (fun h => Bool.noConfusion (HCW.out.symm.trans h)))))
      -- region 4
      have cb3_0 : W8.cell? ⟨w.heap.size, 0, none⟩ = some (.int .i64 xk) := (B.out.get 1 rfl).c0
      have cb3_1 : W8.cell? ⟨w.heap.size, 1, none⟩ = some (.int .i64 xn) := (B.out.get 1 rfl).c1
      have cb3_2 : W8.cell? ⟨w.heap.size, 2, none⟩ = some (.string ⟨List.toArray xt⟩) := (B.out.get 1 rfl).c2
      have cb4_0 : W8.cell? ⟨gb4, 0, none⟩ = some (.int .i64 yk) := (B.out.get 0 rfl).c0
      have cb4_1 : W8.cell? ⟨gb4, 1, none⟩ = some (.int .i64 yn) := (B.out.get 0 rfl).c1
      have cb4_2 : W8.cell? ⟨gb4, 2, none⟩ = some (.string ⟨List.toArray yt⟩) := (B.out.get 0 rfl).c2
      obtain ⟨⟨⟨r0k, r0n, r0t⟩, r0e⟩, hr0⟩ : ∃ p, divR (⟨xk, xn, xt⟩ : Vl) (⟨yk, yn, yt⟩ : Vl) = p := ⟨_, rfl⟩
      have hc0 := fun (W : World) (hW : Env W) => div_pub (⟨xk, xn, xt⟩ : Vl) (⟨yk, yn, yt⟩ : Vl) HOx.out HOy.out W hW
      have ho0 := divR_ok (⟨xk, xn, xt⟩ : Vl) (⟨yk, yn, yt⟩ : Vl)
      rw [hr0] at hc0 ho0
      simp only [Vl.val, pr] at hc0
      have HC0 := Lib.hid hc0; have HOr0 : Hid (Vl.ok ⟨r0k, r0n, r0t⟩) := Lib.hid ho0; have HR0 := Lib.hid hr0
      clear hc0 ho0 hr0
      go_wp2_with fail
      refine (HC0.out _ (HE.out.below BL.out)).mono ?_
      rintro e W9 ⟨rfl, hb⟩
      clear cb3_0 cb3_1 cb3_2 cb4_0 cb4_1 cb4_2
      replace B := Lib.hid (B.out.below hb)
      replace BL := Lib.hid (below_then BL.out hb)
      clear hb
      go_upto_region 5 with fail
      have hB : Bxs (W9.alloc (.cells #[.int .i64 r0k, .int .i64 r0n, .string ⟨List.toArray r0t⟩] 23)) ((W9.heap.size, (⟨r0k, r0n, r0t⟩ : Vl)) :: [(gb4, (⟨yk, yn, yt⟩ : Vl)), (w.heap.size, (⟨xk, xn, xt⟩ : Vl))]) := B.out.push (⟨r0k, r0n, r0t⟩ : Vl) 23
      have hL : Below w.heap.size w (W9.alloc (.cells #[.int .i64 r0k, .int .i64 r0n, .string ⟨List.toArray r0t⟩] 23)) := BL.out.alloc BL.out.size _
      obtain ⟨W10, hW⟩ : ∃ X, W9.alloc (.cells #[.int .i64 r0k, .int .i64 r0n, .string ⟨List.toArray r0t⟩] 23) = X := ⟨_, rfl⟩
      obtain ⟨g0, hg⟩ : ∃ g, W9.heap.size = g := ⟨_, rfl⟩
      rw [hW] at hB hL ⊢
      rw [hg] at hB ⊢
      have HGb8_4_1 : Hid (w.heap.size ≤ g0) := Lib.hid (by rw [← hg]; exact BL.out.size)
      replace B := Lib.hid hB
      replace BL := Lib.hid hL
      clear hB hL hW hg
      replace HL := Lib.hid (show true = BigParts_s16 (⟨xk, xn, xt⟩ : Vl) (⟨yk, yn, yt⟩ : Vl) n ((⟨r0k, r0n, r0t⟩, r0e) : Vl × Int) from HL.out.trans (by unfold BigParts_s17; rw [HR0.out]))
      -- region 5
      have cb3_0 : W10.cell? ⟨w.heap.size, 0, none⟩ = some (.int .i64 xk) := (B.out.get 2 rfl).c0
      have cb3_1 : W10.cell? ⟨w.heap.size, 1, none⟩ = some (.int .i64 xn) := (B.out.get 2 rfl).c1
      have cb3_2 : W10.cell? ⟨w.heap.size, 2, none⟩ = some (.string ⟨List.toArray xt⟩) := (B.out.get 2 rfl).c2
      have cb4_0 : W10.cell? ⟨gb4, 0, none⟩ = some (.int .i64 yk) := (B.out.get 1 rfl).c0
      have cb4_1 : W10.cell? ⟨gb4, 1, none⟩ = some (.int .i64 yn) := (B.out.get 1 rfl).c1
      have cb4_2 : W10.cell? ⟨gb4, 2, none⟩ = some (.string ⟨List.toArray yt⟩) := (B.out.get 1 rfl).c2
      obtain ⟨⟨⟨r1k, r1n, r1t⟩, r1e⟩, hr1⟩ : ∃ p, divR (⟨xk, xn, xt⟩ : Vl) (⟨yk, yn, yt⟩ : Vl) = p := ⟨_, rfl⟩
      have hc1 := fun (W : World) (hW : Env W) => rdiv_pub (⟨xk, xn, xt⟩ : Vl) (⟨yk, yn, yt⟩ : Vl) HOx.out HOy.out W hW
      have ho1 := divR_ok (⟨xk, xn, xt⟩ : Vl) (⟨yk, yn, yt⟩ : Vl)
      rw [hr1] at hc1 ho1
      simp only [Vl.val, pr] at hc1
      have HC1 := Lib.hid hc1; have HOr1 : Hid (Vl.ok ⟨r1k, r1n, r1t⟩) := Lib.hid ho1; have HR1 := Lib.hid hr1
      clear hc1 ho1 hr1
      go_wp2_with fail
      refine (HC1.out _ (HE.out.below BL.out)).mono ?_
      rintro e W11 ⟨rfl, hb⟩
      clear cb3_0 cb3_1 cb3_2 cb4_0 cb4_1 cb4_2
      replace B := Lib.hid (B.out.below hb)
      replace BL := Lib.hid (below_then BL.out hb)
      clear hb
      go_upto_region 6 with fail
      have hB : Bxs (W11.alloc (.cells #[.int .i64 r1k, .int .i64 r1n, .string ⟨List.toArray r1t⟩] 23)) ((W11.heap.size, (⟨r1k, r1n, r1t⟩ : Vl)) :: [(g0, (⟨r0k, r0n, r0t⟩ : Vl)), (gb4, (⟨yk, yn, yt⟩ : Vl)), (w.heap.size, (⟨xk, xn, xt⟩ : Vl))]) := B.out.push (⟨r1k, r1n, r1t⟩ : Vl) 23
      have hL : Below w.heap.size w (W11.alloc (.cells #[.int .i64 r1k, .int .i64 r1n, .string ⟨List.toArray r1t⟩] 23)) := BL.out.alloc BL.out.size _
      obtain ⟨W12, hW⟩ : ∃ X, W11.alloc (.cells #[.int .i64 r1k, .int .i64 r1n, .string ⟨List.toArray r1t⟩] 23) = X := ⟨_, rfl⟩
      obtain ⟨g1, hg⟩ : ∃ g, W11.heap.size = g := ⟨_, rfl⟩
      rw [hW] at hB hL ⊢
      rw [hg] at hB ⊢
      have HGb10_5_2 : Hid (w.heap.size ≤ g1) := Lib.hid (by rw [← hg]; exact BL.out.size)
      replace B := Lib.hid hB
      replace BL := Lib.hid hL
      clear hB hL hW hg
      replace HL := Lib.hid (show true = BigParts_s15 (⟨xk, xn, xt⟩ : Vl) (⟨yk, yn, yt⟩ : Vl) n ((⟨r0k, r0n, r0t⟩, r0e) : Vl × Int) ((⟨r1k, r1n, r1t⟩, r1e) : Vl × Int) from HL.out.trans (by unfold BigParts_s16; rw [HR1.out]))
      -- region 6, a test
      obtain ⟨b2, h⟩ : ∃ b : Bool, (veqB r0k r0n r0t r1k r1n r1t) = b := ⟨_, rfl⟩
      have HA2 := Lib.hid h
      clear h
      obtain ⟨b3, h⟩ : ∃ b : Bool, (r0e == r1e) = b := ⟨_, rfl⟩
      have HA3 := Lib.hid h
      clear h
      have HCF : ((!(veqB r0k r0n r0t r1k r1n r1t)) || (!(r0e == r1e))) = false := Bool.eq_false_iff.2 fun h => Bool.noConfusion (show true = false from HL.out.trans (if_pos h))
      have HCB : ((!b2) || (!b3)) = false := by
        have h := HCF
        rw [HA2.out, HA3.out] at h
        exact h
      have HCW := Lib.hid HCF
      have HCC := Lib.hid HCB
      clear HCF HCB
      go_upto_region 6 with fail
      go_cut [45] from 38 to 45 (fun v wx => v = .bool false ∧ Hid (Bxs wx [(g1, (⟨r1k, r1n, r1t⟩ : Vl)), (g0, (⟨r0k, r0n, r0t⟩ : Vl)), (gb4, (⟨yk, yn, yt⟩ : Vl)), (w.heap.size, (⟨xk, xn, xt⟩ : Vl))]) ∧ Hid (Below w.heap.size w wx))
      case first =>
        clear HL
        cases b2 with
        | true =>
          cases b3 with
          | true =>
            have f0_0 : (veqB r0k r0n r0t r1k r1n r1t) = true := HA2.out
            have f1_0 : ((r0e : Int) == r1e) = true := HA3.out
            have f1_1 : ((r0e : Int) != r1e) = false := by have h := HA3.out; simpa using h
            have cb8_4_1_0 : W12.cell? ⟨g0, 0, none⟩ = some (.int .i64 r0k) := (B.out.get 1 rfl).c0
            have cb8_4_1_1 : W12.cell? ⟨g0, 1, none⟩ = some (.int .i64 r0n) := (B.out.get 1 rfl).c1
            have cb8_4_1_2 : W12.cell? ⟨g0, 2, none⟩ = some (.string ⟨List.toArray r0t⟩) := (B.out.get 1 rfl).c2
            have cb10_5_2_0 : W12.cell? ⟨g1, 0, none⟩ = some (.int .i64 r1k) := (B.out.get 0 rfl).c0
            have cb10_5_2_1 : W12.cell? ⟨g1, 1, none⟩ = some (.int .i64 r1n) := (B.out.get 0 rfl).c1
            have cb10_5_2_2 : W12.cell? ⟨g1, 2, none⟩ = some (.string ⟨List.toArray r1t⟩) := (B.out.get 0 rfl).c2
            go_wp2_with fail
            go_meet
            exact ⟨rfl, B, BL⟩
          | false =>
            exact Bool.noConfusion (show true = false from HCC.out)
        | false =>
          exact Bool.noConfusion (show true = false from HCC.out)
      case rest =>
        clear B BL
        obtain ⟨rfl, B, BL⟩ := hcut
        obtain ⟨W13, hW⟩ : ∃ X, wc = X := ⟨_, rfl⟩
        rw [hW] at B BL ⊢
        clear hW
        clear HCC HA2 HA3
        replace HL := Lib.hid (show true = BigParts_s14 (⟨xk, xn, xt⟩ : Vl) (⟨yk, yn, yt⟩ : Vl) n ((⟨r0k, r0n, r0t⟩, r0e) : Vl × Int) ((⟨r1k, r1n, r1t⟩, r1e) : Vl × Int) from HL.out.trans ((if_neg (fun h => Bool.noConfusion (HCW.out.symm.trans h)))))
        -- region 8
        have cb3_0 : W13.cell? ⟨w.heap.size, 0, none⟩ = some (.int .i64 xk) := (B.out.get 3 rfl).c0
        have cb3_1 : W13.cell? ⟨w.heap.size, 1, none⟩ = some (.int .i64 xn) := (B.out.get 3 rfl).c1
        have cb3_2 : W13.cell? ⟨w.heap.size, 2, none⟩ = some (.string ⟨List.toArray xt⟩) := (B.out.get 3 rfl).c2
        have cb4_0 : W13.cell? ⟨gb4, 0, none⟩ = some (.int .i64 yk) := (B.out.get 2 rfl).c0
        have cb4_1 : W13.cell? ⟨gb4, 1, none⟩ = some (.int .i64 yn) := (B.out.get 2 rfl).c1
        have cb4_2 : W13.cell? ⟨gb4, 2, none⟩ = some (.string ⟨List.toArray yt⟩) := (B.out.get 2 rfl).c2
        obtain ⟨⟨⟨r2k, r2n, r2t⟩, r2e⟩, hr2⟩ : ∃ p, modR (⟨xk, xn, xt⟩ : Vl) (⟨yk, yn, yt⟩ : Vl) = p := ⟨_, rfl⟩
        have hc2 := fun (W : World) (hW : Env W) => mod_pub (⟨xk, xn, xt⟩ : Vl) (⟨yk, yn, yt⟩ : Vl) HOx.out HOy.out W hW
        have ho2 := modR_ok (⟨xk, xn, xt⟩ : Vl) (⟨yk, yn, yt⟩ : Vl)
        rw [hr2] at hc2 ho2
        simp only [Vl.val, pr] at hc2
        have HC2 := Lib.hid hc2; have HOr2 : Hid (Vl.ok ⟨r2k, r2n, r2t⟩) := Lib.hid ho2; have HR2 := Lib.hid hr2
        clear hc2 ho2 hr2
        go_wp2_with fail
        refine (HC2.out _ (HE.out.below BL.out)).mono ?_
        rintro e W14 ⟨rfl, hb⟩
        clear cb3_0 cb3_1 cb3_2 cb4_0 cb4_1 cb4_2
        replace B := Lib.hid (B.out.below hb)
        replace BL := Lib.hid (below_then BL.out hb)
        clear hb
        have cb8_4_1_0 : W14.cell? ⟨g0, 0, none⟩ = some (.int .i64 r0k) := (B.out.get 1 rfl).c0
        have cb8_4_1_1 : W14.cell? ⟨g0, 1, none⟩ = some (.int .i64 r0n) := (B.out.get 1 rfl).c1
        have cb8_4_1_2 : W14.cell? ⟨g0, 2, none⟩ = some (.string ⟨List.toArray r0t⟩) := (B.out.get 1 rfl).c2
        have zb8_4_1_0 : W14.frozen? ⟨g0, 0, none⟩ = false := (B.out.get 1 rfl).f0
        have zb8_4_1_1 : W14.frozen? ⟨g0, 1, none⟩ = false := (B.out.get 1 rfl).f1
        have zb8_4_1_2 : W14.frozen? ⟨g0, 2, none⟩ = false := (B.out.get 1 rfl).f2
        have zb8_4_1_l : g0 < W14.heap.size := (B.out.get 1 rfl).lt
        go_upto_region 9 with fail
        clear cb8_4_1_0 cb8_4_1_1 cb8_4_1_2 zb8_4_1_0 zb8_4_1_1 zb8_4_1_2 zb8_4_1_l
        have hB : Bxs (((W14.setCell ⟨g0, 0, none⟩ (.int .i64 r2k)).setCell ⟨g0, 1, none⟩ (.int .i64 r2n)).setCell ⟨g0, 2, none⟩ (.string ⟨List.toArray r2t⟩)) [(g1, (⟨r1k, r1n, r1t⟩ : Vl)), (g0, (⟨r2k, r2n, r2t⟩ : Vl)), (gb4, (⟨yk, yn, yt⟩ : Vl)), (w.heap.size, (⟨xk, xn, xt⟩ : Vl))] := B.out.put (b := (⟨r2k, r2n, r2t⟩ : Vl)) 1 rfl
        have hL : Below w.heap.size w (((W14.setCell ⟨g0, 0, none⟩ (.int .i64 r2k)).setCell ⟨g0, 1, none⟩ (.int .i64 r2n)).setCell ⟨g0, 2, none⟩ (.string ⟨List.toArray r2t⟩)) := below_putV BL.out HGb8_4_1.out (⟨r2k, r2n, r2t⟩ : Vl)
        obtain ⟨W15, hW⟩ : ∃ X, ((W14.setCell ⟨g0, 0, none⟩ (.int .i64 r2k)).setCell ⟨g0, 1, none⟩ (.int .i64 r2n)).setCell ⟨g0, 2, none⟩ (.string ⟨List.toArray r2t⟩) = X := ⟨_, rfl⟩
        rw [hW] at hB hL ⊢
        replace B := Lib.hid hB
        replace BL := Lib.hid hL
        clear hB hL hW
        replace HL := Lib.hid (show true = BigParts_s13 (⟨xk, xn, xt⟩ : Vl) (⟨yk, yn, yt⟩ : Vl) n ((⟨r0k, r0n, r0t⟩, r0e) : Vl × Int) ((⟨r1k, r1n, r1t⟩, r1e) : Vl × Int) ((⟨r2k, r2n, r2t⟩, r2e) : Vl × Int) from HL.out.trans (by unfold BigParts_s14; rw [HR2.out]))
        -- region 9
        have cb3_0 : W15.cell? ⟨w.heap.size, 0, none⟩ = some (.int .i64 xk) := (B.out.get 3 rfl).c0
        have cb3_1 : W15.cell? ⟨w.heap.size, 1, none⟩ = some (.int .i64 xn) := (B.out.get 3 rfl).c1
        have cb3_2 : W15.cell? ⟨w.heap.size, 2, none⟩ = some (.string ⟨List.toArray xt⟩) := (B.out.get 3 rfl).c2
        have cb4_0 : W15.cell? ⟨gb4, 0, none⟩ = some (.int .i64 yk) := (B.out.get 2 rfl).c0
        have cb4_1 : W15.cell? ⟨gb4, 1, none⟩ = some (.int .i64 yn) := (B.out.get 2 rfl).c1
        have cb4_2 : W15.cell? ⟨gb4, 2, none⟩ = some (.string ⟨List.toArray yt⟩) := (B.out.get 2 rfl).c2
        obtain ⟨⟨⟨r3k, r3n, r3t⟩, r3e⟩, hr3⟩ : ∃ p, modR (⟨xk, xn, xt⟩ : Vl) (⟨yk, yn, yt⟩ : Vl) = p := ⟨_, rfl⟩
        have hc3 := fun (W : World) (hW : Env W) => rmod_pub (⟨xk, xn, xt⟩ : Vl) (⟨yk, yn, yt⟩ : Vl) HOx.out HOy.out W hW
        have ho3 := modR_ok (⟨xk, xn, xt⟩ : Vl) (⟨yk, yn, yt⟩ : Vl)
        rw [hr3] at hc3 ho3
        simp only [Vl.val, pr] at hc3
        have HC3 := Lib.hid hc3; have HOr3 : Hid (Vl.ok ⟨r3k, r3n, r3t⟩) := Lib.hid ho3; have HR3 := Lib.hid hr3
        clear hc3 ho3 hr3
        go_wp2_with fail
        refine (HC3.out _ (HE.out.below BL.out)).mono ?_
        rintro e W16 ⟨rfl, hb⟩
        clear cb3_0 cb3_1 cb3_2 cb4_0 cb4_1 cb4_2
        replace B := Lib.hid (B.out.below hb)
        replace BL := Lib.hid (below_then BL.out hb)
        clear hb
        have cb10_5_2_0 : W16.cell? ⟨g1, 0, none⟩ = some (.int .i64 r1k) := (B.out.get 0 rfl).c0
        have cb10_5_2_1 : W16.cell? ⟨g1, 1, none⟩ = some (.int .i64 r1n) := (B.out.get 0 rfl).c1
        have cb10_5_2_2 : W16.cell? ⟨g1, 2, none⟩ = some (.string ⟨List.toArray r1t⟩) := (B.out.get 0 rfl).c2
        have zb10_5_2_0 : W16.frozen? ⟨g1, 0, none⟩ = false := (B.out.get 0 rfl).f0
        have zb10_5_2_1 : W16.frozen? ⟨g1, 1, none⟩ = false := (B.out.get 0 rfl).f1
        have zb10_5_2_2 : W16.frozen? ⟨g1, 2, none⟩ = false := (B.out.get 0 rfl).f2
        have zb10_5_2_l : g1 < W16.heap.size := (B.out.get 0 rfl).lt
        go_upto_region 10 with fail
        clear cb10_5_2_0 cb10_5_2_1 cb10_5_2_2 zb10_5_2_0 zb10_5_2_1 zb10_5_2_2 zb10_5_2_l
        have hB : Bxs (((W16.setCell ⟨g1, 0, none⟩ (.int .i64 r3k)).setCell ⟨g1, 1, none⟩ (.int .i64 r3n)).setCell ⟨g1, 2, none⟩ (.string ⟨List.toArray r3t⟩)) [(g1, (⟨r3k, r3n, r3t⟩ : Vl)), (g0, (⟨r2k, r2n, r2t⟩ : Vl)), (gb4, (⟨yk, yn, yt⟩ : Vl)), (w.heap.size, (⟨xk, xn, xt⟩ : Vl))] := B.out.put (b := (⟨r3k, r3n, r3t⟩ : Vl)) 0 rfl
        have hL : Below w.heap.size w (((W16.setCell ⟨g1, 0, none⟩ (.int .i64 r3k)).setCell ⟨g1, 1, none⟩ (.int .i64 r3n)).setCell ⟨g1, 2, none⟩ (.string ⟨List.toArray r3t⟩)) := below_putV BL.out HGb10_5_2.out (⟨r3k, r3n, r3t⟩ : Vl)
        obtain ⟨W17, hW⟩ : ∃ X, ((W16.setCell ⟨g1, 0, none⟩ (.int .i64 r3k)).setCell ⟨g1, 1, none⟩ (.int .i64 r3n)).setCell ⟨g1, 2, none⟩ (.string ⟨List.toArray r3t⟩) = X := ⟨_, rfl⟩
        rw [hW] at hB hL ⊢
        replace B := Lib.hid hB
        replace BL := Lib.hid hL
        clear hB hL hW
        replace HL := Lib.hid (show true = BigParts_s12 (⟨xk, xn, xt⟩ : Vl) (⟨yk, yn, yt⟩ : Vl) n ((⟨r0k, r0n, r0t⟩, r0e) : Vl × Int) ((⟨r1k, r1n, r1t⟩, r1e) : Vl × Int) ((⟨r2k, r2n, r2t⟩, r2e) : Vl × Int) ((⟨r3k, r3n, r3t⟩, r3e) : Vl × Int) from HL.out.trans (by unfold BigParts_s13; rw [HR3.out]))
        -- region 10, a test
        obtain ⟨b4, h⟩ : ∃ b : Bool, (veqB r2k r2n r2t r3k r3n r3t) = b := ⟨_, rfl⟩
        have HA4 := Lib.hid h
        clear h
        obtain ⟨b5, h⟩ : ∃ b : Bool, (r2e == r3e) = b := ⟨_, rfl⟩
        have HA5 := Lib.hid h
        clear h
        have HCF : ((!(veqB r2k r2n r2t r3k r3n r3t)) || (!(r2e == r3e))) = false := Bool.eq_false_iff.2 fun h => Bool.noConfusion (show true = false from HL.out.trans (if_pos h))
        have HCB : ((!b4) || (!b5)) = false := by
          have h := HCF
          rw [HA4.out, HA5.out] at h
          exact h
        have HCW := Lib.hid HCF
        have HCC := Lib.hid HCB
        clear HCF HCB
        go_upto_region 10 with fail
        go_cut [65] from 58 to 65 (fun v wx => v = .bool false ∧ Hid (Bxs wx [(g1, (⟨r3k, r3n, r3t⟩ : Vl)), (g0, (⟨r2k, r2n, r2t⟩ : Vl)), (gb4, (⟨yk, yn, yt⟩ : Vl)), (w.heap.size, (⟨xk, xn, xt⟩ : Vl))]) ∧ Hid (Below w.heap.size w wx))
        case first =>
          clear HL
          cases b4 with
          | true =>
            cases b5 with
            | true =>
              have f0_0 : (veqB r2k r2n r2t r3k r3n r3t) = true := HA4.out
              have f1_0 : ((r2e : Int) == r3e) = true := HA5.out
              have f1_1 : ((r2e : Int) != r3e) = false := by have h := HA5.out; simpa using h
              have cb8_4_1_0 : W17.cell? ⟨g0, 0, none⟩ = some (.int .i64 r2k) := (B.out.get 1 rfl).c0
              have cb8_4_1_1 : W17.cell? ⟨g0, 1, none⟩ = some (.int .i64 r2n) := (B.out.get 1 rfl).c1
              have cb8_4_1_2 : W17.cell? ⟨g0, 2, none⟩ = some (.string ⟨List.toArray r2t⟩) := (B.out.get 1 rfl).c2
              have cb10_5_2_0 : W17.cell? ⟨g1, 0, none⟩ = some (.int .i64 r3k) := (B.out.get 0 rfl).c0
              have cb10_5_2_1 : W17.cell? ⟨g1, 1, none⟩ = some (.int .i64 r3n) := (B.out.get 0 rfl).c1
              have cb10_5_2_2 : W17.cell? ⟨g1, 2, none⟩ = some (.string ⟨List.toArray r3t⟩) := (B.out.get 0 rfl).c2
              go_wp2_with fail
              go_meet
              exact ⟨rfl, B, BL⟩
            | false =>
              exact Bool.noConfusion (show true = false from HCC.out)
          | false =>
            exact Bool.noConfusion (show true = false from HCC.out)
        case rest =>
          clear B BL
          obtain ⟨rfl, B, BL⟩ := hcut
          obtain ⟨W18, hW⟩ : ∃ X, wc = X := ⟨_, rfl⟩
          rw [hW] at B BL ⊢
          clear hW
          clear HCC HA4 HA5
          replace HL := Lib.hid (show true = BigParts_s11 (⟨xk, xn, xt⟩ : Vl) (⟨yk, yn, yt⟩ : Vl) n ((⟨r0k, r0n, r0t⟩, r0e) : Vl × Int) ((⟨r1k, r1n, r1t⟩, r1e) : Vl × Int) ((⟨r2k, r2n, r2t⟩, r2e) : Vl × Int) ((⟨r3k, r3n, r3t⟩, r3e) : Vl × Int) from HL.out.trans ((if_neg (fun h => Bool.noConfusion (HCW.out.symm.trans h)))))
          -- region 12
          have cb3_0 : W18.cell? ⟨w.heap.size, 0, none⟩ = some (.int .i64 xk) := (B.out.get 3 rfl).c0
          have cb3_1 : W18.cell? ⟨w.heap.size, 1, none⟩ = some (.int .i64 xn) := (B.out.get 3 rfl).c1
          have cb3_2 : W18.cell? ⟨w.heap.size, 2, none⟩ = some (.string ⟨List.toArray xt⟩) := (B.out.get 3 rfl).c2
          obtain ⟨⟨⟨r4k, r4n, r4t⟩, r4e⟩, hr4⟩ : ∃ p, powR (⟨xk, xn, xt⟩ : Vl) n = p := ⟨_, rfl⟩
          have hc4 := fun (W : World) (hW : Env W) => powV (⟨xk, xn, xt⟩ : Vl) n HOx.out W hW
          have ho4 := powR_ok (⟨xk, xn, xt⟩ : Vl) n
          rw [hr4] at hc4 ho4
          simp only [Vl.val, pr] at hc4
          have HC4 := Lib.hid hc4; have HOr4 : Hid (Vl.ok ⟨r4k, r4n, r4t⟩) := Lib.hid ho4; have HR4 := Lib.hid hr4
          clear hc4 ho4 hr4
          go_wp2_with fail
          refine (HC4.out _ (HE.out.below BL.out)).mono ?_
          rintro e W19 ⟨rfl, hb⟩
          clear cb3_0 cb3_1 cb3_2
          replace B := Lib.hid (B.out.below hb)
          replace BL := Lib.hid (below_then BL.out hb)
          clear hb
          have cb8_4_1_0 : W19.cell? ⟨g0, 0, none⟩ = some (.int .i64 r2k) := (B.out.get 1 rfl).c0
          have cb8_4_1_1 : W19.cell? ⟨g0, 1, none⟩ = some (.int .i64 r2n) := (B.out.get 1 rfl).c1
          have cb8_4_1_2 : W19.cell? ⟨g0, 2, none⟩ = some (.string ⟨List.toArray r2t⟩) := (B.out.get 1 rfl).c2
          have zb8_4_1_0 : W19.frozen? ⟨g0, 0, none⟩ = false := (B.out.get 1 rfl).f0
          have zb8_4_1_1 : W19.frozen? ⟨g0, 1, none⟩ = false := (B.out.get 1 rfl).f1
          have zb8_4_1_2 : W19.frozen? ⟨g0, 2, none⟩ = false := (B.out.get 1 rfl).f2
          have zb8_4_1_l : g0 < W19.heap.size := (B.out.get 1 rfl).lt
          go_upto_region 13 with fail
          clear cb8_4_1_0 cb8_4_1_1 cb8_4_1_2 zb8_4_1_0 zb8_4_1_1 zb8_4_1_2 zb8_4_1_l
          have hB : Bxs (((W19.setCell ⟨g0, 0, none⟩ (.int .i64 r4k)).setCell ⟨g0, 1, none⟩ (.int .i64 r4n)).setCell ⟨g0, 2, none⟩ (.string ⟨List.toArray r4t⟩)) [(g1, (⟨r3k, r3n, r3t⟩ : Vl)), (g0, (⟨r4k, r4n, r4t⟩ : Vl)), (gb4, (⟨yk, yn, yt⟩ : Vl)), (w.heap.size, (⟨xk, xn, xt⟩ : Vl))] := B.out.put (b := (⟨r4k, r4n, r4t⟩ : Vl)) 1 rfl
          have hL : Below w.heap.size w (((W19.setCell ⟨g0, 0, none⟩ (.int .i64 r4k)).setCell ⟨g0, 1, none⟩ (.int .i64 r4n)).setCell ⟨g0, 2, none⟩ (.string ⟨List.toArray r4t⟩)) := below_putV BL.out HGb8_4_1.out (⟨r4k, r4n, r4t⟩ : Vl)
          obtain ⟨W20, hW⟩ : ∃ X, ((W19.setCell ⟨g0, 0, none⟩ (.int .i64 r4k)).setCell ⟨g0, 1, none⟩ (.int .i64 r4n)).setCell ⟨g0, 2, none⟩ (.string ⟨List.toArray r4t⟩) = X := ⟨_, rfl⟩
          rw [hW] at hB hL ⊢
          replace B := Lib.hid hB
          replace BL := Lib.hid hL
          clear hB hL hW
          replace HL := Lib.hid (show true = BigParts_s10 (⟨xk, xn, xt⟩ : Vl) (⟨yk, yn, yt⟩ : Vl) n ((⟨r0k, r0n, r0t⟩, r0e) : Vl × Int) ((⟨r1k, r1n, r1t⟩, r1e) : Vl × Int) ((⟨r2k, r2n, r2t⟩, r2e) : Vl × Int) ((⟨r3k, r3n, r3t⟩, r3e) : Vl × Int) ((⟨r4k, r4n, r4t⟩, r4e) : Vl × Int) from HL.out.trans (by unfold BigParts_s11; rw [HR4.out]))
          -- region 13
          have cb3_0 : W20.cell? ⟨w.heap.size, 0, none⟩ = some (.int .i64 xk) := (B.out.get 3 rfl).c0
          have cb3_1 : W20.cell? ⟨w.heap.size, 1, none⟩ = some (.int .i64 xn) := (B.out.get 3 rfl).c1
          have cb3_2 : W20.cell? ⟨w.heap.size, 2, none⟩ = some (.string ⟨List.toArray xt⟩) := (B.out.get 3 rfl).c2
          obtain ⟨⟨⟨r5k, r5n, r5t⟩, r5e⟩, hr5⟩ : ∃ p, powR (⟨xk, xn, xt⟩ : Vl) n = p := ⟨_, rfl⟩
          have hc5 := fun (W : World) (hW : Env W) => rpowV (⟨xk, xn, xt⟩ : Vl) n HOx.out W hW
          have ho5 := powR_ok (⟨xk, xn, xt⟩ : Vl) n
          rw [hr5] at hc5 ho5
          simp only [Vl.val, pr] at hc5
          have HC5 := Lib.hid hc5; have HOr5 : Hid (Vl.ok ⟨r5k, r5n, r5t⟩) := Lib.hid ho5; have HR5 := Lib.hid hr5
          clear hc5 ho5 hr5
          go_wp2_with fail
          refine (HC5.out _ (HE.out.below BL.out)).mono ?_
          rintro e W21 ⟨rfl, hb⟩
          clear cb3_0 cb3_1 cb3_2
          replace B := Lib.hid (B.out.below hb)
          replace BL := Lib.hid (below_then BL.out hb)
          clear hb
          have cb10_5_2_0 : W21.cell? ⟨g1, 0, none⟩ = some (.int .i64 r3k) := (B.out.get 0 rfl).c0
          have cb10_5_2_1 : W21.cell? ⟨g1, 1, none⟩ = some (.int .i64 r3n) := (B.out.get 0 rfl).c1
          have cb10_5_2_2 : W21.cell? ⟨g1, 2, none⟩ = some (.string ⟨List.toArray r3t⟩) := (B.out.get 0 rfl).c2
          have zb10_5_2_0 : W21.frozen? ⟨g1, 0, none⟩ = false := (B.out.get 0 rfl).f0
          have zb10_5_2_1 : W21.frozen? ⟨g1, 1, none⟩ = false := (B.out.get 0 rfl).f1
          have zb10_5_2_2 : W21.frozen? ⟨g1, 2, none⟩ = false := (B.out.get 0 rfl).f2
          have zb10_5_2_l : g1 < W21.heap.size := (B.out.get 0 rfl).lt
          go_upto_region 14 with fail
          clear cb10_5_2_0 cb10_5_2_1 cb10_5_2_2 zb10_5_2_0 zb10_5_2_1 zb10_5_2_2 zb10_5_2_l
          have hB : Bxs (((W21.setCell ⟨g1, 0, none⟩ (.int .i64 r5k)).setCell ⟨g1, 1, none⟩ (.int .i64 r5n)).setCell ⟨g1, 2, none⟩ (.string ⟨List.toArray r5t⟩)) [(g1, (⟨r5k, r5n, r5t⟩ : Vl)), (g0, (⟨r4k, r4n, r4t⟩ : Vl)), (gb4, (⟨yk, yn, yt⟩ : Vl)), (w.heap.size, (⟨xk, xn, xt⟩ : Vl))] := B.out.put (b := (⟨r5k, r5n, r5t⟩ : Vl)) 0 rfl
          have hL : Below w.heap.size w (((W21.setCell ⟨g1, 0, none⟩ (.int .i64 r5k)).setCell ⟨g1, 1, none⟩ (.int .i64 r5n)).setCell ⟨g1, 2, none⟩ (.string ⟨List.toArray r5t⟩)) := below_putV BL.out HGb10_5_2.out (⟨r5k, r5n, r5t⟩ : Vl)
          obtain ⟨W22, hW⟩ : ∃ X, ((W21.setCell ⟨g1, 0, none⟩ (.int .i64 r5k)).setCell ⟨g1, 1, none⟩ (.int .i64 r5n)).setCell ⟨g1, 2, none⟩ (.string ⟨List.toArray r5t⟩) = X := ⟨_, rfl⟩
          rw [hW] at hB hL ⊢
          replace B := Lib.hid hB
          replace BL := Lib.hid hL
          clear hB hL hW
          replace HL := Lib.hid (show true = BigParts_s9 (⟨xk, xn, xt⟩ : Vl) (⟨yk, yn, yt⟩ : Vl) n ((⟨r0k, r0n, r0t⟩, r0e) : Vl × Int) ((⟨r1k, r1n, r1t⟩, r1e) : Vl × Int) ((⟨r2k, r2n, r2t⟩, r2e) : Vl × Int) ((⟨r3k, r3n, r3t⟩, r3e) : Vl × Int) ((⟨r4k, r4n, r4t⟩, r4e) : Vl × Int) ((⟨r5k, r5n, r5t⟩, r5e) : Vl × Int) from HL.out.trans (by unfold BigParts_s10; rw [HR5.out]))
          -- region 14, a test
          obtain ⟨b6, h⟩ : ∃ b : Bool, (veqB r4k r4n r4t r5k r5n r5t) = b := ⟨_, rfl⟩
          have HA6 := Lib.hid h
          clear h
          obtain ⟨b7, h⟩ : ∃ b : Bool, (r4e == r5e) = b := ⟨_, rfl⟩
          have HA7 := Lib.hid h
          clear h
          have HCF : ((!(veqB r4k r4n r4t r5k r5n r5t)) || (!(r4e == r5e))) = false := Bool.eq_false_iff.2 fun h => Bool.noConfusion (show true = false from HL.out.trans (if_pos h))
          have HCB : ((!b6) || (!b7)) = false := by
            have h := HCF
            rw [HA6.out, HA7.out] at h
            exact h
          have HCW := Lib.hid HCF
          have HCC := Lib.hid HCB
          clear HCF HCB
          go_upto_region 14 with fail
          go_cut [85] from 78 to 85 (fun v wx => v = .bool false ∧ Hid (Bxs wx [(g1, (⟨r5k, r5n, r5t⟩ : Vl)), (g0, (⟨r4k, r4n, r4t⟩ : Vl)), (gb4, (⟨yk, yn, yt⟩ : Vl)), (w.heap.size, (⟨xk, xn, xt⟩ : Vl))]) ∧ Hid (Below w.heap.size w wx))
          case first =>
            clear HL
            cases b6 with
            | true =>
              cases b7 with
              | true =>
                have f0_0 : (veqB r4k r4n r4t r5k r5n r5t) = true := HA6.out
                have f1_0 : ((r4e : Int) == r5e) = true := HA7.out
                have f1_1 : ((r4e : Int) != r5e) = false := by have h := HA7.out; simpa using h
                have cb8_4_1_0 : W22.cell? ⟨g0, 0, none⟩ = some (.int .i64 r4k) := (B.out.get 1 rfl).c0
                have cb8_4_1_1 : W22.cell? ⟨g0, 1, none⟩ = some (.int .i64 r4n) := (B.out.get 1 rfl).c1
                have cb8_4_1_2 : W22.cell? ⟨g0, 2, none⟩ = some (.string ⟨List.toArray r4t⟩) := (B.out.get 1 rfl).c2
                have cb10_5_2_0 : W22.cell? ⟨g1, 0, none⟩ = some (.int .i64 r5k) := (B.out.get 0 rfl).c0
                have cb10_5_2_1 : W22.cell? ⟨g1, 1, none⟩ = some (.int .i64 r5n) := (B.out.get 0 rfl).c1
                have cb10_5_2_2 : W22.cell? ⟨g1, 2, none⟩ = some (.string ⟨List.toArray r5t⟩) := (B.out.get 0 rfl).c2
                go_wp2_with fail
                go_meet
                exact ⟨rfl, B, BL⟩
              | false =>
                exact Bool.noConfusion (show true = false from HCC.out)
            | false =>
              exact Bool.noConfusion (show true = false from HCC.out)
          case rest =>
            clear B BL
            obtain ⟨rfl, B, BL⟩ := hcut
            obtain ⟨W23, hW⟩ : ∃ X, wc = X := ⟨_, rfl⟩
            rw [hW] at B BL ⊢
            clear hW
            clear HCC HA6 HA7
            replace HL := Lib.hid (show true = BigParts_s8 (⟨xk, xn, xt⟩ : Vl) (⟨yk, yn, yt⟩ : Vl) n ((⟨r0k, r0n, r0t⟩, r0e) : Vl × Int) ((⟨r1k, r1n, r1t⟩, r1e) : Vl × Int) ((⟨r2k, r2n, r2t⟩, r2e) : Vl × Int) ((⟨r3k, r3n, r3t⟩, r3e) : Vl × Int) ((⟨r4k, r4n, r4t⟩, r4e) : Vl × Int) ((⟨r5k, r5n, r5t⟩, r5e) : Vl × Int) from HL.out.trans ((if_neg (fun h => Bool.noConfusion (HCW.out.symm.trans h)))))
            -- region 16
            have cb3_0 : W23.cell? ⟨w.heap.size, 0, none⟩ = some (.int .i64 xk) := (B.out.get 3 rfl).c0
            have cb3_1 : W23.cell? ⟨w.heap.size, 1, none⟩ = some (.int .i64 xn) := (B.out.get 3 rfl).c1
            have cb3_2 : W23.cell? ⟨w.heap.size, 2, none⟩ = some (.string ⟨List.toArray xt⟩) := (B.out.get 3 rfl).c2
            have cb4_0 : W23.cell? ⟨gb4, 0, none⟩ = some (.int .i64 yk) := (B.out.get 2 rfl).c0
            have cb4_1 : W23.cell? ⟨gb4, 1, none⟩ = some (.int .i64 yn) := (B.out.get 2 rfl).c1
            have cb4_2 : W23.cell? ⟨gb4, 2, none⟩ = some (.string ⟨List.toArray yt⟩) := (B.out.get 2 rfl).c2
            obtain ⟨⟨⟨r6k, r6n, r6t⟩, r6e⟩, hr6⟩ : ∃ p, gcdR (⟨xk, xn, xt⟩ : Vl) (⟨yk, yn, yt⟩ : Vl) = p := ⟨_, rfl⟩
            have hc6 := fun (W : World) (hW : Env W) => gcd_pub (⟨xk, xn, xt⟩ : Vl) (⟨yk, yn, yt⟩ : Vl) HOx.out HOy.out W hW
            have ho6 := gcdR_ok (⟨xk, xn, xt⟩ : Vl) (⟨yk, yn, yt⟩ : Vl)
            rw [hr6] at hc6 ho6
            simp only [Vl.val, pr] at hc6
            have HC6 := Lib.hid hc6; have HOr6 : Hid (Vl.ok ⟨r6k, r6n, r6t⟩) := Lib.hid ho6; have HR6 := Lib.hid hr6
            clear hc6 ho6 hr6
            go_wp2_with fail
            refine (HC6.out _ (HE.out.below BL.out)).mono ?_
            rintro e W24 ⟨rfl, hb⟩
            clear cb3_0 cb3_1 cb3_2 cb4_0 cb4_1 cb4_2
            replace B := Lib.hid (B.out.below hb)
            replace BL := Lib.hid (below_then BL.out hb)
            clear hb
            have cb8_4_1_0 : W24.cell? ⟨g0, 0, none⟩ = some (.int .i64 r4k) := (B.out.get 1 rfl).c0
            have cb8_4_1_1 : W24.cell? ⟨g0, 1, none⟩ = some (.int .i64 r4n) := (B.out.get 1 rfl).c1
            have cb8_4_1_2 : W24.cell? ⟨g0, 2, none⟩ = some (.string ⟨List.toArray r4t⟩) := (B.out.get 1 rfl).c2
            have zb8_4_1_0 : W24.frozen? ⟨g0, 0, none⟩ = false := (B.out.get 1 rfl).f0
            have zb8_4_1_1 : W24.frozen? ⟨g0, 1, none⟩ = false := (B.out.get 1 rfl).f1
            have zb8_4_1_2 : W24.frozen? ⟨g0, 2, none⟩ = false := (B.out.get 1 rfl).f2
            have zb8_4_1_l : g0 < W24.heap.size := (B.out.get 1 rfl).lt
            go_upto_region 17 with fail
            clear cb8_4_1_0 cb8_4_1_1 cb8_4_1_2 zb8_4_1_0 zb8_4_1_1 zb8_4_1_2 zb8_4_1_l
            have hB : Bxs (((W24.setCell ⟨g0, 0, none⟩ (.int .i64 r6k)).setCell ⟨g0, 1, none⟩ (.int .i64 r6n)).setCell ⟨g0, 2, none⟩ (.string ⟨List.toArray r6t⟩)) [(g1, (⟨r5k, r5n, r5t⟩ : Vl)), (g0, (⟨r6k, r6n, r6t⟩ : Vl)), (gb4, (⟨yk, yn, yt⟩ : Vl)), (w.heap.size, (⟨xk, xn, xt⟩ : Vl))] := B.out.put (b := (⟨r6k, r6n, r6t⟩ : Vl)) 1 rfl
            have hL : Below w.heap.size w (((W24.setCell ⟨g0, 0, none⟩ (.int .i64 r6k)).setCell ⟨g0, 1, none⟩ (.int .i64 r6n)).setCell ⟨g0, 2, none⟩ (.string ⟨List.toArray r6t⟩)) := below_putV BL.out HGb8_4_1.out (⟨r6k, r6n, r6t⟩ : Vl)
            obtain ⟨W25, hW⟩ : ∃ X, ((W24.setCell ⟨g0, 0, none⟩ (.int .i64 r6k)).setCell ⟨g0, 1, none⟩ (.int .i64 r6n)).setCell ⟨g0, 2, none⟩ (.string ⟨List.toArray r6t⟩) = X := ⟨_, rfl⟩
            rw [hW] at hB hL ⊢
            replace B := Lib.hid hB
            replace BL := Lib.hid hL
            clear hB hL hW
            replace HL := Lib.hid (show true = BigParts_s7 (⟨xk, xn, xt⟩ : Vl) (⟨yk, yn, yt⟩ : Vl) n ((⟨r0k, r0n, r0t⟩, r0e) : Vl × Int) ((⟨r1k, r1n, r1t⟩, r1e) : Vl × Int) ((⟨r2k, r2n, r2t⟩, r2e) : Vl × Int) ((⟨r3k, r3n, r3t⟩, r3e) : Vl × Int) ((⟨r4k, r4n, r4t⟩, r4e) : Vl × Int) ((⟨r5k, r5n, r5t⟩, r5e) : Vl × Int) ((⟨r6k, r6n, r6t⟩, r6e) : Vl × Int) from HL.out.trans (by unfold BigParts_s8; rw [HR6.out]))
            -- region 17
            have cb3_0 : W25.cell? ⟨w.heap.size, 0, none⟩ = some (.int .i64 xk) := (B.out.get 3 rfl).c0
            have cb3_1 : W25.cell? ⟨w.heap.size, 1, none⟩ = some (.int .i64 xn) := (B.out.get 3 rfl).c1
            have cb3_2 : W25.cell? ⟨w.heap.size, 2, none⟩ = some (.string ⟨List.toArray xt⟩) := (B.out.get 3 rfl).c2
            have cb4_0 : W25.cell? ⟨gb4, 0, none⟩ = some (.int .i64 yk) := (B.out.get 2 rfl).c0
            have cb4_1 : W25.cell? ⟨gb4, 1, none⟩ = some (.int .i64 yn) := (B.out.get 2 rfl).c1
            have cb4_2 : W25.cell? ⟨gb4, 2, none⟩ = some (.string ⟨List.toArray yt⟩) := (B.out.get 2 rfl).c2
            obtain ⟨⟨⟨r7k, r7n, r7t⟩, r7e⟩, hr7⟩ : ∃ p, gcdR (⟨xk, xn, xt⟩ : Vl) (⟨yk, yn, yt⟩ : Vl) = p := ⟨_, rfl⟩
            have hc7 := fun (W : World) (hW : Env W) => rgcd_pub (⟨xk, xn, xt⟩ : Vl) (⟨yk, yn, yt⟩ : Vl) HOx.out HOy.out W hW
            have ho7 := gcdR_ok (⟨xk, xn, xt⟩ : Vl) (⟨yk, yn, yt⟩ : Vl)
            rw [hr7] at hc7 ho7
            simp only [Vl.val, pr] at hc7
            have HC7 := Lib.hid hc7; have HOr7 : Hid (Vl.ok ⟨r7k, r7n, r7t⟩) := Lib.hid ho7; have HR7 := Lib.hid hr7
            clear hc7 ho7 hr7
            go_wp2_with fail
            refine (HC7.out _ (HE.out.below BL.out)).mono ?_
            rintro e W26 ⟨rfl, hb⟩
            clear cb3_0 cb3_1 cb3_2 cb4_0 cb4_1 cb4_2
            replace B := Lib.hid (B.out.below hb)
            replace BL := Lib.hid (below_then BL.out hb)
            clear hb
            have cb10_5_2_0 : W26.cell? ⟨g1, 0, none⟩ = some (.int .i64 r5k) := (B.out.get 0 rfl).c0
            have cb10_5_2_1 : W26.cell? ⟨g1, 1, none⟩ = some (.int .i64 r5n) := (B.out.get 0 rfl).c1
            have cb10_5_2_2 : W26.cell? ⟨g1, 2, none⟩ = some (.string ⟨List.toArray r5t⟩) := (B.out.get 0 rfl).c2
            have zb10_5_2_0 : W26.frozen? ⟨g1, 0, none⟩ = false := (B.out.get 0 rfl).f0
            have zb10_5_2_1 : W26.frozen? ⟨g1, 1, none⟩ = false := (B.out.get 0 rfl).f1
            have zb10_5_2_2 : W26.frozen? ⟨g1, 2, none⟩ = false := (B.out.get 0 rfl).f2
            have zb10_5_2_l : g1 < W26.heap.size := (B.out.get 0 rfl).lt
            go_upto_region 18 with fail
            clear cb10_5_2_0 cb10_5_2_1 cb10_5_2_2 zb10_5_2_0 zb10_5_2_1 zb10_5_2_2 zb10_5_2_l
            have hB : Bxs (((W26.setCell ⟨g1, 0, none⟩ (.int .i64 r7k)).setCell ⟨g1, 1, none⟩ (.int .i64 r7n)).setCell ⟨g1, 2, none⟩ (.string ⟨List.toArray r7t⟩)) [(g1, (⟨r7k, r7n, r7t⟩ : Vl)), (g0, (⟨r6k, r6n, r6t⟩ : Vl)), (gb4, (⟨yk, yn, yt⟩ : Vl)), (w.heap.size, (⟨xk, xn, xt⟩ : Vl))] := B.out.put (b := (⟨r7k, r7n, r7t⟩ : Vl)) 0 rfl
            have hL : Below w.heap.size w (((W26.setCell ⟨g1, 0, none⟩ (.int .i64 r7k)).setCell ⟨g1, 1, none⟩ (.int .i64 r7n)).setCell ⟨g1, 2, none⟩ (.string ⟨List.toArray r7t⟩)) := below_putV BL.out HGb10_5_2.out (⟨r7k, r7n, r7t⟩ : Vl)
            obtain ⟨W27, hW⟩ : ∃ X, ((W26.setCell ⟨g1, 0, none⟩ (.int .i64 r7k)).setCell ⟨g1, 1, none⟩ (.int .i64 r7n)).setCell ⟨g1, 2, none⟩ (.string ⟨List.toArray r7t⟩) = X := ⟨_, rfl⟩
            rw [hW] at hB hL ⊢
            replace B := Lib.hid hB
            replace BL := Lib.hid hL
            clear hB hL hW
            replace HL := Lib.hid (show true = BigParts_s6 (⟨xk, xn, xt⟩ : Vl) (⟨yk, yn, yt⟩ : Vl) n ((⟨r0k, r0n, r0t⟩, r0e) : Vl × Int) ((⟨r1k, r1n, r1t⟩, r1e) : Vl × Int) ((⟨r2k, r2n, r2t⟩, r2e) : Vl × Int) ((⟨r3k, r3n, r3t⟩, r3e) : Vl × Int) ((⟨r4k, r4n, r4t⟩, r4e) : Vl × Int) ((⟨r5k, r5n, r5t⟩, r5e) : Vl × Int) ((⟨r6k, r6n, r6t⟩, r6e) : Vl × Int) ((⟨r7k, r7n, r7t⟩, r7e) : Vl × Int) from HL.out.trans (by unfold BigParts_s7; rw [HR7.out]))
            -- region 18
            have cb3_0 : W27.cell? ⟨w.heap.size, 0, none⟩ = some (.int .i64 xk) := (B.out.get 3 rfl).c0
            have cb3_1 : W27.cell? ⟨w.heap.size, 1, none⟩ = some (.int .i64 xn) := (B.out.get 3 rfl).c1
            have cb3_2 : W27.cell? ⟨w.heap.size, 2, none⟩ = some (.string ⟨List.toArray xt⟩) := (B.out.get 3 rfl).c2
            obtain ⟨⟨⟨r8k, r8n, r8t⟩, r8e⟩, hr8⟩ : ∃ p, rootR (⟨xk, xn, xt⟩ : Vl) = p := ⟨_, rfl⟩
            have hc8 := fun (W : World) (hW : Env W) => rootV (⟨xk, xn, xt⟩ : Vl) HOx.out W hW
            have ho8 := rootR_ok (⟨xk, xn, xt⟩ : Vl) HOx.out
            rw [hr8] at hc8 ho8
            simp only [Vl.val, pr] at hc8
            have HC8 := Lib.hid hc8; have HOr8 : Hid (Vl.ok ⟨r8k, r8n, r8t⟩) := Lib.hid ho8; have HR8 := Lib.hid hr8
            clear hc8 ho8 hr8
            go_wp2_with fail
            refine (HC8.out _ (HE.out.below BL.out)).mono ?_
            rintro e W28 ⟨rfl, hb⟩
            clear cb3_0 cb3_1 cb3_2
            replace B := Lib.hid (B.out.below hb)
            replace BL := Lib.hid (below_then BL.out hb)
            clear hb
            go_upto_region 19 with fail
            have hB : Bxs (W28.alloc (.cells #[.int .i64 r8k, .int .i64 r8n, .string ⟨List.toArray r8t⟩] 23)) ((W28.heap.size, (⟨r8k, r8n, r8t⟩ : Vl)) :: [(g1, (⟨r7k, r7n, r7t⟩ : Vl)), (g0, (⟨r6k, r6n, r6t⟩ : Vl)), (gb4, (⟨yk, yn, yt⟩ : Vl)), (w.heap.size, (⟨xk, xn, xt⟩ : Vl))]) := B.out.push (⟨r8k, r8n, r8t⟩ : Vl) 23
            have hL : Below w.heap.size w (W28.alloc (.cells #[.int .i64 r8k, .int .i64 r8n, .string ⟨List.toArray r8t⟩] 23)) := BL.out.alloc BL.out.size _
            obtain ⟨W29, hW⟩ : ∃ X, W28.alloc (.cells #[.int .i64 r8k, .int .i64 r8n, .string ⟨List.toArray r8t⟩] 23) = X := ⟨_, rfl⟩
            obtain ⟨g2, hg⟩ : ∃ g, W28.heap.size = g := ⟨_, rfl⟩
            rw [hW] at hB hL ⊢
            rw [hg] at hB ⊢
            have HGb12_18_6 : Hid (w.heap.size ≤ g2) := Lib.hid (by rw [← hg]; exact BL.out.size)
            replace B := Lib.hid hB
            replace BL := Lib.hid hL
            clear hB hL hW hg
            replace HL := Lib.hid (show true = BigParts_s5 (⟨xk, xn, xt⟩ : Vl) (⟨yk, yn, yt⟩ : Vl) n ((⟨r0k, r0n, r0t⟩, r0e) : Vl × Int) ((⟨r1k, r1n, r1t⟩, r1e) : Vl × Int) ((⟨r2k, r2n, r2t⟩, r2e) : Vl × Int) ((⟨r3k, r3n, r3t⟩, r3e) : Vl × Int) ((⟨r4k, r4n, r4t⟩, r4e) : Vl × Int) ((⟨r5k, r5n, r5t⟩, r5e) : Vl × Int) ((⟨r6k, r6n, r6t⟩, r6e) : Vl × Int) ((⟨r7k, r7n, r7t⟩, r7e) : Vl × Int) ((⟨r8k, r8n, r8t⟩, r8e) : Vl × Int) from HL.out.trans (by unfold BigParts_s6; rw [HR8.out]))
            -- region 19
            have cb3_0 : W29.cell? ⟨w.heap.size, 0, none⟩ = some (.int .i64 xk) := (B.out.get 4 rfl).c0
            have cb3_1 : W29.cell? ⟨w.heap.size, 1, none⟩ = some (.int .i64 xn) := (B.out.get 4 rfl).c1
            have cb3_2 : W29.cell? ⟨w.heap.size, 2, none⟩ = some (.string ⟨List.toArray xt⟩) := (B.out.get 4 rfl).c2
            obtain ⟨⟨⟨r9k, r9n, r9t⟩, r9e⟩, hr9⟩ : ∃ p, rootR (⟨xk, xn, xt⟩ : Vl) = p := ⟨_, rfl⟩
            have hc9 := fun (W : World) (hW : Env W) => rrootV (⟨xk, xn, xt⟩ : Vl) HOx.out W hW
            have ho9 := rootR_ok (⟨xk, xn, xt⟩ : Vl) HOx.out
            rw [hr9] at hc9 ho9
            simp only [Vl.val, pr] at hc9
            have HC9 := Lib.hid hc9; have HOr9 : Hid (Vl.ok ⟨r9k, r9n, r9t⟩) := Lib.hid ho9; have HR9 := Lib.hid hr9
            clear hc9 ho9 hr9
            go_wp2_with fail
            refine (HC9.out _ (HE.out.below BL.out)).mono ?_
            rintro e W30 ⟨rfl, hb⟩
            clear cb3_0 cb3_1 cb3_2
            replace B := Lib.hid (B.out.below hb)
            replace BL := Lib.hid (below_then BL.out hb)
            clear hb
            go_upto_region 20 with fail
            have hB : Bxs (W30.alloc (.cells #[.int .i64 r9k, .int .i64 r9n, .string ⟨List.toArray r9t⟩] 23)) ((W30.heap.size, (⟨r9k, r9n, r9t⟩ : Vl)) :: [(g2, (⟨r8k, r8n, r8t⟩ : Vl)), (g1, (⟨r7k, r7n, r7t⟩ : Vl)), (g0, (⟨r6k, r6n, r6t⟩ : Vl)), (gb4, (⟨yk, yn, yt⟩ : Vl)), (w.heap.size, (⟨xk, xn, xt⟩ : Vl))]) := B.out.push (⟨r9k, r9n, r9t⟩ : Vl) 23
            have hL : Below w.heap.size w (W30.alloc (.cells #[.int .i64 r9k, .int .i64 r9n, .string ⟨List.toArray r9t⟩] 23)) := BL.out.alloc BL.out.size _
            obtain ⟨W31, hW⟩ : ∃ X, W30.alloc (.cells #[.int .i64 r9k, .int .i64 r9n, .string ⟨List.toArray r9t⟩] 23) = X := ⟨_, rfl⟩
            obtain ⟨g3, hg⟩ : ∃ g, W30.heap.size = g := ⟨_, rfl⟩
            rw [hW] at hB hL ⊢
            rw [hg] at hB ⊢
            have HGb14_19_7 : Hid (w.heap.size ≤ g3) := Lib.hid (by rw [← hg]; exact BL.out.size)
            replace B := Lib.hid hB
            replace BL := Lib.hid hL
            clear hB hL hW hg
            replace HL := Lib.hid (show true = BigParts_s4 (⟨xk, xn, xt⟩ : Vl) (⟨yk, yn, yt⟩ : Vl) n ((⟨r0k, r0n, r0t⟩, r0e) : Vl × Int) ((⟨r1k, r1n, r1t⟩, r1e) : Vl × Int) ((⟨r2k, r2n, r2t⟩, r2e) : Vl × Int) ((⟨r3k, r3n, r3t⟩, r3e) : Vl × Int) ((⟨r4k, r4n, r4t⟩, r4e) : Vl × Int) ((⟨r5k, r5n, r5t⟩, r5e) : Vl × Int) ((⟨r6k, r6n, r6t⟩, r6e) : Vl × Int) ((⟨r7k, r7n, r7t⟩, r7e) : Vl × Int) ((⟨r8k, r8n, r8t⟩, r8e) : Vl × Int) ((⟨r9k, r9n, r9t⟩, r9e) : Vl × Int) from HL.out.trans (by unfold BigParts_s5; rw [HR9.out]))
            -- region 20, the end
            obtain ⟨b8, h⟩ : ∃ b : Bool, (veqB r6k r6n r6t r7k r7n r7t) = b := ⟨_, rfl⟩
            have HA8 := Lib.hid h
            clear h
            obtain ⟨b9, h⟩ : ∃ b : Bool, (r6e == r7e) = b := ⟨_, rfl⟩
            have HA9 := Lib.hid h
            clear h
            obtain ⟨b10, h⟩ : ∃ b : Bool, (veqB r8k r8n r8t r9k r9n r9t) = b := ⟨_, rfl⟩
            have HA10 := Lib.hid h
            clear h
            obtain ⟨b11, h⟩ : ∃ b : Bool, (r8e == r9e) = b := ⟨_, rfl⟩
            have HA11 := Lib.hid h
            clear h
            cases b8 with
            | true =>
              cases b9 with
              | true =>
                cases b10 with
                | true =>
                  cases b11 with
                  | true =>
                    clear HL
                    have f0_0 : (veqB r6k r6n r6t r7k r7n r7t) = true := HA8.out
                    have f1_0 : ((r6e : Int) == r7e) = true := HA9.out
                    have f1_1 : ((r6e : Int) != r7e) = false := by have h := HA9.out; simpa using h
                    have f2_0 : (veqB r8k r8n r8t r9k r9n r9t) = true := HA10.out
                    have f3_0 : ((r8e : Int) == r9e) = true := HA11.out
                    have f3_1 : ((r8e : Int) != r9e) = false := by have h := HA11.out; simpa using h
                    have cb8_4_1_0 : W31.cell? ⟨g0, 0, none⟩ = some (.int .i64 r6k) := (B.out.get 3 rfl).c0
                    have cb8_4_1_1 : W31.cell? ⟨g0, 1, none⟩ = some (.int .i64 r6n) := (B.out.get 3 rfl).c1
                    have cb8_4_1_2 : W31.cell? ⟨g0, 2, none⟩ = some (.string ⟨List.toArray r6t⟩) := (B.out.get 3 rfl).c2
                    have cb10_5_2_0 : W31.cell? ⟨g1, 0, none⟩ = some (.int .i64 r7k) := (B.out.get 2 rfl).c0
                    have cb10_5_2_1 : W31.cell? ⟨g1, 1, none⟩ = some (.int .i64 r7n) := (B.out.get 2 rfl).c1
                    have cb10_5_2_2 : W31.cell? ⟨g1, 2, none⟩ = some (.string ⟨List.toArray r7t⟩) := (B.out.get 2 rfl).c2
                    have cb12_18_6_0 : W31.cell? ⟨g2, 0, none⟩ = some (.int .i64 r8k) := (B.out.get 1 rfl).c0
                    have cb12_18_6_1 : W31.cell? ⟨g2, 1, none⟩ = some (.int .i64 r8n) := (B.out.get 1 rfl).c1
                    have cb12_18_6_2 : W31.cell? ⟨g2, 2, none⟩ = some (.string ⟨List.toArray r8t⟩) := (B.out.get 1 rfl).c2
                    have cb14_19_7_0 : W31.cell? ⟨g3, 0, none⟩ = some (.int .i64 r9k) := (B.out.get 0 rfl).c0
                    have cb14_19_7_1 : W31.cell? ⟨g3, 1, none⟩ = some (.int .i64 r9n) := (B.out.get 0 rfl).c1
                    have cb14_19_7_2 : W31.cell? ⟨g3, 2, none⟩ = some (.string ⟨List.toArray r9t⟩) := (B.out.get 0 rfl).c2
                    go_wp2_with fail
                    go_ret
                    exact ⟨rfl, BL.out⟩
                  | false =>
                    exact Bool.noConfusion (show true = false from HL.out.trans (by show ((((true && (veqB r6k r6n r6t r7k r7n r7t)) && (r6e == r7e)) && (veqB r8k r8n r8t r9k r9n r9t)) && (r8e == r9e)) = false; rw [HA8.out, HA9.out, HA10.out, HA11.out]; rfl))
                | false =>
                  exact Bool.noConfusion (show true = false from HL.out.trans (by show ((((true && (veqB r6k r6n r6t r7k r7n r7t)) && (r6e == r7e)) && (veqB r8k r8n r8t r9k r9n r9t)) && (r8e == r9e)) = false; rw [HA8.out, HA9.out, HA10.out]; rfl))
              | false =>
                exact Bool.noConfusion (show true = false from HL.out.trans (by show ((((true && (veqB r6k r6n r6t r7k r7n r7t)) && (r6e == r7e)) && (veqB r8k r8n r8t r9k r9n r9t)) && (r8e == r9e)) = false; rw [HA8.out, HA9.out]; rfl))
            | false =>
              exact Bool.noConfusion (show true = false from HL.out.trans (by show ((((true && (veqB r6k r6n r6t r7k r7n r7t)) && (r6e == r7e)) && (veqB r8k r8n r8t r9k r9n r9t)) && (r8e == r9e)) = false; rw [HA8.out]; rfl))
end Go.Proofs.YthjpbbbmnmhmmaaGreatDoor
