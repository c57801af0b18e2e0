import Derived.Test.YthjpbbbmnmhmmaaGreatDoorA31
set_option linter.unusedVariables false
set_option linter.unusedSimpArgs false
namespace Go.Proofs.YthjpbbbmnmhmmaaGreatDoor
open Go.RowKit Go.Shelf Go.Lib
attribute [local go_sem ↓] run_val_eql run_val_neq

def BigPowers_s0 (x : Vl) (y : Vl) (n : Int) (m : Int) : Bool := true
def BigPowers_s1 (x : Vl) (y : Vl) (n : Int) (m : Int) (r0 : Vl × Int) (r1 : Vl × Int) (r2 : Vl × Int) (r3 : Vl × Int) : Bool := false
def BigPowers_s2 (x : Vl) (y : Vl) (n : Int) (m : Int) (r0 : Vl × Int) (r1 : Vl × Int) (r2 : Vl × Int) (r3 : Vl × Int) (r4 : Vl × Int) (r5 : Vl × Int) (r6 : Vl × Int) (r7 : Vl × Int) : Bool := (true && ((((!(r0.2 == 0)) || (!(r4.2 == 0))) || (!(r5.2 == 0))) || ((r6.2 == r7.2) && (veq r6.1 r7.1))))
def BigPowers_s3 (x : Vl) (y : Vl) (n : Int) (m : Int) (r0 : Vl × Int) (r1 : Vl × Int) (r2 : Vl × Int) (r3 : Vl × Int) (r4 : Vl × Int) (r5 : Vl × Int) (r6 : Vl × Int) : Bool := BigPowers_s2 x y n m r0 r1 r2 r3 r4 r5 r6 (mulR r0.1 r4.1)
def BigPowers_s4 (x : Vl) (y : Vl) (n : Int) (m : Int) (r0 : Vl × Int) (r1 : Vl × Int) (r2 : Vl × Int) (r3 : Vl × Int) (r4 : Vl × Int) (r5 : Vl × Int) : Bool := BigPowers_s3 x y n m r0 r1 r2 r3 r4 r5 (powR r5.1 n)
def BigPowers_s5 (x : Vl) (y : Vl) (n : Int) (m : Int) (r0 : Vl × Int) (r1 : Vl × Int) (r2 : Vl × Int) (r3 : Vl × Int) (r4 : Vl × Int) : Bool := BigPowers_s4 x y n m r0 r1 r2 r3 r4 (mulR x y)
def BigPowers_s6 (x : Vl) (y : Vl) (n : Int) (m : Int) (r0 : Vl × Int) (r1 : Vl × Int) (r2 : Vl × Int) (r3 : Vl × Int) : Bool := BigPowers_s5 x y n m r0 r1 r2 r3 (powR y n)
def BigPowers_s7 (x : Vl) (y : Vl) (n : Int) (m : Int) (r0 : Vl × Int) (r1 : Vl × Int) (r2 : Vl × Int) (r3 : Vl × Int) : Bool := if ((!(veq r3.1 r2.1)) || (!(r3.2 == r2.2))) = true then BigPowers_s1 x y n m r0 r1 r2 r3 else BigPowers_s6 x y n m r0 r1 r2 r3
def BigPowers_s8 (x : Vl) (y : Vl) (n : Int) (m : Int) (r0 : Vl × Int) (r1 : Vl × Int) (r2 : Vl × Int) : Bool := BigPowers_s7 x y n m r0 r1 r2 (mulR r0.1 r1.1)
def BigPowers_s9 (x : Vl) (y : Vl) (n : Int) (m : Int) (r0 : Vl × Int) (r1 : Vl × Int) (r2 : Vl × Int) (r8 : Vl × Int) (r9 : Vl × Int) (r10 : Vl × Int) (r11 : Vl × Int) : Bool := (true && ((((!(r0.2 == 0)) || (!(r8.2 == 0))) || (!(r9.2 == 0))) || ((r10.2 == r11.2) && (veq r10.1 r11.1))))
def BigPowers_s10 (x : Vl) (y : Vl) (n : Int) (m : Int) (r0 : Vl × Int) (r1 : Vl × Int) (r2 : Vl × Int) (r8 : Vl × Int) (r9 : Vl × Int) (r10 : Vl × Int) : Bool := BigPowers_s9 x y n m r0 r1 r2 r8 r9 r10 (mulR r0.1 r8.1)
def BigPowers_s11 (x : Vl) (y : Vl) (n : Int) (m : Int) (r0 : Vl × Int) (r1 : Vl × Int) (r2 : Vl × Int) (r8 : Vl × Int) (r9 : Vl × Int) : Bool := BigPowers_s10 x y n m r0 r1 r2 r8 r9 (powR r9.1 n)
def BigPowers_s12 (x : Vl) (y : Vl) (n : Int) (m : Int) (r0 : Vl × Int) (r1 : Vl × Int) (r2 : Vl × Int) (r8 : Vl × Int) : Bool := BigPowers_s11 x y n m r0 r1 r2 r8 (mulR x y)
def BigPowers_s13 (x : Vl) (y : Vl) (n : Int) (m : Int) (r0 : Vl × Int) (r1 : Vl × Int) (r2 : Vl × Int) : Bool := BigPowers_s12 x y n m r0 r1 r2 (powR y n)
def BigPowers_s14 (x : Vl) (y : Vl) (n : Int) (m : Int) (r0 : Vl × Int) (r1 : Vl × Int) (r2 : Vl × Int) : Bool := if ((r0.2 == 0) && (r1.2 == 0)) = true then BigPowers_s8 x y n m r0 r1 r2 else BigPowers_s13 x y n m r0 r1 r2
def BigPowers_s15 (x : Vl) (y : Vl) (n : Int) (m : Int) (r0 : Vl × Int) (r1 : Vl × Int) : Bool := BigPowers_s14 x y n m r0 r1 (powR x (wrap64 (n + m)))
def BigPowers_s16 (x : Vl) (y : Vl) (n : Int) (m : Int) (r0 : Vl × Int) : Bool := BigPowers_s15 x y n m r0 (powR x m)
def BigPowers_s17 (x : Vl) (y : Vl) (n : Int) (m : Int) : Bool := BigPowers_s16 x y n m (powR x n)
def BigPowers_s18 (x : Vl) (y : Vl) (n : Int) (m : Int) : Bool := if ((((((!(shortB x)) || (!(shortB y))) || (decide ((n : Int) < 0))) || (decide ((m : Int) < 0))) || (decide ((1000 : Int) < n))) || (decide ((1000 : Int) < m))) = true then BigPowers_s0 x y n m else BigPowers_s17 x y n m

set_option maxRecDepth 100000 in
set_option maxHeartbeats 16000000 in
theorem walk_BigPowers (x : Vl) (y : Vl) (n : Int) (m : Int) (hx : x.inp) (hy : y.inp) (hn : Small64 n) (hm : Small64 m) (w : World) (hE : Env w) (hr : true = BigPowers_s18 x y n m) :
    Calls Tryz.prog 5 #[x.val, y.val, .int .i64 n, .int .i64 m] w fun e w' => e = .returned (.bool true) ∧ Below w.heap.size w w' := by
  obtain ⟨xk, xn, xt⟩ := x
  obtain ⟨yk, yn, yt⟩ := y
  have HIx := Lib.hid hx
  have HIy := Lib.hid hy
  have HIn := Lib.hid hn
  have HIm := Lib.hid hm
  have HE := Lib.hid hE
  have HL := Lib.hid hr
  clear hE hr hx hy hn hm
  simp only [Vl.val]
  go_enter Tryz.func5, Tryz.ntmps5
  go_upto_region 1 with fail
  have hB : Bxs ((w.alloc (.cells #[.int .i64 xk, .int .i64 xn, .string ⟨List.toArray xt⟩] 23)).alloc (.cells #[.int .i64 yk, .int .i64 yn, .string ⟨List.toArray yt⟩] 23)) [(w.heap.size + 1, (⟨yk, yn, yt⟩ : Vl)), (w.heap.size, (⟨xk, xn, xt⟩ : Vl))] := by
    have h := (((show Bxs w [] from trivial).push (⟨xk, xn, xt⟩ : Vl) 23).push (⟨yk, yn, yt⟩ : Vl) 23)
    simpa only [World.size_alloc] using h
  have hL : Below w.heap.size w ((w.alloc (.cells #[.int .i64 xk, .int .i64 xn, .string ⟨List.toArray xt⟩] 23)).alloc (.cells #[.int .i64 yk, .int .i64 yn, .string ⟨List.toArray yt⟩] 23)) := (((Below.refl w.heap.size w).alloc (Nat.le_refl _) (.cells #[.int .i64 xk, .int .i64 xn, .string ⟨List.toArray xt⟩] 23)).alloc (by simp <;> omega) (.cells #[.int .i64 yk, .int .i64 yn, .string ⟨List.toArray yt⟩] 23))
  obtain ⟨W1, hW⟩ : ∃ X, ((w.alloc (.cells #[.int .i64 xk, .int .i64 xn, .string ⟨List.toArray xt⟩] 23)).alloc (.cells #[.int .i64 yk, .int .i64 yn, .string ⟨List.toArray yt⟩] 23)) = X := ⟨_, rfl⟩
  rw [hW] at hB hL ⊢
  clear hW
  obtain ⟨gb5, hg⟩ : ∃ g, w.heap.size + 1 = g := ⟨_, rfl⟩
  have HGb5 : Hid (w.heap.size ≤ gb5) := Lib.hid (by omega)
  rw [hg] at hB ⊢
  clear hg
  have HGb4 : Hid (w.heap.size ≤ w.heap.size) := Lib.hid (Nat.le_refl _)
  have B := Lib.hid hB
  have BL := Lib.hid hL
  clear hB hL
  -- region 1
  go_wp2_with fail
  refine (awakeV _ (HE.out.below BL.out)).mono ?_
  rintro e W2 ⟨rfl, hb⟩
  replace B := Lib.hid (B.out.below hb)
  replace BL := Lib.hid (below_then BL.out hb)
  clear hb
  go_upto_region 2 with fail
  -- region 2, a test
  obtain ⟨b0, h⟩ : ∃ b : Bool, (shortB (⟨xk, xn, xt⟩ : Vl)) = b := ⟨_, rfl⟩
  have HA0 := Lib.hid h
  clear h
  obtain ⟨b1, h⟩ : ∃ b : Bool, (shortB (⟨yk, yn, yt⟩ : Vl)) = b := ⟨_, rfl⟩
  have HA1 := Lib.hid h
  clear h
  obtain ⟨b2, h⟩ : ∃ b : Bool, (decide ((n : Int) < 0)) = b := ⟨_, rfl⟩
  have HA2 := Lib.hid h
  clear h
  obtain ⟨b3, h⟩ : ∃ b : Bool, (decide ((m : Int) < 0)) = b := ⟨_, rfl⟩
  have HA3 := Lib.hid h
  clear h
  obtain ⟨b4, h⟩ : ∃ b : Bool, (decide ((1000 : Int) < n)) = b := ⟨_, rfl⟩
  have HA4 := Lib.hid h
  clear h
  obtain ⟨b5, h⟩ : ∃ b : Bool, (decide ((1000 : Int) < m)) = b := ⟨_, rfl⟩
  have HA5 := Lib.hid h
  clear h
  obtain ⟨c1, h⟩ : ∃ c : Bool, ((((((!b0) || (!b1)) || b2) || b3) || b4) || b5) = c := ⟨_, rfl⟩
  have HCC := Lib.hid h
  clear h
  go_upto_region 2 with fail
  go_cut [50] from 27 to 50 (fun v wx => v = .bool c1 ∧ Hid (Bxs wx [(gb5, (⟨yk, yn, yt⟩ : Vl)), (w.heap.size, (⟨xk, xn, xt⟩ : Vl))]) ∧ Hid (Below w.heap.size w wx))
  case first =>
    clear HL
    cases b0 with
    | true =>
      cases b1 with
      | true =>
        cases b2 with
        | true =>
          have f2_0 : decide ((n : Int) < 0) = true := HA2.out
          have f2_1 : decide ((0 : Int) ≤ n) = false := by have h := HA2.out; simp only [decide_eq_true_eq, decide_eq_false_iff_not] at h ⊢; omega
          have cb4_0 : W2.cell? ⟨w.heap.size, 0, none⟩ = some (.int .i64 xk) := (B.out.get 1 rfl).c0
          have cb4_1 : W2.cell? ⟨w.heap.size, 1, none⟩ = some (.int .i64 xn) := (B.out.get 1 rfl).c1
          have cb4_2 : W2.cell? ⟨w.heap.size, 2, none⟩ = some (.string ⟨List.toArray xt⟩) := (B.out.get 1 rfl).c2
          have cb5_0 : W2.cell? ⟨gb5, 0, none⟩ = some (.int .i64 yk) := (B.out.get 0 rfl).c0
          have cb5_1 : W2.cell? ⟨gb5, 1, none⟩ = some (.int .i64 yn) := (B.out.get 0 rfl).c1
          have cb5_2 : W2.cell? ⟨gb5, 2, none⟩ = some (.string ⟨List.toArray yt⟩) := (B.out.get 0 rfl).c2
          go_wp2_with fail
          refine (short_calls xk xn xt HIx.out.2 _).mono ?_
          rw [HA0.out]
          rintro e W3 ⟨rfl, hb⟩
          clear cb4_0 cb4_1 cb4_2 cb5_0 cb5_1 cb5_2
          replace B := Lib.hid (B.out.below hb)
          replace BL := Lib.hid (below_then BL.out hb)
          clear hb
          have cb4_0 : W3.cell? ⟨w.heap.size, 0, none⟩ = some (.int .i64 xk) := (B.out.get 1 rfl).c0
          have cb4_1 : W3.cell? ⟨w.heap.size, 1, none⟩ = some (.int .i64 xn) := (B.out.get 1 rfl).c1
          have cb4_2 : W3.cell? ⟨w.heap.size, 2, none⟩ = some (.string ⟨List.toArray xt⟩) := (B.out.get 1 rfl).c2
          have cb5_0 : W3.cell? ⟨gb5, 0, none⟩ = some (.int .i64 yk) := (B.out.get 0 rfl).c0
          have cb5_1 : W3.cell? ⟨gb5, 1, none⟩ = some (.int .i64 yn) := (B.out.get 0 rfl).c1
          have cb5_2 : W3.cell? ⟨gb5, 2, none⟩ = some (.string ⟨List.toArray yt⟩) := (B.out.get 0 rfl).c2
          go_wp2_with fail
          refine (short_calls yk yn yt HIy.out.2 _).mono ?_
          rw [HA1.out]
          rintro e W4 ⟨rfl, hb⟩
          clear cb4_0 cb4_1 cb4_2 cb5_0 cb5_1 cb5_2
          replace B := Lib.hid (B.out.below hb)
          replace BL := Lib.hid (below_then BL.out hb)
          clear hb
          have cb4_0 : W4.cell? ⟨w.heap.size, 0, none⟩ = some (.int .i64 xk) := (B.out.get 1 rfl).c0
          have cb4_1 : W4.cell? ⟨w.heap.size, 1, none⟩ = some (.int .i64 xn) := (B.out.get 1 rfl).c1
          have cb4_2 : W4.cell? ⟨w.heap.size, 2, none⟩ = some (.string ⟨List.toArray xt⟩) := (B.out.get 1 rfl).c2
          have cb5_0 : W4.cell? ⟨gb5, 0, none⟩ = some (.int .i64 yk) := (B.out.get 0 rfl).c0
          have cb5_1 : W4.cell? ⟨gb5, 1, none⟩ = some (.int .i64 yn) := (B.out.get 0 rfl).c1
          have cb5_2 : W4.cell? ⟨gb5, 2, none⟩ = some (.string ⟨List.toArray yt⟩) := (B.out.get 0 rfl).c2
          go_wp2_with fail
          go_meet
          exact ⟨congrArg Value.bool HCC.out, B, BL⟩
        | false =>
          cases b3 with
          | true =>
            have f2_0 : decide ((n : Int) < 0) = false := HA2.out
            have f2_1 : decide ((0 : Int) ≤ n) = true := by have h := HA2.out; simp only [decide_eq_true_eq, decide_eq_false_iff_not] at h ⊢; omega
            have f3_0 : decide ((m : Int) < 0) = true := HA3.out
            have f3_1 : decide ((0 : Int) ≤ m) = false := by have h := HA3.out; simp only [decide_eq_true_eq, decide_eq_false_iff_not] at h ⊢; omega
            have cb4_0 : W2.cell? ⟨w.heap.size, 0, none⟩ = some (.int .i64 xk) := (B.out.get 1 rfl).c0
            have cb4_1 : W2.cell? ⟨w.heap.size, 1, none⟩ = some (.int .i64 xn) := (B.out.get 1 rfl).c1
            have cb4_2 : W2.cell? ⟨w.heap.size, 2, none⟩ = some (.string ⟨List.toArray xt⟩) := (B.out.get 1 rfl).c2
            have cb5_0 : W2.cell? ⟨gb5, 0, none⟩ = some (.int .i64 yk) := (B.out.get 0 rfl).c0
            have cb5_1 : W2.cell? ⟨gb5, 1, none⟩ = some (.int .i64 yn) := (B.out.get 0 rfl).c1
            have cb5_2 : W2.cell? ⟨gb5, 2, none⟩ = some (.string ⟨List.toArray yt⟩) := (B.out.get 0 rfl).c2
            go_wp2_with fail
            refine (short_calls xk xn xt HIx.out.2 _).mono ?_
            rw [HA0.out]
            rintro e W5 ⟨rfl, hb⟩
            clear cb4_0 cb4_1 cb4_2 cb5_0 cb5_1 cb5_2
            replace B := Lib.hid (B.out.below hb)
            replace BL := Lib.hid (below_then BL.out hb)
            clear hb
            have cb4_0 : W5.cell? ⟨w.heap.size, 0, none⟩ = some (.int .i64 xk) := (B.out.get 1 rfl).c0
            have cb4_1 : W5.cell? ⟨w.heap.size, 1, none⟩ = some (.int .i64 xn) := (B.out.get 1 rfl).c1
            have cb4_2 : W5.cell? ⟨w.heap.size, 2, none⟩ = some (.string ⟨List.toArray xt⟩) := (B.out.get 1 rfl).c2
            have cb5_0 : W5.cell? ⟨gb5, 0, none⟩ = some (.int .i64 yk) := (B.out.get 0 rfl).c0
            have cb5_1 : W5.cell? ⟨gb5, 1, none⟩ = some (.int .i64 yn) := (B.out.get 0 rfl).c1
            have cb5_2 : W5.cell? ⟨gb5, 2, none⟩ = some (.string ⟨List.toArray yt⟩) := (B.out.get 0 rfl).c2
            go_wp2_with fail
            refine (short_calls yk yn yt HIy.out.2 _).mono ?_
            rw [HA1.out]
            rintro e W6 ⟨rfl, hb⟩
            clear cb4_0 cb4_1 cb4_2 cb5_0 cb5_1 cb5_2
            replace B := Lib.hid (B.out.below hb)
            replace BL := Lib.hid (below_then BL.out hb)
            clear hb
            have cb4_0 : W6.cell? ⟨w.heap.size, 0, none⟩ = some (.int .i64 xk) := (B.out.get 1 rfl).c0
            have cb4_1 : W6.cell? ⟨w.heap.size, 1, none⟩ = some (.int .i64 xn) := (B.out.get 1 rfl).c1
            have cb4_2 : W6.cell? ⟨w.heap.size, 2, none⟩ = some (.string ⟨List.toArray xt⟩) := (B.out.get 1 rfl).c2
            have cb5_0 : W6.cell? ⟨gb5, 0, none⟩ = some (.int .i64 yk) := (B.out.get 0 rfl).c0
            have cb5_1 : W6.cell? ⟨gb5, 1, none⟩ = some (.int .i64 yn) := (B.out.get 0 rfl).c1
            have cb5_2 : W6.cell? ⟨gb5, 2, none⟩ = some (.string ⟨List.toArray yt⟩) := (B.out.get 0 rfl).c2
            go_wp2_with fail
            go_meet
            exact ⟨congrArg Value.bool HCC.out, B, BL⟩
          | false =>
            cases b4 with
            | true =>
              have f2_0 : decide ((n : Int) < 0) = false := HA2.out
              have f2_1 : decide ((0 : Int) ≤ n) = true := by have h := HA2.out; simp only [decide_eq_true_eq, decide_eq_false_iff_not] at h ⊢; omega
              have f3_0 : decide ((m : Int) < 0) = false := HA3.out
              have f3_1 : decide ((0 : Int) ≤ m) = true := by have h := HA3.out; simp only [decide_eq_true_eq, decide_eq_false_iff_not] at h ⊢; omega
              have f4_0 : decide ((1000 : Int) < n) = true := HA4.out
              have f4_1 : decide ((n : Int) ≤ 1000) = false := by have h := HA4.out; simp only [decide_eq_true_eq, decide_eq_false_iff_not] at h ⊢; omega
              have cb4_0 : W2.cell? ⟨w.heap.size, 0, none⟩ = some (.int .i64 xk) := (B.out.get 1 rfl).c0
              have cb4_1 : W2.cell? ⟨w.heap.size, 1, none⟩ = some (.int .i64 xn) := (B.out.get 1 rfl).c1
              have cb4_2 : W2.cell? ⟨w.heap.size, 2, none⟩ = some (.string ⟨List.toArray xt⟩) := (B.out.get 1 rfl).c2
              have cb5_0 : W2.cell? ⟨gb5, 0, none⟩ = some (.int .i64 yk) := (B.out.get 0 rfl).c0
              have cb5_1 : W2.cell? ⟨gb5, 1, none⟩ = some (.int .i64 yn) := (B.out.get 0 rfl).c1
              have cb5_2 : W2.cell? ⟨gb5, 2, none⟩ = some (.string ⟨List.toArray yt⟩) := (B.out.get 0 rfl).c2
              go_wp2_with fail
              refine (short_calls xk xn xt HIx.out.2 _).mono ?_
              rw [HA0.out]
              rintro e W7 ⟨rfl, hb⟩
              clear cb4_0 cb4_1 cb4_2 cb5_0 cb5_1 cb5_2
              replace B := Lib.hid (B.out.below hb)
              replace BL := Lib.hid (below_then BL.out hb)
              clear hb
              have cb4_0 : W7.cell? ⟨w.heap.size, 0, none⟩ = some (.int .i64 xk) := (B.out.get 1 rfl).c0
              have cb4_1 : W7.cell? ⟨w.heap.size, 1, none⟩ = some (.int .i64 xn) := (B.out.get 1 rfl).c1
              have cb4_2 : W7.cell? ⟨w.heap.size, 2, none⟩ = some (.string ⟨List.toArray xt⟩) := (B.out.get 1 rfl).c2
              have cb5_0 : W7.cell? ⟨gb5, 0, none⟩ = some (.int .i64 yk) := (B.out.get 0 rfl).c0
              have cb5_1 : W7.cell? ⟨gb5, 1, none⟩ = some (.int .i64 yn) := (B.out.get 0 rfl).c1
              have cb5_2 : W7.cell? ⟨gb5, 2, none⟩ = some (.string ⟨List.toArray yt⟩) := (B.out.get 0 rfl).c2
              go_wp2_with fail
              refine (short_calls yk yn yt HIy.out.2 _).mono ?_
              rw [HA1.out]
              rintro e W8 ⟨rfl, hb⟩
              clear cb4_0 cb4_1 cb4_2 cb5_0 cb5_1 cb5_2
              replace B := Lib.hid (B.out.below hb)
              replace BL := Lib.hid (below_then BL.out hb)
              clear hb
              have cb4_0 : W8.cell? ⟨w.heap.size, 0, none⟩ = some (.int .i64 xk) := (B.out.get 1 rfl).c0
              have cb4_1 : W8.cell? ⟨w.heap.size, 1, none⟩ = some (.int .i64 xn) := (B.out.get 1 rfl).c1
              have cb4_2 : W8.cell? ⟨w.heap.size, 2, none⟩ = some (.string ⟨List.toArray xt⟩) := (B.out.get 1 rfl).c2
              have cb5_0 : W8.cell? ⟨gb5, 0, none⟩ = some (.int .i64 yk) := (B.out.get 0 rfl).c0
              have cb5_1 : W8.cell? ⟨gb5, 1, none⟩ = some (.int .i64 yn) := (B.out.get 0 rfl).c1
              have cb5_2 : W8.cell? ⟨gb5, 2, none⟩ = some (.string ⟨List.toArray yt⟩) := (B.out.get 0 rfl).c2
              go_wp2_with fail
              go_meet
              exact ⟨congrArg Value.bool HCC.out, B, BL⟩
            | false =>
              cases b5 with
              | true =>
                have f2_0 : decide ((n : Int) < 0) = false := HA2.out
                have f2_1 : decide ((0 : Int) ≤ n) = true := by have h := HA2.out; simp only [decide_eq_true_eq, decide_eq_false_iff_not] at h ⊢; omega
                have f3_0 : decide ((m : Int) < 0) = false := HA3.out
                have f3_1 : decide ((0 : Int) ≤ m) = true := by have h := HA3.out; simp only [decide_eq_true_eq, decide_eq_false_iff_not] at h ⊢; omega
                have f4_0 : decide ((1000 : Int) < n) = false := HA4.out
                have f4_1 : decide ((n : Int) ≤ 1000) = true := by have h := HA4.out; simp only [decide_eq_true_eq, decide_eq_false_iff_not] at h ⊢; omega
                have f5_0 : decide ((1000 : Int) < m) = true := HA5.out
                have f5_1 : decide ((m : Int) ≤ 1000) = false := by have h := HA5.out; simp only [decide_eq_true_eq, decide_eq_false_iff_not] at h ⊢; omega
                have cb4_0 : W2.cell? ⟨w.heap.size, 0, none⟩ = some (.int .i64 xk) := (B.out.get 1 rfl).c0
                have cb4_1 : W2.cell? ⟨w.heap.size, 1, none⟩ = some (.int .i64 xn) := (B.out.get 1 rfl).c1
                have cb4_2 : W2.cell? ⟨w.heap.size, 2, none⟩ = some (.string ⟨List.toArray xt⟩) := (B.out.get 1 rfl).c2
                have cb5_0 : W2.cell? ⟨gb5, 0, none⟩ = some (.int .i64 yk) := (B.out.get 0 rfl).c0
                have cb5_1 : W2.cell? ⟨gb5, 1, none⟩ = some (.int .i64 yn) := (B.out.get 0 rfl).c1
                have cb5_2 : W2.cell? ⟨gb5, 2, none⟩ = some (.string ⟨List.toArray yt⟩) := (B.out.get 0 rfl).c2
                go_wp2_with fail
                refine (short_calls xk xn xt HIx.out.2 _).mono ?_
                rw [HA0.out]
                rintro e W9 ⟨rfl, hb⟩
                clear cb4_0 cb4_1 cb4_2 cb5_0 cb5_1 cb5_2
                replace B := Lib.hid (B.out.below hb)
                replace BL := Lib.hid (below_then BL.out hb)
                clear hb
                have cb4_0 : W9.cell? ⟨w.heap.size, 0, none⟩ = some (.int .i64 xk) := (B.out.get 1 rfl).c0
                have cb4_1 : W9.cell? ⟨w.heap.size, 1, none⟩ = some (.int .i64 xn) := (B.out.get 1 rfl).c1
                have cb4_2 : W9.cell? ⟨w.heap.size, 2, none⟩ = some (.string ⟨List.toArray xt⟩) := (B.out.get 1 rfl).c2
                have cb5_0 : W9.cell? ⟨gb5, 0, none⟩ = some (.int .i64 yk) := (B.out.get 0 rfl).c0
                have cb5_1 : W9.cell? ⟨gb5, 1, none⟩ = some (.int .i64 yn) := (B.out.get 0 rfl).c1
                have cb5_2 : W9.cell? ⟨gb5, 2, none⟩ = some (.string ⟨List.toArray yt⟩) := (B.out.get 0 rfl).c2
                go_wp2_with fail
                refine (short_calls yk yn yt HIy.out.2 _).mono ?_
                rw [HA1.out]
                rintro e W10 ⟨rfl, hb⟩
                clear cb4_0 cb4_1 cb4_2 cb5_0 cb5_1 cb5_2
                replace B := Lib.hid (B.out.below hb)
                replace BL := Lib.hid (below_then BL.out hb)
                clear hb
                have cb4_0 : W10.cell? ⟨w.heap.size, 0, none⟩ = some (.int .i64 xk) := (B.out.get 1 rfl).c0
                have cb4_1 : W10.cell? ⟨w.heap.size, 1, none⟩ = some (.int .i64 xn) := (B.out.get 1 rfl).c1
                have cb4_2 : W10.cell? ⟨w.heap.size, 2, none⟩ = some (.string ⟨List.toArray xt⟩) := (B.out.get 1 rfl).c2
                have cb5_0 : W10.cell? ⟨gb5, 0, none⟩ = some (.int .i64 yk) := (B.out.get 0 rfl).c0
                have cb5_1 : W10.cell? ⟨gb5, 1, none⟩ = some (.int .i64 yn) := (B.out.get 0 rfl).c1
                have cb5_2 : W10.cell? ⟨gb5, 2, none⟩ = some (.string ⟨List.toArray yt⟩) := (B.out.get 0 rfl).c2
                go_wp2_with fail
                go_meet
                exact ⟨congrArg Value.bool HCC.out, B, BL⟩
              | false =>
                have f2_0 : decide ((n : Int) < 0) = false := HA2.out
                have f2_1 : decide ((0 : Int) ≤ n) = true := by have h := HA2.out; simp only [decide_eq_true_eq, decide_eq_false_iff_not] at h ⊢; omega
                have f3_0 : decide ((m : Int) < 0) = false := HA3.out
                have f3_1 : decide ((0 : Int) ≤ m) = true := by have h := HA3.out; simp only [decide_eq_true_eq, decide_eq_false_iff_not] at h ⊢; omega
                have f4_0 : decide ((1000 : Int) < n) = false := HA4.out
                have f4_1 : decide ((n : Int) ≤ 1000) = true := by have h := HA4.out; simp only [decide_eq_true_eq, decide_eq_false_iff_not] at h ⊢; omega
                have f5_0 : decide ((1000 : Int) < m) = false := HA5.out
                have f5_1 : decide ((m : Int) ≤ 1000) = true := by have h := HA5.out; simp only [decide_eq_true_eq, decide_eq_false_iff_not] at h ⊢; omega
                have cb4_0 : W2.cell? ⟨w.heap.size, 0, none⟩ = some (.int .i64 xk) := (B.out.get 1 rfl).c0
                have cb4_1 : W2.cell? ⟨w.heap.size, 1, none⟩ = some (.int .i64 xn) := (B.out.get 1 rfl).c1
                have cb4_2 : W2.cell? ⟨w.heap.size, 2, none⟩ = some (.string ⟨List.toArray xt⟩) := (B.out.get 1 rfl).c2
                have cb5_0 : W2.cell? ⟨gb5, 0, none⟩ = some (.int .i64 yk) := (B.out.get 0 rfl).c0
                have cb5_1 : W2.cell? ⟨gb5, 1, none⟩ = some (.int .i64 yn) := (B.out.get 0 rfl).c1
                have cb5_2 : W2.cell? ⟨gb5, 2, none⟩ = some (.string ⟨List.toArray yt⟩) := (B.out.get 0 rfl).c2
                go_wp2_with fail
                refine (short_calls xk xn xt HIx.out.2 _).mono ?_
                rw [HA0.out]
                rintro e W11 ⟨rfl, hb⟩
                clear cb4_0 cb4_1 cb4_2 cb5_0 cb5_1 cb5_2
                replace B := Lib.hid (B.out.below hb)
                replace BL := Lib.hid (below_then BL.out hb)
                clear hb
                have cb4_0 : W11.cell? ⟨w.heap.size, 0, none⟩ = some (.int .i64 xk) := (B.out.get 1 rfl).c0
                have cb4_1 : W11.cell? ⟨w.heap.size, 1, none⟩ = some (.int .i64 xn) := (B.out.get 1 rfl).c1
                have cb4_2 : W11.cell? ⟨w.heap.size, 2, none⟩ = some (.string ⟨List.toArray xt⟩) := (B.out.get 1 rfl).c2
                have cb5_0 : W11.cell? ⟨gb5, 0, none⟩ = some (.int .i64 yk) := (B.out.get 0 rfl).c0
                have cb5_1 : W11.cell? ⟨gb5, 1, none⟩ = some (.int .i64 yn) := (B.out.get 0 rfl).c1
                have cb5_2 : W11.cell? ⟨gb5, 2, none⟩ = some (.string ⟨List.toArray yt⟩) := (B.out.get 0 rfl).c2
                go_wp2_with fail
                refine (short_calls yk yn yt HIy.out.2 _).mono ?_
                rw [HA1.out]
                rintro e W12 ⟨rfl, hb⟩
                clear cb4_0 cb4_1 cb4_2 cb5_0 cb5_1 cb5_2
                replace B := Lib.hid (B.out.below hb)
                replace BL := Lib.hid (below_then BL.out hb)
                clear hb
                have cb4_0 : W12.cell? ⟨w.heap.size, 0, none⟩ = some (.int .i64 xk) := (B.out.get 1 rfl).c0
                have cb4_1 : W12.cell? ⟨w.heap.size, 1, none⟩ = some (.int .i64 xn) := (B.out.get 1 rfl).c1
                have cb4_2 : W12.cell? ⟨w.heap.size, 2, none⟩ = some (.string ⟨List.toArray xt⟩) := (B.out.get 1 rfl).c2
                have cb5_0 : W12.cell? ⟨gb5, 0, none⟩ = some (.int .i64 yk) := (B.out.get 0 rfl).c0
                have cb5_1 : W12.cell? ⟨gb5, 1, none⟩ = some (.int .i64 yn) := (B.out.get 0 rfl).c1
                have cb5_2 : W12.cell? ⟨gb5, 2, none⟩ = some (.string ⟨List.toArray yt⟩) := (B.out.get 0 rfl).c2
                go_wp2_with fail
                go_meet
                exact ⟨congrArg Value.bool HCC.out, B, BL⟩
      | false =>
        have cb4_0 : W2.cell? ⟨w.heap.size, 0, none⟩ = some (.int .i64 xk) := (B.out.get 1 rfl).c0
        have cb4_1 : W2.cell? ⟨w.heap.size, 1, none⟩ = some (.int .i64 xn) := (B.out.get 1 rfl).c1
        have cb4_2 : W2.cell? ⟨w.heap.size, 2, none⟩ = some (.string ⟨List.toArray xt⟩) := (B.out.get 1 rfl).c2
        have cb5_0 : W2.cell? ⟨gb5, 0, none⟩ = some (.int .i64 yk) := (B.out.get 0 rfl).c0
        have cb5_1 : W2.cell? ⟨gb5, 1, none⟩ = some (.int .i64 yn) := (B.out.get 0 rfl).c1
        have cb5_2 : W2.cell? ⟨gb5, 2, none⟩ = some (.string ⟨List.toArray yt⟩) := (B.out.get 0 rfl).c2
        go_wp2_with fail
        refine (short_calls xk xn xt HIx.out.2 _).mono ?_
        rw [HA0.out]
        rintro e W13 ⟨rfl, hb⟩
        clear cb4_0 cb4_1 cb4_2 cb5_0 cb5_1 cb5_2
        replace B := Lib.hid (B.out.below hb)
        replace BL := Lib.hid (below_then BL.out hb)
        clear hb
        have cb4_0 : W13.cell? ⟨w.heap.size, 0, none⟩ = some (.int .i64 xk) := (B.out.get 1 rfl).c0
        have cb4_1 : W13.cell? ⟨w.heap.size, 1, none⟩ = some (.int .i64 xn) := (B.out.get 1 rfl).c1
        have cb4_2 : W13.cell? ⟨w.heap.size, 2, none⟩ = some (.string ⟨List.toArray xt⟩) := (B.out.get 1 rfl).c2
        have cb5_0 : W13.cell? ⟨gb5, 0, none⟩ = some (.int .i64 yk) := (B.out.get 0 rfl).c0
        have cb5_1 : W13.cell? ⟨gb5, 1, none⟩ = some (.int .i64 yn) := (B.out.get 0 rfl).c1
        have cb5_2 : W13.cell? ⟨gb5, 2, none⟩ = some (.string ⟨List.toArray yt⟩) := (B.out.get 0 rfl).c2
        go_wp2_with fail
        refine (short_calls yk yn yt HIy.out.2 _).mono ?_
        rw [HA1.out]
        rintro e W14 ⟨rfl, hb⟩
        clear cb4_0 cb4_1 cb4_2 cb5_0 cb5_1 cb5_2
        replace B := Lib.hid (B.out.below hb)
        replace BL := Lib.hid (below_then BL.out hb)
        clear hb
        have cb4_0 : W14.cell? ⟨w.heap.size, 0, none⟩ = some (.int .i64 xk) := (B.out.get 1 rfl).c0
        have cb4_1 : W14.cell? ⟨w.heap.size, 1, none⟩ = some (.int .i64 xn) := (B.out.get 1 rfl).c1
        have cb4_2 : W14.cell? ⟨w.heap.size, 2, none⟩ = some (.string ⟨List.toArray xt⟩) := (B.out.get 1 rfl).c2
        have cb5_0 : W14.cell? ⟨gb5, 0, none⟩ = some (.int .i64 yk) := (B.out.get 0 rfl).c0
        have cb5_1 : W14.cell? ⟨gb5, 1, none⟩ = some (.int .i64 yn) := (B.out.get 0 rfl).c1
        have cb5_2 : W14.cell? ⟨gb5, 2, none⟩ = some (.string ⟨List.toArray yt⟩) := (B.out.get 0 rfl).c2
        go_wp2_with fail
        go_meet
        exact ⟨congrArg Value.bool HCC.out, B, BL⟩
    | false =>
      have cb4_0 : W2.cell? ⟨w.heap.size, 0, none⟩ = some (.int .i64 xk) := (B.out.get 1 rfl).c0
      have cb4_1 : W2.cell? ⟨w.heap.size, 1, none⟩ = some (.int .i64 xn) := (B.out.get 1 rfl).c1
      have cb4_2 : W2.cell? ⟨w.heap.size, 2, none⟩ = some (.string ⟨List.toArray xt⟩) := (B.out.get 1 rfl).c2
      go_wp2_with fail
      refine (short_calls xk xn xt HIx.out.2 _).mono ?_
      rw [HA0.out]
      rintro e W15 ⟨rfl, hb⟩
      clear cb4_0 cb4_1 cb4_2
      replace B := Lib.hid (B.out.below hb)
      replace BL := Lib.hid (below_then BL.out hb)
      clear hb
      have cb4_0 : W15.cell? ⟨w.heap.size, 0, none⟩ = some (.int .i64 xk) := (B.out.get 1 rfl).c0
      have cb4_1 : W15.cell? ⟨w.heap.size, 1, none⟩ = some (.int .i64 xn) := (B.out.get 1 rfl).c1
      have cb4_2 : W15.cell? ⟨w.heap.size, 2, none⟩ = some (.string ⟨List.toArray xt⟩) := (B.out.get 1 rfl).c2
      go_wp2_with fail
      go_meet
      exact ⟨congrArg Value.bool HCC.out, B, BL⟩
  case rest =>
    clear B BL
    obtain ⟨rfl, B, BL⟩ := hcut
    obtain ⟨W16, hW⟩ : ∃ X, wc = X := ⟨_, rfl⟩
    rw [hW] at B BL ⊢
    clear hW
    have HCW : Hid (((((((!(shortB (⟨xk, xn, xt⟩ : Vl))) || (!(shortB (⟨yk, yn, yt⟩ : Vl)))) || (decide ((n : Int) < 0))) || (decide ((m : Int) < 0))) || (decide ((1000 : Int) < n))) || (decide ((1000 : Int) < m))) = c1) := Lib.hid (by rw [HA0.out, HA1.out, HA2.out, HA3.out, HA4.out, HA5.out]; exact HCC.out)
    clear HCC HA0 HA1 HA2 HA3 HA4 HA5
    cases c1 with
    | true =>
      replace HL := Lib.hid (show true = BigPowers_s0 (⟨xk, xn, xt⟩ : Vl) (⟨yk, yn, yt⟩ : Vl) n m from HL.out.trans (if_pos HCW.out))
      go_wp2_with fail
      go_ret
      exact ⟨rfl, BL.out⟩
    | false =>
      have HOx : Hid (Vl.ok (⟨xk, xn, xt⟩ : Vl)) := Lib.hid ⟨HIx.out.1, by have h := HCW.out; simp [shortB] at h; show xt.length ≤ 100000; omega⟩
      have HOy : Hid (Vl.ok (⟨yk, yn, yt⟩ : Vl)) := Lib.hid ⟨HIy.out.1, by have h := HCW.out; simp [shortB] at h; show yt.length ≤ 100000; omega⟩
      replace HL := Lib.hid (show true = BigPowers_s17 (⟨xk, xn, xt⟩ : Vl) (⟨yk, yn, yt⟩ : Vl) n m from HL.out.trans ((if_neg (fun h => Bool.noConfusion (HCW.out.symm.trans h)))))
      -- region 4
      have cb4_0 : W16.cell? ⟨w.heap.size, 0, none⟩ = some (.int .i64 xk) := (B.out.get 1 rfl).c0
      have cb4_1 : W16.cell? ⟨w.heap.size, 1, none⟩ = some (.int .i64 xn) := (B.out.get 1 rfl).c1
      have cb4_2 : W16.cell? ⟨w.heap.size, 2, none⟩ = some (.string ⟨List.toArray xt⟩) := (B.out.get 1 rfl).c2
      obtain ⟨⟨⟨r0k, r0n, r0t⟩, r0e⟩, hr0⟩ : ∃ p, powR (⟨xk, xn, xt⟩ : Vl) n = p := ⟨_, rfl⟩
      have hc0 := fun (W : World) (hW : Env W) => powV (⟨xk, xn, xt⟩ : Vl) n HOx.out W hW
      have ho0 := powR_ok (⟨xk, xn, xt⟩ : Vl) n
      rw [hr0] at hc0 ho0
      simp only [Vl.val, pr] at hc0
      have HC0 := Lib.hid hc0; have HOr0 : Hid (Vl.ok ⟨r0k, r0n, r0t⟩) := Lib.hid ho0; have HR0 := Lib.hid hr0
      clear hc0 ho0 hr0
      go_wp2_with fail
      refine (HC0.out _ (HE.out.below BL.out)).mono ?_
      rintro e W17 ⟨rfl, hb⟩
      clear cb4_0 cb4_1 cb4_2
      replace B := Lib.hid (B.out.below hb)
      replace BL := Lib.hid (below_then BL.out hb)
      clear hb
      go_upto_region 5 with fail
      have hB : Bxs (W17.alloc (.cells #[.int .i64 r0k, .int .i64 r0n, .string ⟨List.toArray r0t⟩] 23)) ((W17.heap.size, (⟨r0k, r0n, r0t⟩ : Vl)) :: [(gb5, (⟨yk, yn, yt⟩ : Vl)), (w.heap.size, (⟨xk, xn, xt⟩ : Vl))]) := B.out.push (⟨r0k, r0n, r0t⟩ : Vl) 23
      have hL : Below w.heap.size w (W17.alloc (.cells #[.int .i64 r0k, .int .i64 r0n, .string ⟨List.toArray r0t⟩] 23)) := BL.out.alloc BL.out.size _
      obtain ⟨W18, hW⟩ : ∃ X, W17.alloc (.cells #[.int .i64 r0k, .int .i64 r0n, .string ⟨List.toArray r0t⟩] 23) = X := ⟨_, rfl⟩
      obtain ⟨g0, hg⟩ : ∃ g, W17.heap.size = g := ⟨_, rfl⟩
      rw [hW] at hB hL ⊢
      rw [hg] at hB ⊢
      have HGb10_4_1 : Hid (w.heap.size ≤ g0) := Lib.hid (by rw [← hg]; exact BL.out.size)
      replace B := Lib.hid hB
      replace BL := Lib.hid hL
      clear hB hL hW hg
      replace HL := Lib.hid (show true = BigPowers_s16 (⟨xk, xn, xt⟩ : Vl) (⟨yk, yn, yt⟩ : Vl) n m ((⟨r0k, r0n, r0t⟩, r0e) : Vl × Int) from HL.out.trans (by unfold BigPowers_s17; rw [HR0.out]))
      -- region 5
      have cb4_0 : W18.cell? ⟨w.heap.size, 0, none⟩ = some (.int .i64 xk) := (B.out.get 2 rfl).c0
      have cb4_1 : W18.cell? ⟨w.heap.size, 1, none⟩ = some (.int .i64 xn) := (B.out.get 2 rfl).c1
      have cb4_2 : W18.cell? ⟨w.heap.size, 2, none⟩ = some (.string ⟨List.toArray xt⟩) := (B.out.get 2 rfl).c2
      obtain ⟨⟨⟨r1k, r1n, r1t⟩, r1e⟩, hr1⟩ : ∃ p, powR (⟨xk, xn, xt⟩ : Vl) m = p := ⟨_, rfl⟩
      have hc1 := fun (W : World) (hW : Env W) => powV (⟨xk, xn, xt⟩ : Vl) m HOx.out W hW
      have ho1 := powR_ok (⟨xk, xn, xt⟩ : Vl) m
      rw [hr1] at hc1 ho1
      simp only [Vl.val, pr] at hc1
      have HC1 := Lib.hid hc1; have HOr1 : Hid (Vl.ok ⟨r1k, r1n, r1t⟩) := Lib.hid ho1; have HR1 := Lib.hid hr1
      clear hc1 ho1 hr1
      go_wp2_with fail
      refine (HC1.out _ (HE.out.below BL.out)).mono ?_
      rintro e W19 ⟨rfl, hb⟩
      clear cb4_0 cb4_1 cb4_2
      replace B := Lib.hid (B.out.below hb)
      replace BL := Lib.hid (below_then BL.out hb)
      clear hb
      go_upto_region 6 with fail
      have hB : Bxs (W19.alloc (.cells #[.int .i64 r1k, .int .i64 r1n, .string ⟨List.toArray r1t⟩] 23)) ((W19.heap.size, (⟨r1k, r1n, r1t⟩ : Vl)) :: [(g0, (⟨r0k, r0n, r0t⟩ : Vl)), (gb5, (⟨yk, yn, yt⟩ : Vl)), (w.heap.size, (⟨xk, xn, xt⟩ : Vl))]) := B.out.push (⟨r1k, r1n, r1t⟩ : Vl) 23
      have hL : Below w.heap.size w (W19.alloc (.cells #[.int .i64 r1k, .int .i64 r1n, .string ⟨List.toArray r1t⟩] 23)) := BL.out.alloc BL.out.size _
      obtain ⟨W20, hW⟩ : ∃ X, W19.alloc (.cells #[.int .i64 r1k, .int .i64 r1n, .string ⟨List.toArray r1t⟩] 23) = X := ⟨_, rfl⟩
      obtain ⟨g1, hg⟩ : ∃ g, W19.heap.size = g := ⟨_, rfl⟩
      rw [hW] at hB hL ⊢
      rw [hg] at hB ⊢
      have HGb12_5_2 : Hid (w.heap.size ≤ g1) := Lib.hid (by rw [← hg]; exact BL.out.size)
      replace B := Lib.hid hB
      replace BL := Lib.hid hL
      clear hB hL hW hg
      replace HL := Lib.hid (show true = BigPowers_s15 (⟨xk, xn, xt⟩ : Vl) (⟨yk, yn, yt⟩ : Vl) n m ((⟨r0k, r0n, r0t⟩, r0e) : Vl × Int) ((⟨r1k, r1n, r1t⟩, r1e) : Vl × Int) from HL.out.trans (by unfold BigPowers_s16; rw [HR1.out]))
      -- region 6
      have cb4_0 : W20.cell? ⟨w.heap.size, 0, none⟩ = some (.int .i64 xk) := (B.out.get 3 rfl).c0
      have cb4_1 : W20.cell? ⟨w.heap.size, 1, none⟩ = some (.int .i64 xn) := (B.out.get 3 rfl).c1
      have cb4_2 : W20.cell? ⟨w.heap.size, 2, none⟩ = some (.string ⟨List.toArray xt⟩) := (B.out.get 3 rfl).c2
      obtain ⟨⟨⟨r2k, r2n, r2t⟩, r2e⟩, hr2⟩ : ∃ p, powR (⟨xk, xn, xt⟩ : Vl) (wrap64 (n + m)) = p := ⟨_, rfl⟩
      have hc2 := fun (W : World) (hW : Env W) => powV (⟨xk, xn, xt⟩ : Vl) (wrap64 (n + m)) HOx.out W hW
      have ho2 := powR_ok (⟨xk, xn, xt⟩ : Vl) (wrap64 (n + m))
      rw [hr2] at hc2 ho2
      simp only [Vl.val, pr] at hc2
      have HC2 := Lib.hid hc2; have HOr2 : Hid (Vl.ok ⟨r2k, r2n, r2t⟩) := Lib.hid ho2; have HR2 := Lib.hid hr2
      clear hc2 ho2 hr2
      go_wp2_with fail
      refine (HC2.out _ (HE.out.below BL.out)).mono ?_
      rintro e W21 ⟨rfl, hb⟩
      clear cb4_0 cb4_1 cb4_2
      replace B := Lib.hid (B.out.below hb)
      replace BL := Lib.hid (below_then BL.out hb)
      clear hb
      go_upto_region 7 with fail
      have hB : Bxs (W21.alloc (.cells #[.int .i64 r2k, .int .i64 r2n, .string ⟨List.toArray r2t⟩] 23)) ((W21.heap.size, (⟨r2k, r2n, r2t⟩ : Vl)) :: [(g1, (⟨r1k, r1n, r1t⟩ : Vl)), (g0, (⟨r0k, r0n, r0t⟩ : Vl)), (gb5, (⟨yk, yn, yt⟩ : Vl)), (w.heap.size, (⟨xk, xn, xt⟩ : Vl))]) := B.out.push (⟨r2k, r2n, r2t⟩ : Vl) 23
      have hL : Below w.heap.size w (W21.alloc (.cells #[.int .i64 r2k, .int .i64 r2n, .string ⟨List.toArray r2t⟩] 23)) := BL.out.alloc BL.out.size _
      obtain ⟨W22, hW⟩ : ∃ X, W21.alloc (.cells #[.int .i64 r2k, .int .i64 r2n, .string ⟨List.toArray r2t⟩] 23) = X := ⟨_, rfl⟩
      obtain ⟨g2, hg⟩ : ∃ g, W21.heap.size = g := ⟨_, rfl⟩
      rw [hW] at hB hL ⊢
      rw [hg] at hB ⊢
      have HGb14_6_3 : Hid (w.heap.size ≤ g2) := Lib.hid (by rw [← hg]; exact BL.out.size)
      replace B := Lib.hid hB
      replace BL := Lib.hid hL
      clear hB hL hW hg
      replace HL := Lib.hid (show true = BigPowers_s14 (⟨xk, xn, xt⟩ : Vl) (⟨yk, yn, yt⟩ : Vl) n m ((⟨r0k, r0n, r0t⟩, r0e) : Vl × Int) ((⟨r1k, r1n, r1t⟩, r1e) : Vl × Int) ((⟨r2k, r2n, r2t⟩, r2e) : Vl × Int) from HL.out.trans (by unfold BigPowers_s15; rw [HR2.out]))
      -- region 7, a test
      obtain ⟨b6, h⟩ : ∃ b : Bool, (r0e == 0) = b := ⟨_, rfl⟩
      have HA6 := Lib.hid h
      clear h
      obtain ⟨b7, h⟩ : ∃ b : Bool, (r1e == 0) = b := ⟨_, rfl⟩
      have HA7 := Lib.hid h
      clear h
      obtain ⟨c5, h⟩ : ∃ c : Bool, (b6 && b7) = c := ⟨_, rfl⟩
      have HCC := Lib.hid h
      clear h
      go_upto_region 7 with fail
      go_cut [77] from 72 to 77 (fun v wx => v = .bool c5 ∧ Hid (Bxs wx [(g2, (⟨r2k, r2n, r2t⟩ : Vl)), (g1, (⟨r1k, r1n, r1t⟩ : Vl)), (g0, (⟨r0k, r0n, r0t⟩ : Vl)), (gb5, (⟨yk, yn, yt⟩ : Vl)), (w.heap.size, (⟨xk, xn, xt⟩ : Vl))]) ∧ Hid (Below w.heap.size w wx))
      case first =>
        clear HL
        cases b6 with
        | true =>
          cases b7 with
          | true =>
            have f0_0 : ((r0e : Int) == 0) = true := HA6.out
            have f0_1 : ((r0e : Int) != 0) = false := by have h := HA6.out; simpa using h
            have f1_0 : ((r1e : Int) == 0) = true := HA7.out
            have f1_1 : ((r1e : Int) != 0) = false := by have h := HA7.out; simpa using h
            go_wp2_with fail
            go_meet
            exact ⟨congrArg Value.bool HCC.out, B, BL⟩
          | false =>
            have f0_0 : ((r0e : Int) == 0) = true := HA6.out
            have f0_1 : ((r0e : Int) != 0) = false := by have h := HA6.out; simpa using h
            have f1_0 : ((r1e : Int) == 0) = false := HA7.out
            have f1_1 : ((r1e : Int) != 0) = true := by have h := HA7.out; simpa using h
            go_wp2_with fail
            go_meet
            exact ⟨congrArg Value.bool HCC.out, B, BL⟩
        | false =>
          have f0_0 : ((r0e : Int) == 0) = false := HA6.out
          have f0_1 : ((r0e : Int) != 0) = true := by have h := HA6.out; simpa using h
          go_wp2_with fail
          go_meet
          exact ⟨congrArg Value.bool HCC.out, B, BL⟩
      case rest =>
        clear B BL
        obtain ⟨rfl, B, BL⟩ := hcut
        obtain ⟨W23, hW⟩ : ∃ X, wc = X := ⟨_, rfl⟩
        rw [hW] at B BL ⊢
        clear hW
        have HCW : Hid (((r0e == 0) && (r1e == 0)) = c5) := Lib.hid (by rw [HA6.out, HA7.out]; exact HCC.out)
        clear HCC HA6 HA7
        cases c5 with
        | true =>
          replace HL := Lib.hid (show true = BigPowers_s8 (⟨xk, xn, xt⟩ : Vl) (⟨yk, yn, yt⟩ : Vl) n m ((⟨r0k, r0n, r0t⟩, r0e) : Vl × Int) ((⟨r1k, r1n, r1t⟩, r1e) : Vl × Int) ((⟨r2k, r2n, r2t⟩, r2e) : Vl × Int) from HL.out.trans (if_pos HCW.out))
          -- region 8
          have cb10_4_1_0 : W23.cell? ⟨g0, 0, none⟩ = some (.int .i64 r0k) := (B.out.get 2 rfl).c0
          have cb10_4_1_1 : W23.cell? ⟨g0, 1, none⟩ = some (.int .i64 r0n) := (B.out.get 2 rfl).c1
          have cb10_4_1_2 : W23.cell? ⟨g0, 2, none⟩ = some (.string ⟨List.toArray r0t⟩) := (B.out.get 2 rfl).c2
          have cb12_5_2_0 : W23.cell? ⟨g1, 0, none⟩ = some (.int .i64 r1k) := (B.out.get 1 rfl).c0
          have cb12_5_2_1 : W23.cell? ⟨g1, 1, none⟩ = some (.int .i64 r1n) := (B.out.get 1 rfl).c1
          have cb12_5_2_2 : W23.cell? ⟨g1, 2, none⟩ = some (.string ⟨List.toArray r1t⟩) := (B.out.get 1 rfl).c2
          obtain ⟨⟨⟨r3k, r3n, r3t⟩, r3e⟩, hr3⟩ : ∃ p, mulR (⟨r0k, r0n, r0t⟩ : Vl) (⟨r1k, r1n, r1t⟩ : Vl) = p := ⟨_, rfl⟩
          have hc3 := fun (W : World) (hW : Env W) => mul_pub (⟨r0k, r0n, r0t⟩ : Vl) (⟨r1k, r1n, r1t⟩ : Vl) HOr0.out HOr1.out W hW
          have ho3 := mulR_ok (⟨r0k, r0n, r0t⟩ : Vl) (⟨r1k, r1n, r1t⟩ : Vl)
          rw [hr3] at hc3 ho3
          simp only [Vl.val, pr] at hc3
          have HC3 := Lib.hid hc3; have HOr3 : Hid (Vl.ok ⟨r3k, r3n, r3t⟩) := Lib.hid ho3; have HR3 := Lib.hid hr3
          clear hc3 ho3 hr3
          go_wp2_with fail
          refine (HC3.out _ (HE.out.below BL.out)).mono ?_
          rintro e W24 ⟨rfl, hb⟩
          clear cb10_4_1_0 cb10_4_1_1 cb10_4_1_2 cb12_5_2_0 cb12_5_2_1 cb12_5_2_2
          replace B := Lib.hid (B.out.below hb)
          replace BL := Lib.hid (below_then BL.out hb)
          clear hb
          go_upto_region 9 with fail
          have hB : Bxs (W24.alloc (.cells #[.int .i64 r3k, .int .i64 r3n, .string ⟨List.toArray r3t⟩] 23)) ((W24.heap.size, (⟨r3k, r3n, r3t⟩ : Vl)) :: [(g2, (⟨r2k, r2n, r2t⟩ : Vl)), (g1, (⟨r1k, r1n, r1t⟩ : Vl)), (g0, (⟨r0k, r0n, r0t⟩ : Vl)), (gb5, (⟨yk, yn, yt⟩ : Vl)), (w.heap.size, (⟨xk, xn, xt⟩ : Vl))]) := B.out.push (⟨r3k, r3n, r3t⟩ : Vl) 23
          have hL : Below w.heap.size w (W24.alloc (.cells #[.int .i64 r3k, .int .i64 r3n, .string ⟨List.toArray r3t⟩] 23)) := BL.out.alloc BL.out.size _
          obtain ⟨W25, hW⟩ : ∃ X, W24.alloc (.cells #[.int .i64 r3k, .int .i64 r3n, .string ⟨List.toArray r3t⟩] 23) = X := ⟨_, rfl⟩
          obtain ⟨g3, hg⟩ : ∃ g, W24.heap.size = g := ⟨_, rfl⟩
          rw [hW] at hB hL ⊢
          rw [hg] at hB ⊢
          have HGb16_8_5 : Hid (w.heap.size ≤ g3) := Lib.hid (by rw [← hg]; exact BL.out.size)
          replace B := Lib.hid hB
          replace BL := Lib.hid hL
          clear hB hL hW hg
          replace HL := Lib.hid (show true = BigPowers_s7 (⟨xk, xn, xt⟩ : Vl) (⟨yk, yn, yt⟩ : Vl) n m ((⟨r0k, r0n, r0t⟩, r0e) : Vl × Int) ((⟨r1k, r1n, r1t⟩, r1e) : Vl × Int) ((⟨r2k, r2n, r2t⟩, r2e) : Vl × Int) ((⟨r3k, r3n, r3t⟩, r3e) : Vl × Int) from HL.out.trans (by unfold BigPowers_s8; rw [HR3.out]))
          -- region 9, a test
          obtain ⟨b8, h⟩ : ∃ b : Bool, (veqB r3k r3n r3t r2k r2n r2t) = b := ⟨_, rfl⟩
          have HA8 := Lib.hid h
          clear h
          obtain ⟨b9, h⟩ : ∃ b : Bool, (r3e == r2e) = b := ⟨_, rfl⟩
          have HA9 := Lib.hid h
          clear h
          have HCF : ((!(veqB r3k r3n r3t r2k r2n r2t)) || (!(r3e == r2e))) = false := Bool.eq_false_iff.2 fun h => Bool.noConfusion (show true = false from HL.out.trans (if_pos h))
          have HCB : ((!b8) || (!b9)) = false := by
            have h := HCF
            rw [HA8.out, HA9.out] at h
            exact h
          have HCW := Lib.hid HCF
          have HCC := Lib.hid HCB
          clear HCF HCB
          go_upto_region 9 with fail
          go_cut [91] from 84 to 91 (fun v wx => v = .bool false ∧ Hid (Bxs wx [(g3, (⟨r3k, r3n, r3t⟩ : Vl)), (g2, (⟨r2k, r2n, r2t⟩ : Vl)), (g1, (⟨r1k, r1n, r1t⟩ : Vl)), (g0, (⟨r0k, r0n, r0t⟩ : Vl)), (gb5, (⟨yk, yn, yt⟩ : Vl)), (w.heap.size, (⟨xk, xn, xt⟩ : Vl))]) ∧ Hid (Below w.heap.size w wx))
          case first =>
            clear HL
            cases b8 with
            | true =>
              cases b9 with
              | true =>
                have f0_0 : (veqB r3k r3n r3t r2k r2n r2t) = true := HA8.out
                have f1_0 : ((r3e : Int) == r2e) = true := HA9.out
                have f1_1 : ((r3e : Int) != r2e) = false := by have h := HA9.out; simpa using h
                have cb16_8_5_0 : W25.cell? ⟨g3, 0, none⟩ = some (.int .i64 r3k) := (B.out.get 0 rfl).c0
                have cb16_8_5_1 : W25.cell? ⟨g3, 1, none⟩ = some (.int .i64 r3n) := (B.out.get 0 rfl).c1
                have cb16_8_5_2 : W25.cell? ⟨g3, 2, none⟩ = some (.string ⟨List.toArray r3t⟩) := (B.out.get 0 rfl).c2
                have cb14_6_3_0 : W25.cell? ⟨g2, 0, none⟩ = some (.int .i64 r2k) := (B.out.get 1 rfl).c0
                have cb14_6_3_1 : W25.cell? ⟨g2, 1, none⟩ = some (.int .i64 r2n) := (B.out.get 1 rfl).c1
                have cb14_6_3_2 : W25.cell? ⟨g2, 2, none⟩ = some (.string ⟨List.toArray r2t⟩) := (B.out.get 1 rfl).c2
                go_wp2_with fail
                go_meet
                exact ⟨rfl, B, BL⟩
              | false =>
                exact Bool.noConfusion (show true = false from HCC.out)
            | false =>
              exact Bool.noConfusion (show true = false from HCC.out)
          case rest =>
            clear B BL
            obtain ⟨rfl, B, BL⟩ := hcut
            obtain ⟨W26, hW⟩ : ∃ X, wc = X := ⟨_, rfl⟩
            rw [hW] at B BL ⊢
            clear hW
            clear HCC HA8 HA9
            replace HL := Lib.hid (show true = BigPowers_s6 (⟨xk, xn, xt⟩ : Vl) (⟨yk, yn, yt⟩ : Vl) n m ((⟨r0k, r0n, r0t⟩, r0e) : Vl × Int) ((⟨r1k, r1n, r1t⟩, r1e) : Vl × Int) ((⟨r2k, r2n, r2t⟩, r2e) : Vl × Int) ((⟨r3k, r3n, r3t⟩, r3e) : Vl × Int) from HL.out.trans ((if_neg (fun h => Bool.noConfusion (HCW.out.symm.trans h)))))
            -- region 11
            have cb5_0 : W26.cell? ⟨gb5, 0, none⟩ = some (.int .i64 yk) := (B.out.get 4 rfl).c0
            have cb5_1 : W26.cell? ⟨gb5, 1, none⟩ = some (.int .i64 yn) := (B.out.get 4 rfl).c1
            have cb5_2 : W26.cell? ⟨gb5, 2, none⟩ = some (.string ⟨List.toArray yt⟩) := (B.out.get 4 rfl).c2
            obtain ⟨⟨⟨r4k, r4n, r4t⟩, r4e⟩, hr4⟩ : ∃ p, powR (⟨yk, yn, yt⟩ : Vl) n = p := ⟨_, rfl⟩
            have hc4 := fun (W : World) (hW : Env W) => powV (⟨yk, yn, yt⟩ : Vl) n HOy.out W hW
            have ho4 := powR_ok (⟨yk, yn, yt⟩ : Vl) n
            rw [hr4] at hc4 ho4
            simp only [Vl.val, pr] at hc4
            have HC4 := Lib.hid hc4; have HOr4 : Hid (Vl.ok ⟨r4k, r4n, r4t⟩) := Lib.hid ho4; have HR4 := Lib.hid hr4
            clear hc4 ho4 hr4
            go_wp2_with fail
            refine (HC4.out _ (HE.out.below BL.out)).mono ?_
            rintro e W27 ⟨rfl, hb⟩
            clear cb5_0 cb5_1 cb5_2
            replace B := Lib.hid (B.out.below hb)
            replace BL := Lib.hid (below_then BL.out hb)
            clear hb
            go_upto_region 12 with fail
            have hB : Bxs (W27.alloc (.cells #[.int .i64 r4k, .int .i64 r4n, .string ⟨List.toArray r4t⟩] 23)) ((W27.heap.size, (⟨r4k, r4n, r4t⟩ : Vl)) :: [(g3, (⟨r3k, r3n, r3t⟩ : Vl)), (g2, (⟨r2k, r2n, r2t⟩ : Vl)), (g1, (⟨r1k, r1n, r1t⟩ : Vl)), (g0, (⟨r0k, r0n, r0t⟩ : Vl)), (gb5, (⟨yk, yn, yt⟩ : Vl)), (w.heap.size, (⟨xk, xn, xt⟩ : Vl))]) := B.out.push (⟨r4k, r4n, r4t⟩ : Vl) 23
            have hL : Below w.heap.size w (W27.alloc (.cells #[.int .i64 r4k, .int .i64 r4n, .string ⟨List.toArray r4t⟩] 23)) := BL.out.alloc BL.out.size _
            obtain ⟨W28, hW⟩ : ∃ X, W27.alloc (.cells #[.int .i64 r4k, .int .i64 r4n, .string ⟨List.toArray r4t⟩] 23) = X := ⟨_, rfl⟩
            obtain ⟨g4, hg⟩ : ∃ g, W27.heap.size = g := ⟨_, rfl⟩
            rw [hW] at hB hL ⊢
            rw [hg] at hB ⊢
            have HGb18_11_7 : Hid (w.heap.size ≤ g4) := Lib.hid (by rw [← hg]; exact BL.out.size)
            replace B := Lib.hid hB
            replace BL := Lib.hid hL
            clear hB hL hW hg
            replace HL := Lib.hid (show true = BigPowers_s5 (⟨xk, xn, xt⟩ : Vl) (⟨yk, yn, yt⟩ : Vl) n m ((⟨r0k, r0n, r0t⟩, r0e) : Vl × Int) ((⟨r1k, r1n, r1t⟩, r1e) : Vl × Int) ((⟨r2k, r2n, r2t⟩, r2e) : Vl × Int) ((⟨r3k, r3n, r3t⟩, r3e) : Vl × Int) ((⟨r4k, r4n, r4t⟩, r4e) : Vl × Int) from HL.out.trans (by unfold BigPowers_s6; rw [HR4.out]))
            -- region 12
            have cb4_0 : W28.cell? ⟨w.heap.size, 0, none⟩ = some (.int .i64 xk) := (B.out.get 6 rfl).c0
            have cb4_1 : W28.cell? ⟨w.heap.size, 1, none⟩ = some (.int .i64 xn) := (B.out.get 6 rfl).c1
            have cb4_2 : W28.cell? ⟨w.heap.size, 2, none⟩ = some (.string ⟨List.toArray xt⟩) := (B.out.get 6 rfl).c2
            have cb5_0 : W28.cell? ⟨gb5, 0, none⟩ = some (.int .i64 yk) := (B.out.get 5 rfl).c0
            have cb5_1 : W28.cell? ⟨gb5, 1, none⟩ = some (.int .i64 yn) := (B.out.get 5 rfl).c1
            have cb5_2 : W28.cell? ⟨gb5, 2, none⟩ = some (.string ⟨List.toArray yt⟩) := (B.out.get 5 rfl).c2
            obtain ⟨⟨⟨r5k, r5n, r5t⟩, r5e⟩, hr5⟩ : ∃ p, mulR (⟨xk, xn, xt⟩ : Vl) (⟨yk, yn, yt⟩ : Vl) = p := ⟨_, rfl⟩
            have hc5 := fun (W : World) (hW : Env W) => mul_pub (⟨xk, xn, xt⟩ : Vl) (⟨yk, yn, yt⟩ : Vl) HOx.out HOy.out W hW
            have ho5 := mulR_ok (⟨xk, xn, xt⟩ : Vl) (⟨yk, yn, yt⟩ : Vl)
            rw [hr5] at hc5 ho5
            simp only [Vl.val, pr] at hc5
            have HC5 := Lib.hid hc5; have HOr5 : Hid (Vl.ok ⟨r5k, r5n, r5t⟩) := Lib.hid ho5; have HR5 := Lib.hid hr5
            clear hc5 ho5 hr5
            go_wp2_with fail
            refine (HC5.out _ (HE.out.below BL.out)).mono ?_
            rintro e W29 ⟨rfl, hb⟩
            clear cb4_0 cb4_1 cb4_2 cb5_0 cb5_1 cb5_2
            replace B := Lib.hid (B.out.below hb)
            replace BL := Lib.hid (below_then BL.out hb)
            clear hb
            go_upto_region 13 with fail
            have hB : Bxs (W29.alloc (.cells #[.int .i64 r5k, .int .i64 r5n, .string ⟨List.toArray r5t⟩] 23)) ((W29.heap.size, (⟨r5k, r5n, r5t⟩ : Vl)) :: [(g4, (⟨r4k, r4n, r4t⟩ : Vl)), (g3, (⟨r3k, r3n, r3t⟩ : Vl)), (g2, (⟨r2k, r2n, r2t⟩ : Vl)), (g1, (⟨r1k, r1n, r1t⟩ : Vl)), (g0, (⟨r0k, r0n, r0t⟩ : Vl)), (gb5, (⟨yk, yn, yt⟩ : Vl)), (w.heap.size, (⟨xk, xn, xt⟩ : Vl))]) := B.out.push (⟨r5k, r5n, r5t⟩ : Vl) 23
            have hL : Below w.heap.size w (W29.alloc (.cells #[.int .i64 r5k, .int .i64 r5n, .string ⟨List.toArray r5t⟩] 23)) := BL.out.alloc BL.out.size _
            obtain ⟨W30, hW⟩ : ∃ X, W29.alloc (.cells #[.int .i64 r5k, .int .i64 r5n, .string ⟨List.toArray r5t⟩] 23) = X := ⟨_, rfl⟩
            obtain ⟨g5, hg⟩ : ∃ g, W29.heap.size = g := ⟨_, rfl⟩
            rw [hW] at hB hL ⊢
            rw [hg] at hB ⊢
            have HGb20_12_8 : Hid (w.heap.size ≤ g5) := Lib.hid (by rw [← hg]; exact BL.out.size)
            replace B := Lib.hid hB
            replace BL := Lib.hid hL
            clear hB hL hW hg
            replace HL := Lib.hid (show true = BigPowers_s4 (⟨xk, xn, xt⟩ : Vl) (⟨yk, yn, yt⟩ : Vl) n m ((⟨r0k, r0n, r0t⟩, r0e) : Vl × Int) ((⟨r1k, r1n, r1t⟩, r1e) : Vl × Int) ((⟨r2k, r2n, r2t⟩, r2e) : Vl × Int) ((⟨r3k, r3n, r3t⟩, r3e) : Vl × Int) ((⟨r4k, r4n, r4t⟩, r4e) : Vl × Int) ((⟨r5k, r5n, r5t⟩, r5e) : Vl × Int) from HL.out.trans (by unfold BigPowers_s5; rw [HR5.out]))
            -- region 13
            have cb20_12_8_0 : W30.cell? ⟨g5, 0, none⟩ = some (.int .i64 r5k) := (B.out.get 0 rfl).c0
            have cb20_12_8_1 : W30.cell? ⟨g5, 1, none⟩ = some (.int .i64 r5n) := (B.out.get 0 rfl).c1
            have cb20_12_8_2 : W30.cell? ⟨g5, 2, none⟩ = some (.string ⟨List.toArray r5t⟩) := (B.out.get 0 rfl).c2
            obtain ⟨⟨⟨r6k, r6n, r6t⟩, r6e⟩, hr6⟩ : ∃ p, powR (⟨r5k, r5n, r5t⟩ : Vl) n = p := ⟨_, rfl⟩
            have hc6 := fun (W : World) (hW : Env W) => powV (⟨r5k, r5n, r5t⟩ : Vl) n HOr5.out W hW
            have ho6 := powR_ok (⟨r5k, r5n, r5t⟩ : Vl) n
            rw [hr6] at hc6 ho6
            simp only [Vl.val, pr] at hc6
            have HC6 := Lib.hid hc6; have HOr6 : Hid (Vl.ok ⟨r6k, r6n, r6t⟩) := Lib.hid ho6; have HR6 := Lib.hid hr6
            clear hc6 ho6 hr6
            go_wp2_with fail
            refine (HC6.out _ (HE.out.below BL.out)).mono ?_
            rintro e W31 ⟨rfl, hb⟩
            clear cb20_12_8_0 cb20_12_8_1 cb20_12_8_2
            replace B := Lib.hid (B.out.below hb)
            replace BL := Lib.hid (below_then BL.out hb)
            clear hb
            go_upto_region 14 with fail
            have hB : Bxs (W31.alloc (.cells #[.int .i64 r6k, .int .i64 r6n, .string ⟨List.toArray r6t⟩] 23)) ((W31.heap.size, (⟨r6k, r6n, r6t⟩ : Vl)) :: [(g5, (⟨r5k, r5n, r5t⟩ : Vl)), (g4, (⟨r4k, r4n, r4t⟩ : Vl)), (g3, (⟨r3k, r3n, r3t⟩ : Vl)), (g2, (⟨r2k, r2n, r2t⟩ : Vl)), (g1, (⟨r1k, r1n, r1t⟩ : Vl)), (g0, (⟨r0k, r0n, r0t⟩ : Vl)), (gb5, (⟨yk, yn, yt⟩ : Vl)), (w.heap.size, (⟨xk, xn, xt⟩ : Vl))]) := B.out.push (⟨r6k, r6n, r6t⟩ : Vl) 23
            have hL : Below w.heap.size w (W31.alloc (.cells #[.int .i64 r6k, .int .i64 r6n, .string ⟨List.toArray r6t⟩] 23)) := BL.out.alloc BL.out.size _
            obtain ⟨W32, hW⟩ : ∃ X, W31.alloc (.cells #[.int .i64 r6k, .int .i64 r6n, .string ⟨List.toArray r6t⟩] 23) = X := ⟨_, rfl⟩
            obtain ⟨g6, hg⟩ : ∃ g, W31.heap.size = g := ⟨_, rfl⟩
            rw [hW] at hB hL ⊢
            rw [hg] at hB ⊢
            have HGb22_13_9 : Hid (w.heap.size ≤ g6) := Lib.hid (by rw [← hg]; exact BL.out.size)
            replace B := Lib.hid hB
            replace BL := Lib.hid hL
            clear hB hL hW hg
            replace HL := Lib.hid (show true = BigPowers_s3 (⟨xk, xn, xt⟩ : Vl) (⟨yk, yn, yt⟩ : Vl) n m ((⟨r0k, r0n, r0t⟩, r0e) : Vl × Int) ((⟨r1k, r1n, r1t⟩, r1e) : Vl × Int) ((⟨r2k, r2n, r2t⟩, r2e) : Vl × Int) ((⟨r3k, r3n, r3t⟩, r3e) : Vl × Int) ((⟨r4k, r4n, r4t⟩, r4e) : Vl × Int) ((⟨r5k, r5n, r5t⟩, r5e) : Vl × Int) ((⟨r6k, r6n, r6t⟩, r6e) : Vl × Int) from HL.out.trans (by unfold BigPowers_s4; rw [HR6.out]))
            -- region 14
            have cb10_4_1_0 : W32.cell? ⟨g0, 0, none⟩ = some (.int .i64 r0k) := (B.out.get 6 rfl).c0
            have cb10_4_1_1 : W32.cell? ⟨g0, 1, none⟩ = some (.int .i64 r0n) := (B.out.get 6 rfl).c1
            have cb10_4_1_2 : W32.cell? ⟨g0, 2, none⟩ = some (.string ⟨List.toArray r0t⟩) := (B.out.get 6 rfl).c2
            have cb18_11_7_0 : W32.cell? ⟨g4, 0, none⟩ = some (.int .i64 r4k) := (B.out.get 2 rfl).c0
            have cb18_11_7_1 : W32.cell? ⟨g4, 1, none⟩ = some (.int .i64 r4n) := (B.out.get 2 rfl).c1
            have cb18_11_7_2 : W32.cell? ⟨g4, 2, none⟩ = some (.string ⟨List.toArray r4t⟩) := (B.out.get 2 rfl).c2
            obtain ⟨⟨⟨r7k, r7n, r7t⟩, r7e⟩, hr7⟩ : ∃ p, mulR (⟨r0k, r0n, r0t⟩ : Vl) (⟨r4k, r4n, r4t⟩ : Vl) = p := ⟨_, rfl⟩
            have hc7 := fun (W : World) (hW : Env W) => mul_pub (⟨r0k, r0n, r0t⟩ : Vl) (⟨r4k, r4n, r4t⟩ : Vl) HOr0.out HOr4.out W hW
            have ho7 := mulR_ok (⟨r0k, r0n, r0t⟩ : Vl) (⟨r4k, r4n, r4t⟩ : Vl)
            rw [hr7] at hc7 ho7
            simp only [Vl.val, pr] at hc7
            have HC7 := Lib.hid hc7; have HOr7 : Hid (Vl.ok ⟨r7k, r7n, r7t⟩) := Lib.hid ho7; have HR7 := Lib.hid hr7
            clear hc7 ho7 hr7
            go_wp2_with fail
            refine (HC7.out _ (HE.out.below BL.out)).mono ?_
            rintro e W33 ⟨rfl, hb⟩
            clear cb10_4_1_0 cb10_4_1_1 cb10_4_1_2 cb18_11_7_0 cb18_11_7_1 cb18_11_7_2
            replace B := Lib.hid (B.out.below hb)
            replace BL := Lib.hid (below_then BL.out hb)
            clear hb
            go_upto_region 15 with fail
            have hB : Bxs (W33.alloc (.cells #[.int .i64 r7k, .int .i64 r7n, .string ⟨List.toArray r7t⟩] 23)) ((W33.heap.size, (⟨r7k, r7n, r7t⟩ : Vl)) :: [(g6, (⟨r6k, r6n, r6t⟩ : Vl)), (g5, (⟨r5k, r5n, r5t⟩ : Vl)), (g4, (⟨r4k, r4n, r4t⟩ : Vl)), (g3, (⟨r3k, r3n, r3t⟩ : Vl)), (g2, (⟨r2k, r2n, r2t⟩ : Vl)), (g1, (⟨r1k, r1n, r1t⟩ : Vl)), (g0, (⟨r0k, r0n, r0t⟩ : Vl)), (gb5, (⟨yk, yn, yt⟩ : Vl)), (w.heap.size, (⟨xk, xn, xt⟩ : Vl))]) := B.out.push (⟨r7k, r7n, r7t⟩ : Vl) 23
            have hL : Below w.heap.size w (W33.alloc (.cells #[.int .i64 r7k, .int .i64 r7n, .string ⟨List.toArray r7t⟩] 23)) := BL.out.alloc BL.out.size _
            obtain ⟨W34, hW⟩ : ∃ X, W33.alloc (.cells #[.int .i64 r7k, .int .i64 r7n, .string ⟨List.toArray r7t⟩] 23) = X := ⟨_, rfl⟩
            obtain ⟨g7, hg⟩ : ∃ g, W33.heap.size = g := ⟨_, rfl⟩
            rw [hW] at hB hL ⊢
            rw [hg] at hB ⊢
            have HGb24_14_10 : Hid (w.heap.size ≤ g7) := Lib.hid (by rw [← hg]; exact BL.out.size)
            replace B := Lib.hid hB
            replace BL := Lib.hid hL
            clear hB hL hW hg
            replace HL := Lib.hid (show true = BigPowers_s2 (⟨xk, xn, xt⟩ : Vl) (⟨yk, yn, yt⟩ : Vl) n m ((⟨r0k, r0n, r0t⟩, r0e) : Vl × Int) ((⟨r1k, r1n, r1t⟩, r1e) : Vl × Int) ((⟨r2k, r2n, r2t⟩, r2e) : Vl × Int) ((⟨r3k, r3n, r3t⟩, r3e) : Vl × Int) ((⟨r4k, r4n, r4t⟩, r4e) : Vl × Int) ((⟨r5k, r5n, r5t⟩, r5e) : Vl × Int) ((⟨r6k, r6n, r6t⟩, r6e) : Vl × Int) ((⟨r7k, r7n, r7t⟩, r7e) : Vl × Int) from HL.out.trans (by unfold BigPowers_s3; rw [HR7.out]))
            -- region 15, the end
            obtain ⟨b10, h⟩ : ∃ b : Bool, (r0e == 0) = b := ⟨_, rfl⟩
            have HA10 := Lib.hid h
            clear h
            obtain ⟨b11, h⟩ : ∃ b : Bool, (r4e == 0) = b := ⟨_, rfl⟩
            have HA11 := Lib.hid h
            clear h
            obtain ⟨b12, h⟩ : ∃ b : Bool, (r5e == 0) = b := ⟨_, rfl⟩
            have HA12 := Lib.hid h
            clear h
            obtain ⟨b13, h⟩ : ∃ b : Bool, (r6e == r7e) = b := ⟨_, rfl⟩
            have HA13 := Lib.hid h
            clear h
            obtain ⟨b14, h⟩ : ∃ b : Bool, (veqB r6k r6n r6t r7k r7n r7t) = b := ⟨_, rfl⟩
            have HA14 := Lib.hid h
            clear h
            cases b10 with
            | true =>
              cases b11 with
              | true =>
                cases b12 with
                | true =>
                  cases b13 with
                  | true =>
                    cases b14 with
                    | true =>
                      clear HL
                      have f0_0 : ((r0e : Int) == 0) = true := HA10.out
                      have f0_1 : ((r0e : Int) != 0) = false := by have h := HA10.out; simpa using h
                      have f1_0 : ((r4e : Int) == 0) = true := HA11.out
                      have f1_1 : ((r4e : Int) != 0) = false := by have h := HA11.out; simpa using h
                      have f2_0 : ((r5e : Int) == 0) = true := HA12.out
                      have f2_1 : ((r5e : Int) != 0) = false := by have h := HA12.out; simpa using h
                      have f3_0 : ((r6e : Int) == r7e) = true := HA13.out
                      have f3_1 : ((r6e : Int) != r7e) = false := by have h := HA13.out; simpa using h
                      have f4_0 : (veqB r6k r6n r6t r7k r7n r7t) = true := HA14.out
                      have cb22_13_9_0 : W34.cell? ⟨g6, 0, none⟩ = some (.int .i64 r6k) := (B.out.get 1 rfl).c0
                      have cb22_13_9_1 : W34.cell? ⟨g6, 1, none⟩ = some (.int .i64 r6n) := (B.out.get 1 rfl).c1
                      have cb22_13_9_2 : W34.cell? ⟨g6, 2, none⟩ = some (.string ⟨List.toArray r6t⟩) := (B.out.get 1 rfl).c2
                      have cb24_14_10_0 : W34.cell? ⟨g7, 0, none⟩ = some (.int .i64 r7k) := (B.out.get 0 rfl).c0
                      have cb24_14_10_1 : W34.cell? ⟨g7, 1, none⟩ = some (.int .i64 r7n) := (B.out.get 0 rfl).c1
                      have cb24_14_10_2 : W34.cell? ⟨g7, 2, none⟩ = some (.string ⟨List.toArray r7t⟩) := (B.out.get 0 rfl).c2
                      go_wp2_with fail
                      go_ret
                      exact ⟨rfl, BL.out⟩
                    | false =>
                      exact Bool.noConfusion (show true = false from HL.out.trans (by show (true && ((((!(r0e == 0)) || (!(r4e == 0))) || (!(r5e == 0))) || ((r6e == r7e) && (veqB r6k r6n r6t r7k r7n r7t)))) = false; rw [HA10.out, HA11.out, HA12.out, HA13.out, HA14.out]; rfl))
                  | false =>
                    exact Bool.noConfusion (show true = false from HL.out.trans (by show (true && ((((!(r0e == 0)) || (!(r4e == 0))) || (!(r5e == 0))) || ((r6e == r7e) && (veqB r6k r6n r6t r7k r7n r7t)))) = false; rw [HA10.out, HA11.out, HA12.out, HA13.out]; rfl))
                | false =>
                  clear HL
                  have f0_0 : ((r0e : Int) == 0) = true := HA10.out
                  have f0_1 : ((r0e : Int) != 0) = false := by have h := HA10.out; simpa using h
                  have f1_0 : ((r4e : Int) == 0) = true := HA11.out
                  have f1_1 : ((r4e : Int) != 0) = false := by have h := HA11.out; simpa using h
                  have f2_0 : ((r5e : Int) == 0) = false := HA12.out
                  have f2_1 : ((r5e : Int) != 0) = true := by have h := HA12.out; simpa using h
                  go_wp2_with fail
                  go_ret
                  exact ⟨rfl, BL.out⟩
              | false =>
                clear HL
                have f0_0 : ((r0e : Int) == 0) = true := HA10.out
                have f0_1 : ((r0e : Int) != 0) = false := by have h := HA10.out; simpa using h
                have f1_0 : ((r4e : Int) == 0) = false := HA11.out
                have f1_1 : ((r4e : Int) != 0) = true := by have h := HA11.out; simpa using h
                go_wp2_with fail
                go_ret
                exact ⟨rfl, BL.out⟩
            | false =>
              clear HL
              have f0_0 : ((r0e : Int) == 0) = false := HA10.out
              have f0_1 : ((r0e : Int) != 0) = true := by have h := HA10.out; simpa using h
              go_wp2_with fail
              go_ret
              exact ⟨rfl, BL.out⟩
        | false =>
          replace HL := Lib.hid (show true = BigPowers_s13 (⟨xk, xn, xt⟩ : Vl) (⟨yk, yn, yt⟩ : Vl) n m ((⟨r0k, r0n, r0t⟩, r0e) : Vl × Int) ((⟨r1k, r1n, r1t⟩, r1e) : Vl × Int) ((⟨r2k, r2n, r2t⟩, r2e) : Vl × Int) from HL.out.trans ((if_neg (fun h => Bool.noConfusion (HCW.out.symm.trans h)))))
          -- region 11
          have cb5_0 : W23.cell? ⟨gb5, 0, none⟩ = some (.int .i64 yk) := (B.out.get 3 rfl).c0
          have cb5_1 : W23.cell? ⟨gb5, 1, none⟩ = some (.int .i64 yn) := (B.out.get 3 rfl).c1
          have cb5_2 : W23.cell? ⟨gb5, 2, none⟩ = some (.string ⟨List.toArray yt⟩) := (B.out.get 3 rfl).c2
          obtain ⟨⟨⟨r8k, r8n, r8t⟩, r8e⟩, hr8⟩ : ∃ p, powR (⟨yk, yn, yt⟩ : Vl) n = p := ⟨_, rfl⟩
          have hc8 := fun (W : World) (hW : Env W) => powV (⟨yk, yn, yt⟩ : Vl) n HOy.out W hW
          have ho8 := powR_ok (⟨yk, yn, yt⟩ : Vl) n
          rw [hr8] at hc8 ho8
          simp only [Vl.val, pr] at hc8
          have HC8 := Lib.hid hc8; have HOr8 : Hid (Vl.ok ⟨r8k, r8n, r8t⟩) := Lib.hid ho8; have HR8 := Lib.hid hr8
          clear hc8 ho8 hr8
          go_wp2_with fail
          refine (HC8.out _ (HE.out.below BL.out)).mono ?_
          rintro e W35 ⟨rfl, hb⟩
          clear cb5_0 cb5_1 cb5_2
          replace B := Lib.hid (B.out.below hb)
          replace BL := Lib.hid (below_then BL.out hb)
          clear hb
          go_upto_region 12 with fail
          have hB : Bxs (W35.alloc (.cells #[.int .i64 r8k, .int .i64 r8n, .string ⟨List.toArray r8t⟩] 23)) ((W35.heap.size, (⟨r8k, r8n, r8t⟩ : Vl)) :: [(g2, (⟨r2k, r2n, r2t⟩ : Vl)), (g1, (⟨r1k, r1n, r1t⟩ : Vl)), (g0, (⟨r0k, r0n, r0t⟩ : Vl)), (gb5, (⟨yk, yn, yt⟩ : Vl)), (w.heap.size, (⟨xk, xn, xt⟩ : Vl))]) := B.out.push (⟨r8k, r8n, r8t⟩ : Vl) 23
          have hL : Below w.heap.size w (W35.alloc (.cells #[.int .i64 r8k, .int .i64 r8n, .string ⟨List.toArray r8t⟩] 23)) := BL.out.alloc BL.out.size _
          obtain ⟨W36, hW⟩ : ∃ X, W35.alloc (.cells #[.int .i64 r8k, .int .i64 r8n, .string ⟨List.toArray r8t⟩] 23) = X := ⟨_, rfl⟩
          obtain ⟨g8, hg⟩ : ∃ g, W35.heap.size = g := ⟨_, rfl⟩
          rw [hW] at hB hL ⊢
          rw [hg] at hB ⊢
          have HGb18_11_11 : Hid (w.heap.size ≤ g8) := Lib.hid (by rw [← hg]; exact BL.out.size)
          replace B := Lib.hid hB
          replace BL := Lib.hid hL
          clear hB hL hW hg
          replace HL := Lib.hid (show true = BigPowers_s12 (⟨xk, xn, xt⟩ : Vl) (⟨yk, yn, yt⟩ : Vl) n m ((⟨r0k, r0n, r0t⟩, r0e) : Vl × Int) ((⟨r1k, r1n, r1t⟩, r1e) : Vl × Int) ((⟨r2k, r2n, r2t⟩, r2e) : Vl × Int) ((⟨r8k, r8n, r8t⟩, r8e) : Vl × Int) from HL.out.trans (by unfold BigPowers_s13; rw [HR8.out]))
          -- region 12
          have cb4_0 : W36.cell? ⟨w.heap.size, 0, none⟩ = some (.int .i64 xk) := (B.out.get 5 rfl).c0
          have cb4_1 : W36.cell? ⟨w.heap.size, 1, none⟩ = some (.int .i64 xn) := (B.out.get 5 rfl).c1
          have cb4_2 : W36.cell? ⟨w.heap.size, 2, none⟩ = some (.string ⟨List.toArray xt⟩) := (B.out.get 5 rfl).c2
          have cb5_0 : W36.cell? ⟨gb5, 0, none⟩ = some (.int .i64 yk) := (B.out.get 4 rfl).c0
          have cb5_1 : W36.cell? ⟨gb5, 1, none⟩ = some (.int .i64 yn) := (B.out.get 4 rfl).c1
          have cb5_2 : W36.cell? ⟨gb5, 2, none⟩ = some (.string ⟨List.toArray yt⟩) := (B.out.get 4 rfl).c2
          obtain ⟨⟨⟨r9k, r9n, r9t⟩, r9e⟩, hr9⟩ : ∃ p, mulR (⟨xk, xn, xt⟩ : Vl) (⟨yk, yn, yt⟩ : Vl) = p := ⟨_, rfl⟩
          have hc9 := fun (W : World) (hW : Env W) => mul_pub (⟨xk, xn, xt⟩ : Vl) (⟨yk, yn, yt⟩ : Vl) HOx.out HOy.out W hW
          have ho9 := mulR_ok (⟨xk, xn, xt⟩ : Vl) (⟨yk, yn, yt⟩ : Vl)
          rw [hr9] at hc9 ho9
          simp only [Vl.val, pr] at hc9
          have HC9 := Lib.hid hc9; have HOr9 : Hid (Vl.ok ⟨r9k, r9n, r9t⟩) := Lib.hid ho9; have HR9 := Lib.hid hr9
          clear hc9 ho9 hr9
          go_wp2_with fail
          refine (HC9.out _ (HE.out.below BL.out)).mono ?_
          rintro e W37 ⟨rfl, hb⟩
          clear cb4_0 cb4_1 cb4_2 cb5_0 cb5_1 cb5_2
          replace B := Lib.hid (B.out.below hb)
          replace BL := Lib.hid (below_then BL.out hb)
          clear hb
          go_upto_region 13 with fail
          have hB : Bxs (W37.alloc (.cells #[.int .i64 r9k, .int .i64 r9n, .string ⟨List.toArray r9t⟩] 23)) ((W37.heap.size, (⟨r9k, r9n, r9t⟩ : Vl)) :: [(g8, (⟨r8k, r8n, r8t⟩ : Vl)), (g2, (⟨r2k, r2n, r2t⟩ : Vl)), (g1, (⟨r1k, r1n, r1t⟩ : Vl)), (g0, (⟨r0k, r0n, r0t⟩ : Vl)), (gb5, (⟨yk, yn, yt⟩ : Vl)), (w.heap.size, (⟨xk, xn, xt⟩ : Vl))]) := B.out.push (⟨r9k, r9n, r9t⟩ : Vl) 23
          have hL : Below w.heap.size w (W37.alloc (.cells #[.int .i64 r9k, .int .i64 r9n, .string ⟨List.toArray r9t⟩] 23)) := BL.out.alloc BL.out.size _
          obtain ⟨W38, hW⟩ : ∃ X, W37.alloc (.cells #[.int .i64 r9k, .int .i64 r9n, .string ⟨List.toArray r9t⟩] 23) = X := ⟨_, rfl⟩
          obtain ⟨g9, hg⟩ : ∃ g, W37.heap.size = g := ⟨_, rfl⟩
          rw [hW] at hB hL ⊢
          rw [hg] at hB ⊢
          have HGb20_12_12 : Hid (w.heap.size ≤ g9) := Lib.hid (by rw [← hg]; exact BL.out.size)
          replace B := Lib.hid hB
          replace BL := Lib.hid hL
          clear hB hL hW hg
          replace HL := Lib.hid (show true = BigPowers_s11 (⟨xk, xn, xt⟩ : Vl) (⟨yk, yn, yt⟩ : Vl) n m ((⟨r0k, r0n, r0t⟩, r0e) : Vl × Int) ((⟨r1k, r1n, r1t⟩, r1e) : Vl × Int) ((⟨r2k, r2n, r2t⟩, r2e) : Vl × Int) ((⟨r8k, r8n, r8t⟩, r8e) : Vl × Int) ((⟨r9k, r9n, r9t⟩, r9e) : Vl × Int) from HL.out.trans (by unfold BigPowers_s12; rw [HR9.out]))
          -- region 13
          have cb20_12_12_0 : W38.cell? ⟨g9, 0, none⟩ = some (.int .i64 r9k) := (B.out.get 0 rfl).c0
          have cb20_12_12_1 : W38.cell? ⟨g9, 1, none⟩ = some (.int .i64 r9n) := (B.out.get 0 rfl).c1
          have cb20_12_12_2 : W38.cell? ⟨g9, 2, none⟩ = some (.string ⟨List.toArray r9t⟩) := (B.out.get 0 rfl).c2
          obtain ⟨⟨⟨r10k, r10n, r10t⟩, r10e⟩, hr10⟩ : ∃ p, powR (⟨r9k, r9n, r9t⟩ : Vl) n = p := ⟨_, rfl⟩
          have hc10 := fun (W : World) (hW : Env W) => powV (⟨r9k, r9n, r9t⟩ : Vl) n HOr9.out W hW
          have ho10 := powR_ok (⟨r9k, r9n, r9t⟩ : Vl) n
          rw [hr10] at hc10 ho10
          simp only [Vl.val, pr] at hc10
          have HC10 := Lib.hid hc10; have HOr10 : Hid (Vl.ok ⟨r10k, r10n, r10t⟩) := Lib.hid ho10; have HR10 := Lib.hid hr10
          clear hc10 ho10 hr10
          go_wp2_with fail
          refine (HC10.out _ (HE.out.below BL.out)).mono ?_
          rintro e W39 ⟨rfl, hb⟩
          clear cb20_12_12_0 cb20_12_12_1 cb20_12_12_2
          replace B := Lib.hid (B.out.below hb)
          replace BL := Lib.hid (below_then BL.out hb)
          clear hb
          go_upto_region 14 with fail
          have hB : Bxs (W39.alloc (.cells #[.int .i64 r10k, .int .i64 r10n, .string ⟨List.toArray r10t⟩] 23)) ((W39.heap.size, (⟨r10k, r10n, r10t⟩ : Vl)) :: [(g9, (⟨r9k, r9n, r9t⟩ : Vl)), (g8, (⟨r8k, r8n, r8t⟩ : Vl)), (g2, (⟨r2k, r2n, r2t⟩ : Vl)), (g1, (⟨r1k, r1n, r1t⟩ : Vl)), (g0, (⟨r0k, r0n, r0t⟩ : Vl)), (gb5, (⟨yk, yn, yt⟩ : Vl)), (w.heap.size, (⟨xk, xn, xt⟩ : Vl))]) := B.out.push (⟨r10k, r10n, r10t⟩ : Vl) 23
          have hL : Below w.heap.size w (W39.alloc (.cells #[.int .i64 r10k, .int .i64 r10n, .string ⟨List.toArray r10t⟩] 23)) := BL.out.alloc BL.out.size _
          obtain ⟨W40, hW⟩ : ∃ X, W39.alloc (.cells #[.int .i64 r10k, .int .i64 r10n, .string ⟨List.toArray r10t⟩] 23) = X := ⟨_, rfl⟩
          obtain ⟨g10, hg⟩ : ∃ g, W39.heap.size = g := ⟨_, rfl⟩
          rw [hW] at hB hL ⊢
          rw [hg] at hB ⊢
          have HGb22_13_13 : Hid (w.heap.size ≤ g10) := Lib.hid (by rw [← hg]; exact BL.out.size)
          replace B := Lib.hid hB
          replace BL := Lib.hid hL
          clear hB hL hW hg
          replace HL := Lib.hid (show true = BigPowers_s10 (⟨xk, xn, xt⟩ : Vl) (⟨yk, yn, yt⟩ : Vl) n m ((⟨r0k, r0n, r0t⟩, r0e) : Vl × Int) ((⟨r1k, r1n, r1t⟩, r1e) : Vl × Int) ((⟨r2k, r2n, r2t⟩, r2e) : Vl × Int) ((⟨r8k, r8n, r8t⟩, r8e) : Vl × Int) ((⟨r9k, r9n, r9t⟩, r9e) : Vl × Int) ((⟨r10k, r10n, r10t⟩, r10e) : Vl × Int) from HL.out.trans (by unfold BigPowers_s11; rw [HR10.out]))
          -- region 14
          have cb10_4_1_0 : W40.cell? ⟨g0, 0, none⟩ = some (.int .i64 r0k) := (B.out.get 5 rfl).c0
          have cb10_4_1_1 : W40.cell? ⟨g0, 1, none⟩ = some (.int .i64 r0n) := (B.out.get 5 rfl).c1
          have cb10_4_1_2 : W40.cell? ⟨g0, 2, none⟩ = some (.string ⟨List.toArray r0t⟩) := (B.out.get 5 rfl).c2
          have cb18_11_11_0 : W40.cell? ⟨g8, 0, none⟩ = some (.int .i64 r8k) := (B.out.get 2 rfl).c0
          have cb18_11_11_1 : W40.cell? ⟨g8, 1, none⟩ = some (.int .i64 r8n) := (B.out.get 2 rfl).c1
          have cb18_11_11_2 : W40.cell? ⟨g8, 2, none⟩ = some (.string ⟨List.toArray r8t⟩) := (B.out.get 2 rfl).c2
          obtain ⟨⟨⟨r11k, r11n, r11t⟩, r11e⟩, hr11⟩ : ∃ p, mulR (⟨r0k, r0n, r0t⟩ : Vl) (⟨r8k, r8n, r8t⟩ : Vl) = p := ⟨_, rfl⟩
          have hc11 := fun (W : World) (hW : Env W) => mul_pub (⟨r0k, r0n, r0t⟩ : Vl) (⟨r8k, r8n, r8t⟩ : Vl) HOr0.out HOr8.out W hW
          have ho11 := mulR_ok (⟨r0k, r0n, r0t⟩ : Vl) (⟨r8k, r8n, r8t⟩ : Vl)
          rw [hr11] at hc11 ho11
          simp only [Vl.val, pr] at hc11
          have HC11 := Lib.hid hc11; have HOr11 : Hid (Vl.ok ⟨r11k, r11n, r11t⟩) := Lib.hid ho11; have HR11 := Lib.hid hr11
          clear hc11 ho11 hr11
          go_wp2_with fail
          refine (HC11.out _ (HE.out.below BL.out)).mono ?_
          rintro e W41 ⟨rfl, hb⟩
          clear cb10_4_1_0 cb10_4_1_1 cb10_4_1_2 cb18_11_11_0 cb18_11_11_1 cb18_11_11_2
          replace B := Lib.hid (B.out.below hb)
          replace BL := Lib.hid (below_then BL.out hb)
          clear hb
          go_upto_region 15 with fail
          have hB : Bxs (W41.alloc (.cells #[.int .i64 r11k, .int .i64 r11n, .string ⟨List.toArray r11t⟩] 23)) ((W41.heap.size, (⟨r11k, r11n, r11t⟩ : Vl)) :: [(g10, (⟨r10k, r10n, r10t⟩ : Vl)), (g9, (⟨r9k, r9n, r9t⟩ : Vl)), (g8, (⟨r8k, r8n, r8t⟩ : Vl)), (g2, (⟨r2k, r2n, r2t⟩ : Vl)), (g1, (⟨r1k, r1n, r1t⟩ : Vl)), (g0, (⟨r0k, r0n, r0t⟩ : Vl)), (gb5, (⟨yk, yn, yt⟩ : Vl)), (w.heap.size, (⟨xk, xn, xt⟩ : Vl))]) := B.out.push (⟨r11k, r11n, r11t⟩ : Vl) 23
          have hL : Below w.heap.size w (W41.alloc (.cells #[.int .i64 r11k, .int .i64 r11n, .string ⟨List.toArray r11t⟩] 23)) := BL.out.alloc BL.out.size _
          obtain ⟨W42, hW⟩ : ∃ X, W41.alloc (.cells #[.int .i64 r11k, .int .i64 r11n, .string ⟨List.toArray r11t⟩] 23) = X := ⟨_, rfl⟩
          obtain ⟨g11, hg⟩ : ∃ g, W41.heap.size = g := ⟨_, rfl⟩
          rw [hW] at hB hL ⊢
          rw [hg] at hB ⊢
          have HGb24_14_14 : Hid (w.heap.size ≤ g11) := Lib.hid (by rw [← hg]; exact BL.out.size)
          replace B := Lib.hid hB
          replace BL := Lib.hid hL
          clear hB hL hW hg
          replace HL := Lib.hid (show true = BigPowers_s9 (⟨xk, xn, xt⟩ : Vl) (⟨yk, yn, yt⟩ : Vl) n m ((⟨r0k, r0n, r0t⟩, r0e) : Vl × Int) ((⟨r1k, r1n, r1t⟩, r1e) : Vl × Int) ((⟨r2k, r2n, r2t⟩, r2e) : Vl × Int) ((⟨r8k, r8n, r8t⟩, r8e) : Vl × Int) ((⟨r9k, r9n, r9t⟩, r9e) : Vl × Int) ((⟨r10k, r10n, r10t⟩, r10e) : Vl × Int) ((⟨r11k, r11n, r11t⟩, r11e) : Vl × Int) from HL.out.trans (by unfold BigPowers_s10; rw [HR11.out]))
          -- region 15, the end
          obtain ⟨b15, h⟩ : ∃ b : Bool, (r0e == 0) = b := ⟨_, rfl⟩
          have HA15 := Lib.hid h
          clear h
          obtain ⟨b16, h⟩ : ∃ b : Bool, (r8e == 0) = b := ⟨_, rfl⟩
          have HA16 := Lib.hid h
          clear h
          obtain ⟨b17, h⟩ : ∃ b : Bool, (r9e == 0) = b := ⟨_, rfl⟩
          have HA17 := Lib.hid h
          clear h
          obtain ⟨b18, h⟩ : ∃ b : Bool, (r10e == r11e) = b := ⟨_, rfl⟩
          have HA18 := Lib.hid h
          clear h
          obtain ⟨b19, h⟩ : ∃ b : Bool, (veqB r10k r10n r10t r11k r11n r11t) = b := ⟨_, rfl⟩
          have HA19 := Lib.hid h
          clear h
          cases b15 with
          | true =>
            cases b16 with
            | true =>
              cases b17 with
              | true =>
                cases b18 with
                | true =>
                  cases b19 with
                  | true =>
                    clear HL
                    have f0_0 : ((r0e : Int) == 0) = true := HA15.out
                    have f0_1 : ((r0e : Int) != 0) = false := by have h := HA15.out; simpa using h
                    have f1_0 : ((r8e : Int) == 0) = true := HA16.out
                    have f1_1 : ((r8e : Int) != 0) = false := by have h := HA16.out; simpa using h
                    have f2_0 : ((r9e : Int) == 0) = true := HA17.out
                    have f2_1 : ((r9e : Int) != 0) = false := by have h := HA17.out; simpa using h
                    have f3_0 : ((r10e : Int) == r11e) = true := HA18.out
                    have f3_1 : ((r10e : Int) != r11e) = false := by have h := HA18.out; simpa using h
                    have f4_0 : (veqB r10k r10n r10t r11k r11n r11t) = true := HA19.out
                    have cb22_13_13_0 : W42.cell? ⟨g10, 0, none⟩ = some (.int .i64 r10k) := (B.out.get 1 rfl).c0
                    have cb22_13_13_1 : W42.cell? ⟨g10, 1, none⟩ = some (.int .i64 r10n) := (B.out.get 1 rfl).c1
                    have cb22_13_13_2 : W42.cell? ⟨g10, 2, none⟩ = some (.string ⟨List.toArray r10t⟩) := (B.out.get 1 rfl).c2
                    have cb24_14_14_0 : W42.cell? ⟨g11, 0, none⟩ = some (.int .i64 r11k) := (B.out.get 0 rfl).c0
                    have cb24_14_14_1 : W42.cell? ⟨g11, 1, none⟩ = some (.int .i64 r11n) := (B.out.get 0 rfl).c1
                    have cb24_14_14_2 : W42.cell? ⟨g11, 2, none⟩ = some (.string ⟨List.toArray r11t⟩) := (B.out.get 0 rfl).c2
                    go_wp2_with fail
                    go_ret
                    exact ⟨rfl, BL.out⟩
                  | false =>
                    exact Bool.noConfusion (show true = false from HL.out.trans (by show (true && ((((!(r0e == 0)) || (!(r8e == 0))) || (!(r9e == 0))) || ((r10e == r11e) && (veqB r10k r10n r10t r11k r11n r11t)))) = false; rw [HA15.out, HA16.out, HA17.out, HA18.out, HA19.out]; rfl))
                | false =>
                  exact Bool.noConfusion (show true = false from HL.out.trans (by show (true && ((((!(r0e == 0)) || (!(r8e == 0))) || (!(r9e == 0))) || ((r10e == r11e) && (veqB r10k r10n r10t r11k r11n r11t)))) = false; rw [HA15.out, HA16.out, HA17.out, HA18.out]; rfl))
              | false =>
                clear HL
                have f0_0 : ((r0e : Int) == 0) = true := HA15.out
                have f0_1 : ((r0e : Int) != 0) = false := by have h := HA15.out; simpa using h
                have f1_0 : ((r8e : Int) == 0) = true := HA16.out
                have f1_1 : ((r8e : Int) != 0) = false := by have h := HA16.out; simpa using h
                have f2_0 : ((r9e : Int) == 0) = false := HA17.out
                have f2_1 : ((r9e : Int) != 0) = true := by have h := HA17.out; simpa using h
                go_wp2_with fail
                go_ret
                exact ⟨rfl, BL.out⟩
            | false =>
              clear HL
              have f0_0 : ((r0e : Int) == 0) = true := HA15.out
              have f0_1 : ((r0e : Int) != 0) = false := by have h := HA15.out; simpa using h
              have f1_0 : ((r8e : Int) == 0) = false := HA16.out
              have f1_1 : ((r8e : Int) != 0) = true := by have h := HA16.out; simpa using h
              go_wp2_with fail
              go_ret
              exact ⟨rfl, BL.out⟩
          | false =>
            clear HL
            have f0_0 : ((r0e : Int) == 0) = false := HA15.out
            have f0_1 : ((r0e : Int) != 0) = true := by have h := HA15.out; simpa using h
            go_wp2_with fail
            go_ret
            exact ⟨rfl, BL.out⟩
end Go.Proofs.YthjpbbbmnmhmmaaGreatDoor
