import Derived.Test.YthjpbbbmnmhmmaaGreatDoorA31
set_option linter.unusedVariables false
set_option linter.unusedSimpArgs false
namespace Go.Proofs.YthjpbbbmnmhmmaaGreatDoor
open Go.RowKit Go.Shelf Go.Lib
attribute [local go_sem ↓] run_val_eql run_val_neq

def BigBack_s0 (v : Vl) (u : Vl) (s : List UInt8) : Bool := true
def BigBack_s1 (v : Vl) (u : Vl) (s : List UInt8) (r0 : Vl × Int) (r1 : List UInt8 × Int) : Bool := false
def BigBack_s2 (v : Vl) (u : Vl) (s : List UInt8) (r0 : Vl × Int) (r1 : List UInt8 × Int) (r2 : List UInt8 × Int) : Bool := ((true && (r2.2 == 31)) && ((checkR v) == r2.2))
def BigBack_s3 (v : Vl) (u : Vl) (s : List UInt8) (r0 : Vl × Int) (r1 : List UInt8 × Int) (r2 : List UInt8 × Int) (r3 : Vl × Int) (r4 : Int × Int) (r5 : Int × Int) : Bool := false
def BigBack_s4 (v : Vl) (u : Vl) (s : List UInt8) (r0 : Vl × Int) (r1 : List UInt8 × Int) (r2 : List UInt8 × Int) (r3 : Vl × Int) (r4 : Int × Int) (r5 : Int × Int) (r6 : Bool × Int) (r7 : Bool × Int) : Bool := (true && ((!(r5.2 == 0)) || (((r6.2 == 0) && (r7.2 == 0)) && (((((!r7.1) || (!(decide ((r4.1 : Int) < r5.1)))) || r6.1) || ((u.k == 1) && (decide ((u.n : Int) < 0)))) || ((decide ((0 : Int) < ((u.t.length : Nat) : Int))) && (u.t.head? == some 45))))))
def BigBack_s5 (v : Vl) (u : Vl) (s : List UInt8) (r0 : Vl × Int) (r1 : List UInt8 × Int) (r2 : List UInt8 × Int) (r3 : Vl × Int) (r4 : Int × Int) (r5 : Int × Int) (r6 : Bool × Int) : Bool := BigBack_s4 v u s r0 r1 r2 r3 r4 r5 r6 (lessR (⟨1, 0, []⟩ : Vl) v)
def BigBack_s6 (v : Vl) (u : Vl) (s : List UInt8) (r0 : Vl × Int) (r1 : List UInt8 × Int) (r2 : List UInt8 × Int) (r3 : Vl × Int) (r4 : Int × Int) (r5 : Int × Int) : Bool := BigBack_s5 v u s r0 r1 r2 r3 r4 r5 (lessR v u)
def BigBack_s7 (v : Vl) (u : Vl) (s : List UInt8) (r0 : Vl × Int) (r1 : List UInt8 × Int) (r2 : List UInt8 × Int) (r3 : Vl × Int) (r4 : Int × Int) (r5 : Int × Int) : Bool := if (((!(r3.2 == 0)) || (!(veq r3.1 v))) || (!(r4.2 == 0))) = true then BigBack_s3 v u s r0 r1 r2 r3 r4 r5 else BigBack_s6 v u s r0 r1 r2 r3 r4 r5
def BigBack_s8 (v : Vl) (u : Vl) (s : List UInt8) (r0 : Vl × Int) (r1 : List UInt8 × Int) (r2 : List UInt8 × Int) (r3 : Vl × Int) (r4 : Int × Int) : Bool := BigBack_s7 v u s r0 r1 r2 r3 r4 (digitsR u)
def BigBack_s9 (v : Vl) (u : Vl) (s : List UInt8) (r0 : Vl × Int) (r1 : List UInt8 × Int) (r2 : List UInt8 × Int) (r3 : Vl × Int) : Bool := BigBack_s8 v u s r0 r1 r2 r3 (digitsR v)
def BigBack_s10 (v : Vl) (u : Vl) (s : List UInt8) (r0 : Vl × Int) (r1 : List UInt8 × Int) (r2 : List UInt8 × Int) : Bool := BigBack_s9 v u s r0 r1 r2 (ofR r2.1)
def BigBack_s11 (v : Vl) (u : Vl) (s : List UInt8) (r0 : Vl × Int) (r1 : List UInt8 × Int) (r2 : List UInt8 × Int) : Bool := if (!(r2.2 == 0)) = true then BigBack_s2 v u s r0 r1 r2 else BigBack_s10 v u s r0 r1 r2
def BigBack_s12 (v : Vl) (u : Vl) (s : List UInt8) (r0 : Vl × Int) (r1 : List UInt8 × Int) : Bool := BigBack_s11 v u s r0 r1 (textR v)
def BigBack_s13 (v : Vl) (u : Vl) (s : List UInt8) (r0 : Vl × Int) (r1 : List UInt8 × Int) : Bool := if (((!(r1.2 == 0)) || (!(r1.1 == s))) || (!((checkR r0.1) == 0))) = true then BigBack_s1 v u s r0 r1 else BigBack_s12 v u s r0 r1
def BigBack_s14 (v : Vl) (u : Vl) (s : List UInt8) (r0 : Vl × Int) : Bool := BigBack_s13 v u s r0 (textR r0.1)
def BigBack_s15 (v : Vl) (u : Vl) (s : List UInt8) (r0 : Vl × Int) (r8 : List UInt8 × Int) : Bool := ((true && (r8.2 == 31)) && ((checkR v) == r8.2))
def BigBack_s16 (v : Vl) (u : Vl) (s : List UInt8) (r0 : Vl × Int) (r8 : List UInt8 × Int) (r9 : Vl × Int) (r10 : Int × Int) (r11 : Int × Int) : Bool := false
def BigBack_s17 (v : Vl) (u : Vl) (s : List UInt8) (r0 : Vl × Int) (r8 : List UInt8 × Int) (r9 : Vl × Int) (r10 : Int × Int) (r11 : Int × Int) (r12 : Bool × Int) (r13 : Bool × Int) : Bool := (true && ((!(r11.2 == 0)) || (((r12.2 == 0) && (r13.2 == 0)) && (((((!r13.1) || (!(decide ((r10.1 : Int) < r11.1)))) || r12.1) || ((u.k == 1) && (decide ((u.n : Int) < 0)))) || ((decide ((0 : Int) < ((u.t.length : Nat) : Int))) && (u.t.head? == some 45))))))
def BigBack_s18 (v : Vl) (u : Vl) (s : List UInt8) (r0 : Vl × Int) (r8 : List UInt8 × Int) (r9 : Vl × Int) (r10 : Int × Int) (r11 : Int × Int) (r12 : Bool × Int) : Bool := BigBack_s17 v u s r0 r8 r9 r10 r11 r12 (lessR (⟨1, 0, []⟩ : Vl) v)
def BigBack_s19 (v : Vl) (u : Vl) (s : List UInt8) (r0 : Vl × Int) (r8 : List UInt8 × Int) (r9 : Vl × Int) (r10 : Int × Int) (r11 : Int × Int) : Bool := BigBack_s18 v u s r0 r8 r9 r10 r11 (lessR v u)
def BigBack_s20 (v : Vl) (u : Vl) (s : List UInt8) (r0 : Vl × Int) (r8 : List UInt8 × Int) (r9 : Vl × Int) (r10 : Int × Int) (r11 : Int × Int) : Bool := if (((!(r9.2 == 0)) || (!(veq r9.1 v))) || (!(r10.2 == 0))) = true then BigBack_s16 v u s r0 r8 r9 r10 r11 else BigBack_s19 v u s r0 r8 r9 r10 r11
def BigBack_s21 (v : Vl) (u : Vl) (s : List UInt8) (r0 : Vl × Int) (r8 : List UInt8 × Int) (r9 : Vl × Int) (r10 : Int × Int) : Bool := BigBack_s20 v u s r0 r8 r9 r10 (digitsR u)
def BigBack_s22 (v : Vl) (u : Vl) (s : List UInt8) (r0 : Vl × Int) (r8 : List UInt8 × Int) (r9 : Vl × Int) : Bool := BigBack_s21 v u s r0 r8 r9 (digitsR v)
def BigBack_s23 (v : Vl) (u : Vl) (s : List UInt8) (r0 : Vl × Int) (r8 : List UInt8 × Int) : Bool := BigBack_s22 v u s r0 r8 (ofR r8.1)
def BigBack_s24 (v : Vl) (u : Vl) (s : List UInt8) (r0 : Vl × Int) (r8 : List UInt8 × Int) : Bool := if (!(r8.2 == 0)) = true then BigBack_s15 v u s r0 r8 else BigBack_s23 v u s r0 r8
def BigBack_s25 (v : Vl) (u : Vl) (s : List UInt8) (r0 : Vl × Int) : Bool := BigBack_s24 v u s r0 (textR v)
def BigBack_s26 (v : Vl) (u : Vl) (s : List UInt8) (r0 : Vl × Int) : Bool := if (r0.2 == 0) = true then BigBack_s14 v u s r0 else BigBack_s25 v u s r0
def BigBack_s27 (v : Vl) (u : Vl) (s : List UInt8) : Bool := BigBack_s26 v u s (ofR s)
def BigBack_s28 (v : Vl) (u : Vl) (s : List UInt8) : Bool := if (((!(shortB v)) || (!(shortB u))) || (decide ((800 : Int) < ((s.length : Nat) : Int)))) = true then BigBack_s0 v u s else BigBack_s27 v u s

set_option maxRecDepth 100000 in
set_option maxHeartbeats 16000000 in
theorem walk_BigBack (v : Vl) (u : Vl) (s : List UInt8) (hv : v.inp) (hu : u.inp) (hs : s.length ≤ 9223372036854775807) (w : World) (hE : Env w) (hr : true = BigBack_s28 v u s) :
    Calls Tryz.prog 14 #[v.val, u.val, .string ⟨s.toArray⟩] w fun e w' => e = .returned (.bool true) ∧ Below w.heap.size w w' := by
  obtain ⟨vk, vn, vt⟩ := v
  obtain ⟨uk, un, ut⟩ := u
  have HIv := Lib.hid hv
  have HIu := Lib.hid hu
  have HIs := Lib.hid hs
  have HE := Lib.hid hE
  have HL := Lib.hid hr
  clear hE hr hv hu hs
  simp only [Vl.val]
  go_enter Tryz.func14, Tryz.ntmps14
  go_upto_region 1 with fail
  have hB : Bxs ((w.alloc (.cells #[.int .i64 vk, .int .i64 vn, .string ⟨List.toArray vt⟩] 23)).alloc (.cells #[.int .i64 uk, .int .i64 un, .string ⟨List.toArray ut⟩] 23)) [(w.heap.size + 1, (⟨uk, un, ut⟩ : Vl)), (w.heap.size, (⟨vk, vn, vt⟩ : Vl))] := by
    have h := (((show Bxs w [] from trivial).push (⟨vk, vn, vt⟩ : Vl) 23).push (⟨uk, un, ut⟩ : Vl) 23)
    simpa only [World.size_alloc] using h
  have hL : Below w.heap.size w ((w.alloc (.cells #[.int .i64 vk, .int .i64 vn, .string ⟨List.toArray vt⟩] 23)).alloc (.cells #[.int .i64 uk, .int .i64 un, .string ⟨List.toArray ut⟩] 23)) := (((Below.refl w.heap.size w).alloc (Nat.le_refl _) (.cells #[.int .i64 vk, .int .i64 vn, .string ⟨List.toArray vt⟩] 23)).alloc (by simp <;> omega) (.cells #[.int .i64 uk, .int .i64 un, .string ⟨List.toArray ut⟩] 23))
  obtain ⟨W1, hW⟩ : ∃ X, ((w.alloc (.cells #[.int .i64 vk, .int .i64 vn, .string ⟨List.toArray vt⟩] 23)).alloc (.cells #[.int .i64 uk, .int .i64 un, .string ⟨List.toArray ut⟩] 23)) = X := ⟨_, rfl⟩
  rw [hW] at hB hL ⊢
  clear hW
  obtain ⟨gb4, hg⟩ : ∃ g, w.heap.size + 1 = g := ⟨_, rfl⟩
  have HGb4 : Hid (w.heap.size ≤ gb4) := Lib.hid (by omega)
  rw [hg] at hB ⊢
  clear hg
  have HGb3 : Hid (w.heap.size ≤ w.heap.size) := Lib.hid (Nat.le_refl _)
  have B := Lib.hid hB
  have BL := Lib.hid hL
  clear hB hL
  -- region 1
  go_wp2_with fail
  refine (awakeV _ (HE.out.below BL.out)).mono ?_
  rintro e W2 ⟨rfl, hb⟩
  replace B := Lib.hid (B.out.below hb)
  replace BL := Lib.hid (below_then BL.out hb)
  clear hb
  go_upto_region 2 with fail
  -- region 2, a test
  obtain ⟨b0, h⟩ : ∃ b : Bool, (shortB (⟨vk, vn, vt⟩ : Vl)) = b := ⟨_, rfl⟩
  have HA0 := Lib.hid h
  clear h
  obtain ⟨b1, h⟩ : ∃ b : Bool, (shortB (⟨uk, un, ut⟩ : Vl)) = b := ⟨_, rfl⟩
  have HA1 := Lib.hid h
  clear h
  obtain ⟨b2, h⟩ : ∃ b : Bool, (decide ((800 : Int) < ((s.length : Nat) : Int))) = b := ⟨_, rfl⟩
  have HA2 := Lib.hid h
  clear h
  obtain ⟨c1, h⟩ : ∃ c : Bool, (((!b0) || (!b1)) || b2) = c := ⟨_, rfl⟩
  have HCC := Lib.hid h
  clear h
  go_upto_region 2 with fail
  go_cut [36] from 24 to 36 (fun v wx => v = .bool c1 ∧ Hid (Bxs wx [(gb4, (⟨uk, un, ut⟩ : Vl)), (w.heap.size, (⟨vk, vn, vt⟩ : Vl))]) ∧ Hid (Below w.heap.size w wx))
  case first =>
    clear HL
    cases b0 with
    | true =>
      cases b1 with
      | true =>
        cases b2 with
        | true =>
          have f2_0 : decide ((800 : Int) < ((s.length : Nat) : Int)) = true := HA2.out
          have f2_1 : decide ((((s.length : Nat) : Int) : Int) ≤ 800) = false := by have h := HA2.out; simp only [decide_eq_true_eq, decide_eq_false_iff_not] at h ⊢; omega
          have cb3_0 : W2.cell? ⟨w.heap.size, 0, none⟩ = some (.int .i64 vk) := (B.out.get 1 rfl).c0
          have cb3_1 : W2.cell? ⟨w.heap.size, 1, none⟩ = some (.int .i64 vn) := (B.out.get 1 rfl).c1
          have cb3_2 : W2.cell? ⟨w.heap.size, 2, none⟩ = some (.string ⟨List.toArray vt⟩) := (B.out.get 1 rfl).c2
          have cb4_0 : W2.cell? ⟨gb4, 0, none⟩ = some (.int .i64 uk) := (B.out.get 0 rfl).c0
          have cb4_1 : W2.cell? ⟨gb4, 1, none⟩ = some (.int .i64 un) := (B.out.get 0 rfl).c1
          have cb4_2 : W2.cell? ⟨gb4, 2, none⟩ = some (.string ⟨List.toArray ut⟩) := (B.out.get 0 rfl).c2
          go_wp2_with fail
          refine (short_calls vk vn vt HIv.out.2 _).mono ?_
          rw [HA0.out]
          rintro e W3 ⟨rfl, hb⟩
          clear cb3_0 cb3_1 cb3_2 cb4_0 cb4_1 cb4_2
          replace B := Lib.hid (B.out.below hb)
          replace BL := Lib.hid (below_then BL.out hb)
          clear hb
          have cb3_0 : W3.cell? ⟨w.heap.size, 0, none⟩ = some (.int .i64 vk) := (B.out.get 1 rfl).c0
          have cb3_1 : W3.cell? ⟨w.heap.size, 1, none⟩ = some (.int .i64 vn) := (B.out.get 1 rfl).c1
          have cb3_2 : W3.cell? ⟨w.heap.size, 2, none⟩ = some (.string ⟨List.toArray vt⟩) := (B.out.get 1 rfl).c2
          have cb4_0 : W3.cell? ⟨gb4, 0, none⟩ = some (.int .i64 uk) := (B.out.get 0 rfl).c0
          have cb4_1 : W3.cell? ⟨gb4, 1, none⟩ = some (.int .i64 un) := (B.out.get 0 rfl).c1
          have cb4_2 : W3.cell? ⟨gb4, 2, none⟩ = some (.string ⟨List.toArray ut⟩) := (B.out.get 0 rfl).c2
          go_wp2_with fail
          refine (short_calls uk un ut HIu.out.2 _).mono ?_
          rw [HA1.out]
          rintro e W4 ⟨rfl, hb⟩
          clear cb3_0 cb3_1 cb3_2 cb4_0 cb4_1 cb4_2
          replace B := Lib.hid (B.out.below hb)
          replace BL := Lib.hid (below_then BL.out hb)
          clear hb
          have cb3_0 : W4.cell? ⟨w.heap.size, 0, none⟩ = some (.int .i64 vk) := (B.out.get 1 rfl).c0
          have cb3_1 : W4.cell? ⟨w.heap.size, 1, none⟩ = some (.int .i64 vn) := (B.out.get 1 rfl).c1
          have cb3_2 : W4.cell? ⟨w.heap.size, 2, none⟩ = some (.string ⟨List.toArray vt⟩) := (B.out.get 1 rfl).c2
          have cb4_0 : W4.cell? ⟨gb4, 0, none⟩ = some (.int .i64 uk) := (B.out.get 0 rfl).c0
          have cb4_1 : W4.cell? ⟨gb4, 1, none⟩ = some (.int .i64 un) := (B.out.get 0 rfl).c1
          have cb4_2 : W4.cell? ⟨gb4, 2, none⟩ = some (.string ⟨List.toArray ut⟩) := (B.out.get 0 rfl).c2
          go_wp2_with fail
          go_meet
          exact ⟨congrArg Value.bool HCC.out, B, BL⟩
        | false =>
          have f2_0 : decide ((800 : Int) < ((s.length : Nat) : Int)) = false := HA2.out
          have f2_1 : decide ((((s.length : Nat) : Int) : Int) ≤ 800) = true := by have h := HA2.out; simp only [decide_eq_true_eq, decide_eq_false_iff_not] at h ⊢; omega
          have cb3_0 : W2.cell? ⟨w.heap.size, 0, none⟩ = some (.int .i64 vk) := (B.out.get 1 rfl).c0
          have cb3_1 : W2.cell? ⟨w.heap.size, 1, none⟩ = some (.int .i64 vn) := (B.out.get 1 rfl).c1
          have cb3_2 : W2.cell? ⟨w.heap.size, 2, none⟩ = some (.string ⟨List.toArray vt⟩) := (B.out.get 1 rfl).c2
          have cb4_0 : W2.cell? ⟨gb4, 0, none⟩ = some (.int .i64 uk) := (B.out.get 0 rfl).c0
          have cb4_1 : W2.cell? ⟨gb4, 1, none⟩ = some (.int .i64 un) := (B.out.get 0 rfl).c1
          have cb4_2 : W2.cell? ⟨gb4, 2, none⟩ = some (.string ⟨List.toArray ut⟩) := (B.out.get 0 rfl).c2
          go_wp2_with fail
          refine (short_calls vk vn vt HIv.out.2 _).mono ?_
          rw [HA0.out]
          rintro e W5 ⟨rfl, hb⟩
          clear cb3_0 cb3_1 cb3_2 cb4_0 cb4_1 cb4_2
          replace B := Lib.hid (B.out.below hb)
          replace BL := Lib.hid (below_then BL.out hb)
          clear hb
          have cb3_0 : W5.cell? ⟨w.heap.size, 0, none⟩ = some (.int .i64 vk) := (B.out.get 1 rfl).c0
          have cb3_1 : W5.cell? ⟨w.heap.size, 1, none⟩ = some (.int .i64 vn) := (B.out.get 1 rfl).c1
          have cb3_2 : W5.cell? ⟨w.heap.size, 2, none⟩ = some (.string ⟨List.toArray vt⟩) := (B.out.get 1 rfl).c2
          have cb4_0 : W5.cell? ⟨gb4, 0, none⟩ = some (.int .i64 uk) := (B.out.get 0 rfl).c0
          have cb4_1 : W5.cell? ⟨gb4, 1, none⟩ = some (.int .i64 un) := (B.out.get 0 rfl).c1
          have cb4_2 : W5.cell? ⟨gb4, 2, none⟩ = some (.string ⟨List.toArray ut⟩) := (B.out.get 0 rfl).c2
          go_wp2_with fail
          refine (short_calls uk un ut HIu.out.2 _).mono ?_
          rw [HA1.out]
          rintro e W6 ⟨rfl, hb⟩
          clear cb3_0 cb3_1 cb3_2 cb4_0 cb4_1 cb4_2
          replace B := Lib.hid (B.out.below hb)
          replace BL := Lib.hid (below_then BL.out hb)
          clear hb
          have cb3_0 : W6.cell? ⟨w.heap.size, 0, none⟩ = some (.int .i64 vk) := (B.out.get 1 rfl).c0
          have cb3_1 : W6.cell? ⟨w.heap.size, 1, none⟩ = some (.int .i64 vn) := (B.out.get 1 rfl).c1
          have cb3_2 : W6.cell? ⟨w.heap.size, 2, none⟩ = some (.string ⟨List.toArray vt⟩) := (B.out.get 1 rfl).c2
          have cb4_0 : W6.cell? ⟨gb4, 0, none⟩ = some (.int .i64 uk) := (B.out.get 0 rfl).c0
          have cb4_1 : W6.cell? ⟨gb4, 1, none⟩ = some (.int .i64 un) := (B.out.get 0 rfl).c1
          have cb4_2 : W6.cell? ⟨gb4, 2, none⟩ = some (.string ⟨List.toArray ut⟩) := (B.out.get 0 rfl).c2
          go_wp2_with fail
          go_meet
          exact ⟨congrArg Value.bool HCC.out, B, BL⟩
      | false =>
        have cb3_0 : W2.cell? ⟨w.heap.size, 0, none⟩ = some (.int .i64 vk) := (B.out.get 1 rfl).c0
        have cb3_1 : W2.cell? ⟨w.heap.size, 1, none⟩ = some (.int .i64 vn) := (B.out.get 1 rfl).c1
        have cb3_2 : W2.cell? ⟨w.heap.size, 2, none⟩ = some (.string ⟨List.toArray vt⟩) := (B.out.get 1 rfl).c2
        have cb4_0 : W2.cell? ⟨gb4, 0, none⟩ = some (.int .i64 uk) := (B.out.get 0 rfl).c0
        have cb4_1 : W2.cell? ⟨gb4, 1, none⟩ = some (.int .i64 un) := (B.out.get 0 rfl).c1
        have cb4_2 : W2.cell? ⟨gb4, 2, none⟩ = some (.string ⟨List.toArray ut⟩) := (B.out.get 0 rfl).c2
        go_wp2_with fail
        refine (short_calls vk vn vt HIv.out.2 _).mono ?_
        rw [HA0.out]
        rintro e W7 ⟨rfl, hb⟩
        clear cb3_0 cb3_1 cb3_2 cb4_0 cb4_1 cb4_2
        replace B := Lib.hid (B.out.below hb)
        replace BL := Lib.hid (below_then BL.out hb)
        clear hb
        have cb3_0 : W7.cell? ⟨w.heap.size, 0, none⟩ = some (.int .i64 vk) := (B.out.get 1 rfl).c0
        have cb3_1 : W7.cell? ⟨w.heap.size, 1, none⟩ = some (.int .i64 vn) := (B.out.get 1 rfl).c1
        have cb3_2 : W7.cell? ⟨w.heap.size, 2, none⟩ = some (.string ⟨List.toArray vt⟩) := (B.out.get 1 rfl).c2
        have cb4_0 : W7.cell? ⟨gb4, 0, none⟩ = some (.int .i64 uk) := (B.out.get 0 rfl).c0
        have cb4_1 : W7.cell? ⟨gb4, 1, none⟩ = some (.int .i64 un) := (B.out.get 0 rfl).c1
        have cb4_2 : W7.cell? ⟨gb4, 2, none⟩ = some (.string ⟨List.toArray ut⟩) := (B.out.get 0 rfl).c2
        go_wp2_with fail
        refine (short_calls uk un ut HIu.out.2 _).mono ?_
        rw [HA1.out]
        rintro e W8 ⟨rfl, hb⟩
        clear cb3_0 cb3_1 cb3_2 cb4_0 cb4_1 cb4_2
        replace B := Lib.hid (B.out.below hb)
        replace BL := Lib.hid (below_then BL.out hb)
        clear hb
        have cb3_0 : W8.cell? ⟨w.heap.size, 0, none⟩ = some (.int .i64 vk) := (B.out.get 1 rfl).c0
        have cb3_1 : W8.cell? ⟨w.heap.size, 1, none⟩ = some (.int .i64 vn) := (B.out.get 1 rfl).c1
        have cb3_2 : W8.cell? ⟨w.heap.size, 2, none⟩ = some (.string ⟨List.toArray vt⟩) := (B.out.get 1 rfl).c2
        have cb4_0 : W8.cell? ⟨gb4, 0, none⟩ = some (.int .i64 uk) := (B.out.get 0 rfl).c0
        have cb4_1 : W8.cell? ⟨gb4, 1, none⟩ = some (.int .i64 un) := (B.out.get 0 rfl).c1
        have cb4_2 : W8.cell? ⟨gb4, 2, none⟩ = some (.string ⟨List.toArray ut⟩) := (B.out.get 0 rfl).c2
        go_wp2_with fail
        go_meet
        exact ⟨congrArg Value.bool HCC.out, B, BL⟩
    | false =>
      have cb3_0 : W2.cell? ⟨w.heap.size, 0, none⟩ = some (.int .i64 vk) := (B.out.get 1 rfl).c0
      have cb3_1 : W2.cell? ⟨w.heap.size, 1, none⟩ = some (.int .i64 vn) := (B.out.get 1 rfl).c1
      have cb3_2 : W2.cell? ⟨w.heap.size, 2, none⟩ = some (.string ⟨List.toArray vt⟩) := (B.out.get 1 rfl).c2
      go_wp2_with fail
      refine (short_calls vk vn vt HIv.out.2 _).mono ?_
      rw [HA0.out]
      rintro e W9 ⟨rfl, hb⟩
      clear cb3_0 cb3_1 cb3_2
      replace B := Lib.hid (B.out.below hb)
      replace BL := Lib.hid (below_then BL.out hb)
      clear hb
      have cb3_0 : W9.cell? ⟨w.heap.size, 0, none⟩ = some (.int .i64 vk) := (B.out.get 1 rfl).c0
      have cb3_1 : W9.cell? ⟨w.heap.size, 1, none⟩ = some (.int .i64 vn) := (B.out.get 1 rfl).c1
      have cb3_2 : W9.cell? ⟨w.heap.size, 2, none⟩ = some (.string ⟨List.toArray vt⟩) := (B.out.get 1 rfl).c2
      go_wp2_with fail
      go_meet
      exact ⟨congrArg Value.bool HCC.out, B, BL⟩
  case rest =>
    clear B BL
    obtain ⟨rfl, B, BL⟩ := hcut
    obtain ⟨W10, hW⟩ : ∃ X, wc = X := ⟨_, rfl⟩
    rw [hW] at B BL ⊢
    clear hW
    have HCW : Hid ((((!(shortB (⟨vk, vn, vt⟩ : Vl))) || (!(shortB (⟨uk, un, ut⟩ : Vl)))) || (decide ((800 : Int) < ((s.length : Nat) : Int)))) = c1) := Lib.hid (by rw [HA0.out, HA1.out, HA2.out]; exact HCC.out)
    clear HCC HA0 HA1 HA2
    cases c1 with
    | true =>
      replace HL := Lib.hid (show true = BigBack_s0 (⟨vk, vn, vt⟩ : Vl) (⟨uk, un, ut⟩ : Vl) s from HL.out.trans (if_pos HCW.out))
      go_wp2_with fail
      go_ret
      exact ⟨rfl, BL.out⟩
    | false =>
      have HOv : Hid (Vl.ok (⟨vk, vn, vt⟩ : Vl)) := Lib.hid ⟨HIv.out.1, by have h := HCW.out; simp [shortB] at h; show vt.length ≤ 100000; omega⟩
      have HOu : Hid (Vl.ok (⟨uk, un, ut⟩ : Vl)) := Lib.hid ⟨HIu.out.1, by have h := HCW.out; simp [shortB] at h; show ut.length ≤ 100000; omega⟩
      have HSs : Hid (s.length ≤ 100000) := Lib.hid (by have h := HCW.out; simp [shortB] at h; omega)
      replace HL := Lib.hid (show true = BigBack_s27 (⟨vk, vn, vt⟩ : Vl) (⟨uk, un, ut⟩ : Vl) s from HL.out.trans ((if_neg (fun h => Bool.noConfusion (HCW.out.symm.trans h)))))
      -- region 4
      obtain ⟨⟨⟨r0k, r0n, r0t⟩, r0e⟩, hr0⟩ : ∃ p, ofR s = p := ⟨_, rfl⟩
      have hc0 := fun (W : World) (hW : Env W) => ofV s HSs.out W hW
      have ho0 := ofR_ok s
      rw [hr0] at hc0 ho0
      simp only [Vl.val, pr] at hc0
      have HC0 := Lib.hid hc0; have HOr0 : Hid (Vl.ok ⟨r0k, r0n, r0t⟩) := Lib.hid ho0; have HR0 := Lib.hid hr0
      clear hc0 ho0 hr0
      go_wp2_with fail
      refine (HC0.out _ (HE.out.below BL.out)).mono ?_
      rintro e W11 ⟨rfl, hb⟩
      replace B := Lib.hid (B.out.below hb)
      replace BL := Lib.hid (below_then BL.out hb)
      clear hb
      go_upto_region 5 with fail
      have hB : Bxs (W11.alloc (.cells #[.int .i64 r0k, .int .i64 r0n, .string ⟨List.toArray r0t⟩] 23)) ((W11.heap.size, (⟨r0k, r0n, r0t⟩ : Vl)) :: [(gb4, (⟨uk, un, ut⟩ : Vl)), (w.heap.size, (⟨vk, vn, vt⟩ : Vl))]) := B.out.push (⟨r0k, r0n, r0t⟩ : Vl) 23
      have hL : Below w.heap.size w (W11.alloc (.cells #[.int .i64 r0k, .int .i64 r0n, .string ⟨List.toArray r0t⟩] 23)) := BL.out.alloc BL.out.size _
      obtain ⟨W12, hW⟩ : ∃ X, W11.alloc (.cells #[.int .i64 r0k, .int .i64 r0n, .string ⟨List.toArray r0t⟩] 23) = X := ⟨_, rfl⟩
      obtain ⟨g0, hg⟩ : ∃ g, W11.heap.size = g := ⟨_, rfl⟩
      rw [hW] at hB hL ⊢
      rw [hg] at hB ⊢
      have HGb8_4_1 : Hid (w.heap.size ≤ g0) := Lib.hid (by rw [← hg]; exact BL.out.size)
      replace B := Lib.hid hB
      replace BL := Lib.hid hL
      clear hB hL hW hg
      replace HL := Lib.hid (show true = BigBack_s26 (⟨vk, vn, vt⟩ : Vl) (⟨uk, un, ut⟩ : Vl) s ((⟨r0k, r0n, r0t⟩, r0e) : Vl × Int) from HL.out.trans (by unfold BigBack_s27; rw [HR0.out]))
      -- region 5, a test
      obtain ⟨b3, h⟩ : ∃ b : Bool, (r0e == 0) = b := ⟨_, rfl⟩
      have HA3 := Lib.hid h
      clear h
      obtain ⟨c3, h⟩ : ∃ c : Bool, b3 = c := ⟨_, rfl⟩
      have HCC := Lib.hid h
      clear h
      go_upto_region 5 with fail
      go_cut [44] from 43 to 44 (fun v wx => v = .bool c3 ∧ Hid (Bxs wx [(g0, (⟨r0k, r0n, r0t⟩ : Vl)), (gb4, (⟨uk, un, ut⟩ : Vl)), (w.heap.size, (⟨vk, vn, vt⟩ : Vl))]) ∧ Hid (Below w.heap.size w wx))
      case first =>
        clear HL
        cases b3 with
        | true =>
          have f0_0 : ((r0e : Int) == 0) = true := HA3.out
          have f0_1 : ((r0e : Int) != 0) = false := by have h := HA3.out; simpa using h
          go_wp2_with fail
          go_meet
          exact ⟨congrArg Value.bool HCC.out, B, BL⟩
        | false =>
          have f0_0 : ((r0e : Int) == 0) = false := HA3.out
          have f0_1 : ((r0e : Int) != 0) = true := by have h := HA3.out; simpa using h
          go_wp2_with fail
          go_meet
          exact ⟨congrArg Value.bool HCC.out, B, BL⟩
      case rest =>
        clear B BL
        obtain ⟨rfl, B, BL⟩ := hcut
        obtain ⟨W13, hW⟩ : ∃ X, wc = X := ⟨_, rfl⟩
        rw [hW] at B BL ⊢
        clear hW
        have HCW : Hid ((r0e == 0) = c3) := Lib.hid (by rw [HA3.out]; exact HCC.out)
        clear HCC HA3
        cases c3 with
        | true =>
          replace HL := Lib.hid (show true = BigBack_s14 (⟨vk, vn, vt⟩ : Vl) (⟨uk, un, ut⟩ : Vl) s ((⟨r0k, r0n, r0t⟩, r0e) : Vl × Int) from HL.out.trans (if_pos HCW.out))
          -- region 6
          have cb8_4_1_0 : W13.cell? ⟨g0, 0, none⟩ = some (.int .i64 r0k) := (B.out.get 0 rfl).c0
          have cb8_4_1_1 : W13.cell? ⟨g0, 1, none⟩ = some (.int .i64 r0n) := (B.out.get 0 rfl).c1
          have cb8_4_1_2 : W13.cell? ⟨g0, 2, none⟩ = some (.string ⟨List.toArray r0t⟩) := (B.out.get 0 rfl).c2
          obtain ⟨⟨r1s, r1e⟩, hr1⟩ : ∃ p, textR (⟨r0k, r0n, r0t⟩ : Vl) = p := ⟨_, rfl⟩
          have hc1 := fun (W : World) (hW : Env W) => textV (⟨r0k, r0n, r0t⟩ : Vl) HOr0.out W hW
          have hl1 := textR_len (⟨r0k, r0n, r0t⟩ : Vl) HOr0.out
          rw [hr1] at hc1 hl1
          simp only [Vl.val] at hc1 hl1
          have HC1 := Lib.hid hc1; have HR1 := Lib.hid hr1; have HLr1 := Lib.hid hl1
          clear hc1 hr1 hl1
          go_wp2_with fail
          refine (HC1.out _ (HE.out.below BL.out)).mono ?_
          rintro e W14 ⟨rfl, hb⟩
          clear cb8_4_1_0 cb8_4_1_1 cb8_4_1_2
          replace B := Lib.hid (B.out.below hb)
          replace BL := Lib.hid (below_then BL.out hb)
          clear hb
          go_upto_region 7 with fail
          replace HL := Lib.hid (show true = BigBack_s13 (⟨vk, vn, vt⟩ : Vl) (⟨uk, un, ut⟩ : Vl) s ((⟨r0k, r0n, r0t⟩, r0e) : Vl × Int) ((r1s, r1e) : List UInt8 × Int) from HL.out.trans (by unfold BigBack_s14; rw [HR1.out]))
          -- region 7, a test
          obtain ⟨b4, h⟩ : ∃ b : Bool, (r1e == 0) = b := ⟨_, rfl⟩
          have HA4 := Lib.hid h
          clear h
          obtain ⟨b5, h⟩ : ∃ b : Bool, (r1s == s) = b := ⟨_, rfl⟩
          have HA5 := Lib.hid h
          clear h
          obtain ⟨b6, h⟩ : ∃ b : Bool, ((checkR (⟨r0k, r0n, r0t⟩ : Vl)) == 0) = b := ⟨_, rfl⟩
          have HA6 := Lib.hid h
          clear h
          have HCF : (((!(r1e == 0)) || (!(r1s == s))) || (!((checkR (⟨r0k, r0n, r0t⟩ : Vl)) == 0))) = false := Bool.eq_false_iff.2 fun h => Bool.noConfusion (show true = false from HL.out.trans (if_pos h))
          have HCB : (((!b4) || (!b5)) || (!b6)) = false := by
            have h := HCF
            rw [HA4.out, HA5.out, HA6.out] at h
            exact h
          have HCW := Lib.hid HCF
          have HCC := Lib.hid HCB
          clear HCF HCB
          go_upto_region 7 with fail
          go_cut [61] from 50 to 61 (fun v wx => v = .bool false ∧ Hid (Bxs wx [(g0, (⟨r0k, r0n, r0t⟩ : Vl)), (gb4, (⟨uk, un, ut⟩ : Vl)), (w.heap.size, (⟨vk, vn, vt⟩ : Vl))]) ∧ Hid (Below w.heap.size w wx))
          case first =>
            clear HL
            cases b4 with
            | true =>
              cases b5 with
              | true =>
                cases b6 with
                | true =>
                  have f0_0 : ((r1e : Int) == 0) = true := HA4.out
                  have f0_1 : ((r1e : Int) != 0) = false := by have h := HA4.out; simpa using h
                  have f1_0 : (r1s == s) = true := HA5.out
                  have f2_0 : (((checkR (⟨r0k, r0n, r0t⟩ : Vl)) : Int) == 0) = true := HA6.out
                  have f2_1 : (((checkR (⟨r0k, r0n, r0t⟩ : Vl)) : Int) != 0) = false := by have h := HA6.out; simpa using h
                  have cb8_4_1_0 : W14.cell? ⟨g0, 0, none⟩ = some (.int .i64 r0k) := (B.out.get 0 rfl).c0
                  have cb8_4_1_1 : W14.cell? ⟨g0, 1, none⟩ = some (.int .i64 r0n) := (B.out.get 0 rfl).c1
                  have cb8_4_1_2 : W14.cell? ⟨g0, 2, none⟩ = some (.string ⟨List.toArray r0t⟩) := (B.out.get 0 rfl).c2
                  go_wp2_with fail
                  refine (checkV (⟨r0k, r0n, r0t⟩ : Vl) HOr0.out _ (HE.out.below BL.out)).mono ?_
                  rintro e W15 ⟨rfl, hb⟩
                  clear cb8_4_1_0 cb8_4_1_1 cb8_4_1_2
                  replace B := Lib.hid (B.out.below hb)
                  replace BL := Lib.hid (below_then BL.out hb)
                  clear hb
                  have cb8_4_1_0 : W15.cell? ⟨g0, 0, none⟩ = some (.int .i64 r0k) := (B.out.get 0 rfl).c0
                  have cb8_4_1_1 : W15.cell? ⟨g0, 1, none⟩ = some (.int .i64 r0n) := (B.out.get 0 rfl).c1
                  have cb8_4_1_2 : W15.cell? ⟨g0, 2, none⟩ = some (.string ⟨List.toArray r0t⟩) := (B.out.get 0 rfl).c2
                  go_wp2_with fail
                  go_meet
                  exact ⟨rfl, B, BL⟩
                | false =>
                  exact Bool.noConfusion (show true = false from HCC.out)
              | false =>
                exact Bool.noConfusion (show true = false from HCC.out)
            | false =>
              exact Bool.noConfusion (show true = false from HCC.out)
          case rest =>
            clear B BL
            obtain ⟨rfl, B, BL⟩ := hcut
            obtain ⟨W16, hW⟩ : ∃ X, wc = X := ⟨_, rfl⟩
            rw [hW] at B BL ⊢
            clear hW
            clear HCC HA4 HA5 HA6
            replace HL := Lib.hid (show true = BigBack_s12 (⟨vk, vn, vt⟩ : Vl) (⟨uk, un, ut⟩ : Vl) s ((⟨r0k, r0n, r0t⟩, r0e) : Vl × Int) ((r1s, r1e) : List UInt8 × Int) from HL.out.trans ((if_neg (fun h => Bool.noConfusion (HCW.out.symm.trans h)))))
            -- region 9
            have cb3_0 : W16.cell? ⟨w.heap.size, 0, none⟩ = some (.int .i64 vk) := (B.out.get 2 rfl).c0
            have cb3_1 : W16.cell? ⟨w.heap.size, 1, none⟩ = some (.int .i64 vn) := (B.out.get 2 rfl).c1
            have cb3_2 : W16.cell? ⟨w.heap.size, 2, none⟩ = some (.string ⟨List.toArray vt⟩) := (B.out.get 2 rfl).c2
            obtain ⟨⟨r2s, r2e⟩, hr2⟩ : ∃ p, textR (⟨vk, vn, vt⟩ : Vl) = p := ⟨_, rfl⟩
            have hc2 := fun (W : World) (hW : Env W) => textV (⟨vk, vn, vt⟩ : Vl) HOv.out W hW
            have hl2 := textR_len (⟨vk, vn, vt⟩ : Vl) HOv.out
            rw [hr2] at hc2 hl2
            simp only [Vl.val] at hc2 hl2
            have HC2 := Lib.hid hc2; have HR2 := Lib.hid hr2; have HLr2 := Lib.hid hl2
            clear hc2 hr2 hl2
            go_wp2_with fail
            refine (HC2.out _ (HE.out.below BL.out)).mono ?_
            rintro e W17 ⟨rfl, hb⟩
            clear cb3_0 cb3_1 cb3_2
            replace B := Lib.hid (B.out.below hb)
            replace BL := Lib.hid (below_then BL.out hb)
            clear hb
            go_upto_region 10 with fail
            replace HL := Lib.hid (show true = BigBack_s11 (⟨vk, vn, vt⟩ : Vl) (⟨uk, un, ut⟩ : Vl) s ((⟨r0k, r0n, r0t⟩, r0e) : Vl × Int) ((r1s, r1e) : List UInt8 × Int) ((r2s, r2e) : List UInt8 × Int) from HL.out.trans (by unfold BigBack_s12; rw [HR2.out]))
            -- region 10, a test
            obtain ⟨b7, h⟩ : ∃ b : Bool, (r2e == 0) = b := ⟨_, rfl⟩
            have HA7 := Lib.hid h
            clear h
            obtain ⟨c5, h⟩ : ∃ c : Bool, (!b7) = c := ⟨_, rfl⟩
            have HCC := Lib.hid h
            clear h
            go_upto_region 10 with fail
            go_cut [68] from 67 to 68 (fun v wx => v = .bool c5 ∧ Hid (Bxs wx [(g0, (⟨r0k, r0n, r0t⟩ : Vl)), (gb4, (⟨uk, un, ut⟩ : Vl)), (w.heap.size, (⟨vk, vn, vt⟩ : Vl))]) ∧ Hid (Below w.heap.size w wx))
            case first =>
              clear HL
              cases b7 with
              | true =>
                have f0_0 : ((r2e : Int) == 0) = true := HA7.out
                have f0_1 : ((r2e : Int) != 0) = false := by have h := HA7.out; simpa using h
                go_wp2_with fail
                go_meet
                exact ⟨congrArg Value.bool HCC.out, B, BL⟩
              | false =>
                have f0_0 : ((r2e : Int) == 0) = false := HA7.out
                have f0_1 : ((r2e : Int) != 0) = true := by have h := HA7.out; simpa using h
                go_wp2_with fail
                go_meet
                exact ⟨congrArg Value.bool HCC.out, B, BL⟩
            case rest =>
              clear B BL
              obtain ⟨rfl, B, BL⟩ := hcut
              obtain ⟨W18, hW⟩ : ∃ X, wc = X := ⟨_, rfl⟩
              rw [hW] at B BL ⊢
              clear hW
              have HCW : Hid ((!(r2e == 0)) = c5) := Lib.hid (by rw [HA7.out]; exact HCC.out)
              clear HCC HA7
              cases c5 with
              | true =>
                replace HL := Lib.hid (show true = BigBack_s2 (⟨vk, vn, vt⟩ : Vl) (⟨uk, un, ut⟩ : Vl) s ((⟨r0k, r0n, r0t⟩, r0e) : Vl × Int) ((r1s, r1e) : List UInt8 × Int) ((r2s, r2e) : List UInt8 × Int) from HL.out.trans (if_pos HCW.out))
                -- region 11, the end
                obtain ⟨b8, h⟩ : ∃ b : Bool, (r2e == 31) = b := ⟨_, rfl⟩
                have HA8 := Lib.hid h
                clear h
                obtain ⟨b9, h⟩ : ∃ b : Bool, ((checkR (⟨vk, vn, vt⟩ : Vl)) == r2e) = b := ⟨_, rfl⟩
                have HA9 := Lib.hid h
                clear h
                cases b8 with
                | true =>
                  cases b9 with
                  | true =>
                    clear HL
                    have f0_0 : ((r2e : Int) == 31) = true := HA8.out
                    have f0_1 : ((r2e : Int) != 31) = false := by have h := HA8.out; simpa using h
                    have f1_0 : (((checkR (⟨vk, vn, vt⟩ : Vl)) : Int) == r2e) = true := HA9.out
                    have f1_1 : (((checkR (⟨vk, vn, vt⟩ : Vl)) : Int) != r2e) = false := by have h := HA9.out; simpa using h
                    have cb3_0 : W18.cell? ⟨w.heap.size, 0, none⟩ = some (.int .i64 vk) := (B.out.get 2 rfl).c0
                    have cb3_1 : W18.cell? ⟨w.heap.size, 1, none⟩ = some (.int .i64 vn) := (B.out.get 2 rfl).c1
                    have cb3_2 : W18.cell? ⟨w.heap.size, 2, none⟩ = some (.string ⟨List.toArray vt⟩) := (B.out.get 2 rfl).c2
                    go_wp2_with fail
                    refine (checkV (⟨vk, vn, vt⟩ : Vl) HOv.out _ (HE.out.below BL.out)).mono ?_
                    rintro e W19 ⟨rfl, hb⟩
                    clear cb3_0 cb3_1 cb3_2
                    replace B := Lib.hid (B.out.below hb)
                    replace BL := Lib.hid (below_then BL.out hb)
                    clear hb
                    have cb3_0 : W19.cell? ⟨w.heap.size, 0, none⟩ = some (.int .i64 vk) := (B.out.get 2 rfl).c0
                    have cb3_1 : W19.cell? ⟨w.heap.size, 1, none⟩ = some (.int .i64 vn) := (B.out.get 2 rfl).c1
                    have cb3_2 : W19.cell? ⟨w.heap.size, 2, none⟩ = some (.string ⟨List.toArray vt⟩) := (B.out.get 2 rfl).c2
                    go_wp2_with fail
                    go_ret
                    exact ⟨rfl, BL.out⟩
                  | false =>
                    exact Bool.noConfusion (show true = false from HL.out.trans (by show ((true && (r2e == 31)) && ((checkR (⟨vk, vn, vt⟩ : Vl)) == r2e)) = false; rw [HA8.out, HA9.out]; rfl))
                | false =>
                  exact Bool.noConfusion (show true = false from HL.out.trans (by show ((true && (r2e == 31)) && ((checkR (⟨vk, vn, vt⟩ : Vl)) == r2e)) = false; rw [HA8.out]; rfl))
              | false =>
                replace HL := Lib.hid (show true = BigBack_s10 (⟨vk, vn, vt⟩ : Vl) (⟨uk, un, ut⟩ : Vl) s ((⟨r0k, r0n, r0t⟩, r0e) : Vl × Int) ((r1s, r1e) : List UInt8 × Int) ((r2s, r2e) : List UInt8 × Int) from HL.out.trans ((if_neg (fun h => Bool.noConfusion (HCW.out.symm.trans h)))))
                -- region 12
                obtain ⟨⟨⟨r3k, r3n, r3t⟩, r3e⟩, hr3⟩ : ∃ p, ofR r2s = p := ⟨_, rfl⟩
                have hc3 := fun (W : World) (hW : Env W) => ofV r2s HLr2.out W hW
                have ho3 := ofR_ok r2s
                rw [hr3] at hc3 ho3
                simp only [Vl.val, pr] at hc3
                have HC3 := Lib.hid hc3; have HOr3 : Hid (Vl.ok ⟨r3k, r3n, r3t⟩) := Lib.hid ho3; have HR3 := Lib.hid hr3
                clear hc3 ho3 hr3
                go_wp2_with fail
                refine (HC3.out _ (HE.out.below BL.out)).mono ?_
                rintro e W20 ⟨rfl, hb⟩
                replace B := Lib.hid (B.out.below hb)
                replace BL := Lib.hid (below_then BL.out hb)
                clear hb
                go_upto_region 13 with fail
                have hB : Bxs (W20.alloc (.cells #[.int .i64 r3k, .int .i64 r3n, .string ⟨List.toArray r3t⟩] 23)) ((W20.heap.size, (⟨r3k, r3n, r3t⟩ : Vl)) :: [(g0, (⟨r0k, r0n, r0t⟩ : Vl)), (gb4, (⟨uk, un, ut⟩ : Vl)), (w.heap.size, (⟨vk, vn, vt⟩ : Vl))]) := B.out.push (⟨r3k, r3n, r3t⟩ : Vl) 23
                have hL : Below w.heap.size w (W20.alloc (.cells #[.int .i64 r3k, .int .i64 r3n, .string ⟨List.toArray r3t⟩] 23)) := BL.out.alloc BL.out.size _
                obtain ⟨W21, hW⟩ : ∃ X, W20.alloc (.cells #[.int .i64 r3k, .int .i64 r3n, .string ⟨List.toArray r3t⟩] 23) = X := ⟨_, rfl⟩
                obtain ⟨g1, hg⟩ : ∃ g, W20.heap.size = g := ⟨_, rfl⟩
                rw [hW] at hB hL ⊢
                rw [hg] at hB ⊢
                have HGb13_12_5 : Hid (w.heap.size ≤ g1) := Lib.hid (by rw [← hg]; exact BL.out.size)
                replace B := Lib.hid hB
                replace BL := Lib.hid hL
                clear hB hL hW hg
                replace HL := Lib.hid (show true = BigBack_s9 (⟨vk, vn, vt⟩ : Vl) (⟨uk, un, ut⟩ : Vl) s ((⟨r0k, r0n, r0t⟩, r0e) : Vl × Int) ((r1s, r1e) : List UInt8 × Int) ((r2s, r2e) : List UInt8 × Int) ((⟨r3k, r3n, r3t⟩, r3e) : Vl × Int) from HL.out.trans (by unfold BigBack_s10; rw [HR3.out]))
                -- region 13
                have cb3_0 : W21.cell? ⟨w.heap.size, 0, none⟩ = some (.int .i64 vk) := (B.out.get 3 rfl).c0
                have cb3_1 : W21.cell? ⟨w.heap.size, 1, none⟩ = some (.int .i64 vn) := (B.out.get 3 rfl).c1
                have cb3_2 : W21.cell? ⟨w.heap.size, 2, none⟩ = some (.string ⟨List.toArray vt⟩) := (B.out.get 3 rfl).c2
                obtain ⟨⟨r4m, r4e⟩, hr4⟩ : ∃ p, digitsR (⟨vk, vn, vt⟩ : Vl) = p := ⟨_, rfl⟩
                have hc4 := fun (W : World) (hW : Env W) => digitsV (⟨vk, vn, vt⟩ : Vl) HOv.out W hW
                rw [hr4] at hc4
                simp only [Vl.val] at hc4
                have HC4 := Lib.hid hc4; have HR4 := Lib.hid hr4
                clear hc4 hr4
                go_wp2_with fail
                refine (HC4.out _ (HE.out.below BL.out)).mono ?_
                rintro e W22 ⟨rfl, hb⟩
                clear cb3_0 cb3_1 cb3_2
                replace B := Lib.hid (B.out.below hb)
                replace BL := Lib.hid (below_then BL.out hb)
                clear hb
                go_upto_region 14 with fail
                replace HL := Lib.hid (show true = BigBack_s8 (⟨vk, vn, vt⟩ : Vl) (⟨uk, un, ut⟩ : Vl) s ((⟨r0k, r0n, r0t⟩, r0e) : Vl × Int) ((r1s, r1e) : List UInt8 × Int) ((r2s, r2e) : List UInt8 × Int) ((⟨r3k, r3n, r3t⟩, r3e) : Vl × Int) ((r4m, r4e) : Int × Int) from HL.out.trans (by unfold BigBack_s9; rw [HR4.out]))
                -- region 14
                have cb4_0 : W22.cell? ⟨gb4, 0, none⟩ = some (.int .i64 uk) := (B.out.get 2 rfl).c0
                have cb4_1 : W22.cell? ⟨gb4, 1, none⟩ = some (.int .i64 un) := (B.out.get 2 rfl).c1
                have cb4_2 : W22.cell? ⟨gb4, 2, none⟩ = some (.string ⟨List.toArray ut⟩) := (B.out.get 2 rfl).c2
                obtain ⟨⟨r5m, r5e⟩, hr5⟩ : ∃ p, digitsR (⟨uk, un, ut⟩ : Vl) = p := ⟨_, rfl⟩
                have hc5 := fun (W : World) (hW : Env W) => digitsV (⟨uk, un, ut⟩ : Vl) HOu.out W hW
                rw [hr5] at hc5
                simp only [Vl.val] at hc5
                have HC5 := Lib.hid hc5; have HR5 := Lib.hid hr5
                clear hc5 hr5
                go_wp2_with fail
                refine (HC5.out _ (HE.out.below BL.out)).mono ?_
                rintro e W23 ⟨rfl, hb⟩
                clear cb4_0 cb4_1 cb4_2
                replace B := Lib.hid (B.out.below hb)
                replace BL := Lib.hid (below_then BL.out hb)
                clear hb
                go_upto_region 15 with fail
                replace HL := Lib.hid (show true = BigBack_s7 (⟨vk, vn, vt⟩ : Vl) (⟨uk, un, ut⟩ : Vl) s ((⟨r0k, r0n, r0t⟩, r0e) : Vl × Int) ((r1s, r1e) : List UInt8 × Int) ((r2s, r2e) : List UInt8 × Int) ((⟨r3k, r3n, r3t⟩, r3e) : Vl × Int) ((r4m, r4e) : Int × Int) ((r5m, r5e) : Int × Int) from HL.out.trans (by unfold BigBack_s8; rw [HR5.out]))
                -- region 15, a test
                obtain ⟨b10, h⟩ : ∃ b : Bool, (r3e == 0) = b := ⟨_, rfl⟩
                have HA10 := Lib.hid h
                clear h
                obtain ⟨b11, h⟩ : ∃ b : Bool, (veqB r3k r3n r3t vk vn vt) = b := ⟨_, rfl⟩
                have HA11 := Lib.hid h
                clear h
                obtain ⟨b12, h⟩ : ∃ b : Bool, (r4e == 0) = b := ⟨_, rfl⟩
                have HA12 := Lib.hid h
                clear h
                have HCF : (((!(r3e == 0)) || (!(veqB r3k r3n r3t vk vn vt))) || (!(r4e == 0))) = false := Bool.eq_false_iff.2 fun h => Bool.noConfusion (show true = false from HL.out.trans (if_pos h))
                have HCB : (((!b10) || (!b11)) || (!b12)) = false := by
                  have h := HCF
                  rw [HA10.out, HA11.out, HA12.out] at h
                  exact h
                have HCW := Lib.hid HCF
                have HCC := Lib.hid HCB
                clear HCF HCB
                go_upto_region 15 with fail
                go_cut [105] from 95 to 105 (fun v wx => v = .bool false ∧ Hid (Bxs wx [(g1, (⟨r3k, r3n, r3t⟩ : Vl)), (g0, (⟨r0k, r0n, r0t⟩ : Vl)), (gb4, (⟨uk, un, ut⟩ : Vl)), (w.heap.size, (⟨vk, vn, vt⟩ : Vl))]) ∧ Hid (Below w.heap.size w wx))
                case first =>
                  clear HL
                  cases b10 with
                  | true =>
                    cases b11 with
                    | true =>
                      cases b12 with
                      | true =>
                        have f0_0 : ((r3e : Int) == 0) = true := HA10.out
                        have f0_1 : ((r3e : Int) != 0) = false := by have h := HA10.out; simpa using h
                        have f1_0 : (veqB r3k r3n r3t vk vn vt) = true := HA11.out
                        have f2_0 : ((r4e : Int) == 0) = true := HA12.out
                        have f2_1 : ((r4e : Int) != 0) = false := by have h := HA12.out; simpa using h
                        have cb13_12_5_0 : W23.cell? ⟨g1, 0, none⟩ = some (.int .i64 r3k) := (B.out.get 0 rfl).c0
                        have cb13_12_5_1 : W23.cell? ⟨g1, 1, none⟩ = some (.int .i64 r3n) := (B.out.get 0 rfl).c1
                        have cb13_12_5_2 : W23.cell? ⟨g1, 2, none⟩ = some (.string ⟨List.toArray r3t⟩) := (B.out.get 0 rfl).c2
                        have cb3_0 : W23.cell? ⟨w.heap.size, 0, none⟩ = some (.int .i64 vk) := (B.out.get 3 rfl).c0
                        have cb3_1 : W23.cell? ⟨w.heap.size, 1, none⟩ = some (.int .i64 vn) := (B.out.get 3 rfl).c1
                        have cb3_2 : W23.cell? ⟨w.heap.size, 2, none⟩ = some (.string ⟨List.toArray vt⟩) := (B.out.get 3 rfl).c2
                        go_wp2_with fail
                        go_meet
                        exact ⟨rfl, B, BL⟩
                      | false =>
                        exact Bool.noConfusion (show true = false from HCC.out)
                    | false =>
                      exact Bool.noConfusion (show true = false from HCC.out)
                  | false =>
                    exact Bool.noConfusion (show true = false from HCC.out)
                case rest =>
                  clear B BL
                  obtain ⟨rfl, B, BL⟩ := hcut
                  obtain ⟨W24, hW⟩ : ∃ X, wc = X := ⟨_, rfl⟩
                  rw [hW] at B BL ⊢
                  clear hW
                  clear HCC HA10 HA11 HA12
                  replace HL := Lib.hid (show true = BigBack_s6 (⟨vk, vn, vt⟩ : Vl) (⟨uk, un, ut⟩ : Vl) s ((⟨r0k, r0n, r0t⟩, r0e) : Vl × Int) ((r1s, r1e) : List UInt8 × Int) ((r2s, r2e) : List UInt8 × Int) ((⟨r3k, r3n, r3t⟩, r3e) : Vl × Int) ((r4m, r4e) : Int × Int) ((r5m, r5e) : Int × Int) from HL.out.trans ((if_neg (fun h => Bool.noConfusion (HCW.out.symm.trans h)))))
                  -- region 17
                  have cb3_0 : W24.cell? ⟨w.heap.size, 0, none⟩ = some (.int .i64 vk) := (B.out.get 3 rfl).c0
                  have cb3_1 : W24.cell? ⟨w.heap.size, 1, none⟩ = some (.int .i64 vn) := (B.out.get 3 rfl).c1
                  have cb3_2 : W24.cell? ⟨w.heap.size, 2, none⟩ = some (.string ⟨List.toArray vt⟩) := (B.out.get 3 rfl).c2
                  have cb4_0 : W24.cell? ⟨gb4, 0, none⟩ = some (.int .i64 uk) := (B.out.get 2 rfl).c0
                  have cb4_1 : W24.cell? ⟨gb4, 1, none⟩ = some (.int .i64 un) := (B.out.get 2 rfl).c1
                  have cb4_2 : W24.cell? ⟨gb4, 2, none⟩ = some (.string ⟨List.toArray ut⟩) := (B.out.get 2 rfl).c2
                  obtain ⟨⟨r6b, r6e⟩, hr6⟩ : ∃ p, lessR (⟨vk, vn, vt⟩ : Vl) (⟨uk, un, ut⟩ : Vl) = p := ⟨_, rfl⟩
                  have hc6 := fun (W : World) (hW : Env W) => lessV (⟨vk, vn, vt⟩ : Vl) (⟨uk, un, ut⟩ : Vl) HOv.out HOu.out W hW
                  rw [hr6] at hc6
                  simp only [Vl.val] at hc6
                  have HC6 := Lib.hid hc6; have HR6 := Lib.hid hr6
                  clear hc6 hr6
                  go_wp2_with fail
                  refine (HC6.out _ (HE.out.below BL.out)).mono ?_
                  rintro e W25 ⟨rfl, hb⟩
                  clear cb3_0 cb3_1 cb3_2 cb4_0 cb4_1 cb4_2
                  replace B := Lib.hid (B.out.below hb)
                  replace BL := Lib.hid (below_then BL.out hb)
                  clear hb
                  go_upto_region 18 with fail
                  replace HL := Lib.hid (show true = BigBack_s5 (⟨vk, vn, vt⟩ : Vl) (⟨uk, un, ut⟩ : Vl) s ((⟨r0k, r0n, r0t⟩, r0e) : Vl × Int) ((r1s, r1e) : List UInt8 × Int) ((r2s, r2e) : List UInt8 × Int) ((⟨r3k, r3n, r3t⟩, r3e) : Vl × Int) ((r4m, r4e) : Int × Int) ((r5m, r5e) : Int × Int) ((r6b, r6e) : Bool × Int) from HL.out.trans (by unfold BigBack_s6; rw [HR6.out]))
                  -- region 18, draws its order
                  obtain ⟨⟨r7b, r7e⟩, hr7⟩ : ∃ p, lessR (⟨1, 0, []⟩ : Vl) (⟨vk, vn, vt⟩ : Vl) = p := ⟨_, rfl⟩
                  have hc7 := fun (W : World) (hW : Env W) => lessV (⟨1, 0, []⟩ : Vl) (⟨vk, vn, vt⟩ : Vl) (num_ok 0 (by unfold Small64; omega)) HOv.out W hW
                  rw [hr7] at hc7
                  simp only [Vl.val] at hc7
                  have HC7 := Lib.hid hc7; have HR7 := Lib.hid hr7
                  clear hc7 hr7
                  go_upto_region 18 with fail
                  go_cut [21, 22] from 112 to 118 (fun s21 s22 wx => s21 = (.bool r7b) ∧ s22 = (.int .i64 r7e) ∧ Hid (Bxs wx [(g1, (⟨r3k, r3n, r3t⟩ : Vl)), (g0, (⟨r0k, r0n, r0t⟩ : Vl)), (gb4, (⟨uk, un, ut⟩ : Vl)), (w.heap.size, (⟨vk, vn, vt⟩ : Vl))]) ∧ Hid (Below w.heap.size w wx))
                  case first =>
                    clear HL
                    refine wp_region_noPanic ?_
                    refine region_late (fun (X : World) => X.cell? ⟨w.heap.size, 0, none⟩ = some (.int .i64 vk) ∧ X.cell? ⟨w.heap.size, 1, none⟩ = some (.int .i64 vn) ∧ X.cell? ⟨w.heap.size, 2, none⟩ = some (.string ⟨List.toArray vt⟩)) (fun _ => false) (by kernel_rfl) ?_
                    have hb := (Below.refl W25.heap.size W25).drew
                    obtain ⟨W26, hW⟩ : ∃ X, W25.drew = X := ⟨_, rfl⟩
                    rw [hW] at hb ⊢
                    clear hW
                    replace B := Lib.hid (B.out.below hb)
                    replace BL := Lib.hid (below_then BL.out hb)
                    clear hb
                    have hHeld : W26.cell? ⟨w.heap.size, 0, none⟩ = some (.int .i64 vk) ∧ W26.cell? ⟨w.heap.size, 1, none⟩ = some (.int .i64 vn) ∧ W26.cell? ⟨w.heap.size, 2, none⟩ = some (.string ⟨List.toArray vt⟩) := ⟨(B.out.get 3 rfl).c0, (B.out.get 3 rfl).c1, (B.out.get 3 rfl).c2⟩
                    refine late_take_at (some 114) (i := 1) (v := (.agg #[.int .i64 vk, .int .i64 vn, .string ⟨List.toArray vt⟩])) rfl rfl rfl (by kernel_rfl) (by kernel_rfl) (by kernel_rfl) (by kernel_rfl) (fun _ _ _ h => h) clean_none (Or.inl ⟨by rfl, by intro w hSw; go_split_ands; go_simp⟩) hHeld ?_
                    try simp only [Act.put, List.setIfInBounds_toArray, List.set_cons_zero, List.set_cons_succ]
                    refine late_ready (rs := [0]) (by kernel_rfl) (by simp) ?_
                    refine AllLate.cons rfl (fun K hK => ?_) ?_
                    · skip
                      go_simp
                      refine (num_calls 0 _).mono ?_
                      rintro e W27 ⟨rfl, hb⟩
                      clear hHeld
                      replace B := Lib.hid (B.out.below hb)
                      replace BL := Lib.hid (below_then BL.out hb)
                      clear hb
                      have hHeld : W27.cell? ⟨w.heap.size, 0, none⟩ = some (.int .i64 vk) ∧ W27.cell? ⟨w.heap.size, 1, none⟩ = some (.int .i64 vn) ∧ W27.cell? ⟨w.heap.size, 2, none⟩ = some (.string ⟨List.toArray vt⟩) := ⟨(B.out.get 3 rfl).c0, (B.out.get 3 rfl).c1, (B.out.get 3 rfl).c2⟩
                      dsimp only
                      refine hK.out _ _ (fun _ => hHeld) ?_
                      clear hK K
                      try simp only [Act.put, List.setIfInBounds_toArray, List.set_cons_zero, List.set_cons_succ]
                      refine late_ready (rs := [2]) (by kernel_rfl) (by simp) ?_
                      refine AllLate.cons rfl (fun K hK => ?_) ?_
                      · skip
                        go_simp
                        refine (HC7.out _ (HE.out.below BL.out)).mono ?_
                        rintro e W28 ⟨rfl, hb⟩
                        clear hHeld
                        replace B := Lib.hid (B.out.below hb)
                        replace BL := Lib.hid (below_then BL.out hb)
                        clear hb
                        have hHeld : W28.cell? ⟨w.heap.size, 0, none⟩ = some (.int .i64 vk) ∧ W28.cell? ⟨w.heap.size, 1, none⟩ = some (.int .i64 vn) ∧ W28.cell? ⟨w.heap.size, 2, none⟩ = some (.string ⟨List.toArray vt⟩) := ⟨(B.out.get 3 rfl).c0, (B.out.get 3 rfl).c1, (B.out.get 3 rfl).c2⟩
                        dsimp only
                        refine hK.out _ _ (fun _ => hHeld) ?_
                        clear hK K
                        try simp only [Act.put, List.setIfInBounds_toArray, List.set_cons_zero, List.set_cons_succ]
                        refine late_pure_at (some 112) (i := 3) (v := (.tuple #[(.bool r7b), (.int .i64 r7e)])) rfl rfl rfl (by kernel_rfl) (by kernel_rfl) (by kernel_rfl) (fun _ _ _ h => h) (Or.inl ⟨by rfl, by intro w _; go_simp⟩) (fun _ => hHeld) ?_
                        try simp only [Act.put, List.setIfInBounds_toArray, List.set_cons_zero, List.set_cons_succ]
                        refine late_pure_at (some 116) (i := 4) (v := (.bool r7b)) rfl rfl rfl (by kernel_rfl) (by kernel_rfl) (by kernel_rfl) (fun _ _ _ h => h) (Or.inl ⟨by rfl, by intro w _; go_simp⟩) (fun _ => hHeld) ?_
                        try simp only [Act.put, List.setIfInBounds_toArray, List.set_cons_zero, List.set_cons_succ]
                        refine late_pure_at (some 117) (i := 5) (v := (.int .i64 r7e)) rfl rfl rfl (by kernel_rfl) (by kernel_rfl) (by kernel_rfl) (fun _ _ _ h => h) (Or.inl ⟨by rfl, by intro w _; go_simp⟩) (fun _ => hHeld) ?_
                        try simp only [Act.put, List.setIfInBounds_toArray, List.set_cons_zero, List.set_cons_succ]
                        refine late_pure_at (some 21) (i := 6) (v := (.bool r7b)) rfl rfl rfl (by kernel_rfl) (by kernel_rfl) (by kernel_rfl) (fun _ _ _ h => h) (Or.inl ⟨by rfl, by intro w _; go_simp⟩) (fun _ => hHeld) ?_
                        try simp only [Act.put, List.setIfInBounds_toArray, List.set_cons_zero, List.set_cons_succ]
                        refine late_pure_at (some 22) (i := 7) (v := (.int .i64 r7e)) rfl rfl rfl (by kernel_rfl) (by kernel_rfl) (by kernel_rfl) (fun _ _ _ h => h) (Or.inl ⟨by rfl, by intro w _; go_simp⟩) (fun _ => hHeld) ?_
                        try simp only [Act.put, List.setIfInBounds_toArray, List.set_cons_zero, List.set_cons_succ]
                        refine late_done (by kernel_rfl) ?_ _
                        refine NoPanic.normal ?_
                        go_wp2_with fail
                        go_meet
                        exact ⟨rfl, rfl, B, BL⟩
                      exact AllLate.nil
                    exact AllLate.nil
                  case rest =>
                    clear B BL
                    obtain ⟨rfl, rfl, B, BL⟩ := hcut
                    obtain ⟨W29, hW⟩ : ∃ X, wc = X := ⟨_, rfl⟩
                    rw [hW] at B BL ⊢
                    clear hW
                    replace HL := Lib.hid (show true = BigBack_s4 (⟨vk, vn, vt⟩ : Vl) (⟨uk, un, ut⟩ : Vl) s ((⟨r0k, r0n, r0t⟩, r0e) : Vl × Int) ((r1s, r1e) : List UInt8 × Int) ((r2s, r2e) : List UInt8 × Int) ((⟨r3k, r3n, r3t⟩, r3e) : Vl × Int) ((r4m, r4e) : Int × Int) ((r5m, r5e) : Int × Int) ((r6b, r6e) : Bool × Int) ((r7b, r7e) : Bool × Int) from HL.out.trans (by unfold BigBack_s5; rw [HR7.out]))
                    -- region 19, the end
                    obtain ⟨b14, h⟩ : ∃ b : Bool, (r5e == 0) = b := ⟨_, rfl⟩
                    have HA14 := Lib.hid h
                    clear h
                    obtain ⟨b15, h⟩ : ∃ b : Bool, (r6e == 0) = b := ⟨_, rfl⟩
                    have HA15 := Lib.hid h
                    clear h
                    obtain ⟨b16, h⟩ : ∃ b : Bool, (r7e == 0) = b := ⟨_, rfl⟩
                    have HA16 := Lib.hid h
                    clear h
                    obtain ⟨b17, h⟩ : ∃ b : Bool, (decide ((r4m : Int) < r5m)) = b := ⟨_, rfl⟩
                    have HA17 := Lib.hid h
                    clear h
                    obtain ⟨b18, h⟩ : ∃ b : Bool, (uk == 1) = b := ⟨_, rfl⟩
                    have HA18 := Lib.hid h
                    clear h
                    obtain ⟨b19, h⟩ : ∃ b : Bool, (decide ((un : Int) < 0)) = b := ⟨_, rfl⟩
                    have HA19 := Lib.hid h
                    clear h
                    obtain ⟨b20, h⟩ : ∃ b : Bool, (decide ((0 : Int) < ((ut.length : Nat) : Int))) = b := ⟨_, rfl⟩
                    have HA20 := Lib.hid h
                    clear h
                    obtain ⟨b21, h⟩ : ∃ b : Bool, (ut.head? == some 45) = b := ⟨_, rfl⟩
                    have HA21 := Lib.hid h
                    clear h
                    cases b14 with
                    | true =>
                      cases b15 with
                      | true =>
                        cases b16 with
                        | true =>
                          cases r7b with
                          | true =>
                            cases b17 with
                            | true =>
                              cases r6b with
                              | true =>
                                clear HL
                                have f0_0 : ((r5e : Int) == 0) = true := HA14.out
                                have f0_1 : ((r5e : Int) != 0) = false := by have h := HA14.out; simpa using h
                                have f1_0 : ((r6e : Int) == 0) = true := HA15.out
                                have f1_1 : ((r6e : Int) != 0) = false := by have h := HA15.out; simpa using h
                                have f2_0 : ((r7e : Int) == 0) = true := HA16.out
                                have f2_1 : ((r7e : Int) != 0) = false := by have h := HA16.out; simpa using h
                                have f3_0 : decide ((r4m : Int) < r5m) = true := HA17.out
                                have f3_1 : decide ((r5m : Int) ≤ r4m) = false := by have h := HA17.out; simp only [decide_eq_true_eq, decide_eq_false_iff_not] at h ⊢; omega
                                go_wp2_with fail
                                go_ret
                                exact ⟨rfl, BL.out⟩
                              | false =>
                                cases b18 with
                                | true =>
                                  cases b19 with
                                  | true =>
                                    clear HL
                                    have f0_0 : ((r5e : Int) == 0) = true := HA14.out
                                    have f0_1 : ((r5e : Int) != 0) = false := by have h := HA14.out; simpa using h
                                    have f1_0 : ((r6e : Int) == 0) = true := HA15.out
                                    have f1_1 : ((r6e : Int) != 0) = false := by have h := HA15.out; simpa using h
                                    have f2_0 : ((r7e : Int) == 0) = true := HA16.out
                                    have f2_1 : ((r7e : Int) != 0) = false := by have h := HA16.out; simpa using h
                                    have f3_0 : decide ((r4m : Int) < r5m) = true := HA17.out
                                    have f3_1 : decide ((r5m : Int) ≤ r4m) = false := by have h := HA17.out; simp only [decide_eq_true_eq, decide_eq_false_iff_not] at h ⊢; omega
                                    have f4_0 : ((uk : Int) == 1) = true := HA18.out
                                    have f4_1 : ((uk : Int) != 1) = false := by have h := HA18.out; simpa using h
                                    have f5_0 : decide ((un : Int) < 0) = true := HA19.out
                                    have f5_1 : decide ((0 : Int) ≤ un) = false := by have h := HA19.out; simp only [decide_eq_true_eq, decide_eq_false_iff_not] at h ⊢; omega
                                    have cb4_0 : W29.cell? ⟨gb4, 0, none⟩ = some (.int .i64 uk) := (B.out.get 2 rfl).c0
                                    have cb4_1 : W29.cell? ⟨gb4, 1, none⟩ = some (.int .i64 un) := (B.out.get 2 rfl).c1
                                    have cb4_2 : W29.cell? ⟨gb4, 2, none⟩ = some (.string ⟨List.toArray ut⟩) := (B.out.get 2 rfl).c2
                                    go_wp2_with fail
                                    go_ret
                                    exact ⟨rfl, BL.out⟩
                                  | false =>
                                    cases b20 with
                                    | true =>
                                      cases b21 with
                                      | true =>
                                        clear HL
                                        have f0_0 : ((r5e : Int) == 0) = true := HA14.out
                                        have f0_1 : ((r5e : Int) != 0) = false := by have h := HA14.out; simpa using h
                                        have f1_0 : ((r6e : Int) == 0) = true := HA15.out
                                        have f1_1 : ((r6e : Int) != 0) = false := by have h := HA15.out; simpa using h
                                        have f2_0 : ((r7e : Int) == 0) = true := HA16.out
                                        have f2_1 : ((r7e : Int) != 0) = false := by have h := HA16.out; simpa using h
                                        have f3_0 : decide ((r4m : Int) < r5m) = true := HA17.out
                                        have f3_1 : decide ((r5m : Int) ≤ r4m) = false := by have h := HA17.out; simp only [decide_eq_true_eq, decide_eq_false_iff_not] at h ⊢; omega
                                        have f4_0 : ((uk : Int) == 1) = true := HA18.out
                                        have f4_1 : ((uk : Int) != 1) = false := by have h := HA18.out; simpa using h
                                        have f5_0 : decide ((un : Int) < 0) = false := HA19.out
                                        have f5_1 : decide ((0 : Int) ≤ un) = true := by have h := HA19.out; simp only [decide_eq_true_eq, decide_eq_false_iff_not] at h ⊢; omega
                                        have f6_0 : decide ((0 : Int) < ((ut.length : Nat) : Int)) = true := HA20.out
                                        have f6_1 : decide ((((ut.length : Nat) : Int) : Int) ≤ 0) = false := by have h := HA20.out; simp only [decide_eq_true_eq, decide_eq_false_iff_not] at h ⊢; omega
                                        have f6_2 : 0 < ut.length := by have h := HA20.out; simp only [decide_eq_true_eq] at h; omega
                                        have f7_0 : ∀ h : 0 < (⟨List.toArray ut⟩ : ByteArray).size, (((((⟨List.toArray ut⟩ : ByteArray)[0]'h).toNat : Nat) : Int) == 45) = true := fun h => (head_byte ut h).trans HA21.out
                                        have cb4_0 : W29.cell? ⟨gb4, 0, none⟩ = some (.int .i64 uk) := (B.out.get 2 rfl).c0
                                        have cb4_1 : W29.cell? ⟨gb4, 1, none⟩ = some (.int .i64 un) := (B.out.get 2 rfl).c1
                                        have cb4_2 : W29.cell? ⟨gb4, 2, none⟩ = some (.string ⟨List.toArray ut⟩) := (B.out.get 2 rfl).c2
                                        go_wp2_with fail
                                        go_ret
                                        exact ⟨rfl, BL.out⟩
                                      | false =>
                                        exact Bool.noConfusion (show true = false from HL.out.trans (by show (true && ((!(r5e == 0)) || (((r6e == 0) && (r7e == 0)) && (((((!true) || (!(decide ((r4m : Int) < r5m)))) || false) || ((uk == 1) && (decide ((un : Int) < 0)))) || ((decide ((0 : Int) < ((ut.length : Nat) : Int))) && (ut.head? == some 45)))))) = false; rw [HA14.out, HA15.out, HA16.out, HA17.out, HA18.out, HA19.out, HA20.out, HA21.out]; rfl))
                                    | false =>
                                      exact Bool.noConfusion (show true = false from HL.out.trans (by show (true && ((!(r5e == 0)) || (((r6e == 0) && (r7e == 0)) && (((((!true) || (!(decide ((r4m : Int) < r5m)))) || false) || ((uk == 1) && (decide ((un : Int) < 0)))) || ((decide ((0 : Int) < ((ut.length : Nat) : Int))) && (ut.head? == some 45)))))) = false; rw [HA14.out, HA15.out, HA16.out, HA17.out, HA18.out, HA19.out, HA20.out]; rfl))
                                | false =>
                                  cases b20 with
                                  | true =>
                                    cases b21 with
                                    | true =>
                                      clear HL
                                      have f0_0 : ((r5e : Int) == 0) = true := HA14.out
                                      have f0_1 : ((r5e : Int) != 0) = false := by have h := HA14.out; simpa using h
                                      have f1_0 : ((r6e : Int) == 0) = true := HA15.out
                                      have f1_1 : ((r6e : Int) != 0) = false := by have h := HA15.out; simpa using h
                                      have f2_0 : ((r7e : Int) == 0) = true := HA16.out
                                      have f2_1 : ((r7e : Int) != 0) = false := by have h := HA16.out; simpa using h
                                      have f3_0 : decide ((r4m : Int) < r5m) = true := HA17.out
                                      have f3_1 : decide ((r5m : Int) ≤ r4m) = false := by have h := HA17.out; simp only [decide_eq_true_eq, decide_eq_false_iff_not] at h ⊢; omega
                                      have f4_0 : ((uk : Int) == 1) = false := HA18.out
                                      have f4_1 : ((uk : Int) != 1) = true := by have h := HA18.out; simpa using h
                                      have f6_0 : decide ((0 : Int) < ((ut.length : Nat) : Int)) = true := HA20.out
                                      have f6_1 : decide ((((ut.length : Nat) : Int) : Int) ≤ 0) = false := by have h := HA20.out; simp only [decide_eq_true_eq, decide_eq_false_iff_not] at h ⊢; omega
                                      have f6_2 : 0 < ut.length := by have h := HA20.out; simp only [decide_eq_true_eq] at h; omega
                                      have f7_0 : ∀ h : 0 < (⟨List.toArray ut⟩ : ByteArray).size, (((((⟨List.toArray ut⟩ : ByteArray)[0]'h).toNat : Nat) : Int) == 45) = true := fun h => (head_byte ut h).trans HA21.out
                                      have cb4_0 : W29.cell? ⟨gb4, 0, none⟩ = some (.int .i64 uk) := (B.out.get 2 rfl).c0
                                      have cb4_1 : W29.cell? ⟨gb4, 1, none⟩ = some (.int .i64 un) := (B.out.get 2 rfl).c1
                                      have cb4_2 : W29.cell? ⟨gb4, 2, none⟩ = some (.string ⟨List.toArray ut⟩) := (B.out.get 2 rfl).c2
                                      go_wp2_with fail
                                      go_ret
                                      exact ⟨rfl, BL.out⟩
                                    | false =>
                                      exact Bool.noConfusion (show true = false from HL.out.trans (by show (true && ((!(r5e == 0)) || (((r6e == 0) && (r7e == 0)) && (((((!true) || (!(decide ((r4m : Int) < r5m)))) || false) || ((uk == 1) && (decide ((un : Int) < 0)))) || ((decide ((0 : Int) < ((ut.length : Nat) : Int))) && (ut.head? == some 45)))))) = false; rw [HA14.out, HA15.out, HA16.out, HA17.out, HA18.out, HA20.out, HA21.out]; rfl))
                                  | false =>
                                    exact Bool.noConfusion (show true = false from HL.out.trans (by show (true && ((!(r5e == 0)) || (((r6e == 0) && (r7e == 0)) && (((((!true) || (!(decide ((r4m : Int) < r5m)))) || false) || ((uk == 1) && (decide ((un : Int) < 0)))) || ((decide ((0 : Int) < ((ut.length : Nat) : Int))) && (ut.head? == some 45)))))) = false; rw [HA14.out, HA15.out, HA16.out, HA17.out, HA18.out, HA20.out]; rfl))
                            | false =>
                              clear HL
                              have f0_0 : ((r5e : Int) == 0) = true := HA14.out
                              have f0_1 : ((r5e : Int) != 0) = false := by have h := HA14.out; simpa using h
                              have f1_0 : ((r6e : Int) == 0) = true := HA15.out
                              have f1_1 : ((r6e : Int) != 0) = false := by have h := HA15.out; simpa using h
                              have f2_0 : ((r7e : Int) == 0) = true := HA16.out
                              have f2_1 : ((r7e : Int) != 0) = false := by have h := HA16.out; simpa using h
                              have f3_0 : decide ((r4m : Int) < r5m) = false := HA17.out
                              have f3_1 : decide ((r5m : Int) ≤ r4m) = true := by have h := HA17.out; simp only [decide_eq_true_eq, decide_eq_false_iff_not] at h ⊢; omega
                              go_wp2_with fail
                              go_ret
                              exact ⟨rfl, BL.out⟩
                          | false =>
                            clear HL
                            have f0_0 : ((r5e : Int) == 0) = true := HA14.out
                            have f0_1 : ((r5e : Int) != 0) = false := by have h := HA14.out; simpa using h
                            have f1_0 : ((r6e : Int) == 0) = true := HA15.out
                            have f1_1 : ((r6e : Int) != 0) = false := by have h := HA15.out; simpa using h
                            have f2_0 : ((r7e : Int) == 0) = true := HA16.out
                            have f2_1 : ((r7e : Int) != 0) = false := by have h := HA16.out; simpa using h
                            go_wp2_with fail
                            go_ret
                            exact ⟨rfl, BL.out⟩
                        | false =>
                          exact Bool.noConfusion (show true = false from HL.out.trans (by show (true && ((!(r5e == 0)) || (((r6e == 0) && (r7e == 0)) && (((((!r7b) || (!(decide ((r4m : Int) < r5m)))) || r6b) || ((uk == 1) && (decide ((un : Int) < 0)))) || ((decide ((0 : Int) < ((ut.length : Nat) : Int))) && (ut.head? == some 45)))))) = false; rw [HA14.out, HA15.out, HA16.out]; rfl))
                      | false =>
                        exact Bool.noConfusion (show true = false from HL.out.trans (by show (true && ((!(r5e == 0)) || (((r6e == 0) && (r7e == 0)) && (((((!r7b) || (!(decide ((r4m : Int) < r5m)))) || r6b) || ((uk == 1) && (decide ((un : Int) < 0)))) || ((decide ((0 : Int) < ((ut.length : Nat) : Int))) && (ut.head? == some 45)))))) = false; rw [HA14.out, HA15.out]; rfl))
                    | false =>
                      clear HL
                      have f0_0 : ((r5e : Int) == 0) = false := HA14.out
                      have f0_1 : ((r5e : Int) != 0) = true := by have h := HA14.out; simpa using h
                      go_wp2_with fail
                      go_ret
                      exact ⟨rfl, BL.out⟩
        | false =>
          replace HL := Lib.hid (show true = BigBack_s25 (⟨vk, vn, vt⟩ : Vl) (⟨uk, un, ut⟩ : Vl) s ((⟨r0k, r0n, r0t⟩, r0e) : Vl × Int) from HL.out.trans ((if_neg (fun h => Bool.noConfusion (HCW.out.symm.trans h)))))
          -- region 9
          have cb3_0 : W13.cell? ⟨w.heap.size, 0, none⟩ = some (.int .i64 vk) := (B.out.get 2 rfl).c0
          have cb3_1 : W13.cell? ⟨w.heap.size, 1, none⟩ = some (.int .i64 vn) := (B.out.get 2 rfl).c1
          have cb3_2 : W13.cell? ⟨w.heap.size, 2, none⟩ = some (.string ⟨List.toArray vt⟩) := (B.out.get 2 rfl).c2
          obtain ⟨⟨r8s, r8e⟩, hr8⟩ : ∃ p, textR (⟨vk, vn, vt⟩ : Vl) = p := ⟨_, rfl⟩
          have hc8 := fun (W : World) (hW : Env W) => textV (⟨vk, vn, vt⟩ : Vl) HOv.out W hW
          have hl8 := textR_len (⟨vk, vn, vt⟩ : Vl) HOv.out
          rw [hr8] at hc8 hl8
          simp only [Vl.val] at hc8 hl8
          have HC8 := Lib.hid hc8; have HR8 := Lib.hid hr8; have HLr8 := Lib.hid hl8
          clear hc8 hr8 hl8
          go_wp2_with fail
          refine (HC8.out _ (HE.out.below BL.out)).mono ?_
          rintro e W30 ⟨rfl, hb⟩
          clear cb3_0 cb3_1 cb3_2
          replace B := Lib.hid (B.out.below hb)
          replace BL := Lib.hid (below_then BL.out hb)
          clear hb
          go_upto_region 10 with fail
          replace HL := Lib.hid (show true = BigBack_s24 (⟨vk, vn, vt⟩ : Vl) (⟨uk, un, ut⟩ : Vl) s ((⟨r0k, r0n, r0t⟩, r0e) : Vl × Int) ((r8s, r8e) : List UInt8 × Int) from HL.out.trans (by unfold BigBack_s25; rw [HR8.out]))
          -- region 10, a test
          obtain ⟨b24, h⟩ : ∃ b : Bool, (r8e == 0) = b := ⟨_, rfl⟩
          have HA24 := Lib.hid h
          clear h
          obtain ⟨c8, h⟩ : ∃ c : Bool, (!b24) = c := ⟨_, rfl⟩
          have HCC := Lib.hid h
          clear h
          go_upto_region 10 with fail
          go_cut [68] from 67 to 68 (fun v wx => v = .bool c8 ∧ Hid (Bxs wx [(g0, (⟨r0k, r0n, r0t⟩ : Vl)), (gb4, (⟨uk, un, ut⟩ : Vl)), (w.heap.size, (⟨vk, vn, vt⟩ : Vl))]) ∧ Hid (Below w.heap.size w wx))
          case first =>
            clear HL
            cases b24 with
            | true =>
              have f0_0 : ((r8e : Int) == 0) = true := HA24.out
              have f0_1 : ((r8e : Int) != 0) = false := by have h := HA24.out; simpa using h
              go_wp2_with fail
              go_meet
              exact ⟨congrArg Value.bool HCC.out, B, BL⟩
            | false =>
              have f0_0 : ((r8e : Int) == 0) = false := HA24.out
              have f0_1 : ((r8e : Int) != 0) = true := by have h := HA24.out; simpa using h
              go_wp2_with fail
              go_meet
              exact ⟨congrArg Value.bool HCC.out, B, BL⟩
          case rest =>
            clear B BL
            obtain ⟨rfl, B, BL⟩ := hcut
            obtain ⟨W31, hW⟩ : ∃ X, wc = X := ⟨_, rfl⟩
            rw [hW] at B BL ⊢
            clear hW
            have HCW : Hid ((!(r8e == 0)) = c8) := Lib.hid (by rw [HA24.out]; exact HCC.out)
            clear HCC HA24
            cases c8 with
            | true =>
              replace HL := Lib.hid (show true = BigBack_s15 (⟨vk, vn, vt⟩ : Vl) (⟨uk, un, ut⟩ : Vl) s ((⟨r0k, r0n, r0t⟩, r0e) : Vl × Int) ((r8s, r8e) : List UInt8 × Int) from HL.out.trans (if_pos HCW.out))
              -- region 11, the end
              obtain ⟨b25, h⟩ : ∃ b : Bool, (r8e == 31) = b := ⟨_, rfl⟩
              have HA25 := Lib.hid h
              clear h
              obtain ⟨b26, h⟩ : ∃ b : Bool, ((checkR (⟨vk, vn, vt⟩ : Vl)) == r8e) = b := ⟨_, rfl⟩
              have HA26 := Lib.hid h
              clear h
              cases b25 with
              | true =>
                cases b26 with
                | true =>
                  clear HL
                  have f0_0 : ((r8e : Int) == 31) = true := HA25.out
                  have f0_1 : ((r8e : Int) != 31) = false := by have h := HA25.out; simpa using h
                  have f1_0 : (((checkR (⟨vk, vn, vt⟩ : Vl)) : Int) == r8e) = true := HA26.out
                  have f1_1 : (((checkR (⟨vk, vn, vt⟩ : Vl)) : Int) != r8e) = false := by have h := HA26.out; simpa using h
                  have cb3_0 : W31.cell? ⟨w.heap.size, 0, none⟩ = some (.int .i64 vk) := (B.out.get 2 rfl).c0
                  have cb3_1 : W31.cell? ⟨w.heap.size, 1, none⟩ = some (.int .i64 vn) := (B.out.get 2 rfl).c1
                  have cb3_2 : W31.cell? ⟨w.heap.size, 2, none⟩ = some (.string ⟨List.toArray vt⟩) := (B.out.get 2 rfl).c2
                  go_wp2_with fail
                  refine (checkV (⟨vk, vn, vt⟩ : Vl) HOv.out _ (HE.out.below BL.out)).mono ?_
                  rintro e W32 ⟨rfl, hb⟩
                  clear cb3_0 cb3_1 cb3_2
                  replace B := Lib.hid (B.out.below hb)
                  replace BL := Lib.hid (below_then BL.out hb)
                  clear hb
                  have cb3_0 : W32.cell? ⟨w.heap.size, 0, none⟩ = some (.int .i64 vk) := (B.out.get 2 rfl).c0
                  have cb3_1 : W32.cell? ⟨w.heap.size, 1, none⟩ = some (.int .i64 vn) := (B.out.get 2 rfl).c1
                  have cb3_2 : W32.cell? ⟨w.heap.size, 2, none⟩ = some (.string ⟨List.toArray vt⟩) := (B.out.get 2 rfl).c2
                  go_wp2_with fail
                  go_ret
                  exact ⟨rfl, BL.out⟩
                | false =>
                  exact Bool.noConfusion (show true = false from HL.out.trans (by show ((true && (r8e == 31)) && ((checkR (⟨vk, vn, vt⟩ : Vl)) == r8e)) = false; rw [HA25.out, HA26.out]; rfl))
              | false =>
                exact Bool.noConfusion (show true = false from HL.out.trans (by show ((true && (r8e == 31)) && ((checkR (⟨vk, vn, vt⟩ : Vl)) == r8e)) = false; rw [HA25.out]; rfl))
            | false =>
              replace HL := Lib.hid (show true = BigBack_s23 (⟨vk, vn, vt⟩ : Vl) (⟨uk, un, ut⟩ : Vl) s ((⟨r0k, r0n, r0t⟩, r0e) : Vl × Int) ((r8s, r8e) : List UInt8 × Int) from HL.out.trans ((if_neg (fun h => Bool.noConfusion (HCW.out.symm.trans h)))))
              -- region 12
              obtain ⟨⟨⟨r9k, r9n, r9t⟩, r9e⟩, hr9⟩ : ∃ p, ofR r8s = p := ⟨_, rfl⟩
              have hc9 := fun (W : World) (hW : Env W) => ofV r8s HLr8.out W hW
              have ho9 := ofR_ok r8s
              rw [hr9] at hc9 ho9
              simp only [Vl.val, pr] at hc9
              have HC9 := Lib.hid hc9; have HOr9 : Hid (Vl.ok ⟨r9k, r9n, r9t⟩) := Lib.hid ho9; have HR9 := Lib.hid hr9
              clear hc9 ho9 hr9
              go_wp2_with fail
              refine (HC9.out _ (HE.out.below BL.out)).mono ?_
              rintro e W33 ⟨rfl, hb⟩
              replace B := Lib.hid (B.out.below hb)
              replace BL := Lib.hid (below_then BL.out hb)
              clear hb
              go_upto_region 13 with fail
              have hB : Bxs (W33.alloc (.cells #[.int .i64 r9k, .int .i64 r9n, .string ⟨List.toArray r9t⟩] 23)) ((W33.heap.size, (⟨r9k, r9n, r9t⟩ : Vl)) :: [(g0, (⟨r0k, r0n, r0t⟩ : Vl)), (gb4, (⟨uk, un, ut⟩ : Vl)), (w.heap.size, (⟨vk, vn, vt⟩ : Vl))]) := B.out.push (⟨r9k, r9n, r9t⟩ : Vl) 23
              have hL : Below w.heap.size w (W33.alloc (.cells #[.int .i64 r9k, .int .i64 r9n, .string ⟨List.toArray r9t⟩] 23)) := BL.out.alloc BL.out.size _
              obtain ⟨W34, hW⟩ : ∃ X, W33.alloc (.cells #[.int .i64 r9k, .int .i64 r9n, .string ⟨List.toArray r9t⟩] 23) = X := ⟨_, rfl⟩
              obtain ⟨g2, hg⟩ : ∃ g, W33.heap.size = g := ⟨_, rfl⟩
              rw [hW] at hB hL ⊢
              rw [hg] at hB ⊢
              have HGb13_12_8 : Hid (w.heap.size ≤ g2) := Lib.hid (by rw [← hg]; exact BL.out.size)
              replace B := Lib.hid hB
              replace BL := Lib.hid hL
              clear hB hL hW hg
              replace HL := Lib.hid (show true = BigBack_s22 (⟨vk, vn, vt⟩ : Vl) (⟨uk, un, ut⟩ : Vl) s ((⟨r0k, r0n, r0t⟩, r0e) : Vl × Int) ((r8s, r8e) : List UInt8 × Int) ((⟨r9k, r9n, r9t⟩, r9e) : Vl × Int) from HL.out.trans (by unfold BigBack_s23; rw [HR9.out]))
              -- region 13
              have cb3_0 : W34.cell? ⟨w.heap.size, 0, none⟩ = some (.int .i64 vk) := (B.out.get 3 rfl).c0
              have cb3_1 : W34.cell? ⟨w.heap.size, 1, none⟩ = some (.int .i64 vn) := (B.out.get 3 rfl).c1
              have cb3_2 : W34.cell? ⟨w.heap.size, 2, none⟩ = some (.string ⟨List.toArray vt⟩) := (B.out.get 3 rfl).c2
              obtain ⟨⟨r10m, r10e⟩, hr10⟩ : ∃ p, digitsR (⟨vk, vn, vt⟩ : Vl) = p := ⟨_, rfl⟩
              have hc10 := fun (W : World) (hW : Env W) => digitsV (⟨vk, vn, vt⟩ : Vl) HOv.out W hW
              rw [hr10] at hc10
              simp only [Vl.val] at hc10
              have HC10 := Lib.hid hc10; have HR10 := Lib.hid hr10
              clear hc10 hr10
              go_wp2_with fail
              refine (HC10.out _ (HE.out.below BL.out)).mono ?_
              rintro e W35 ⟨rfl, hb⟩
              clear cb3_0 cb3_1 cb3_2
              replace B := Lib.hid (B.out.below hb)
              replace BL := Lib.hid (below_then BL.out hb)
              clear hb
              go_upto_region 14 with fail
              replace HL := Lib.hid (show true = BigBack_s21 (⟨vk, vn, vt⟩ : Vl) (⟨uk, un, ut⟩ : Vl) s ((⟨r0k, r0n, r0t⟩, r0e) : Vl × Int) ((r8s, r8e) : List UInt8 × Int) ((⟨r9k, r9n, r9t⟩, r9e) : Vl × Int) ((r10m, r10e) : Int × Int) from HL.out.trans (by unfold BigBack_s22; rw [HR10.out]))
              -- region 14
              have cb4_0 : W35.cell? ⟨gb4, 0, none⟩ = some (.int .i64 uk) := (B.out.get 2 rfl).c0
              have cb4_1 : W35.cell? ⟨gb4, 1, none⟩ = some (.int .i64 un) := (B.out.get 2 rfl).c1
              have cb4_2 : W35.cell? ⟨gb4, 2, none⟩ = some (.string ⟨List.toArray ut⟩) := (B.out.get 2 rfl).c2
              obtain ⟨⟨r11m, r11e⟩, hr11⟩ : ∃ p, digitsR (⟨uk, un, ut⟩ : Vl) = p := ⟨_, rfl⟩
              have hc11 := fun (W : World) (hW : Env W) => digitsV (⟨uk, un, ut⟩ : Vl) HOu.out W hW
              rw [hr11] at hc11
              simp only [Vl.val] at hc11
              have HC11 := Lib.hid hc11; have HR11 := Lib.hid hr11
              clear hc11 hr11
              go_wp2_with fail
              refine (HC11.out _ (HE.out.below BL.out)).mono ?_
              rintro e W36 ⟨rfl, hb⟩
              clear cb4_0 cb4_1 cb4_2
              replace B := Lib.hid (B.out.below hb)
              replace BL := Lib.hid (below_then BL.out hb)
              clear hb
              go_upto_region 15 with fail
              replace HL := Lib.hid (show true = BigBack_s20 (⟨vk, vn, vt⟩ : Vl) (⟨uk, un, ut⟩ : Vl) s ((⟨r0k, r0n, r0t⟩, r0e) : Vl × Int) ((r8s, r8e) : List UInt8 × Int) ((⟨r9k, r9n, r9t⟩, r9e) : Vl × Int) ((r10m, r10e) : Int × Int) ((r11m, r11e) : Int × Int) from HL.out.trans (by unfold BigBack_s21; rw [HR11.out]))
              -- region 15, a test
              obtain ⟨b27, h⟩ : ∃ b : Bool, (r9e == 0) = b := ⟨_, rfl⟩
              have HA27 := Lib.hid h
              clear h
              obtain ⟨b28, h⟩ : ∃ b : Bool, (veqB r9k r9n r9t vk vn vt) = b := ⟨_, rfl⟩
              have HA28 := Lib.hid h
              clear h
              obtain ⟨b29, h⟩ : ∃ b : Bool, (r10e == 0) = b := ⟨_, rfl⟩
              have HA29 := Lib.hid h
              clear h
              have HCF : (((!(r9e == 0)) || (!(veqB r9k r9n r9t vk vn vt))) || (!(r10e == 0))) = false := Bool.eq_false_iff.2 fun h => Bool.noConfusion (show true = false from HL.out.trans (if_pos h))
              have HCB : (((!b27) || (!b28)) || (!b29)) = false := by
                have h := HCF
                rw [HA27.out, HA28.out, HA29.out] at h
                exact h
              have HCW := Lib.hid HCF
              have HCC := Lib.hid HCB
              clear HCF HCB
              go_upto_region 15 with fail
              go_cut [105] from 95 to 105 (fun v wx => v = .bool false ∧ Hid (Bxs wx [(g2, (⟨r9k, r9n, r9t⟩ : Vl)), (g0, (⟨r0k, r0n, r0t⟩ : Vl)), (gb4, (⟨uk, un, ut⟩ : Vl)), (w.heap.size, (⟨vk, vn, vt⟩ : Vl))]) ∧ Hid (Below w.heap.size w wx))
              case first =>
                clear HL
                cases b27 with
                | true =>
                  cases b28 with
                  | true =>
                    cases b29 with
                    | true =>
                      have f0_0 : ((r9e : Int) == 0) = true := HA27.out
                      have f0_1 : ((r9e : Int) != 0) = false := by have h := HA27.out; simpa using h
                      have f1_0 : (veqB r9k r9n r9t vk vn vt) = true := HA28.out
                      have f2_0 : ((r10e : Int) == 0) = true := HA29.out
                      have f2_1 : ((r10e : Int) != 0) = false := by have h := HA29.out; simpa using h
                      have cb13_12_8_0 : W36.cell? ⟨g2, 0, none⟩ = some (.int .i64 r9k) := (B.out.get 0 rfl).c0
                      have cb13_12_8_1 : W36.cell? ⟨g2, 1, none⟩ = some (.int .i64 r9n) := (B.out.get 0 rfl).c1
                      have cb13_12_8_2 : W36.cell? ⟨g2, 2, none⟩ = some (.string ⟨List.toArray r9t⟩) := (B.out.get 0 rfl).c2
                      have cb3_0 : W36.cell? ⟨w.heap.size, 0, none⟩ = some (.int .i64 vk) := (B.out.get 3 rfl).c0
                      have cb3_1 : W36.cell? ⟨w.heap.size, 1, none⟩ = some (.int .i64 vn) := (B.out.get 3 rfl).c1
                      have cb3_2 : W36.cell? ⟨w.heap.size, 2, none⟩ = some (.string ⟨List.toArray vt⟩) := (B.out.get 3 rfl).c2
                      go_wp2_with fail
                      go_meet
                      exact ⟨rfl, B, BL⟩
                    | false =>
                      exact Bool.noConfusion (show true = false from HCC.out)
                  | false =>
                    exact Bool.noConfusion (show true = false from HCC.out)
                | false =>
                  exact Bool.noConfusion (show true = false from HCC.out)
              case rest =>
                clear B BL
                obtain ⟨rfl, B, BL⟩ := hcut
                obtain ⟨W37, hW⟩ : ∃ X, wc = X := ⟨_, rfl⟩
                rw [hW] at B BL ⊢
                clear hW
                clear HCC HA27 HA28 HA29
                replace HL := Lib.hid (show true = BigBack_s19 (⟨vk, vn, vt⟩ : Vl) (⟨uk, un, ut⟩ : Vl) s ((⟨r0k, r0n, r0t⟩, r0e) : Vl × Int) ((r8s, r8e) : List UInt8 × Int) ((⟨r9k, r9n, r9t⟩, r9e) : Vl × Int) ((r10m, r10e) : Int × Int) ((r11m, r11e) : Int × Int) from HL.out.trans ((if_neg (fun h => Bool.noConfusion (HCW.out.symm.trans h)))))
                -- region 17
                have cb3_0 : W37.cell? ⟨w.heap.size, 0, none⟩ = some (.int .i64 vk) := (B.out.get 3 rfl).c0
                have cb3_1 : W37.cell? ⟨w.heap.size, 1, none⟩ = some (.int .i64 vn) := (B.out.get 3 rfl).c1
                have cb3_2 : W37.cell? ⟨w.heap.size, 2, none⟩ = some (.string ⟨List.toArray vt⟩) := (B.out.get 3 rfl).c2
                have cb4_0 : W37.cell? ⟨gb4, 0, none⟩ = some (.int .i64 uk) := (B.out.get 2 rfl).c0
                have cb4_1 : W37.cell? ⟨gb4, 1, none⟩ = some (.int .i64 un) := (B.out.get 2 rfl).c1
                have cb4_2 : W37.cell? ⟨gb4, 2, none⟩ = some (.string ⟨List.toArray ut⟩) := (B.out.get 2 rfl).c2
                obtain ⟨⟨r12b, r12e⟩, hr12⟩ : ∃ p, lessR (⟨vk, vn, vt⟩ : Vl) (⟨uk, un, ut⟩ : Vl) = p := ⟨_, rfl⟩
                have hc12 := fun (W : World) (hW : Env W) => lessV (⟨vk, vn, vt⟩ : Vl) (⟨uk, un, ut⟩ : Vl) HOv.out HOu.out W hW
                rw [hr12] at hc12
                simp only [Vl.val] at hc12
                have HC12 := Lib.hid hc12; have HR12 := Lib.hid hr12
                clear hc12 hr12
                go_wp2_with fail
                refine (HC12.out _ (HE.out.below BL.out)).mono ?_
                rintro e W38 ⟨rfl, hb⟩
                clear cb3_0 cb3_1 cb3_2 cb4_0 cb4_1 cb4_2
                replace B := Lib.hid (B.out.below hb)
                replace BL := Lib.hid (below_then BL.out hb)
                clear hb
                go_upto_region 18 with fail
                replace HL := Lib.hid (show true = BigBack_s18 (⟨vk, vn, vt⟩ : Vl) (⟨uk, un, ut⟩ : Vl) s ((⟨r0k, r0n, r0t⟩, r0e) : Vl × Int) ((r8s, r8e) : List UInt8 × Int) ((⟨r9k, r9n, r9t⟩, r9e) : Vl × Int) ((r10m, r10e) : Int × Int) ((r11m, r11e) : Int × Int) ((r12b, r12e) : Bool × Int) from HL.out.trans (by unfold BigBack_s19; rw [HR12.out]))
                -- region 18, draws its order
                obtain ⟨⟨r13b, r13e⟩, hr13⟩ : ∃ p, lessR (⟨1, 0, []⟩ : Vl) (⟨vk, vn, vt⟩ : Vl) = p := ⟨_, rfl⟩
                have hc13 := fun (W : World) (hW : Env W) => lessV (⟨1, 0, []⟩ : Vl) (⟨vk, vn, vt⟩ : Vl) (num_ok 0 (by unfold Small64; omega)) HOv.out W hW
                rw [hr13] at hc13
                simp only [Vl.val] at hc13
                have HC13 := Lib.hid hc13; have HR13 := Lib.hid hr13
                clear hc13 hr13
                go_upto_region 18 with fail
                go_cut [21, 22] from 112 to 118 (fun s21 s22 wx => s21 = (.bool r13b) ∧ s22 = (.int .i64 r13e) ∧ Hid (Bxs wx [(g2, (⟨r9k, r9n, r9t⟩ : Vl)), (g0, (⟨r0k, r0n, r0t⟩ : Vl)), (gb4, (⟨uk, un, ut⟩ : Vl)), (w.heap.size, (⟨vk, vn, vt⟩ : Vl))]) ∧ Hid (Below w.heap.size w wx))
                case first =>
                  clear HL
                  refine wp_region_noPanic ?_
                  refine region_late (fun (X : World) => X.cell? ⟨w.heap.size, 0, none⟩ = some (.int .i64 vk) ∧ X.cell? ⟨w.heap.size, 1, none⟩ = some (.int .i64 vn) ∧ X.cell? ⟨w.heap.size, 2, none⟩ = some (.string ⟨List.toArray vt⟩)) (fun _ => false) (by kernel_rfl) ?_
                  have hb := (Below.refl W38.heap.size W38).drew
                  obtain ⟨W39, hW⟩ : ∃ X, W38.drew = X := ⟨_, rfl⟩
                  rw [hW] at hb ⊢
                  clear hW
                  replace B := Lib.hid (B.out.below hb)
                  replace BL := Lib.hid (below_then BL.out hb)
                  clear hb
                  have hHeld : W39.cell? ⟨w.heap.size, 0, none⟩ = some (.int .i64 vk) ∧ W39.cell? ⟨w.heap.size, 1, none⟩ = some (.int .i64 vn) ∧ W39.cell? ⟨w.heap.size, 2, none⟩ = some (.string ⟨List.toArray vt⟩) := ⟨(B.out.get 3 rfl).c0, (B.out.get 3 rfl).c1, (B.out.get 3 rfl).c2⟩
                  refine late_take_at (some 114) (i := 1) (v := (.agg #[.int .i64 vk, .int .i64 vn, .string ⟨List.toArray vt⟩])) rfl rfl rfl (by kernel_rfl) (by kernel_rfl) (by kernel_rfl) (by kernel_rfl) (fun _ _ _ h => h) clean_none (Or.inl ⟨by rfl, by intro w hSw; go_split_ands; go_simp⟩) hHeld ?_
                  try simp only [Act.put, List.setIfInBounds_toArray, List.set_cons_zero, List.set_cons_succ]
                  refine late_ready (rs := [0]) (by kernel_rfl) (by simp) ?_
                  refine AllLate.cons rfl (fun K hK => ?_) ?_
                  · skip
                    go_simp
                    refine (num_calls 0 _).mono ?_
                    rintro e W40 ⟨rfl, hb⟩
                    clear hHeld
                    replace B := Lib.hid (B.out.below hb)
                    replace BL := Lib.hid (below_then BL.out hb)
                    clear hb
                    have hHeld : W40.cell? ⟨w.heap.size, 0, none⟩ = some (.int .i64 vk) ∧ W40.cell? ⟨w.heap.size, 1, none⟩ = some (.int .i64 vn) ∧ W40.cell? ⟨w.heap.size, 2, none⟩ = some (.string ⟨List.toArray vt⟩) := ⟨(B.out.get 3 rfl).c0, (B.out.get 3 rfl).c1, (B.out.get 3 rfl).c2⟩
                    dsimp only
                    refine hK.out _ _ (fun _ => hHeld) ?_
                    clear hK K
                    try simp only [Act.put, List.setIfInBounds_toArray, List.set_cons_zero, List.set_cons_succ]
                    refine late_ready (rs := [2]) (by kernel_rfl) (by simp) ?_
                    refine AllLate.cons rfl (fun K hK => ?_) ?_
                    · skip
                      go_simp
                      refine (HC13.out _ (HE.out.below BL.out)).mono ?_
                      rintro e W41 ⟨rfl, hb⟩
                      clear hHeld
                      replace B := Lib.hid (B.out.below hb)
                      replace BL := Lib.hid (below_then BL.out hb)
                      clear hb
                      have hHeld : W41.cell? ⟨w.heap.size, 0, none⟩ = some (.int .i64 vk) ∧ W41.cell? ⟨w.heap.size, 1, none⟩ = some (.int .i64 vn) ∧ W41.cell? ⟨w.heap.size, 2, none⟩ = some (.string ⟨List.toArray vt⟩) := ⟨(B.out.get 3 rfl).c0, (B.out.get 3 rfl).c1, (B.out.get 3 rfl).c2⟩
                      dsimp only
                      refine hK.out _ _ (fun _ => hHeld) ?_
                      clear hK K
                      try simp only [Act.put, List.setIfInBounds_toArray, List.set_cons_zero, List.set_cons_succ]
                      refine late_pure_at (some 112) (i := 3) (v := (.tuple #[(.bool r13b), (.int .i64 r13e)])) rfl rfl rfl (by kernel_rfl) (by kernel_rfl) (by kernel_rfl) (fun _ _ _ h => h) (Or.inl ⟨by rfl, by intro w _; go_simp⟩) (fun _ => hHeld) ?_
                      try simp only [Act.put, List.setIfInBounds_toArray, List.set_cons_zero, List.set_cons_succ]
                      refine late_pure_at (some 116) (i := 4) (v := (.bool r13b)) rfl rfl rfl (by kernel_rfl) (by kernel_rfl) (by kernel_rfl) (fun _ _ _ h => h) (Or.inl ⟨by rfl, by intro w _; go_simp⟩) (fun _ => hHeld) ?_
                      try simp only [Act.put, List.setIfInBounds_toArray, List.set_cons_zero, List.set_cons_succ]
                      refine late_pure_at (some 117) (i := 5) (v := (.int .i64 r13e)) rfl rfl rfl (by kernel_rfl) (by kernel_rfl) (by kernel_rfl) (fun _ _ _ h => h) (Or.inl ⟨by rfl, by intro w _; go_simp⟩) (fun _ => hHeld) ?_
                      try simp only [Act.put, List.setIfInBounds_toArray, List.set_cons_zero, List.set_cons_succ]
                      refine late_pure_at (some 21) (i := 6) (v := (.bool r13b)) rfl rfl rfl (by kernel_rfl) (by kernel_rfl) (by kernel_rfl) (fun _ _ _ h => h) (Or.inl ⟨by rfl, by intro w _; go_simp⟩) (fun _ => hHeld) ?_
                      try simp only [Act.put, List.setIfInBounds_toArray, List.set_cons_zero, List.set_cons_succ]
                      refine late_pure_at (some 22) (i := 7) (v := (.int .i64 r13e)) rfl rfl rfl (by kernel_rfl) (by kernel_rfl) (by kernel_rfl) (fun _ _ _ h => h) (Or.inl ⟨by rfl, by intro w _; go_simp⟩) (fun _ => hHeld) ?_
                      try simp only [Act.put, List.setIfInBounds_toArray, List.set_cons_zero, List.set_cons_succ]
                      refine late_done (by kernel_rfl) ?_ _
                      refine NoPanic.normal ?_
                      go_wp2_with fail
                      go_meet
                      exact ⟨rfl, rfl, B, BL⟩
                    exact AllLate.nil
                  exact AllLate.nil
                case rest =>
                  clear B BL
                  obtain ⟨rfl, rfl, B, BL⟩ := hcut
                  obtain ⟨W42, hW⟩ : ∃ X, wc = X := ⟨_, rfl⟩
                  rw [hW] at B BL ⊢
                  clear hW
                  replace HL := Lib.hid (show true = BigBack_s17 (⟨vk, vn, vt⟩ : Vl) (⟨uk, un, ut⟩ : Vl) s ((⟨r0k, r0n, r0t⟩, r0e) : Vl × Int) ((r8s, r8e) : List UInt8 × Int) ((⟨r9k, r9n, r9t⟩, r9e) : Vl × Int) ((r10m, r10e) : Int × Int) ((r11m, r11e) : Int × Int) ((r12b, r12e) : Bool × Int) ((r13b, r13e) : Bool × Int) from HL.out.trans (by unfold BigBack_s18; rw [HR13.out]))
                  -- region 19, the end
                  obtain ⟨b31, h⟩ : ∃ b : Bool, (r11e == 0) = b := ⟨_, rfl⟩
                  have HA31 := Lib.hid h
                  clear h
                  obtain ⟨b32, h⟩ : ∃ b : Bool, (r12e == 0) = b := ⟨_, rfl⟩
                  have HA32 := Lib.hid h
                  clear h
                  obtain ⟨b33, h⟩ : ∃ b : Bool, (r13e == 0) = b := ⟨_, rfl⟩
                  have HA33 := Lib.hid h
                  clear h
                  obtain ⟨b34, h⟩ : ∃ b : Bool, (decide ((r10m : Int) < r11m)) = b := ⟨_, rfl⟩
                  have HA34 := Lib.hid h
                  clear h
                  obtain ⟨b35, h⟩ : ∃ b : Bool, (uk == 1) = b := ⟨_, rfl⟩
                  have HA35 := Lib.hid h
                  clear h
                  obtain ⟨b36, h⟩ : ∃ b : Bool, (decide ((un : Int) < 0)) = b := ⟨_, rfl⟩
                  have HA36 := Lib.hid h
                  clear h
                  obtain ⟨b37, h⟩ : ∃ b : Bool, (decide ((0 : Int) < ((ut.length : Nat) : Int))) = b := ⟨_, rfl⟩
                  have HA37 := Lib.hid h
                  clear h
                  obtain ⟨b38, h⟩ : ∃ b : Bool, (ut.head? == some 45) = b := ⟨_, rfl⟩
                  have HA38 := Lib.hid h
                  clear h
                  cases b31 with
                  | true =>
                    cases b32 with
                    | true =>
                      cases b33 with
                      | true =>
                        cases r13b with
                        | true =>
                          cases b34 with
                          | true =>
                            cases r12b with
                            | true =>
                              clear HL
                              have f0_0 : ((r11e : Int) == 0) = true := HA31.out
                              have f0_1 : ((r11e : Int) != 0) = false := by have h := HA31.out; simpa using h
                              have f1_0 : ((r12e : Int) == 0) = true := HA32.out
                              have f1_1 : ((r12e : Int) != 0) = false := by have h := HA32.out; simpa using h
                              have f2_0 : ((r13e : Int) == 0) = true := HA33.out
                              have f2_1 : ((r13e : Int) != 0) = false := by have h := HA33.out; simpa using h
                              have f3_0 : decide ((r10m : Int) < r11m) = true := HA34.out
                              have f3_1 : decide ((r11m : Int) ≤ r10m) = false := by have h := HA34.out; simp only [decide_eq_true_eq, decide_eq_false_iff_not] at h ⊢; omega
                              go_wp2_with fail
                              go_ret
                              exact ⟨rfl, BL.out⟩
                            | false =>
                              cases b35 with
                              | true =>
                                cases b36 with
                                | true =>
                                  clear HL
                                  have f0_0 : ((r11e : Int) == 0) = true := HA31.out
                                  have f0_1 : ((r11e : Int) != 0) = false := by have h := HA31.out; simpa using h
                                  have f1_0 : ((r12e : Int) == 0) = true := HA32.out
                                  have f1_1 : ((r12e : Int) != 0) = false := by have h := HA32.out; simpa using h
                                  have f2_0 : ((r13e : Int) == 0) = true := HA33.out
                                  have f2_1 : ((r13e : Int) != 0) = false := by have h := HA33.out; simpa using h
                                  have f3_0 : decide ((r10m : Int) < r11m) = true := HA34.out
                                  have f3_1 : decide ((r11m : Int) ≤ r10m) = false := by have h := HA34.out; simp only [decide_eq_true_eq, decide_eq_false_iff_not] at h ⊢; omega
                                  have f4_0 : ((uk : Int) == 1) = true := HA35.out
                                  have f4_1 : ((uk : Int) != 1) = false := by have h := HA35.out; simpa using h
                                  have f5_0 : decide ((un : Int) < 0) = true := HA36.out
                                  have f5_1 : decide ((0 : Int) ≤ un) = false := by have h := HA36.out; simp only [decide_eq_true_eq, decide_eq_false_iff_not] at h ⊢; omega
                                  have cb4_0 : W42.cell? ⟨gb4, 0, none⟩ = some (.int .i64 uk) := (B.out.get 2 rfl).c0
                                  have cb4_1 : W42.cell? ⟨gb4, 1, none⟩ = some (.int .i64 un) := (B.out.get 2 rfl).c1
                                  have cb4_2 : W42.cell? ⟨gb4, 2, none⟩ = some (.string ⟨List.toArray ut⟩) := (B.out.get 2 rfl).c2
                                  go_wp2_with fail
                                  go_ret
                                  exact ⟨rfl, BL.out⟩
                                | false =>
                                  cases b37 with
                                  | true =>
                                    cases b38 with
                                    | true =>
                                      clear HL
                                      have f0_0 : ((r11e : Int) == 0) = true := HA31.out
                                      have f0_1 : ((r11e : Int) != 0) = false := by have h := HA31.out; simpa using h
                                      have f1_0 : ((r12e : Int) == 0) = true := HA32.out
                                      have f1_1 : ((r12e : Int) != 0) = false := by have h := HA32.out; simpa using h
                                      have f2_0 : ((r13e : Int) == 0) = true := HA33.out
                                      have f2_1 : ((r13e : Int) != 0) = false := by have h := HA33.out; simpa using h
                                      have f3_0 : decide ((r10m : Int) < r11m) = true := HA34.out
                                      have f3_1 : decide ((r11m : Int) ≤ r10m) = false := by have h := HA34.out; simp only [decide_eq_true_eq, decide_eq_false_iff_not] at h ⊢; omega
                                      have f4_0 : ((uk : Int) == 1) = true := HA35.out
                                      have f4_1 : ((uk : Int) != 1) = false := by have h := HA35.out; simpa using h
                                      have f5_0 : decide ((un : Int) < 0) = false := HA36.out
                                      have f5_1 : decide ((0 : Int) ≤ un) = true := by have h := HA36.out; simp only [decide_eq_true_eq, decide_eq_false_iff_not] at h ⊢; omega
                                      have f6_0 : decide ((0 : Int) < ((ut.length : Nat) : Int)) = true := HA37.out
                                      have f6_1 : decide ((((ut.length : Nat) : Int) : Int) ≤ 0) = false := by have h := HA37.out; simp only [decide_eq_true_eq, decide_eq_false_iff_not] at h ⊢; omega
                                      have f6_2 : 0 < ut.length := by have h := HA37.out; simp only [decide_eq_true_eq] at h; omega
                                      have f7_0 : ∀ h : 0 < (⟨List.toArray ut⟩ : ByteArray).size, (((((⟨List.toArray ut⟩ : ByteArray)[0]'h).toNat : Nat) : Int) == 45) = true := fun h => (head_byte ut h).trans HA38.out
                                      have cb4_0 : W42.cell? ⟨gb4, 0, none⟩ = some (.int .i64 uk) := (B.out.get 2 rfl).c0
                                      have cb4_1 : W42.cell? ⟨gb4, 1, none⟩ = some (.int .i64 un) := (B.out.get 2 rfl).c1
                                      have cb4_2 : W42.cell? ⟨gb4, 2, none⟩ = some (.string ⟨List.toArray ut⟩) := (B.out.get 2 rfl).c2
                                      go_wp2_with fail
                                      go_ret
                                      exact ⟨rfl, BL.out⟩
                                    | false =>
                                      exact Bool.noConfusion (show true = false from HL.out.trans (by show (true && ((!(r11e == 0)) || (((r12e == 0) && (r13e == 0)) && (((((!true) || (!(decide ((r10m : Int) < r11m)))) || false) || ((uk == 1) && (decide ((un : Int) < 0)))) || ((decide ((0 : Int) < ((ut.length : Nat) : Int))) && (ut.head? == some 45)))))) = false; rw [HA31.out, HA32.out, HA33.out, HA34.out, HA35.out, HA36.out, HA37.out, HA38.out]; rfl))
                                  | false =>
                                    exact Bool.noConfusion (show true = false from HL.out.trans (by show (true && ((!(r11e == 0)) || (((r12e == 0) && (r13e == 0)) && (((((!true) || (!(decide ((r10m : Int) < r11m)))) || false) || ((uk == 1) && (decide ((un : Int) < 0)))) || ((decide ((0 : Int) < ((ut.length : Nat) : Int))) && (ut.head? == some 45)))))) = false; rw [HA31.out, HA32.out, HA33.out, HA34.out, HA35.out, HA36.out, HA37.out]; rfl))
                              | false =>
                                cases b37 with
                                | true =>
                                  cases b38 with
                                  | true =>
                                    clear HL
                                    have f0_0 : ((r11e : Int) == 0) = true := HA31.out
                                    have f0_1 : ((r11e : Int) != 0) = false := by have h := HA31.out; simpa using h
                                    have f1_0 : ((r12e : Int) == 0) = true := HA32.out
                                    have f1_1 : ((r12e : Int) != 0) = false := by have h := HA32.out; simpa using h
                                    have f2_0 : ((r13e : Int) == 0) = true := HA33.out
                                    have f2_1 : ((r13e : Int) != 0) = false := by have h := HA33.out; simpa using h
                                    have f3_0 : decide ((r10m : Int) < r11m) = true := HA34.out
                                    have f3_1 : decide ((r11m : Int) ≤ r10m) = false := by have h := HA34.out; simp only [decide_eq_true_eq, decide_eq_false_iff_not] at h ⊢; omega
                                    have f4_0 : ((uk : Int) == 1) = false := HA35.out
                                    have f4_1 : ((uk : Int) != 1) = true := by have h := HA35.out; simpa using h
                                    have f6_0 : decide ((0 : Int) < ((ut.length : Nat) : Int)) = true := HA37.out
                                    have f6_1 : decide ((((ut.length : Nat) : Int) : Int) ≤ 0) = false := by have h := HA37.out; simp only [decide_eq_true_eq, decide_eq_false_iff_not] at h ⊢; omega
                                    have f6_2 : 0 < ut.length := by have h := HA37.out; simp only [decide_eq_true_eq] at h; omega
                                    have f7_0 : ∀ h : 0 < (⟨List.toArray ut⟩ : ByteArray).size, (((((⟨List.toArray ut⟩ : ByteArray)[0]'h).toNat : Nat) : Int) == 45) = true := fun h => (head_byte ut h).trans HA38.out
                                    have cb4_0 : W42.cell? ⟨gb4, 0, none⟩ = some (.int .i64 uk) := (B.out.get 2 rfl).c0
                                    have cb4_1 : W42.cell? ⟨gb4, 1, none⟩ = some (.int .i64 un) := (B.out.get 2 rfl).c1
                                    have cb4_2 : W42.cell? ⟨gb4, 2, none⟩ = some (.string ⟨List.toArray ut⟩) := (B.out.get 2 rfl).c2
                                    go_wp2_with fail
                                    go_ret
                                    exact ⟨rfl, BL.out⟩
                                  | false =>
                                    exact Bool.noConfusion (show true = false from HL.out.trans (by show (true && ((!(r11e == 0)) || (((r12e == 0) && (r13e == 0)) && (((((!true) || (!(decide ((r10m : Int) < r11m)))) || false) || ((uk == 1) && (decide ((un : Int) < 0)))) || ((decide ((0 : Int) < ((ut.length : Nat) : Int))) && (ut.head? == some 45)))))) = false; rw [HA31.out, HA32.out, HA33.out, HA34.out, HA35.out, HA37.out, HA38.out]; rfl))
                                | false =>
                                  exact Bool.noConfusion (show true = false from HL.out.trans (by show (true && ((!(r11e == 0)) || (((r12e == 0) && (r13e == 0)) && (((((!true) || (!(decide ((r10m : Int) < r11m)))) || false) || ((uk == 1) && (decide ((un : Int) < 0)))) || ((decide ((0 : Int) < ((ut.length : Nat) : Int))) && (ut.head? == some 45)))))) = false; rw [HA31.out, HA32.out, HA33.out, HA34.out, HA35.out, HA37.out]; rfl))
                          | false =>
                            clear HL
                            have f0_0 : ((r11e : Int) == 0) = true := HA31.out
                            have f0_1 : ((r11e : Int) != 0) = false := by have h := HA31.out; simpa using h
                            have f1_0 : ((r12e : Int) == 0) = true := HA32.out
                            have f1_1 : ((r12e : Int) != 0) = false := by have h := HA32.out; simpa using h
                            have f2_0 : ((r13e : Int) == 0) = true := HA33.out
                            have f2_1 : ((r13e : Int) != 0) = false := by have h := HA33.out; simpa using h
                            have f3_0 : decide ((r10m : Int) < r11m) = false := HA34.out
                            have f3_1 : decide ((r11m : Int) ≤ r10m) = true := by have h := HA34.out; simp only [decide_eq_true_eq, decide_eq_false_iff_not] at h ⊢; omega
                            go_wp2_with fail
                            go_ret
                            exact ⟨rfl, BL.out⟩
                        | false =>
                          clear HL
                          have f0_0 : ((r11e : Int) == 0) = true := HA31.out
                          have f0_1 : ((r11e : Int) != 0) = false := by have h := HA31.out; simpa using h
                          have f1_0 : ((r12e : Int) == 0) = true := HA32.out
                          have f1_1 : ((r12e : Int) != 0) = false := by have h := HA32.out; simpa using h
                          have f2_0 : ((r13e : Int) == 0) = true := HA33.out
                          have f2_1 : ((r13e : Int) != 0) = false := by have h := HA33.out; simpa using h
                          go_wp2_with fail
                          go_ret
                          exact ⟨rfl, BL.out⟩
                      | false =>
                        exact Bool.noConfusion (show true = false from HL.out.trans (by show (true && ((!(r11e == 0)) || (((r12e == 0) && (r13e == 0)) && (((((!r13b) || (!(decide ((r10m : Int) < r11m)))) || r12b) || ((uk == 1) && (decide ((un : Int) < 0)))) || ((decide ((0 : Int) < ((ut.length : Nat) : Int))) && (ut.head? == some 45)))))) = false; rw [HA31.out, HA32.out, HA33.out]; rfl))
                    | false =>
                      exact Bool.noConfusion (show true = false from HL.out.trans (by show (true && ((!(r11e == 0)) || (((r12e == 0) && (r13e == 0)) && (((((!r13b) || (!(decide ((r10m : Int) < r11m)))) || r12b) || ((uk == 1) && (decide ((un : Int) < 0)))) || ((decide ((0 : Int) < ((ut.length : Nat) : Int))) && (ut.head? == some 45)))))) = false; rw [HA31.out, HA32.out]; rfl))
                  | false =>
                    clear HL
                    have f0_0 : ((r11e : Int) == 0) = false := HA31.out
                    have f0_1 : ((r11e : Int) != 0) = true := by have h := HA31.out; simpa using h
                    go_wp2_with fail
                    go_ret
                    exact ⟨rfl, BL.out⟩
end Go.Proofs.YthjpbbbmnmhmmaaGreatDoor
