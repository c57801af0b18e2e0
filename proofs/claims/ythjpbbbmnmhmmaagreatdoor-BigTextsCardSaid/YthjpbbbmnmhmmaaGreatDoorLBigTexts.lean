import Derived.Test.YthjpbbbmnmhmmaaGreatDoorA31
import Derived.Test.YthjpbbbmnmhmmaaGreatDoorRf2
set_option linter.unusedVariables false
set_option linter.unusedSimpArgs false
namespace Go.Proofs.YthjpbbbmnmhmmaaGreatDoor
open Go.RowKit Go.Shelf Go.Lib
attribute [local go_sem ↓] run_val_eql run_val_neq

def BigTexts_s0 (v : Vl) (s : List UInt8) : Bool := true
def BigTexts_s1 (v : Vl) (s : List UInt8) (r0 : Vl × Int) (r1 : Vl × Int) (r2 : List UInt8 × Int) (r3 : List UInt8 × Int) (r4 : Int × Int) (r5 : Int × Int) : Bool := (((((((true && ((checkR v) == (checkR v))) && (veq r0.1 r1.1)) && (r0.2 == r1.2)) && (r2.1 == r3.1)) && (r2.2 == r3.2)) && (r4.1 == r5.1)) && (r4.2 == r5.2))
def BigTexts_s2 (v : Vl) (s : List UInt8) (r0 : Vl × Int) (r1 : Vl × Int) (r2 : List UInt8 × Int) (r3 : List UInt8 × Int) (r4 : Int × Int) : Bool := BigTexts_s1 v s r0 r1 r2 r3 r4 (digitsR v)
def BigTexts_s3 (v : Vl) (s : List UInt8) (r0 : Vl × Int) (r1 : Vl × Int) (r2 : List UInt8 × Int) (r3 : List UInt8 × Int) : Bool := BigTexts_s2 v s r0 r1 r2 r3 (digitsR v)
def BigTexts_s4 (v : Vl) (s : List UInt8) (r0 : Vl × Int) (r1 : Vl × Int) (r2 : List UInt8 × Int) : Bool := BigTexts_s3 v s r0 r1 r2 (textR v)
def BigTexts_s5 (v : Vl) (s : List UInt8) (r0 : Vl × Int) (r1 : Vl × Int) : Bool := BigTexts_s4 v s r0 r1 (textR v)
def BigTexts_s6 (v : Vl) (s : List UInt8) (r0 : Vl × Int) : Bool := BigTexts_s5 v s r0 (ofR s)
def BigTexts_s7 (v : Vl) (s : List UInt8) : Bool := BigTexts_s6 v s (ofR s)
def BigTexts_s8 (v : Vl) (s : List UInt8) : Bool := if ((!(shortB v)) || (decide ((800 : Int) < ((s.length : Nat) : Int)))) = true then BigTexts_s0 v s else BigTexts_s7 v s

set_option maxRecDepth 100000 in
set_option maxHeartbeats 16000000 in
theorem walk_BigTexts (v : Vl) (s : List UInt8) (hv : v.inp) (hs : s.length ≤ 9223372036854775807) (w : World) (hE : Env w) (hr : true = BigTexts_s8 v s) :
    Calls Tryz.prog 13 #[v.val, .string ⟨s.toArray⟩] w fun e w' => e = .returned (.bool true) ∧ Below w.heap.size w w' := by
  obtain ⟨vk, vn, vt⟩ := v
  have HIv := Lib.hid hv
  have HIs := Lib.hid hs
  have HE := Lib.hid hE
  have HL := Lib.hid hr
  clear hE hr hv hs
  simp only [Vl.val]
  go_enter Tryz.func13, Tryz.ntmps13
  go_upto_region 1 with fail
  have hB : Bxs (w.alloc (.cells #[.int .i64 vk, .int .i64 vn, .string ⟨List.toArray vt⟩] 23)) [(w.heap.size, (⟨vk, vn, vt⟩ : Vl))] := by
    have h := ((show Bxs w [] from trivial).push (⟨vk, vn, vt⟩ : Vl) 23)
    simpa only [World.size_alloc] using h
  have hL : Below w.heap.size w (w.alloc (.cells #[.int .i64 vk, .int .i64 vn, .string ⟨List.toArray vt⟩] 23)) := ((Below.refl w.heap.size w).alloc (Nat.le_refl _) (.cells #[.int .i64 vk, .int .i64 vn, .string ⟨List.toArray vt⟩] 23))
  obtain ⟨W1, hW⟩ : ∃ X, (w.alloc (.cells #[.int .i64 vk, .int .i64 vn, .string ⟨List.toArray vt⟩] 23)) = X := ⟨_, rfl⟩
  rw [hW] at hB hL ⊢
  clear hW
  have HGb2 : Hid (w.heap.size ≤ w.heap.size) := Lib.hid (Nat.le_refl _)
  have B := Lib.hid hB
  have BL := Lib.hid hL
  clear hB hL
  -- region 1
  go_wp2_with fail
  refine (awakeV _ (HE.out.below BL.out)).mono ?_
  rintro e W2 ⟨rfl, hb⟩
  replace B := Lib.hid (B.out.below hb)
  replace BL := Lib.hid (below_then BL.out hb)
  clear hb
  go_upto_region 2 with fail
  -- region 2, a test
  obtain ⟨b0, h⟩ : ∃ b : Bool, (shortB (⟨vk, vn, vt⟩ : Vl)) = b := ⟨_, rfl⟩
  have HA0 := Lib.hid h
  clear h
  obtain ⟨b1, h⟩ : ∃ b : Bool, (decide ((800 : Int) < ((s.length : Nat) : Int))) = b := ⟨_, rfl⟩
  have HA1 := Lib.hid h
  clear h
  obtain ⟨c1, h⟩ : ∃ c : Bool, ((!b0) || b1) = c := ⟨_, rfl⟩
  have HCC := Lib.hid h
  clear h
  go_upto_region 2 with fail
  go_cut [26] from 19 to 26 (fun v wx => v = .bool c1 ∧ Hid (Bxs wx [(w.heap.size, (⟨vk, vn, vt⟩ : Vl))]) ∧ Hid (Below w.heap.size w wx))
  case first =>
    clear HL
    cases b0 with
    | true =>
      cases b1 with
      | true =>
        have f1_0 : decide ((800 : Int) < ((s.length : Nat) : Int)) = true := HA1.out
        have f1_1 : decide ((((s.length : Nat) : Int) : Int) ≤ 800) = false := by have h := HA1.out; simp only [decide_eq_true_eq, decide_eq_false_iff_not] at h ⊢; omega
        have cb2_0 : W2.cell? ⟨w.heap.size, 0, none⟩ = some (.int .i64 vk) := (B.out.get 0 rfl).c0
        have cb2_1 : W2.cell? ⟨w.heap.size, 1, none⟩ = some (.int .i64 vn) := (B.out.get 0 rfl).c1
        have cb2_2 : W2.cell? ⟨w.heap.size, 2, none⟩ = some (.string ⟨List.toArray vt⟩) := (B.out.get 0 rfl).c2
        go_wp2_with fail
        refine (short_calls vk vn vt HIv.out.2 _).mono ?_
        rw [HA0.out]
        rintro e W3 ⟨rfl, hb⟩
        clear cb2_0 cb2_1 cb2_2
        replace B := Lib.hid (B.out.below hb)
        replace BL := Lib.hid (below_then BL.out hb)
        clear hb
        have cb2_0 : W3.cell? ⟨w.heap.size, 0, none⟩ = some (.int .i64 vk) := (B.out.get 0 rfl).c0
        have cb2_1 : W3.cell? ⟨w.heap.size, 1, none⟩ = some (.int .i64 vn) := (B.out.get 0 rfl).c1
        have cb2_2 : W3.cell? ⟨w.heap.size, 2, none⟩ = some (.string ⟨List.toArray vt⟩) := (B.out.get 0 rfl).c2
        go_wp2_with fail
        go_meet
        exact ⟨congrArg Value.bool HCC.out, B, BL⟩
      | false =>
        have f1_0 : decide ((800 : Int) < ((s.length : Nat) : Int)) = false := HA1.out
        have f1_1 : decide ((((s.length : Nat) : Int) : Int) ≤ 800) = true := by have h := HA1.out; simp only [decide_eq_true_eq, decide_eq_false_iff_not] at h ⊢; omega
        have cb2_0 : W2.cell? ⟨w.heap.size, 0, none⟩ = some (.int .i64 vk) := (B.out.get 0 rfl).c0
        have cb2_1 : W2.cell? ⟨w.heap.size, 1, none⟩ = some (.int .i64 vn) := (B.out.get 0 rfl).c1
        have cb2_2 : W2.cell? ⟨w.heap.size, 2, none⟩ = some (.string ⟨List.toArray vt⟩) := (B.out.get 0 rfl).c2
        go_wp2_with fail
        refine (short_calls vk vn vt HIv.out.2 _).mono ?_
        rw [HA0.out]
        rintro e W4 ⟨rfl, hb⟩
        clear cb2_0 cb2_1 cb2_2
        replace B := Lib.hid (B.out.below hb)
        replace BL := Lib.hid (below_then BL.out hb)
        clear hb
        have cb2_0 : W4.cell? ⟨w.heap.size, 0, none⟩ = some (.int .i64 vk) := (B.out.get 0 rfl).c0
        have cb2_1 : W4.cell? ⟨w.heap.size, 1, none⟩ = some (.int .i64 vn) := (B.out.get 0 rfl).c1
        have cb2_2 : W4.cell? ⟨w.heap.size, 2, none⟩ = some (.string ⟨List.toArray vt⟩) := (B.out.get 0 rfl).c2
        go_wp2_with fail
        go_meet
        exact ⟨congrArg Value.bool HCC.out, B, BL⟩
    | false =>
      have cb2_0 : W2.cell? ⟨w.heap.size, 0, none⟩ = some (.int .i64 vk) := (B.out.get 0 rfl).c0
      have cb2_1 : W2.cell? ⟨w.heap.size, 1, none⟩ = some (.int .i64 vn) := (B.out.get 0 rfl).c1
      have cb2_2 : W2.cell? ⟨w.heap.size, 2, none⟩ = some (.string ⟨List.toArray vt⟩) := (B.out.get 0 rfl).c2
      go_wp2_with fail
      refine (short_calls vk vn vt HIv.out.2 _).mono ?_
      rw [HA0.out]
      rintro e W5 ⟨rfl, hb⟩
      clear cb2_0 cb2_1 cb2_2
      replace B := Lib.hid (B.out.below hb)
      replace BL := Lib.hid (below_then BL.out hb)
      clear hb
      have cb2_0 : W5.cell? ⟨w.heap.size, 0, none⟩ = some (.int .i64 vk) := (B.out.get 0 rfl).c0
      have cb2_1 : W5.cell? ⟨w.heap.size, 1, none⟩ = some (.int .i64 vn) := (B.out.get 0 rfl).c1
      have cb2_2 : W5.cell? ⟨w.heap.size, 2, none⟩ = some (.string ⟨List.toArray vt⟩) := (B.out.get 0 rfl).c2
      go_wp2_with fail
      go_meet
      exact ⟨congrArg Value.bool HCC.out, B, BL⟩
  case rest =>
    clear B BL
    obtain ⟨rfl, B, BL⟩ := hcut
    obtain ⟨W6, hW⟩ : ∃ X, wc = X := ⟨_, rfl⟩
    rw [hW] at B BL ⊢
    clear hW
    have HCW : Hid (((!(shortB (⟨vk, vn, vt⟩ : Vl))) || (decide ((800 : Int) < ((s.length : Nat) : Int)))) = c1) := Lib.hid (by rw [HA0.out, HA1.out]; exact HCC.out)
    clear HCC HA0 HA1
    cases c1 with
    | true =>
      replace HL := Lib.hid (show true = BigTexts_s0 (⟨vk, vn, vt⟩ : Vl) s from HL.out.trans (if_pos HCW.out))
      go_wp2_with fail
      go_ret
      exact ⟨rfl, BL.out⟩
    | false =>
      have HOv : Hid (Vl.ok (⟨vk, vn, vt⟩ : Vl)) := Lib.hid ⟨HIv.out.1, by have h := HCW.out; simp [shortB] at h; show vt.length ≤ 100000; omega⟩
      have HSs : Hid (s.length ≤ 100000) := Lib.hid (by have h := HCW.out; simp [shortB] at h; omega)
      replace HL := Lib.hid (show true = BigTexts_s7 (⟨vk, vn, vt⟩ : Vl) s from HL.out.trans ((if_neg (fun h => Bool.noConfusion (HCW.out.symm.trans h)))))
      -- region 4
      obtain ⟨⟨⟨r0k, r0n, r0t⟩, r0e⟩, hr0⟩ : ∃ p, ofR s = p := ⟨_, rfl⟩
      have hc0 := fun (W : World) (hW : Env W) => ofV s HSs.out W hW
      have ho0 := ofR_ok s
      rw [hr0] at hc0 ho0
      simp only [Vl.val, pr] at hc0
      have HC0 := Lib.hid hc0; have HOr0 : Hid (Vl.ok ⟨r0k, r0n, r0t⟩) := Lib.hid ho0; have HR0 := Lib.hid hr0
      clear hc0 ho0 hr0
      go_wp2_with fail
      refine (HC0.out _ (HE.out.below BL.out)).mono ?_
      rintro e W7 ⟨rfl, hb⟩
      replace B := Lib.hid (B.out.below hb)
      replace BL := Lib.hid (below_then BL.out hb)
      clear hb
      go_upto_region 5 with fail
      have hB : Bxs (W7.alloc (.cells #[.int .i64 r0k, .int .i64 r0n, .string ⟨List.toArray r0t⟩] 23)) ((W7.heap.size, (⟨r0k, r0n, r0t⟩ : Vl)) :: [(w.heap.size, (⟨vk, vn, vt⟩ : Vl))]) := B.out.push (⟨r0k, r0n, r0t⟩ : Vl) 23
      have hL : Below w.heap.size w (W7.alloc (.cells #[.int .i64 r0k, .int .i64 r0n, .string ⟨List.toArray r0t⟩] 23)) := BL.out.alloc BL.out.size _
      obtain ⟨W8, hW⟩ : ∃ X, W7.alloc (.cells #[.int .i64 r0k, .int .i64 r0n, .string ⟨List.toArray r0t⟩] 23) = X := ⟨_, rfl⟩
      obtain ⟨g0, hg⟩ : ∃ g, W7.heap.size = g := ⟨_, rfl⟩
      rw [hW] at hB hL ⊢
      rw [hg] at hB ⊢
      have HGb6_4_1 : Hid (w.heap.size ≤ g0) := Lib.hid (by rw [← hg]; exact BL.out.size)
      replace B := Lib.hid hB
      replace BL := Lib.hid hL
      clear hB hL hW hg
      replace HL := Lib.hid (show true = BigTexts_s6 (⟨vk, vn, vt⟩ : Vl) s ((⟨r0k, r0n, r0t⟩, r0e) : Vl × Int) from HL.out.trans (by unfold BigTexts_s7; rw [HR0.out]))
      -- region 5
      obtain ⟨⟨⟨r1k, r1n, r1t⟩, r1e⟩, hr1⟩ : ∃ p, ofR s = p := ⟨_, rfl⟩
      have hc1 := fun (W : World) (hW : Env W) => rofV s HSs.out W hW
      have ho1 := ofR_ok s
      rw [hr1] at hc1 ho1
      simp only [Vl.val, pr] at hc1
      have HC1 := Lib.hid hc1; have HOr1 : Hid (Vl.ok ⟨r1k, r1n, r1t⟩) := Lib.hid ho1; have HR1 := Lib.hid hr1
      clear hc1 ho1 hr1
      go_wp2_with fail
      refine (HC1.out _ (HE.out.below BL.out)).mono ?_
      rintro e W9 ⟨rfl, hb⟩
      replace B := Lib.hid (B.out.below hb)
      replace BL := Lib.hid (below_then BL.out hb)
      clear hb
      go_upto_region 6 with fail
      have hB : Bxs (W9.alloc (.cells #[.int .i64 r1k, .int .i64 r1n, .string ⟨List.toArray r1t⟩] 23)) ((W9.heap.size, (⟨r1k, r1n, r1t⟩ : Vl)) :: [(g0, (⟨r0k, r0n, r0t⟩ : Vl)), (w.heap.size, (⟨vk, vn, vt⟩ : Vl))]) := B.out.push (⟨r1k, r1n, r1t⟩ : Vl) 23
      have hL : Below w.heap.size w (W9.alloc (.cells #[.int .i64 r1k, .int .i64 r1n, .string ⟨List.toArray r1t⟩] 23)) := BL.out.alloc BL.out.size _
      obtain ⟨W10, hW⟩ : ∃ X, W9.alloc (.cells #[.int .i64 r1k, .int .i64 r1n, .string ⟨List.toArray r1t⟩] 23) = X := ⟨_, rfl⟩
      obtain ⟨g1, hg⟩ : ∃ g, W9.heap.size = g := ⟨_, rfl⟩
      rw [hW] at hB hL ⊢
      rw [hg] at hB ⊢
      have HGb8_5_2 : Hid (w.heap.size ≤ g1) := Lib.hid (by rw [← hg]; exact BL.out.size)
      replace B := Lib.hid hB
      replace BL := Lib.hid hL
      clear hB hL hW hg
      replace HL := Lib.hid (show true = BigTexts_s5 (⟨vk, vn, vt⟩ : Vl) s ((⟨r0k, r0n, r0t⟩, r0e) : Vl × Int) ((⟨r1k, r1n, r1t⟩, r1e) : Vl × Int) from HL.out.trans (by unfold BigTexts_s6; rw [HR1.out]))
      -- region 6
      have cb2_0 : W10.cell? ⟨w.heap.size, 0, none⟩ = some (.int .i64 vk) := (B.out.get 2 rfl).c0
      have cb2_1 : W10.cell? ⟨w.heap.size, 1, none⟩ = some (.int .i64 vn) := (B.out.get 2 rfl).c1
      have cb2_2 : W10.cell? ⟨w.heap.size, 2, none⟩ = some (.string ⟨List.toArray vt⟩) := (B.out.get 2 rfl).c2
      obtain ⟨⟨r2s, r2e⟩, hr2⟩ : ∃ p, textR (⟨vk, vn, vt⟩ : Vl) = p := ⟨_, rfl⟩
      have hc2 := fun (W : World) (hW : Env W) => textV (⟨vk, vn, vt⟩ : Vl) HOv.out W hW
      have hl2 := textR_len (⟨vk, vn, vt⟩ : Vl) HOv.out
      rw [hr2] at hc2 hl2
      simp only [Vl.val] at hc2 hl2
      have HC2 := Lib.hid hc2; have HR2 := Lib.hid hr2; have HLr2 := Lib.hid hl2
      clear hc2 hr2 hl2
      go_wp2_with fail
      refine (HC2.out _ (HE.out.below BL.out)).mono ?_
      rintro e W11 ⟨rfl, hb⟩
      clear cb2_0 cb2_1 cb2_2
      replace B := Lib.hid (B.out.below hb)
      replace BL := Lib.hid (below_then BL.out hb)
      clear hb
      go_upto_region 7 with fail
      replace HL := Lib.hid (show true = BigTexts_s4 (⟨vk, vn, vt⟩ : Vl) s ((⟨r0k, r0n, r0t⟩, r0e) : Vl × Int) ((⟨r1k, r1n, r1t⟩, r1e) : Vl × Int) ((r2s, r2e) : List UInt8 × Int) from HL.out.trans (by unfold BigTexts_s5; rw [HR2.out]))
      -- region 7
      have cb2_0 : W11.cell? ⟨w.heap.size, 0, none⟩ = some (.int .i64 vk) := (B.out.get 2 rfl).c0
      have cb2_1 : W11.cell? ⟨w.heap.size, 1, none⟩ = some (.int .i64 vn) := (B.out.get 2 rfl).c1
      have cb2_2 : W11.cell? ⟨w.heap.size, 2, none⟩ = some (.string ⟨List.toArray vt⟩) := (B.out.get 2 rfl).c2
      obtain ⟨⟨r3s, r3e⟩, hr3⟩ : ∃ p, textR (⟨vk, vn, vt⟩ : Vl) = p := ⟨_, rfl⟩
      have hc3 := fun (W : World) (hW : Env W) => rtextV (⟨vk, vn, vt⟩ : Vl) HOv.out W hW
      have hl3 := textR_len (⟨vk, vn, vt⟩ : Vl) HOv.out
      rw [hr3] at hc3 hl3
      simp only [Vl.val] at hc3 hl3
      have HC3 := Lib.hid hc3; have HR3 := Lib.hid hr3; have HLr3 := Lib.hid hl3
      clear hc3 hr3 hl3
      go_wp2_with fail
      refine (HC3.out _ (HE.out.below BL.out)).mono ?_
      rintro e W12 ⟨rfl, hb⟩
      clear cb2_0 cb2_1 cb2_2
      replace B := Lib.hid (B.out.below hb)
      replace BL := Lib.hid (below_then BL.out hb)
      clear hb
      go_upto_region 8 with fail
      replace HL := Lib.hid (show true = BigTexts_s3 (⟨vk, vn, vt⟩ : Vl) s ((⟨r0k, r0n, r0t⟩, r0e) : Vl × Int) ((⟨r1k, r1n, r1t⟩, r1e) : Vl × Int) ((r2s, r2e) : List UInt8 × Int) ((r3s, r3e) : List UInt8 × Int) from HL.out.trans (by unfold BigTexts_s4; rw [HR3.out]))
      -- region 8
      have cb2_0 : W12.cell? ⟨w.heap.size, 0, none⟩ = some (.int .i64 vk) := (B.out.get 2 rfl).c0
      have cb2_1 : W12.cell? ⟨w.heap.size, 1, none⟩ = some (.int .i64 vn) := (B.out.get 2 rfl).c1
      have cb2_2 : W12.cell? ⟨w.heap.size, 2, none⟩ = some (.string ⟨List.toArray vt⟩) := (B.out.get 2 rfl).c2
      obtain ⟨⟨r4m, r4e⟩, hr4⟩ : ∃ p, digitsR (⟨vk, vn, vt⟩ : Vl) = p := ⟨_, rfl⟩
      have hc4 := fun (W : World) (hW : Env W) => digitsV (⟨vk, vn, vt⟩ : Vl) HOv.out W hW
      rw [hr4] at hc4
      simp only [Vl.val] at hc4
      have HC4 := Lib.hid hc4; have HR4 := Lib.hid hr4
      clear hc4 hr4
      go_wp2_with fail
      refine (HC4.out _ (HE.out.below BL.out)).mono ?_
      rintro e W13 ⟨rfl, hb⟩
      clear cb2_0 cb2_1 cb2_2
      replace B := Lib.hid (B.out.below hb)
      replace BL := Lib.hid (below_then BL.out hb)
      clear hb
      go_upto_region 9 with fail
      replace HL := Lib.hid (show true = BigTexts_s2 (⟨vk, vn, vt⟩ : Vl) s ((⟨r0k, r0n, r0t⟩, r0e) : Vl × Int) ((⟨r1k, r1n, r1t⟩, r1e) : Vl × Int) ((r2s, r2e) : List UInt8 × Int) ((r3s, r3e) : List UInt8 × Int) ((r4m, r4e) : Int × Int) from HL.out.trans (by unfold BigTexts_s3; rw [HR4.out]))
      -- region 9
      have cb2_0 : W13.cell? ⟨w.heap.size, 0, none⟩ = some (.int .i64 vk) := (B.out.get 2 rfl).c0
      have cb2_1 : W13.cell? ⟨w.heap.size, 1, none⟩ = some (.int .i64 vn) := (B.out.get 2 rfl).c1
      have cb2_2 : W13.cell? ⟨w.heap.size, 2, none⟩ = some (.string ⟨List.toArray vt⟩) := (B.out.get 2 rfl).c2
      obtain ⟨⟨r5m, r5e⟩, hr5⟩ : ∃ p, digitsR (⟨vk, vn, vt⟩ : Vl) = p := ⟨_, rfl⟩
      have hc5 := fun (W : World) (hW : Env W) => rdigitsV (⟨vk, vn, vt⟩ : Vl) HOv.out W hW
      rw [hr5] at hc5
      simp only [Vl.val] at hc5
      have HC5 := Lib.hid hc5; have HR5 := Lib.hid hr5
      clear hc5 hr5
      go_wp2_with fail
      refine (HC5.out _ (HE.out.below BL.out)).mono ?_
      rintro e W14 ⟨rfl, hb⟩
      clear cb2_0 cb2_1 cb2_2
      replace B := Lib.hid (B.out.below hb)
      replace BL := Lib.hid (below_then BL.out hb)
      clear hb
      go_upto_region 10 with fail
      replace HL := Lib.hid (show true = BigTexts_s1 (⟨vk, vn, vt⟩ : Vl) s ((⟨r0k, r0n, r0t⟩, r0e) : Vl × Int) ((⟨r1k, r1n, r1t⟩, r1e) : Vl × Int) ((r2s, r2e) : List UInt8 × Int) ((r3s, r3e) : List UInt8 × Int) ((r4m, r4e) : Int × Int) ((r5m, r5e) : Int × Int) from HL.out.trans (by unfold BigTexts_s2; rw [HR5.out]))
      -- region 10, the end
      obtain ⟨b2, h⟩ : ∃ b : Bool, ((checkR (⟨vk, vn, vt⟩ : Vl)) == (checkR (⟨vk, vn, vt⟩ : Vl))) = b := ⟨_, rfl⟩
      have HA2 := Lib.hid h
      clear h
      obtain ⟨b3, h⟩ : ∃ b : Bool, (veqB r0k r0n r0t r1k r1n r1t) = b := ⟨_, rfl⟩
      have HA3 := Lib.hid h
      clear h
      obtain ⟨b4, h⟩ : ∃ b : Bool, (r0e == r1e) = b := ⟨_, rfl⟩
      have HA4 := Lib.hid h
      clear h
      obtain ⟨b5, h⟩ : ∃ b : Bool, (r2s == r3s) = b := ⟨_, rfl⟩
      have HA5 := Lib.hid h
      clear h
      obtain ⟨b6, h⟩ : ∃ b : Bool, (r2e == r3e) = b := ⟨_, rfl⟩
      have HA6 := Lib.hid h
      clear h
      obtain ⟨b7, h⟩ : ∃ b : Bool, (r4m == r5m) = b := ⟨_, rfl⟩
      have HA7 := Lib.hid h
      clear h
      obtain ⟨b8, h⟩ : ∃ b : Bool, (r4e == r5e) = b := ⟨_, rfl⟩
      have HA8 := Lib.hid h
      clear h
      cases b2 with
      | true =>
        cases b3 with
        | true =>
          cases b4 with
          | true =>
            cases b5 with
            | true =>
              cases b6 with
              | true =>
                cases b7 with
                | true =>
                  cases b8 with
                  | true =>
                    clear HL
                    go_upto_region 10 with fail
                    have f0_0 : (((checkR (⟨vk, vn, vt⟩ : Vl)) : Int) == (checkR (⟨vk, vn, vt⟩ : Vl))) = true := HA2.out
                    have f0_1 : (((checkR (⟨vk, vn, vt⟩ : Vl)) : Int) != (checkR (⟨vk, vn, vt⟩ : Vl))) = false := by simp
                    have f1_0 : (veqB r0k r0n r0t r1k r1n r1t) = true := HA3.out
                    have f2_0 : ((r0e : Int) == r1e) = true := HA4.out
                    have f2_1 : ((r0e : Int) != r1e) = false := by have h := HA4.out; simpa using h
                    have f3_0 : (r2s == r3s) = true := HA5.out
                    have f4_0 : ((r2e : Int) == r3e) = true := HA6.out
                    have f4_1 : ((r2e : Int) != r3e) = false := by have h := HA6.out; simpa using h
                    have f5_0 : ((r4m : Int) == r5m) = true := HA7.out
                    have f5_1 : ((r4m : Int) != r5m) = false := by have h := HA7.out; simpa using h
                    have f6_0 : ((r4e : Int) == r5e) = true := HA8.out
                    have f6_1 : ((r4e : Int) != r5e) = false := by have h := HA8.out; simpa using h
                    refine wp_region_noPanic ?_
                    refine region_late (fun (X : World) => X.cell? ⟨w.heap.size, 0, none⟩ = some (.int .i64 vk) ∧ X.cell? ⟨w.heap.size, 1, none⟩ = some (.int .i64 vn) ∧ X.cell? ⟨w.heap.size, 2, none⟩ = some (.string ⟨List.toArray vt⟩) ∧ X.cell? ⟨g0, 0, none⟩ = some (.int .i64 r0k) ∧ X.cell? ⟨g0, 1, none⟩ = some (.int .i64 r0n) ∧ X.cell? ⟨g0, 2, none⟩ = some (.string ⟨List.toArray r0t⟩) ∧ X.cell? ⟨g1, 0, none⟩ = some (.int .i64 r1k) ∧ X.cell? ⟨g1, 1, none⟩ = some (.int .i64 r1n) ∧ X.cell? ⟨g1, 2, none⟩ = some (.string ⟨List.toArray r1t⟩)) (fun _ => false) (by kernel_rfl) ?_
                    have hb := (Below.refl W14.heap.size W14).drew
                    obtain ⟨W15, hW⟩ : ∃ X, W14.drew = X := ⟨_, rfl⟩
                    rw [hW] at hb ⊢
                    clear hW
                    replace B := Lib.hid (B.out.below hb)
                    replace BL := Lib.hid (below_then BL.out hb)
                    clear hb
                    have hHeld : W15.cell? ⟨w.heap.size, 0, none⟩ = some (.int .i64 vk) ∧ W15.cell? ⟨w.heap.size, 1, none⟩ = some (.int .i64 vn) ∧ W15.cell? ⟨w.heap.size, 2, none⟩ = some (.string ⟨List.toArray vt⟩) ∧ W15.cell? ⟨g0, 0, none⟩ = some (.int .i64 r0k) ∧ W15.cell? ⟨g0, 1, none⟩ = some (.int .i64 r0n) ∧ W15.cell? ⟨g0, 2, none⟩ = some (.string ⟨List.toArray r0t⟩) ∧ W15.cell? ⟨g1, 0, none⟩ = some (.int .i64 r1k) ∧ W15.cell? ⟨g1, 1, none⟩ = some (.int .i64 r1n) ∧ W15.cell? ⟨g1, 2, none⟩ = some (.string ⟨List.toArray r1t⟩) := ⟨(B.out.get 2 rfl).c0, (B.out.get 2 rfl).c1, (B.out.get 2 rfl).c2, (B.out.get 1 rfl).c0, (B.out.get 1 rfl).c1, (B.out.get 1 rfl).c2, (B.out.get 0 rfl).c0, (B.out.get 0 rfl).c1, (B.out.get 0 rfl).c2⟩
                    refine late_pure_at (some 58) (i := 0) (v := (.bool true)) rfl rfl rfl (by kernel_rfl) (by kernel_rfl) (by kernel_rfl) (fun _ _ _ h => h) (Or.inl ⟨by rfl, by intro w _; go_simp⟩) (fun _ => hHeld) ?_
                    try simp only [Act.put, List.setIfInBounds_toArray, List.set_cons_zero, List.set_cons_succ]
                    refine late_pure_at (some 59) (i := 1) (v := (.bool true)) rfl rfl rfl (by kernel_rfl) (by kernel_rfl) (by kernel_rfl) (fun _ _ _ h => h) (Or.inl ⟨by rfl, by intro w _; go_simp⟩) (fun _ => hHeld) ?_
                    try simp only [Act.put, List.setIfInBounds_toArray, List.set_cons_zero, List.set_cons_succ]
                    refine late_take_at (some 60) (i := 2) (v := (.agg #[.int .i64 vk, .int .i64 vn, .string ⟨List.toArray vt⟩])) rfl rfl rfl (by kernel_rfl) (by kernel_rfl) (by kernel_rfl) (by kernel_rfl) (fun _ _ _ h => h) clean_none (Or.inl ⟨by rfl, by intro w hSw; go_split_ands; go_simp⟩) hHeld ?_
                    try simp only [Act.put, List.setIfInBounds_toArray, List.set_cons_zero, List.set_cons_succ]
                    refine late_take_at (some 62) (i := 4) (v := (.agg #[.int .i64 vk, .int .i64 vn, .string ⟨List.toArray vt⟩])) rfl rfl rfl (by kernel_rfl) (by kernel_rfl) (by kernel_rfl) (by kernel_rfl) (fun _ _ _ h => h) clean_none (Or.inl ⟨by rfl, by intro w hSw; go_split_ands; go_simp⟩) hHeld ?_
                    try simp only [Act.put, List.setIfInBounds_toArray, List.set_cons_zero, List.set_cons_succ]
                    refine late_ready (rs := [3]) (by kernel_rfl) (by simp) ?_
                    refine AllLate.cons rfl (fun K hK => ?_) ?_
                    · skip
                      go_simp
                      refine (checkV (⟨vk, vn, vt⟩ : Vl) HOv.out _ (HE.out.below BL.out)).mono ?_
                      rintro e W16 ⟨rfl, hb⟩
                      clear hHeld
                      replace B := Lib.hid (B.out.below hb)
                      replace BL := Lib.hid (below_then BL.out hb)
                      clear hb
                      have hHeld : W16.cell? ⟨w.heap.size, 0, none⟩ = some (.int .i64 vk) ∧ W16.cell? ⟨w.heap.size, 1, none⟩ = some (.int .i64 vn) ∧ W16.cell? ⟨w.heap.size, 2, none⟩ = some (.string ⟨List.toArray vt⟩) ∧ W16.cell? ⟨g0, 0, none⟩ = some (.int .i64 r0k) ∧ W16.cell? ⟨g0, 1, none⟩ = some (.int .i64 r0n) ∧ W16.cell? ⟨g0, 2, none⟩ = some (.string ⟨List.toArray r0t⟩) ∧ W16.cell? ⟨g1, 0, none⟩ = some (.int .i64 r1k) ∧ W16.cell? ⟨g1, 1, none⟩ = some (.int .i64 r1n) ∧ W16.cell? ⟨g1, 2, none⟩ = some (.string ⟨List.toArray r1t⟩) := ⟨(B.out.get 2 rfl).c0, (B.out.get 2 rfl).c1, (B.out.get 2 rfl).c2, (B.out.get 1 rfl).c0, (B.out.get 1 rfl).c1, (B.out.get 1 rfl).c2, (B.out.get 0 rfl).c0, (B.out.get 0 rfl).c1, (B.out.get 0 rfl).c2⟩
                      dsimp only
                      refine hK.out _ _ (fun _ => hHeld) ?_
                      clear hK K
                      try simp only [Act.put, List.setIfInBounds_toArray, List.set_cons_zero, List.set_cons_succ]
                      refine late_ready (rs := [5]) (by kernel_rfl) (by simp) ?_
                      refine AllLate.cons rfl (fun K hK => ?_) ?_
                      · skip
                        go_simp
                        refine (rcheckV (⟨vk, vn, vt⟩ : Vl) HOv.out _ (HE.out.below BL.out)).mono ?_
                        rintro e W17 ⟨rfl, hb⟩
                        clear hHeld
                        replace B := Lib.hid (B.out.below hb)
                        replace BL := Lib.hid (below_then BL.out hb)
                        clear hb
                        have hHeld : W17.cell? ⟨w.heap.size, 0, none⟩ = some (.int .i64 vk) ∧ W17.cell? ⟨w.heap.size, 1, none⟩ = some (.int .i64 vn) ∧ W17.cell? ⟨w.heap.size, 2, none⟩ = some (.string ⟨List.toArray vt⟩) ∧ W17.cell? ⟨g0, 0, none⟩ = some (.int .i64 r0k) ∧ W17.cell? ⟨g0, 1, none⟩ = some (.int .i64 r0n) ∧ W17.cell? ⟨g0, 2, none⟩ = some (.string ⟨List.toArray r0t⟩) ∧ W17.cell? ⟨g1, 0, none⟩ = some (.int .i64 r1k) ∧ W17.cell? ⟨g1, 1, none⟩ = some (.int .i64 r1n) ∧ W17.cell? ⟨g1, 2, none⟩ = some (.string ⟨List.toArray r1t⟩) := ⟨(B.out.get 2 rfl).c0, (B.out.get 2 rfl).c1, (B.out.get 2 rfl).c2, (B.out.get 1 rfl).c0, (B.out.get 1 rfl).c1, (B.out.get 1 rfl).c2, (B.out.get 0 rfl).c0, (B.out.get 0 rfl).c1, (B.out.get 0 rfl).c2⟩
                        dsimp only
                        refine hK.out _ _ (fun _ => hHeld) ?_
                        clear hK K
                        try simp only [Act.put, List.setIfInBounds_toArray, List.set_cons_zero, List.set_cons_succ]
                        refine late_pure_at (some 64) (i := 6) (v := (.bool true)) rfl rfl rfl (by kernel_rfl) (by kernel_rfl) (by kernel_rfl) (fun _ _ _ h => h) (Or.inl ⟨by rfl, by intro w _; go_simp⟩) (fun _ => hHeld) ?_
                        try simp only [Act.put, List.setIfInBounds_toArray, List.set_cons_zero, List.set_cons_succ]
                        refine late_pure_at (some 65) (i := 7) (v := (.bool true)) rfl rfl rfl (by kernel_rfl) (by kernel_rfl) (by kernel_rfl) (fun _ _ _ h => h) (Or.inl ⟨by rfl, by intro w _; go_simp⟩) (fun _ => hHeld) ?_
                        try simp only [Act.put, List.setIfInBounds_toArray, List.set_cons_zero, List.set_cons_succ]
                        refine late_pure_at (some 66) (i := 8) (v := (.bool true)) rfl rfl rfl (by kernel_rfl) (by kernel_rfl) (by kernel_rfl) (fun _ _ _ h => h) (Or.inl ⟨by rfl, by intro w _; go_simp⟩) (fun _ => hHeld) ?_
                        try simp only [Act.put, List.setIfInBounds_toArray, List.set_cons_zero, List.set_cons_succ]
                        refine late_take_at (some 67) (i := 9) (v := (.agg #[.int .i64 r0k, .int .i64 r0n, .string ⟨List.toArray r0t⟩])) rfl rfl rfl (by kernel_rfl) (by kernel_rfl) (by kernel_rfl) (by kernel_rfl) (fun _ _ _ h => h) clean_none (Or.inl ⟨by rfl, by intro w hSw; go_split_ands; go_simp⟩) hHeld ?_
                        try simp only [Act.put, List.setIfInBounds_toArray, List.set_cons_zero, List.set_cons_succ]
                        refine late_take_at (some 68) (i := 10) (v := (.agg #[.int .i64 r1k, .int .i64 r1n, .string ⟨List.toArray r1t⟩])) rfl rfl rfl (by kernel_rfl) (by kernel_rfl) (by kernel_rfl) (by kernel_rfl) (fun _ _ _ h => h) clean_none (Or.inl ⟨by rfl, by intro w hSw; go_split_ands; go_simp⟩) hHeld ?_
                        try simp only [Act.put, List.setIfInBounds_toArray, List.set_cons_zero, List.set_cons_succ]
                        refine late_pure_at (some 69) (i := 11) (v := (.bool true)) rfl rfl rfl (by kernel_rfl) (by kernel_rfl) (by kernel_rfl) (fun _ _ _ h => h) (Or.inl ⟨by rfl, by intro w _; go_simp⟩) (fun _ => hHeld) ?_
                        try simp only [Act.put, List.setIfInBounds_toArray, List.set_cons_zero, List.set_cons_succ]
                        refine late_pure_at (some 70) (i := 12) (v := (.bool true)) rfl rfl rfl (by kernel_rfl) (by kernel_rfl) (by kernel_rfl) (fun _ _ _ h => h) (Or.inl ⟨by rfl, by intro w _; go_simp⟩) (fun _ => hHeld) ?_
                        try simp only [Act.put, List.setIfInBounds_toArray, List.set_cons_zero, List.set_cons_succ]
                        refine late_pure_at (some 71) (i := 13) (v := (.bool true)) rfl rfl rfl (by kernel_rfl) (by kernel_rfl) (by kernel_rfl) (fun _ _ _ h => h) (Or.inl ⟨by rfl, by intro w _; go_simp⟩) (fun _ => hHeld) ?_
                        try simp only [Act.put, List.setIfInBounds_toArray, List.set_cons_zero, List.set_cons_succ]
                        refine late_pure_at (some 72) (i := 14) (v := (.int .i64 r0e)) rfl rfl rfl (by kernel_rfl) (by kernel_rfl) (by kernel_rfl) (fun _ _ _ h => h) (Or.inl ⟨by rfl, by intro w _; go_simp⟩) (fun _ => hHeld) ?_
                        try simp only [Act.put, List.setIfInBounds_toArray, List.set_cons_zero, List.set_cons_succ]
                        refine late_pure_at (some 73) (i := 15) (v := (.int .i64 r1e)) rfl rfl rfl (by kernel_rfl) (by kernel_rfl) (by kernel_rfl) (fun _ _ _ h => h) (Or.inl ⟨by rfl, by intro w _; go_simp⟩) (fun _ => hHeld) ?_
                        try simp only [Act.put, List.setIfInBounds_toArray, List.set_cons_zero, List.set_cons_succ]
                        refine late_pure_at (some 74) (i := 16) (v := (.bool true)) rfl rfl rfl (by kernel_rfl) (by kernel_rfl) (by kernel_rfl) (fun _ _ _ h => h) (Or.inl ⟨by rfl, by intro w _; go_simp⟩) (fun _ => hHeld) ?_
                        try simp only [Act.put, List.setIfInBounds_toArray, List.set_cons_zero, List.set_cons_succ]
                        refine late_pure_at (some 75) (i := 17) (v := (.bool true)) rfl rfl rfl (by kernel_rfl) (by kernel_rfl) (by kernel_rfl) (fun _ _ _ h => h) (Or.inl ⟨by rfl, by intro w _; go_simp⟩) (fun _ => hHeld) ?_
                        try simp only [Act.put, List.setIfInBounds_toArray, List.set_cons_zero, List.set_cons_succ]
                        refine late_pure_at (some 76) (i := 18) (v := (.bool true)) rfl rfl rfl (by kernel_rfl) (by kernel_rfl) (by kernel_rfl) (fun _ _ _ h => h) (Or.inl ⟨by rfl, by intro w _; go_simp⟩) (fun _ => hHeld) ?_
                        try simp only [Act.put, List.setIfInBounds_toArray, List.set_cons_zero, List.set_cons_succ]
                        refine late_pure_at (some 77) (i := 19) (v := (.string ⟨List.toArray r2s⟩)) rfl rfl rfl (by kernel_rfl) (by kernel_rfl) (by kernel_rfl) (fun _ _ _ h => h) (Or.inl ⟨by rfl, by intro w _; go_simp⟩) (fun _ => hHeld) ?_
                        try simp only [Act.put, List.setIfInBounds_toArray, List.set_cons_zero, List.set_cons_succ]
                        refine late_pure_at (some 78) (i := 20) (v := (.string ⟨List.toArray r3s⟩)) rfl rfl rfl (by kernel_rfl) (by kernel_rfl) (by kernel_rfl) (fun _ _ _ h => h) (Or.inl ⟨by rfl, by intro w _; go_simp⟩) (fun _ => hHeld) ?_
                        try simp only [Act.put, List.setIfInBounds_toArray, List.set_cons_zero, List.set_cons_succ]
                        refine late_pure_at (some 79) (i := 21) (v := (.bool true)) rfl rfl rfl (by kernel_rfl) (by kernel_rfl) (by kernel_rfl) (fun _ _ _ h => h) (Or.inl ⟨by rfl, by intro w _; go_simp⟩) (fun _ => hHeld) ?_
                        try simp only [Act.put, List.setIfInBounds_toArray, List.set_cons_zero, List.set_cons_succ]
                        refine late_pure_at (some 80) (i := 22) (v := (.bool true)) rfl rfl rfl (by kernel_rfl) (by kernel_rfl) (by kernel_rfl) (fun _ _ _ h => h) (Or.inl ⟨by rfl, by intro w _; go_simp⟩) (fun _ => hHeld) ?_
                        try simp only [Act.put, List.setIfInBounds_toArray, List.set_cons_zero, List.set_cons_succ]
                        refine late_pure_at (some 81) (i := 23) (v := (.bool true)) rfl rfl rfl (by kernel_rfl) (by kernel_rfl) (by kernel_rfl) (fun _ _ _ h => h) (Or.inl ⟨by rfl, by intro w _; go_simp⟩) (fun _ => hHeld) ?_
                        try simp only [Act.put, List.setIfInBounds_toArray, List.set_cons_zero, List.set_cons_succ]
                        refine late_pure_at (some 82) (i := 24) (v := (.int .i64 r2e)) rfl rfl rfl (by kernel_rfl) (by kernel_rfl) (by kernel_rfl) (fun _ _ _ h => h) (Or.inl ⟨by rfl, by intro w _; go_simp⟩) (fun _ => hHeld) ?_
                        try simp only [Act.put, List.setIfInBounds_toArray, List.set_cons_zero, List.set_cons_succ]
                        refine late_pure_at (some 83) (i := 25) (v := (.int .i64 r3e)) rfl rfl rfl (by kernel_rfl) (by kernel_rfl) (by kernel_rfl) (fun _ _ _ h => h) (Or.inl ⟨by rfl, by intro w _; go_simp⟩) (fun _ => hHeld) ?_
                        try simp only [Act.put, List.setIfInBounds_toArray, List.set_cons_zero, List.set_cons_succ]
                        refine late_pure_at (some 84) (i := 26) (v := (.bool true)) rfl rfl rfl (by kernel_rfl) (by kernel_rfl) (by kernel_rfl) (fun _ _ _ h => h) (Or.inl ⟨by rfl, by intro w _; go_simp⟩) (fun _ => hHeld) ?_
                        try simp only [Act.put, List.setIfInBounds_toArray, List.set_cons_zero, List.set_cons_succ]
                        refine late_pure_at (some 85) (i := 27) (v := (.bool true)) rfl rfl rfl (by kernel_rfl) (by kernel_rfl) (by kernel_rfl) (fun _ _ _ h => h) (Or.inl ⟨by rfl, by intro w _; go_simp⟩) (fun _ => hHeld) ?_
                        try simp only [Act.put, List.setIfInBounds_toArray, List.set_cons_zero, List.set_cons_succ]
                        refine late_pure_at (some 86) (i := 28) (v := (.bool true)) rfl rfl rfl (by kernel_rfl) (by kernel_rfl) (by kernel_rfl) (fun _ _ _ h => h) (Or.inl ⟨by rfl, by intro w _; go_simp⟩) (fun _ => hHeld) ?_
                        try simp only [Act.put, List.setIfInBounds_toArray, List.set_cons_zero, List.set_cons_succ]
                        refine late_pure_at (some 87) (i := 29) (v := (.int .i64 r4m)) rfl rfl rfl (by kernel_rfl) (by kernel_rfl) (by kernel_rfl) (fun _ _ _ h => h) (Or.inl ⟨by rfl, by intro w _; go_simp⟩) (fun _ => hHeld) ?_
                        try simp only [Act.put, List.setIfInBounds_toArray, List.set_cons_zero, List.set_cons_succ]
                        refine late_pure_at (some 88) (i := 30) (v := (.int .i64 r5m)) rfl rfl rfl (by kernel_rfl) (by kernel_rfl) (by kernel_rfl) (fun _ _ _ h => h) (Or.inl ⟨by rfl, by intro w _; go_simp⟩) (fun _ => hHeld) ?_
                        try simp only [Act.put, List.setIfInBounds_toArray, List.set_cons_zero, List.set_cons_succ]
                        refine late_pure_at (some 89) (i := 31) (v := (.bool true)) rfl rfl rfl (by kernel_rfl) (by kernel_rfl) (by kernel_rfl) (fun _ _ _ h => h) (Or.inl ⟨by rfl, by intro w _; go_simp⟩) (fun _ => hHeld) ?_
                        try simp only [Act.put, List.setIfInBounds_toArray, List.set_cons_zero, List.set_cons_succ]
                        refine late_pure_at (some 90) (i := 32) (v := (.bool true)) rfl rfl rfl (by kernel_rfl) (by kernel_rfl) (by kernel_rfl) (fun _ _ _ h => h) (Or.inl ⟨by rfl, by intro w _; go_simp⟩) (fun _ => hHeld) ?_
                        try simp only [Act.put, List.setIfInBounds_toArray, List.set_cons_zero, List.set_cons_succ]
                        refine late_pure_at (some 91) (i := 33) (v := (.bool true)) rfl rfl rfl (by kernel_rfl) (by kernel_rfl) (by kernel_rfl) (fun _ _ _ h => h) (Or.inl ⟨by rfl, by intro w _; go_simp⟩) (fun _ => hHeld) ?_
                        try simp only [Act.put, List.setIfInBounds_toArray, List.set_cons_zero, List.set_cons_succ]
                        refine late_pure_at (some 92) (i := 34) (v := (.int .i64 r4e)) rfl rfl rfl (by kernel_rfl) (by kernel_rfl) (by kernel_rfl) (fun _ _ _ h => h) (Or.inl ⟨by rfl, by intro w _; go_simp⟩) (fun _ => hHeld) ?_
                        try simp only [Act.put, List.setIfInBounds_toArray, List.set_cons_zero, List.set_cons_succ]
                        refine late_pure_at (some 93) (i := 35) (v := (.int .i64 r5e)) rfl rfl rfl (by kernel_rfl) (by kernel_rfl) (by kernel_rfl) (fun _ _ _ h => h) (Or.inl ⟨by rfl, by intro w _; go_simp⟩) (fun _ => hHeld) ?_
                        try simp only [Act.put, List.setIfInBounds_toArray, List.set_cons_zero, List.set_cons_succ]
                        refine late_pure_at (some 94) (i := 36) (v := (.bool true)) rfl rfl rfl (by kernel_rfl) (by kernel_rfl) (by kernel_rfl) (fun _ _ _ h => h) (Or.inl ⟨by rfl, by intro w _; go_simp⟩) (fun _ => hHeld) ?_
                        try simp only [Act.put, List.setIfInBounds_toArray, List.set_cons_zero, List.set_cons_succ]
                        refine late_pure_at (some 95) (i := 37) (v := (.bool true)) rfl rfl rfl (by kernel_rfl) (by kernel_rfl) (by kernel_rfl) (fun _ _ _ h => h) (Or.inl ⟨by rfl, by intro w _; go_simp⟩) (fun _ => hHeld) ?_
                        try simp only [Act.put, List.setIfInBounds_toArray, List.set_cons_zero, List.set_cons_succ]
                        refine late_pure_at (some 4) (i := 38) (v := (.bool true)) rfl rfl rfl (by kernel_rfl) (by kernel_rfl) (by kernel_rfl) (fun _ _ _ h => h) (Or.inl ⟨by rfl, by intro w _; go_simp⟩) (fun _ => hHeld) ?_
                        try simp only [Act.put, List.setIfInBounds_toArray, List.set_cons_zero, List.set_cons_succ]
                        refine late_done (by kernel_rfl) ?_ _
                        refine NoPanic.normal ?_
                        go_wp2_with fail
                        go_ret
                        exact ⟨rfl, BL.out⟩
                      exact AllLate.nil
                    exact AllLate.nil
                  | false =>
                    exact Bool.noConfusion (show true = false from HL.out.trans (by show (((((((true && ((checkR (⟨vk, vn, vt⟩ : Vl)) == (checkR (⟨vk, vn, vt⟩ : Vl)))) && (veqB r0k r0n r0t r1k r1n r1t)) && (r0e == r1e)) && (r2s == r3s)) && (r2e == r3e)) && (r4m == r5m)) && (r4e == r5e)) = false; rw [HA2.out, HA3.out, HA4.out, HA5.out, HA6.out, HA7.out, HA8.out]; rfl))
                | false =>
                  exact Bool.noConfusion (show true = false from HL.out.trans (by show (((((((true && ((checkR (⟨vk, vn, vt⟩ : Vl)) == (checkR (⟨vk, vn, vt⟩ : Vl)))) && (veqB r0k r0n r0t r1k r1n r1t)) && (r0e == r1e)) && (r2s == r3s)) && (r2e == r3e)) && (r4m == r5m)) && (r4e == r5e)) = false; rw [HA2.out, HA3.out, HA4.out, HA5.out, HA6.out, HA7.out]; rfl))
              | false =>
                exact Bool.noConfusion (show true = false from HL.out.trans (by show (((((((true && ((checkR (⟨vk, vn, vt⟩ : Vl)) == (checkR (⟨vk, vn, vt⟩ : Vl)))) && (veqB r0k r0n r0t r1k r1n r1t)) && (r0e == r1e)) && (r2s == r3s)) && (r2e == r3e)) && (r4m == r5m)) && (r4e == r5e)) = false; rw [HA2.out, HA3.out, HA4.out, HA5.out, HA6.out]; rfl))
            | false =>
              exact Bool.noConfusion (show true = false from HL.out.trans (by show (((((((true && ((checkR (⟨vk, vn, vt⟩ : Vl)) == (checkR (⟨vk, vn, vt⟩ : Vl)))) && (veqB r0k r0n r0t r1k r1n r1t)) && (r0e == r1e)) && (r2s == r3s)) && (r2e == r3e)) && (r4m == r5m)) && (r4e == r5e)) = false; rw [HA2.out, HA3.out, HA4.out, HA5.out]; rfl))
          | false =>
            exact Bool.noConfusion (show true = false from HL.out.trans (by show (((((((true && ((checkR (⟨vk, vn, vt⟩ : Vl)) == (checkR (⟨vk, vn, vt⟩ : Vl)))) && (veqB r0k r0n r0t r1k r1n r1t)) && (r0e == r1e)) && (r2s == r3s)) && (r2e == r3e)) && (r4m == r5m)) && (r4e == r5e)) = false; rw [HA2.out, HA3.out, HA4.out]; rfl))
        | false =>
          exact Bool.noConfusion (show true = false from HL.out.trans (by show (((((((true && ((checkR (⟨vk, vn, vt⟩ : Vl)) == (checkR (⟨vk, vn, vt⟩ : Vl)))) && (veqB r0k r0n r0t r1k r1n r1t)) && (r0e == r1e)) && (r2s == r3s)) && (r2e == r3e)) && (r4m == r5m)) && (r4e == r5e)) = false; rw [HA2.out, HA3.out]; rfl))
      | false =>
        exact Bool.noConfusion (show true = false from HL.out.trans (by show (((((((true && ((checkR (⟨vk, vn, vt⟩ : Vl)) == (checkR (⟨vk, vn, vt⟩ : Vl)))) && (veqB r0k r0n r0t r1k r1n r1t)) && (r0e == r1e)) && (r2s == r3s)) && (r2e == r3e)) && (r4m == r5m)) && (r4e == r5e)) = false; rw [HA2.out]; rfl))
end Go.Proofs.YthjpbbbmnmhmmaaGreatDoor
