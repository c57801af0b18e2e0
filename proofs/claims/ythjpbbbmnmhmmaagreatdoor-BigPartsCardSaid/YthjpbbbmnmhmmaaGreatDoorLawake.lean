import Derived.Test.YthjpbbbmnmhmmaaGreatDoorA30
set_option linter.unusedVariables false
set_option linter.unusedSimpArgs false
namespace Go.Proofs.YthjpbbbmnmhmmaaGreatDoor
open Go.RowKit Go.Shelf Go.Lib
attribute [local go_sem ↓] run_val_eql run_val_neq

def awake_s0 (r0 : Vl × Int) (r1 : Vl × Int) (r2 : Vl × Int) (r3 : Vl × Int) (r4 : Vl × Int) (r5 : Vl × Int) (r6 : Vl × Int) (r7 : Vl × Int) : Bool := false
def awake_s1 (r0 : Vl × Int) (r1 : Vl × Int) (r2 : Vl × Int) (r3 : Vl × Int) (r4 : Vl × Int) (r5 : Vl × Int) (r6 : Vl × Int) (r7 : Vl × Int) (r8 : Vl × Int) : Bool := (((((((((veq r0.1 (⟨2, 0, ([57, 50, 50, 51, 51, 55, 50, 48, 51, 54, 56, 53, 52, 55, 55, 53, 56, 48, 56] : List UInt8)⟩ : Vl)) && (veq r1.1 (⟨1, 9223372036854775807, []⟩ : Vl))) && (r2.1.t == ([49, 56, 52, 52, 54, 55, 52, 52, 48, 55, 51, 55, 48, 57, 53, 53, 49, 54, 49, 54] : List UInt8))) && (veq r3.1 (⟨1, (-4), []⟩ : Vl))) && (veq r4.1 (⟨1, 1, []⟩ : Vl))) && (veq r5.1 r2.1)) && (veq r6.1 (⟨1, 9, []⟩ : Vl))) && (r8.2 == 0)) && (veq r8.1 (⟨1, 6, []⟩ : Vl)))
def awake_s2 (r0 : Vl × Int) (r1 : Vl × Int) (r2 : Vl × Int) (r3 : Vl × Int) (r4 : Vl × Int) (r5 : Vl × Int) (r6 : Vl × Int) (r7 : Vl × Int) : Bool := awake_s1 r0 r1 r2 r3 r4 r5 r6 r7 (gcdR (⟨1, 12, []⟩ : Vl) (⟨1, (-18), []⟩ : Vl))
def awake_s3 (r0 : Vl × Int) (r1 : Vl × Int) (r2 : Vl × Int) (r3 : Vl × Int) (r4 : Vl × Int) (r5 : Vl × Int) (r6 : Vl × Int) (r7 : Vl × Int) : Bool := if ((((((((!(r0.2 == 0)) || (!(r1.2 == 0))) || (!(r2.2 == 0))) || (!(r3.2 == 0))) || (!(r4.2 == 0))) || (!(r5.2 == 0))) || (!(r6.2 == 0))) || (!(r7.2 == 31))) = true then awake_s0 r0 r1 r2 r3 r4 r5 r6 r7 else awake_s2 r0 r1 r2 r3 r4 r5 r6 r7
def awake_s4 (r0 : Vl × Int) (r1 : Vl × Int) (r2 : Vl × Int) (r3 : Vl × Int) (r4 : Vl × Int) (r5 : Vl × Int) (r6 : Vl × Int) : Bool := awake_s3 r0 r1 r2 r3 r4 r5 r6 (ofR ([48, 48, 55] : List UInt8))
def awake_s5 (r0 : Vl × Int) (r1 : Vl × Int) (r2 : Vl × Int) (r3 : Vl × Int) (r4 : Vl × Int) (r5 : Vl × Int) : Bool := awake_s4 r0 r1 r2 r3 r4 r5 (rootR (⟨1, 99, []⟩ : Vl))
def awake_s6 (r0 : Vl × Int) (r1 : Vl × Int) (r2 : Vl × Int) (r3 : Vl × Int) (r4 : Vl × Int) : Bool := awake_s5 r0 r1 r2 r3 r4 (powR (⟨1, 2, []⟩ : Vl) 64)
def awake_s7 (r0 : Vl × Int) (r1 : Vl × Int) (r2 : Vl × Int) (r3 : Vl × Int) : Bool := awake_s6 r0 r1 r2 r3 (modR (⟨1, (-7), []⟩ : Vl) (⟨1, 2, []⟩ : Vl))
def awake_s8 (r0 : Vl × Int) (r1 : Vl × Int) (r2 : Vl × Int) : Bool := awake_s7 r0 r1 r2 (divR (⟨1, 7, []⟩ : Vl) (⟨1, (-2), []⟩ : Vl))
def awake_s9 (r0 : Vl × Int) (r1 : Vl × Int) : Bool := awake_s8 r0 r1 (mulR (⟨1, 4294967296, []⟩ : Vl) (⟨1, 4294967296, []⟩ : Vl))
def awake_s10 (r0 : Vl × Int) : Bool := awake_s9 r0 (subR r0.1 (⟨1, 1, []⟩ : Vl))
def awake_s11  : Bool := awake_s10 (addR (⟨1, 9223372036854775807, []⟩ : Vl) (⟨1, 1, []⟩ : Vl))

set_option maxRecDepth 100000 in
set_option maxHeartbeats 16000000 in
theorem walk_awake  (w : World) (hE : Env w) (hr : true = awake_s11) :
    Calls Tryz.prog 15 #[] w fun e w' => e = .returned (.bool true) ∧ Below w.heap.size w w' := by
  have HE := Lib.hid hE
  have HL := Lib.hid hr
  clear hE hr
  go_enter Tryz.func15, Tryz.ntmps15
  go_upto_region 1 with fail
  have B : Hid (Bxs w []) := Lib.hid trivial
  have BL := Lib.hid (Below.refl w.heap.size w)
  -- region 1
  go_wp2_with fail
  refine (num_calls 9223372036854775807 _).mono ?_
  rintro e W1 ⟨rfl, hb⟩
  replace B := Lib.hid (B.out.below hb)
  replace BL := Lib.hid (below_then BL.out hb)
  clear hb
  go_wp2_with fail
  refine (num_calls 1 _).mono ?_
  rintro e W2 ⟨rfl, hb⟩
  replace B := Lib.hid (B.out.below hb)
  replace BL := Lib.hid (below_then BL.out hb)
  clear hb
  obtain ⟨⟨⟨r0k, r0n, r0t⟩, r0e⟩, hr0⟩ : ∃ p, addR (⟨1, 9223372036854775807, []⟩ : Vl) (⟨1, 1, []⟩ : Vl) = p := ⟨_, rfl⟩
  have hc0 := fun (W : World) (hW : Env W) => add_pub (⟨1, 9223372036854775807, []⟩ : Vl) (⟨1, 1, []⟩ : Vl) (num_ok 9223372036854775807 (by unfold Small64; omega)) (num_ok 1 (by unfold Small64; omega)) W hW
  have ho0 := addR_ok (⟨1, 9223372036854775807, []⟩ : Vl) (⟨1, 1, []⟩ : Vl)
  rw [hr0] at hc0 ho0
  simp only [Vl.val, pr] at hc0
  have HC0 := Lib.hid hc0; have HOr0 : Hid (Vl.ok ⟨r0k, r0n, r0t⟩) := Lib.hid ho0; have HR0 := Lib.hid hr0
  clear hc0 ho0 hr0
  go_wp2_with fail
  refine (HC0.out _ (HE.out.below BL.out)).mono ?_
  rintro e W3 ⟨rfl, hb⟩
  replace B := Lib.hid (B.out.below hb)
  replace BL := Lib.hid (below_then BL.out hb)
  clear hb
  go_upto_region 2 with fail
  have hB : Bxs (W3.alloc (.cells #[.int .i64 r0k, .int .i64 r0n, .string ⟨List.toArray r0t⟩] 23)) ((W3.heap.size, (⟨r0k, r0n, r0t⟩ : Vl)) :: []) := B.out.push (⟨r0k, r0n, r0t⟩ : Vl) 23
  have hL : Below w.heap.size w (W3.alloc (.cells #[.int .i64 r0k, .int .i64 r0n, .string ⟨List.toArray r0t⟩] 23)) := BL.out.alloc BL.out.size _
  obtain ⟨W4, hW⟩ : ∃ X, W3.alloc (.cells #[.int .i64 r0k, .int .i64 r0n, .string ⟨List.toArray r0t⟩] 23) = X := ⟨_, rfl⟩
  obtain ⟨g0, hg⟩ : ∃ g, W3.heap.size = g := ⟨_, rfl⟩
  rw [hW] at hB hL ⊢
  rw [hg] at hB ⊢
  have HGb1_1_0 : Hid (w.heap.size ≤ g0) := Lib.hid (by rw [← hg]; exact BL.out.size)
  replace B := Lib.hid hB
  replace BL := Lib.hid hL
  clear hB hL hW hg
  replace HL := Lib.hid (show true = awake_s10 ((⟨r0k, r0n, r0t⟩, r0e) : Vl × Int) from HL.out.trans (by unfold awake_s11; rw [HR0.out]))
  -- region 2, draws its order
  obtain ⟨⟨⟨r1k, r1n, r1t⟩, r1e⟩, hr1⟩ : ∃ p, subR (⟨r0k, r0n, r0t⟩ : Vl) (⟨1, 1, []⟩ : Vl) = p := ⟨_, rfl⟩
  have hc1 := fun (W : World) (hW : Env W) => sub_pub (⟨r0k, r0n, r0t⟩ : Vl) (⟨1, 1, []⟩ : Vl) HOr0.out (num_ok 1 (by unfold Small64; omega)) W hW
  have ho1 := subR_ok (⟨r0k, r0n, r0t⟩ : Vl) (⟨1, 1, []⟩ : Vl)
  rw [hr1] at hc1 ho1
  simp only [Vl.val, pr] at hc1
  have HC1 := Lib.hid hc1; have HOr1 : Hid (Vl.ok ⟨r1k, r1n, r1t⟩) := Lib.hid ho1; have HR1 := Lib.hid hr1
  clear hc1 ho1 hr1
  go_upto_region 2 with fail
  go_cut [3, 4] from 26 to 32 (fun s3 s4 wx => ∃ g : Nat, s3 = .pointer (some ⟨g, 0, none⟩) ∧ s4 = (.int .i64 r1e) ∧ Hid (w.heap.size ≤ g) ∧ Hid (Bxs wx [(g, (⟨r1k, r1n, r1t⟩ : Vl)), (g0, (⟨r0k, r0n, r0t⟩ : Vl))]) ∧ Hid (Below w.heap.size w wx))
  case first =>
    clear HL
    refine wp_region_noPanic ?_
    refine region_late (fun (X : World) => X.cell? ⟨g0, 0, none⟩ = some (.int .i64 r0k) ∧ X.cell? ⟨g0, 1, none⟩ = some (.int .i64 r0n) ∧ X.cell? ⟨g0, 2, none⟩ = some (.string ⟨List.toArray r0t⟩)) (fun i => i == 7) (by kernel_rfl) ?_
    have hb := (Below.refl W4.heap.size W4).drew
    obtain ⟨W5, hW⟩ : ∃ X, W4.drew = X := ⟨_, rfl⟩
    rw [hW] at hb ⊢
    clear hW
    replace B := Lib.hid (B.out.below hb)
    replace BL := Lib.hid (below_then BL.out hb)
    clear hb
    have hHeld : W5.cell? ⟨g0, 0, none⟩ = some (.int .i64 r0k) ∧ W5.cell? ⟨g0, 1, none⟩ = some (.int .i64 r0n) ∧ W5.cell? ⟨g0, 2, none⟩ = some (.string ⟨List.toArray r0t⟩) := ⟨(B.out.get 0 rfl).c0, (B.out.get 0 rfl).c1, (B.out.get 0 rfl).c2⟩
    refine late_take_at (some 27) (i := 0) (v := (.agg #[.int .i64 r0k, .int .i64 r0n, .string ⟨List.toArray r0t⟩])) rfl rfl rfl (by kernel_rfl) (by kernel_rfl) (by kernel_rfl) (by kernel_rfl) (fun _ _ _ h => h) (clean_one (by kernel_rfl)) (Or.inl ⟨by rfl, by intro w hSw; go_split_ands; go_simp⟩) hHeld ?_
    try simp only [Act.put, List.setIfInBounds_toArray, List.set_cons_zero, List.set_cons_succ]
    refine late_ready (rs := [1, 6]) (by kernel_rfl) (by simp) ?_
    refine AllLate.cons rfl (fun K hK => ?_) ?_
    · skip
      go_simp
      refine (num_calls 1 _).mono ?_
      rintro e W6 ⟨rfl, hb⟩
      clear hHeld
      replace B := Lib.hid (B.out.below hb)
      replace BL := Lib.hid (below_then BL.out hb)
      clear hb
      have hHeld : W6.cell? ⟨g0, 0, none⟩ = some (.int .i64 r0k) ∧ W6.cell? ⟨g0, 1, none⟩ = some (.int .i64 r0n) ∧ W6.cell? ⟨g0, 2, none⟩ = some (.string ⟨List.toArray r0t⟩) := ⟨(B.out.get 0 rfl).c0, (B.out.get 0 rfl).c1, (B.out.get 0 rfl).c2⟩
      dsimp only
      refine hK.out _ _ (fun _ => hHeld) ?_
      clear hK K
      try simp only [Act.put, List.setIfInBounds_toArray, List.set_cons_zero, List.set_cons_succ]
      refine late_ready (rs := [2, 6]) (by kernel_rfl) (by simp) ?_
      refine AllLate.cons rfl (fun K hK => ?_) ?_
      · skip
        go_simp
        refine (HC1.out _ (HE.out.below BL.out)).mono ?_
        rintro e W7 ⟨rfl, hb⟩
        clear hHeld
        replace B := Lib.hid (B.out.below hb)
        replace BL := Lib.hid (below_then BL.out hb)
        clear hb
        have hHeld : W7.cell? ⟨g0, 0, none⟩ = some (.int .i64 r0k) ∧ W7.cell? ⟨g0, 1, none⟩ = some (.int .i64 r0n) ∧ W7.cell? ⟨g0, 2, none⟩ = some (.string ⟨List.toArray r0t⟩) := ⟨(B.out.get 0 rfl).c0, (B.out.get 0 rfl).c1, (B.out.get 0 rfl).c2⟩
        dsimp only
        refine hK.out _ _ (fun _ => hHeld) ?_
        clear hK K
        try simp only [Act.put, List.setIfInBounds_toArray, List.set_cons_zero, List.set_cons_succ]
        refine late_pure_at (some 26) (i := 3) (v := (.tuple #[(.agg #[.int .i64 r1k, .int .i64 r1n, .string ⟨List.toArray r1t⟩]), (.int .i64 r1e)])) rfl rfl rfl (by kernel_rfl) (by kernel_rfl) (by kernel_rfl) (fun _ _ _ h => h) (Or.inl ⟨by rfl, by intro w _; go_simp⟩) (fun _ => hHeld) ?_
        try simp only [Act.put, List.setIfInBounds_toArray, List.set_cons_zero, List.set_cons_succ]
        refine late_pure_at (some 30) (i := 4) (v := (.agg #[.int .i64 r1k, .int .i64 r1n, .string ⟨List.toArray r1t⟩])) rfl rfl rfl (by kernel_rfl) (by kernel_rfl) (by kernel_rfl) (fun _ _ _ h => h) (Or.inl ⟨by rfl, by intro w _; go_simp⟩) (fun _ => hHeld) ?_
        try simp only [Act.put, List.setIfInBounds_toArray, List.set_cons_zero, List.set_cons_succ]
        refine late_pure_at (some 31) (i := 5) (v := (.int .i64 r1e)) rfl rfl rfl (by kernel_rfl) (by kernel_rfl) (by kernel_rfl) (fun _ _ _ h => h) (Or.inl ⟨by rfl, by intro w _; go_simp⟩) (fun _ => hHeld) ?_
        try simp only [Act.put, List.setIfInBounds_toArray, List.set_cons_zero, List.set_cons_succ]
        refine late_ready (rs := [6]) (by kernel_rfl) (by simp) ?_
        refine AllLate.cons rfl (fun K hK => ?_) ?_
        · skip
          go_simp
          have hB : Bxs (W7.alloc (.cells #[.int .i64 0, .int .i64 0, .string ⟨#[]⟩] 23)) ((W7.heap.size, (⟨0, 0, []⟩ : Vl)) :: [(g0, (⟨r0k, r0n, r0t⟩ : Vl))]) := B.out.push (⟨0, 0, []⟩ : Vl) 23
          have hL : Below w.heap.size w (W7.alloc (.cells #[.int .i64 0, .int .i64 0, .string ⟨#[]⟩] 23)) := BL.out.alloc BL.out.size _
          have HGb3_2_1 : Hid (w.heap.size ≤ W7.heap.size) := Lib.hid BL.out.size
          obtain ⟨W8, hW⟩ : ∃ X, W7.alloc (.cells #[.int .i64 0, .int .i64 0, .string ⟨#[]⟩] 23) = X := ⟨_, rfl⟩
          obtain ⟨g1, hg⟩ : ∃ g, W7.heap.size = g := ⟨_, rfl⟩
          rw [hW] at hB hL ⊢
          rw [hg] at hB HGb3_2_1 ⊢
          replace B := Lib.hid hB
          replace BL := Lib.hid hL
          clear hB hL hW hg hHeld
          have hHeld : W8.cell? ⟨g0, 0, none⟩ = some (.int .i64 r0k) ∧ W8.cell? ⟨g0, 1, none⟩ = some (.int .i64 r0n) ∧ W8.cell? ⟨g0, 2, none⟩ = some (.string ⟨List.toArray r0t⟩) := ⟨(B.out.get 1 rfl).c0, (B.out.get 1 rfl).c1, (B.out.get 1 rfl).c2⟩
          refine hK.out _ _ (fun _ => hHeld) ?_
          clear hK K
          try simp only [Act.put, List.setIfInBounds_toArray, List.set_cons_zero, List.set_cons_succ]
          refine late_ready (rs := [7]) (by kernel_rfl) (by simp) ?_
          refine AllLate.cons rfl (fun K hK => ?_) ?_
          · skip
            have cb3_2_1_0 : W8.cell? ⟨g1, 0, none⟩ = some (.int .i64 0) := (B.out.get 0 rfl).c0
            have cb3_2_1_1 : W8.cell? ⟨g1, 1, none⟩ = some (.int .i64 0) := (B.out.get 0 rfl).c1
            have cb3_2_1_2 : W8.cell? ⟨g1, 2, none⟩ = some (.string ⟨List.toArray []⟩) := (B.out.get 0 rfl).c2
            have zb3_2_1_0 : W8.frozen? ⟨g1, 0, none⟩ = false := (B.out.get 0 rfl).f0
            have zb3_2_1_1 : W8.frozen? ⟨g1, 1, none⟩ = false := (B.out.get 0 rfl).f1
            have zb3_2_1_2 : W8.frozen? ⟨g1, 2, none⟩ = false := (B.out.get 0 rfl).f2
            have zb3_2_1_l : g1 < W8.heap.size := (B.out.get 0 rfl).lt
            go_simp
            clear cb3_2_1_0 cb3_2_1_1 cb3_2_1_2 zb3_2_1_0 zb3_2_1_1 zb3_2_1_2 zb3_2_1_l
            have hB : Bxs (((W8.setCell ⟨g1, 0, none⟩ (.int .i64 r1k)).setCell ⟨g1, 1, none⟩ (.int .i64 r1n)).setCell ⟨g1, 2, none⟩ (.string ⟨List.toArray r1t⟩)) [(g1, (⟨r1k, r1n, r1t⟩ : Vl)), (g0, (⟨r0k, r0n, r0t⟩ : Vl))] := B.out.put (b := (⟨r1k, r1n, r1t⟩ : Vl)) 0 rfl
            have hL : Below w.heap.size w (((W8.setCell ⟨g1, 0, none⟩ (.int .i64 r1k)).setCell ⟨g1, 1, none⟩ (.int .i64 r1n)).setCell ⟨g1, 2, none⟩ (.string ⟨List.toArray r1t⟩)) := below_putV BL.out HGb3_2_1.out (⟨r1k, r1n, r1t⟩ : Vl)
            obtain ⟨W9, hW⟩ : ∃ X, ((W8.setCell ⟨g1, 0, none⟩ (.int .i64 r1k)).setCell ⟨g1, 1, none⟩ (.int .i64 r1n)).setCell ⟨g1, 2, none⟩ (.string ⟨List.toArray r1t⟩) = X := ⟨_, rfl⟩
            rw [hW] at hB hL ⊢
            replace B := Lib.hid hB
            replace BL := Lib.hid hL
            clear hB hL hW hHeld
            refine hK.out _ _ (not_clean 7 rfl (by kernel_rfl)) ?_
            clear hK K
            try simp only [Act.put, List.setIfInBounds_toArray, List.set_cons_zero, List.set_cons_succ]
            refine late_pure_at (some 4) (i := 8) (v := (.int .i64 r1e)) rfl rfl rfl (by kernel_rfl) (by kernel_rfl) (by kernel_rfl) (fun _ _ _ h => h) (Or.inl ⟨by rfl, by intro w _; go_simp⟩) (not_clean 7 rfl (by kernel_rfl)) ?_
            try simp only [Act.put, List.setIfInBounds_toArray, List.set_cons_zero, List.set_cons_succ]
            refine late_done (by kernel_rfl) ?_ _
            refine NoPanic.normal ?_
            go_wp2_with fail
            go_meet
            exact ⟨_, rfl, rfl, HGb3_2_1, B, BL⟩
          exact AllLate.nil
        exact AllLate.nil
      refine AllLate.cons rfl (fun K hK => ?_) ?_
      · skip
        go_simp
        have hB : Bxs (W6.alloc (.cells #[.int .i64 0, .int .i64 0, .string ⟨#[]⟩] 23)) ((W6.heap.size, (⟨0, 0, []⟩ : Vl)) :: [(g0, (⟨r0k, r0n, r0t⟩ : Vl))]) := B.out.push (⟨0, 0, []⟩ : Vl) 23
        have hL : Below w.heap.size w (W6.alloc (.cells #[.int .i64 0, .int .i64 0, .string ⟨#[]⟩] 23)) := BL.out.alloc BL.out.size _
        have HGb3_2_1 : Hid (w.heap.size ≤ W6.heap.size) := Lib.hid BL.out.size
        obtain ⟨W10, hW⟩ : ∃ X, W6.alloc (.cells #[.int .i64 0, .int .i64 0, .string ⟨#[]⟩] 23) = X := ⟨_, rfl⟩
        obtain ⟨g2, hg⟩ : ∃ g, W6.heap.size = g := ⟨_, rfl⟩
        rw [hW] at hB hL ⊢
        rw [hg] at hB HGb3_2_1 ⊢
        replace B := Lib.hid hB
        replace BL := Lib.hid hL
        clear hB hL hW hg hHeld
        have hHeld : W10.cell? ⟨g0, 0, none⟩ = some (.int .i64 r0k) ∧ W10.cell? ⟨g0, 1, none⟩ = some (.int .i64 r0n) ∧ W10.cell? ⟨g0, 2, none⟩ = some (.string ⟨List.toArray r0t⟩) := ⟨(B.out.get 1 rfl).c0, (B.out.get 1 rfl).c1, (B.out.get 1 rfl).c2⟩
        refine hK.out _ _ (fun _ => hHeld) ?_
        clear hK K
        try simp only [Act.put, List.setIfInBounds_toArray, List.set_cons_zero, List.set_cons_succ]
        refine late_ready (rs := [2]) (by kernel_rfl) (by simp) ?_
        refine AllLate.cons rfl (fun K hK => ?_) ?_
        · skip
          go_simp
          refine (HC1.out _ (HE.out.below BL.out)).mono ?_
          rintro e W11 ⟨rfl, hb⟩
          clear hHeld
          replace B := Lib.hid (B.out.below hb)
          replace BL := Lib.hid (below_then BL.out hb)
          clear hb
          have hHeld : W11.cell? ⟨g0, 0, none⟩ = some (.int .i64 r0k) ∧ W11.cell? ⟨g0, 1, none⟩ = some (.int .i64 r0n) ∧ W11.cell? ⟨g0, 2, none⟩ = some (.string ⟨List.toArray r0t⟩) := ⟨(B.out.get 1 rfl).c0, (B.out.get 1 rfl).c1, (B.out.get 1 rfl).c2⟩
          dsimp only
          refine hK.out _ _ (fun _ => hHeld) ?_
          clear hK K
          try simp only [Act.put, List.setIfInBounds_toArray, List.set_cons_zero, List.set_cons_succ]
          refine late_pure_at (some 26) (i := 3) (v := (.tuple #[(.agg #[.int .i64 r1k, .int .i64 r1n, .string ⟨List.toArray r1t⟩]), (.int .i64 r1e)])) rfl rfl rfl (by kernel_rfl) (by kernel_rfl) (by kernel_rfl) (fun _ _ _ h => h) (Or.inl ⟨by rfl, by intro w _; go_simp⟩) (fun _ => hHeld) ?_
          try simp only [Act.put, List.setIfInBounds_toArray, List.set_cons_zero, List.set_cons_succ]
          refine late_pure_at (some 30) (i := 4) (v := (.agg #[.int .i64 r1k, .int .i64 r1n, .string ⟨List.toArray r1t⟩])) rfl rfl rfl (by kernel_rfl) (by kernel_rfl) (by kernel_rfl) (fun _ _ _ h => h) (Or.inl ⟨by rfl, by intro w _; go_simp⟩) (fun _ => hHeld) ?_
          try simp only [Act.put, List.setIfInBounds_toArray, List.set_cons_zero, List.set_cons_succ]
          refine late_pure_at (some 31) (i := 5) (v := (.int .i64 r1e)) rfl rfl rfl (by kernel_rfl) (by kernel_rfl) (by kernel_rfl) (fun _ _ _ h => h) (Or.inl ⟨by rfl, by intro w _; go_simp⟩) (fun _ => hHeld) ?_
          try simp only [Act.put, List.setIfInBounds_toArray, List.set_cons_zero, List.set_cons_succ]
          refine late_ready (rs := [7]) (by kernel_rfl) (by simp) ?_
          refine AllLate.cons rfl (fun K hK => ?_) ?_
          · skip
            have cb3_2_1_0 : W11.cell? ⟨g2, 0, none⟩ = some (.int .i64 0) := (B.out.get 0 rfl).c0
            have cb3_2_1_1 : W11.cell? ⟨g2, 1, none⟩ = some (.int .i64 0) := (B.out.get 0 rfl).c1
            have cb3_2_1_2 : W11.cell? ⟨g2, 2, none⟩ = some (.string ⟨List.toArray []⟩) := (B.out.get 0 rfl).c2
            have zb3_2_1_0 : W11.frozen? ⟨g2, 0, none⟩ = false := (B.out.get 0 rfl).f0
            have zb3_2_1_1 : W11.frozen? ⟨g2, 1, none⟩ = false := (B.out.get 0 rfl).f1
            have zb3_2_1_2 : W11.frozen? ⟨g2, 2, none⟩ = false := (B.out.get 0 rfl).f2
            have zb3_2_1_l : g2 < W11.heap.size := (B.out.get 0 rfl).lt
            go_simp
            clear cb3_2_1_0 cb3_2_1_1 cb3_2_1_2 zb3_2_1_0 zb3_2_1_1 zb3_2_1_2 zb3_2_1_l
            have hB : Bxs (((W11.setCell ⟨g2, 0, none⟩ (.int .i64 r1k)).setCell ⟨g2, 1, none⟩ (.int .i64 r1n)).setCell ⟨g2, 2, none⟩ (.string ⟨List.toArray r1t⟩)) [(g2, (⟨r1k, r1n, r1t⟩ : Vl)), (g0, (⟨r0k, r0n, r0t⟩ : Vl))] := B.out.put (b := (⟨r1k, r1n, r1t⟩ : Vl)) 0 rfl
            have hL : Below w.heap.size w (((W11.setCell ⟨g2, 0, none⟩ (.int .i64 r1k)).setCell ⟨g2, 1, none⟩ (.int .i64 r1n)).setCell ⟨g2, 2, none⟩ (.string ⟨List.toArray r1t⟩)) := below_putV BL.out HGb3_2_1.out (⟨r1k, r1n, r1t⟩ : Vl)
            obtain ⟨W12, hW⟩ : ∃ X, ((W11.setCell ⟨g2, 0, none⟩ (.int .i64 r1k)).setCell ⟨g2, 1, none⟩ (.int .i64 r1n)).setCell ⟨g2, 2, none⟩ (.string ⟨List.toArray r1t⟩) = X := ⟨_, rfl⟩
            rw [hW] at hB hL ⊢
            replace B := Lib.hid hB
            replace BL := Lib.hid hL
            clear hB hL hW hHeld
            refine hK.out _ _ (not_clean 7 rfl (by kernel_rfl)) ?_
            clear hK K
            try simp only [Act.put, List.setIfInBounds_toArray, List.set_cons_zero, List.set_cons_succ]
            refine late_pure_at (some 4) (i := 8) (v := (.int .i64 r1e)) rfl rfl rfl (by kernel_rfl) (by kernel_rfl) (by kernel_rfl) (fun _ _ _ h => h) (Or.inl ⟨by rfl, by intro w _; go_simp⟩) (not_clean 7 rfl (by kernel_rfl)) ?_
            try simp only [Act.put, List.setIfInBounds_toArray, List.set_cons_zero, List.set_cons_succ]
            refine late_done (by kernel_rfl) ?_ _
            refine NoPanic.normal ?_
            go_wp2_with fail
            go_meet
            exact ⟨_, rfl, rfl, HGb3_2_1, B, BL⟩
          exact AllLate.nil
        exact AllLate.nil
      exact AllLate.nil
    refine AllLate.cons rfl (fun K hK => ?_) ?_
    · skip
      go_simp
      have hB : Bxs (W5.alloc (.cells #[.int .i64 0, .int .i64 0, .string ⟨#[]⟩] 23)) ((W5.heap.size, (⟨0, 0, []⟩ : Vl)) :: [(g0, (⟨r0k, r0n, r0t⟩ : Vl))]) := B.out.push (⟨0, 0, []⟩ : Vl) 23
      have hL : Below w.heap.size w (W5.alloc (.cells #[.int .i64 0, .int .i64 0, .string ⟨#[]⟩] 23)) := BL.out.alloc BL.out.size _
      have HGb3_2_1 : Hid (w.heap.size ≤ W5.heap.size) := Lib.hid BL.out.size
      obtain ⟨W13, hW⟩ : ∃ X, W5.alloc (.cells #[.int .i64 0, .int .i64 0, .string ⟨#[]⟩] 23) = X := ⟨_, rfl⟩
      obtain ⟨g3, hg⟩ : ∃ g, W5.heap.size = g := ⟨_, rfl⟩
      rw [hW] at hB hL ⊢
      rw [hg] at hB HGb3_2_1 ⊢
      replace B := Lib.hid hB
      replace BL := Lib.hid hL
      clear hB hL hW hg hHeld
      have hHeld : W13.cell? ⟨g0, 0, none⟩ = some (.int .i64 r0k) ∧ W13.cell? ⟨g0, 1, none⟩ = some (.int .i64 r0n) ∧ W13.cell? ⟨g0, 2, none⟩ = some (.string ⟨List.toArray r0t⟩) := ⟨(B.out.get 1 rfl).c0, (B.out.get 1 rfl).c1, (B.out.get 1 rfl).c2⟩
      refine hK.out _ _ (fun _ => hHeld) ?_
      clear hK K
      try simp only [Act.put, List.setIfInBounds_toArray, List.set_cons_zero, List.set_cons_succ]
      refine late_ready (rs := [1]) (by kernel_rfl) (by simp) ?_
      refine AllLate.cons rfl (fun K hK => ?_) ?_
      · skip
        go_simp
        refine (num_calls 1 _).mono ?_
        rintro e W14 ⟨rfl, hb⟩
        clear hHeld
        replace B := Lib.hid (B.out.below hb)
        replace BL := Lib.hid (below_then BL.out hb)
        clear hb
        have hHeld : W14.cell? ⟨g0, 0, none⟩ = some (.int .i64 r0k) ∧ W14.cell? ⟨g0, 1, none⟩ = some (.int .i64 r0n) ∧ W14.cell? ⟨g0, 2, none⟩ = some (.string ⟨List.toArray r0t⟩) := ⟨(B.out.get 1 rfl).c0, (B.out.get 1 rfl).c1, (B.out.get 1 rfl).c2⟩
        dsimp only
        refine hK.out _ _ (fun _ => hHeld) ?_
        clear hK K
        try simp only [Act.put, List.setIfInBounds_toArray, List.set_cons_zero, List.set_cons_succ]
        refine late_ready (rs := [2]) (by kernel_rfl) (by simp) ?_
        refine AllLate.cons rfl (fun K hK => ?_) ?_
        · skip
          go_simp
          refine (HC1.out _ (HE.out.below BL.out)).mono ?_
          rintro e W15 ⟨rfl, hb⟩
          clear hHeld
          replace B := Lib.hid (B.out.below hb)
          replace BL := Lib.hid (below_then BL.out hb)
          clear hb
          have hHeld : W15.cell? ⟨g0, 0, none⟩ = some (.int .i64 r0k) ∧ W15.cell? ⟨g0, 1, none⟩ = some (.int .i64 r0n) ∧ W15.cell? ⟨g0, 2, none⟩ = some (.string ⟨List.toArray r0t⟩) := ⟨(B.out.get 1 rfl).c0, (B.out.get 1 rfl).c1, (B.out.get 1 rfl).c2⟩
          dsimp only
          refine hK.out _ _ (fun _ => hHeld) ?_
          clear hK K
          try simp only [Act.put, List.setIfInBounds_toArray, List.set_cons_zero, List.set_cons_succ]
          refine late_pure_at (some 26) (i := 3) (v := (.tuple #[(.agg #[.int .i64 r1k, .int .i64 r1n, .string ⟨List.toArray r1t⟩]), (.int .i64 r1e)])) rfl rfl rfl (by kernel_rfl) (by kernel_rfl) (by kernel_rfl) (fun _ _ _ h => h) (Or.inl ⟨by rfl, by intro w _; go_simp⟩) (fun _ => hHeld) ?_
          try simp only [Act.put, List.setIfInBounds_toArray, List.set_cons_zero, List.set_cons_succ]
          refine late_pure_at (some 30) (i := 4) (v := (.agg #[.int .i64 r1k, .int .i64 r1n, .string ⟨List.toArray r1t⟩])) rfl rfl rfl (by kernel_rfl) (by kernel_rfl) (by kernel_rfl) (fun _ _ _ h => h) (Or.inl ⟨by rfl, by intro w _; go_simp⟩) (fun _ => hHeld) ?_
          try simp only [Act.put, List.setIfInBounds_toArray, List.set_cons_zero, List.set_cons_succ]
          refine late_pure_at (some 31) (i := 5) (v := (.int .i64 r1e)) rfl rfl rfl (by kernel_rfl) (by kernel_rfl) (by kernel_rfl) (fun _ _ _ h => h) (Or.inl ⟨by rfl, by intro w _; go_simp⟩) (fun _ => hHeld) ?_
          try simp only [Act.put, List.setIfInBounds_toArray, List.set_cons_zero, List.set_cons_succ]
          refine late_ready (rs := [7]) (by kernel_rfl) (by simp) ?_
          refine AllLate.cons rfl (fun K hK => ?_) ?_
          · skip
            have cb3_2_1_0 : W15.cell? ⟨g3, 0, none⟩ = some (.int .i64 0) := (B.out.get 0 rfl).c0
            have cb3_2_1_1 : W15.cell? ⟨g3, 1, none⟩ = some (.int .i64 0) := (B.out.get 0 rfl).c1
            have cb3_2_1_2 : W15.cell? ⟨g3, 2, none⟩ = some (.string ⟨List.toArray []⟩) := (B.out.get 0 rfl).c2
            have zb3_2_1_0 : W15.frozen? ⟨g3, 0, none⟩ = false := (B.out.get 0 rfl).f0
            have zb3_2_1_1 : W15.frozen? ⟨g3, 1, none⟩ = false := (B.out.get 0 rfl).f1
            have zb3_2_1_2 : W15.frozen? ⟨g3, 2, none⟩ = false := (B.out.get 0 rfl).f2
            have zb3_2_1_l : g3 < W15.heap.size := (B.out.get 0 rfl).lt
            go_simp
            clear cb3_2_1_0 cb3_2_1_1 cb3_2_1_2 zb3_2_1_0 zb3_2_1_1 zb3_2_1_2 zb3_2_1_l
            have hB : Bxs (((W15.setCell ⟨g3, 0, none⟩ (.int .i64 r1k)).setCell ⟨g3, 1, none⟩ (.int .i64 r1n)).setCell ⟨g3, 2, none⟩ (.string ⟨List.toArray r1t⟩)) [(g3, (⟨r1k, r1n, r1t⟩ : Vl)), (g0, (⟨r0k, r0n, r0t⟩ : Vl))] := B.out.put (b := (⟨r1k, r1n, r1t⟩ : Vl)) 0 rfl
            have hL : Below w.heap.size w (((W15.setCell ⟨g3, 0, none⟩ (.int .i64 r1k)).setCell ⟨g3, 1, none⟩ (.int .i64 r1n)).setCell ⟨g3, 2, none⟩ (.string ⟨List.toArray r1t⟩)) := below_putV BL.out HGb3_2_1.out (⟨r1k, r1n, r1t⟩ : Vl)
            obtain ⟨W16, hW⟩ : ∃ X, ((W15.setCell ⟨g3, 0, none⟩ (.int .i64 r1k)).setCell ⟨g3, 1, none⟩ (.int .i64 r1n)).setCell ⟨g3, 2, none⟩ (.string ⟨List.toArray r1t⟩) = X := ⟨_, rfl⟩
            rw [hW] at hB hL ⊢
            replace B := Lib.hid hB
            replace BL := Lib.hid hL
            clear hB hL hW hHeld
            refine hK.out _ _ (not_clean 7 rfl (by kernel_rfl)) ?_
            clear hK K
            try simp only [Act.put, List.setIfInBounds_toArray, List.set_cons_zero, List.set_cons_succ]
            refine late_pure_at (some 4) (i := 8) (v := (.int .i64 r1e)) rfl rfl rfl (by kernel_rfl) (by kernel_rfl) (by kernel_rfl) (fun _ _ _ h => h) (Or.inl ⟨by rfl, by intro w _; go_simp⟩) (not_clean 7 rfl (by kernel_rfl)) ?_
            try simp only [Act.put, List.setIfInBounds_toArray, List.set_cons_zero, List.set_cons_succ]
            refine late_done (by kernel_rfl) ?_ _
            refine NoPanic.normal ?_
            go_wp2_with fail
            go_meet
            exact ⟨_, rfl, rfl, HGb3_2_1, B, BL⟩
          exact AllLate.nil
        exact AllLate.nil
      exact AllLate.nil
    exact AllLate.nil
  case rest =>
    clear B BL
    obtain ⟨g4, rfl, rfl, HGb3_2_1, B, BL⟩ := hcut
    obtain ⟨W17, hW⟩ : ∃ X, wc = X := ⟨_, rfl⟩
    rw [hW] at B BL ⊢
    clear hW
    replace HL := Lib.hid (show true = awake_s9 ((⟨r0k, r0n, r0t⟩, r0e) : Vl × Int) ((⟨r1k, r1n, r1t⟩, r1e) : Vl × Int) from HL.out.trans (by unfold awake_s10; rw [HR1.out]))
    -- region 3
    go_wp2_with fail
    refine (num_calls 4294967296 _).mono ?_
    rintro e W18 ⟨rfl, hb⟩
    replace B := Lib.hid (B.out.below hb)
    replace BL := Lib.hid (below_then BL.out hb)
    clear hb
    go_wp2_with fail
    refine (num_calls 4294967296 _).mono ?_
    rintro e W19 ⟨rfl, hb⟩
    replace B := Lib.hid (B.out.below hb)
    replace BL := Lib.hid (below_then BL.out hb)
    clear hb
    obtain ⟨⟨⟨r2k, r2n, r2t⟩, r2e⟩, hr2⟩ : ∃ p, mulR (⟨1, 4294967296, []⟩ : Vl) (⟨1, 4294967296, []⟩ : Vl) = p := ⟨_, rfl⟩
    have hc2 := fun (W : World) (hW : Env W) => mul_pub (⟨1, 4294967296, []⟩ : Vl) (⟨1, 4294967296, []⟩ : Vl) (num_ok 4294967296 (by unfold Small64; omega)) (num_ok 4294967296 (by unfold Small64; omega)) W hW
    have ho2 := mulR_ok (⟨1, 4294967296, []⟩ : Vl) (⟨1, 4294967296, []⟩ : Vl)
    rw [hr2] at hc2 ho2
    simp only [Vl.val, pr] at hc2
    have HC2 := Lib.hid hc2; have HOr2 : Hid (Vl.ok ⟨r2k, r2n, r2t⟩) := Lib.hid ho2; have HR2 := Lib.hid hr2
    clear hc2 ho2 hr2
    go_wp2_with fail
    refine (HC2.out _ (HE.out.below BL.out)).mono ?_
    rintro e W20 ⟨rfl, hb⟩
    replace B := Lib.hid (B.out.below hb)
    replace BL := Lib.hid (below_then BL.out hb)
    clear hb
    go_upto_region 4 with fail
    have hB : Bxs (W20.alloc (.cells #[.int .i64 r2k, .int .i64 r2n, .string ⟨List.toArray r2t⟩] 23)) ((W20.heap.size, (⟨r2k, r2n, r2t⟩ : Vl)) :: [(g4, (⟨r1k, r1n, r1t⟩ : Vl)), (g0, (⟨r0k, r0n, r0t⟩ : Vl))]) := B.out.push (⟨r2k, r2n, r2t⟩ : Vl) 23
    have hL : Below w.heap.size w (W20.alloc (.cells #[.int .i64 r2k, .int .i64 r2n, .string ⟨List.toArray r2t⟩] 23)) := BL.out.alloc BL.out.size _
    obtain ⟨W21, hW⟩ : ∃ X, W20.alloc (.cells #[.int .i64 r2k, .int .i64 r2n, .string ⟨List.toArray r2t⟩] 23) = X := ⟨_, rfl⟩
    obtain ⟨g5, hg⟩ : ∃ g, W20.heap.size = g := ⟨_, rfl⟩
    rw [hW] at hB hL ⊢
    rw [hg] at hB ⊢
    have HGb5_3_2 : Hid (w.heap.size ≤ g5) := Lib.hid (by rw [← hg]; exact BL.out.size)
    replace B := Lib.hid hB
    replace BL := Lib.hid hL
    clear hB hL hW hg
    replace HL := Lib.hid (show true = awake_s8 ((⟨r0k, r0n, r0t⟩, r0e) : Vl × Int) ((⟨r1k, r1n, r1t⟩, r1e) : Vl × Int) ((⟨r2k, r2n, r2t⟩, r2e) : Vl × Int) from HL.out.trans (by unfold awake_s9; rw [HR2.out]))
    -- region 4
    go_wp2_with fail
    refine (num_calls 7 _).mono ?_
    rintro e W22 ⟨rfl, hb⟩
    replace B := Lib.hid (B.out.below hb)
    replace BL := Lib.hid (below_then BL.out hb)
    clear hb
    go_wp2_with fail
    refine (num_calls (-2) _).mono ?_
    rintro e W23 ⟨rfl, hb⟩
    replace B := Lib.hid (B.out.below hb)
    replace BL := Lib.hid (below_then BL.out hb)
    clear hb
    obtain ⟨⟨⟨r3k, r3n, r3t⟩, r3e⟩, hr3⟩ : ∃ p, divR (⟨1, 7, []⟩ : Vl) (⟨1, (-2), []⟩ : Vl) = p := ⟨_, rfl⟩
    have hc3 := fun (W : World) (hW : Env W) => div_pub (⟨1, 7, []⟩ : Vl) (⟨1, (-2), []⟩ : Vl) (num_ok 7 (by unfold Small64; omega)) (num_ok (-2) (by unfold Small64; omega)) W hW
    have ho3 := divR_ok (⟨1, 7, []⟩ : Vl) (⟨1, (-2), []⟩ : Vl)
    rw [hr3] at hc3 ho3
    simp only [Vl.val, pr] at hc3
    have HC3 := Lib.hid hc3; have HOr3 : Hid (Vl.ok ⟨r3k, r3n, r3t⟩) := Lib.hid ho3; have HR3 := Lib.hid hr3
    clear hc3 ho3 hr3
    go_wp2_with fail
    refine (HC3.out _ (HE.out.below BL.out)).mono ?_
    rintro e W24 ⟨rfl, hb⟩
    replace B := Lib.hid (B.out.below hb)
    replace BL := Lib.hid (below_then BL.out hb)
    clear hb
    go_upto_region 5 with fail
    have hB : Bxs (W24.alloc (.cells #[.int .i64 r3k, .int .i64 r3n, .string ⟨List.toArray r3t⟩] 23)) ((W24.heap.size, (⟨r3k, r3n, r3t⟩ : Vl)) :: [(g5, (⟨r2k, r2n, r2t⟩ : Vl)), (g4, (⟨r1k, r1n, r1t⟩ : Vl)), (g0, (⟨r0k, r0n, r0t⟩ : Vl))]) := B.out.push (⟨r3k, r3n, r3t⟩ : Vl) 23
    have hL : Below w.heap.size w (W24.alloc (.cells #[.int .i64 r3k, .int .i64 r3n, .string ⟨List.toArray r3t⟩] 23)) := BL.out.alloc BL.out.size _
    obtain ⟨W25, hW⟩ : ∃ X, W24.alloc (.cells #[.int .i64 r3k, .int .i64 r3n, .string ⟨List.toArray r3t⟩] 23) = X := ⟨_, rfl⟩
    obtain ⟨g6, hg⟩ : ∃ g, W24.heap.size = g := ⟨_, rfl⟩
    rw [hW] at hB hL ⊢
    rw [hg] at hB ⊢
    have HGb7_4_3 : Hid (w.heap.size ≤ g6) := Lib.hid (by rw [← hg]; exact BL.out.size)
    replace B := Lib.hid hB
    replace BL := Lib.hid hL
    clear hB hL hW hg
    replace HL := Lib.hid (show true = awake_s7 ((⟨r0k, r0n, r0t⟩, r0e) : Vl × Int) ((⟨r1k, r1n, r1t⟩, r1e) : Vl × Int) ((⟨r2k, r2n, r2t⟩, r2e) : Vl × Int) ((⟨r3k, r3n, r3t⟩, r3e) : Vl × Int) from HL.out.trans (by unfold awake_s8; rw [HR3.out]))
    -- region 5
    go_wp2_with fail
    refine (num_calls (-7) _).mono ?_
    rintro e W26 ⟨rfl, hb⟩
    replace B := Lib.hid (B.out.below hb)
    replace BL := Lib.hid (below_then BL.out hb)
    clear hb
    go_wp2_with fail
    refine (num_calls 2 _).mono ?_
    rintro e W27 ⟨rfl, hb⟩
    replace B := Lib.hid (B.out.below hb)
    replace BL := Lib.hid (below_then BL.out hb)
    clear hb
    obtain ⟨⟨⟨r4k, r4n, r4t⟩, r4e⟩, hr4⟩ : ∃ p, modR (⟨1, (-7), []⟩ : Vl) (⟨1, 2, []⟩ : Vl) = p := ⟨_, rfl⟩
    have hc4 := fun (W : World) (hW : Env W) => mod_pub (⟨1, (-7), []⟩ : Vl) (⟨1, 2, []⟩ : Vl) (num_ok (-7) (by unfold Small64; omega)) (num_ok 2 (by unfold Small64; omega)) W hW
    have ho4 := modR_ok (⟨1, (-7), []⟩ : Vl) (⟨1, 2, []⟩ : Vl)
    rw [hr4] at hc4 ho4
    simp only [Vl.val, pr] at hc4
    have HC4 := Lib.hid hc4; have HOr4 : Hid (Vl.ok ⟨r4k, r4n, r4t⟩) := Lib.hid ho4; have HR4 := Lib.hid hr4
    clear hc4 ho4 hr4
    go_wp2_with fail
    refine (HC4.out _ (HE.out.below BL.out)).mono ?_
    rintro e W28 ⟨rfl, hb⟩
    replace B := Lib.hid (B.out.below hb)
    replace BL := Lib.hid (below_then BL.out hb)
    clear hb
    go_upto_region 6 with fail
    have hB : Bxs (W28.alloc (.cells #[.int .i64 r4k, .int .i64 r4n, .string ⟨List.toArray r4t⟩] 23)) ((W28.heap.size, (⟨r4k, r4n, r4t⟩ : Vl)) :: [(g6, (⟨r3k, r3n, r3t⟩ : Vl)), (g5, (⟨r2k, r2n, r2t⟩ : Vl)), (g4, (⟨r1k, r1n, r1t⟩ : Vl)), (g0, (⟨r0k, r0n, r0t⟩ : Vl))]) := B.out.push (⟨r4k, r4n, r4t⟩ : Vl) 23
    have hL : Below w.heap.size w (W28.alloc (.cells #[.int .i64 r4k, .int .i64 r4n, .string ⟨List.toArray r4t⟩] 23)) := BL.out.alloc BL.out.size _
    obtain ⟨W29, hW⟩ : ∃ X, W28.alloc (.cells #[.int .i64 r4k, .int .i64 r4n, .string ⟨List.toArray r4t⟩] 23) = X := ⟨_, rfl⟩
    obtain ⟨g7, hg⟩ : ∃ g, W28.heap.size = g := ⟨_, rfl⟩
    rw [hW] at hB hL ⊢
    rw [hg] at hB ⊢
    have HGb9_5_4 : Hid (w.heap.size ≤ g7) := Lib.hid (by rw [← hg]; exact BL.out.size)
    replace B := Lib.hid hB
    replace BL := Lib.hid hL
    clear hB hL hW hg
    replace HL := Lib.hid (show true = awake_s6 ((⟨r0k, r0n, r0t⟩, r0e) : Vl × Int) ((⟨r1k, r1n, r1t⟩, r1e) : Vl × Int) ((⟨r2k, r2n, r2t⟩, r2e) : Vl × Int) ((⟨r3k, r3n, r3t⟩, r3e) : Vl × Int) ((⟨r4k, r4n, r4t⟩, r4e) : Vl × Int) from HL.out.trans (by unfold awake_s7; rw [HR4.out]))
    -- region 6
    go_wp2_with fail
    refine (num_calls 2 _).mono ?_
    rintro e W30 ⟨rfl, hb⟩
    replace B := Lib.hid (B.out.below hb)
    replace BL := Lib.hid (below_then BL.out hb)
    clear hb
    obtain ⟨⟨⟨r5k, r5n, r5t⟩, r5e⟩, hr5⟩ : ∃ p, powR (⟨1, 2, []⟩ : Vl) 64 = p := ⟨_, rfl⟩
    have hc5 := fun (W : World) (hW : Env W) => powV (⟨1, 2, []⟩ : Vl) 64 (num_ok 2 (by unfold Small64; omega)) W hW
    have ho5 := powR_ok (⟨1, 2, []⟩ : Vl) 64
    rw [hr5] at hc5 ho5
    simp only [Vl.val, pr] at hc5
    have HC5 := Lib.hid hc5; have HOr5 : Hid (Vl.ok ⟨r5k, r5n, r5t⟩) := Lib.hid ho5; have HR5 := Lib.hid hr5
    clear hc5 ho5 hr5
    go_wp2_with fail
    refine (HC5.out _ (HE.out.below BL.out)).mono ?_
    rintro e W31 ⟨rfl, hb⟩
    replace B := Lib.hid (B.out.below hb)
    replace BL := Lib.hid (below_then BL.out hb)
    clear hb
    go_upto_region 7 with fail
    have hB : Bxs (W31.alloc (.cells #[.int .i64 r5k, .int .i64 r5n, .string ⟨List.toArray r5t⟩] 23)) ((W31.heap.size, (⟨r5k, r5n, r5t⟩ : Vl)) :: [(g7, (⟨r4k, r4n, r4t⟩ : Vl)), (g6, (⟨r3k, r3n, r3t⟩ : Vl)), (g5, (⟨r2k, r2n, r2t⟩ : Vl)), (g4, (⟨r1k, r1n, r1t⟩ : Vl)), (g0, (⟨r0k, r0n, r0t⟩ : Vl))]) := B.out.push (⟨r5k, r5n, r5t⟩ : Vl) 23
    have hL : Below w.heap.size w (W31.alloc (.cells #[.int .i64 r5k, .int .i64 r5n, .string ⟨List.toArray r5t⟩] 23)) := BL.out.alloc BL.out.size _
    obtain ⟨W32, hW⟩ : ∃ X, W31.alloc (.cells #[.int .i64 r5k, .int .i64 r5n, .string ⟨List.toArray r5t⟩] 23) = X := ⟨_, rfl⟩
    obtain ⟨g8, hg⟩ : ∃ g, W31.heap.size = g := ⟨_, rfl⟩
    rw [hW] at hB hL ⊢
    rw [hg] at hB ⊢
    have HGb11_6_5 : Hid (w.heap.size ≤ g8) := Lib.hid (by rw [← hg]; exact BL.out.size)
    replace B := Lib.hid hB
    replace BL := Lib.hid hL
    clear hB hL hW hg
    replace HL := Lib.hid (show true = awake_s5 ((⟨r0k, r0n, r0t⟩, r0e) : Vl × Int) ((⟨r1k, r1n, r1t⟩, r1e) : Vl × Int) ((⟨r2k, r2n, r2t⟩, r2e) : Vl × Int) ((⟨r3k, r3n, r3t⟩, r3e) : Vl × Int) ((⟨r4k, r4n, r4t⟩, r4e) : Vl × Int) ((⟨r5k, r5n, r5t⟩, r5e) : Vl × Int) from HL.out.trans (by unfold awake_s6; rw [HR5.out]))
    -- region 7
    go_wp2_with fail
    refine (num_calls 99 _).mono ?_
    rintro e W33 ⟨rfl, hb⟩
    replace B := Lib.hid (B.out.below hb)
    replace BL := Lib.hid (below_then BL.out hb)
    clear hb
    obtain ⟨⟨⟨r6k, r6n, r6t⟩, r6e⟩, hr6⟩ : ∃ p, rootR (⟨1, 99, []⟩ : Vl) = p := ⟨_, rfl⟩
    have hc6 := fun (W : World) (hW : Env W) => rootV (⟨1, 99, []⟩ : Vl) (num_ok 99 (by unfold Small64; omega)) W hW
    have ho6 := rootR_ok (⟨1, 99, []⟩ : Vl) (num_ok 99 (by unfold Small64; omega))
    rw [hr6] at hc6 ho6
    simp only [Vl.val, pr] at hc6
    have HC6 := Lib.hid hc6; have HOr6 : Hid (Vl.ok ⟨r6k, r6n, r6t⟩) := Lib.hid ho6; have HR6 := Lib.hid hr6
    clear hc6 ho6 hr6
    go_wp2_with fail
    refine (HC6.out _ (HE.out.below BL.out)).mono ?_
    rintro e W34 ⟨rfl, hb⟩
    replace B := Lib.hid (B.out.below hb)
    replace BL := Lib.hid (below_then BL.out hb)
    clear hb
    go_upto_region 8 with fail
    have hB : Bxs (W34.alloc (.cells #[.int .i64 r6k, .int .i64 r6n, .string ⟨List.toArray r6t⟩] 23)) ((W34.heap.size, (⟨r6k, r6n, r6t⟩ : Vl)) :: [(g8, (⟨r5k, r5n, r5t⟩ : Vl)), (g7, (⟨r4k, r4n, r4t⟩ : Vl)), (g6, (⟨r3k, r3n, r3t⟩ : Vl)), (g5, (⟨r2k, r2n, r2t⟩ : Vl)), (g4, (⟨r1k, r1n, r1t⟩ : Vl)), (g0, (⟨r0k, r0n, r0t⟩ : Vl))]) := B.out.push (⟨r6k, r6n, r6t⟩ : Vl) 23
    have hL : Below w.heap.size w (W34.alloc (.cells #[.int .i64 r6k, .int .i64 r6n, .string ⟨List.toArray r6t⟩] 23)) := BL.out.alloc BL.out.size _
    obtain ⟨W35, hW⟩ : ∃ X, W34.alloc (.cells #[.int .i64 r6k, .int .i64 r6n, .string ⟨List.toArray r6t⟩] 23) = X := ⟨_, rfl⟩
    obtain ⟨g9, hg⟩ : ∃ g, W34.heap.size = g := ⟨_, rfl⟩
    rw [hW] at hB hL ⊢
    rw [hg] at hB ⊢
    have HGb13_7_6 : Hid (w.heap.size ≤ g9) := Lib.hid (by rw [← hg]; exact BL.out.size)
    replace B := Lib.hid hB
    replace BL := Lib.hid hL
    clear hB hL hW hg
    replace HL := Lib.hid (show true = awake_s4 ((⟨r0k, r0n, r0t⟩, r0e) : Vl × Int) ((⟨r1k, r1n, r1t⟩, r1e) : Vl × Int) ((⟨r2k, r2n, r2t⟩, r2e) : Vl × Int) ((⟨r3k, r3n, r3t⟩, r3e) : Vl × Int) ((⟨r4k, r4n, r4t⟩, r4e) : Vl × Int) ((⟨r5k, r5n, r5t⟩, r5e) : Vl × Int) ((⟨r6k, r6n, r6t⟩, r6e) : Vl × Int) from HL.out.trans (by unfold awake_s5; rw [HR6.out]))
    -- region 8
    obtain ⟨⟨⟨r7k, r7n, r7t⟩, r7e⟩, hr7⟩ : ∃ p, ofR ([48, 48, 55] : List UInt8) = p := ⟨_, rfl⟩
    have hc7 := fun (W : World) (hW : Env W) => ofV ([48, 48, 55] : List UInt8) (by decide) W hW
    have ho7 := ofR_ok ([48, 48, 55] : List UInt8)
    rw [hr7] at hc7 ho7
    simp only [Vl.val, pr] at hc7
    have HC7 := Lib.hid hc7; have HOr7 : Hid (Vl.ok ⟨r7k, r7n, r7t⟩) := Lib.hid ho7; have HR7 := Lib.hid hr7
    clear hc7 ho7 hr7
    go_wp2_with fail
    refine (HC7.out _ (HE.out.below BL.out)).mono ?_
    rintro e W36 ⟨rfl, hb⟩
    replace B := Lib.hid (B.out.below hb)
    replace BL := Lib.hid (below_then BL.out hb)
    clear hb
    go_upto_region 9 with fail
    have hB : Bxs (W36.alloc (.cells #[.int .i64 r7k, .int .i64 r7n, .string ⟨List.toArray r7t⟩] 23)) ((W36.heap.size, (⟨r7k, r7n, r7t⟩ : Vl)) :: [(g9, (⟨r6k, r6n, r6t⟩ : Vl)), (g8, (⟨r5k, r5n, r5t⟩ : Vl)), (g7, (⟨r4k, r4n, r4t⟩ : Vl)), (g6, (⟨r3k, r3n, r3t⟩ : Vl)), (g5, (⟨r2k, r2n, r2t⟩ : Vl)), (g4, (⟨r1k, r1n, r1t⟩ : Vl)), (g0, (⟨r0k, r0n, r0t⟩ : Vl))]) := B.out.push (⟨r7k, r7n, r7t⟩ : Vl) 23
    have hL : Below w.heap.size w (W36.alloc (.cells #[.int .i64 r7k, .int .i64 r7n, .string ⟨List.toArray r7t⟩] 23)) := BL.out.alloc BL.out.size _
    obtain ⟨W37, hW⟩ : ∃ X, W36.alloc (.cells #[.int .i64 r7k, .int .i64 r7n, .string ⟨List.toArray r7t⟩] 23) = X := ⟨_, rfl⟩
    obtain ⟨g10, hg⟩ : ∃ g, W36.heap.size = g := ⟨_, rfl⟩
    rw [hW] at hB hL ⊢
    rw [hg] at hB ⊢
    have HGb15_8_7 : Hid (w.heap.size ≤ g10) := Lib.hid (by rw [← hg]; exact BL.out.size)
    replace B := Lib.hid hB
    replace BL := Lib.hid hL
    clear hB hL hW hg
    replace HL := Lib.hid (show true = awake_s3 ((⟨r0k, r0n, r0t⟩, r0e) : Vl × Int) ((⟨r1k, r1n, r1t⟩, r1e) : Vl × Int) ((⟨r2k, r2n, r2t⟩, r2e) : Vl × Int) ((⟨r3k, r3n, r3t⟩, r3e) : Vl × Int) ((⟨r4k, r4n, r4t⟩, r4e) : Vl × Int) ((⟨r5k, r5n, r5t⟩, r5e) : Vl × Int) ((⟨r6k, r6n, r6t⟩, r6e) : Vl × Int) ((⟨r7k, r7n, r7t⟩, r7e) : Vl × Int) from HL.out.trans (by unfold awake_s4; rw [HR7.out]))
    -- region 9, a test
    obtain ⟨b0, h⟩ : ∃ b : Bool, (r0e == 0) = b := ⟨_, rfl⟩
    have HA0 := Lib.hid h
    clear h
    obtain ⟨b1, h⟩ : ∃ b : Bool, (r1e == 0) = b := ⟨_, rfl⟩
    have HA1 := Lib.hid h
    clear h
    obtain ⟨b2, h⟩ : ∃ b : Bool, (r2e == 0) = b := ⟨_, rfl⟩
    have HA2 := Lib.hid h
    clear h
    obtain ⟨b3, h⟩ : ∃ b : Bool, (r3e == 0) = b := ⟨_, rfl⟩
    have HA3 := Lib.hid h
    clear h
    obtain ⟨b4, h⟩ : ∃ b : Bool, (r4e == 0) = b := ⟨_, rfl⟩
    have HA4 := Lib.hid h
    clear h
    obtain ⟨b5, h⟩ : ∃ b : Bool, (r5e == 0) = b := ⟨_, rfl⟩
    have HA5 := Lib.hid h
    clear h
    obtain ⟨b6, h⟩ : ∃ b : Bool, (r6e == 0) = b := ⟨_, rfl⟩
    have HA6 := Lib.hid h
    clear h
    obtain ⟨b7, h⟩ : ∃ b : Bool, (r7e == 31) = b := ⟨_, rfl⟩
    have HA7 := Lib.hid h
    clear h
    have HCF : ((((((((!(r0e == 0)) || (!(r1e == 0))) || (!(r2e == 0))) || (!(r3e == 0))) || (!(r4e == 0))) || (!(r5e == 0))) || (!(r6e == 0))) || (!(r7e == 31))) = false := Bool.eq_false_iff.2 fun h => Bool.noConfusion (show true = false from HL.out.trans (if_pos h))
    have HCB : ((((((((!b0) || (!b1)) || (!b2)) || (!b3)) || (!b4)) || (!b5)) || (!b6)) || (!b7)) = false := by
      have h := HCF
      rw [HA0.out, HA1.out, HA2.out, HA3.out, HA4.out, HA5.out, HA6.out, HA7.out] at h
      exact h
    have HCW := Lib.hid HCF
    have HCC := Lib.hid HCB
    clear HCF HCB
    go_upto_region 9 with fail
    go_cut [93] from 64 to 93 (fun v wx => v = .bool false ∧ Hid (Bxs wx [(g10, (⟨r7k, r7n, r7t⟩ : Vl)), (g9, (⟨r6k, r6n, r6t⟩ : Vl)), (g8, (⟨r5k, r5n, r5t⟩ : Vl)), (g7, (⟨r4k, r4n, r4t⟩ : Vl)), (g6, (⟨r3k, r3n, r3t⟩ : Vl)), (g5, (⟨r2k, r2n, r2t⟩ : Vl)), (g4, (⟨r1k, r1n, r1t⟩ : Vl)), (g0, (⟨r0k, r0n, r0t⟩ : Vl))]) ∧ Hid (Below w.heap.size w wx))
    case first =>
      clear HL
      cases b0 with
      | true =>
        cases b1 with
        | true =>
          cases b2 with
          | true =>
            cases b3 with
            | true =>
              cases b4 with
              | true =>
                cases b5 with
                | true =>
                  cases b6 with
                  | true =>
                    cases b7 with
                    | true =>
                      have f0_0 : ((r0e : Int) == 0) = true := HA0.out
                      have f0_1 : ((r0e : Int) != 0) = false := by have h := HA0.out; simpa using h
                      have f1_0 : ((r1e : Int) == 0) = true := HA1.out
                      have f1_1 : ((r1e : Int) != 0) = false := by have h := HA1.out; simpa using h
                      have f2_0 : ((r2e : Int) == 0) = true := HA2.out
                      have f2_1 : ((r2e : Int) != 0) = false := by have h := HA2.out; simpa using h
                      have f3_0 : ((r3e : Int) == 0) = true := HA3.out
                      have f3_1 : ((r3e : Int) != 0) = false := by have h := HA3.out; simpa using h
                      have f4_0 : ((r4e : Int) == 0) = true := HA4.out
                      have f4_1 : ((r4e : Int) != 0) = false := by have h := HA4.out; simpa using h
                      have f5_0 : ((r5e : Int) == 0) = true := HA5.out
                      have f5_1 : ((r5e : Int) != 0) = false := by have h := HA5.out; simpa using h
                      have f6_0 : ((r6e : Int) == 0) = true := HA6.out
                      have f6_1 : ((r6e : Int) != 0) = false := by have h := HA6.out; simpa using h
                      have f7_0 : ((r7e : Int) == 31) = true := HA7.out
                      have f7_1 : ((r7e : Int) != 31) = false := by have h := HA7.out; simpa using h
                      go_wp2_with fail
                      go_meet
                      exact ⟨rfl, B, BL⟩
                    | false =>
                      exact Bool.noConfusion (show true = false from HCC.out)
                  | false =>
                    exact Bool.noConfusion (show true = false from HCC.out)
                | false =>
                  exact Bool.noConfusion (show true = false from HCC.out)
              | false =>
                exact Bool.noConfusion (show true = false from HCC.out)
            | false =>
              exact Bool.noConfusion (show true = false from HCC.out)
          | false =>
            exact Bool.noConfusion (show true = false from HCC.out)
        | false =>
          exact Bool.noConfusion (show true = false from HCC.out)
      | false =>
        exact Bool.noConfusion (show true = false from HCC.out)
    case rest =>
      clear B BL
      obtain ⟨rfl, B, BL⟩ := hcut
      obtain ⟨W38, hW⟩ : ∃ X, wc = X := ⟨_, rfl⟩
      rw [hW] at B BL ⊢
      clear hW
      clear HCC HA0 HA1 HA2 HA3 HA4 HA5 HA6 HA7
      replace HL := Lib.hid (show true = awake_s2 ((⟨r0k, r0n, r0t⟩, r0e) : Vl × Int) ((⟨r1k, r1n, r1t⟩, r1e) : Vl × Int) ((⟨r2k, r2n, r2t⟩, r2e) : Vl × Int) ((⟨r3k, r3n, r3t⟩, r3e) : Vl × Int) ((⟨r4k, r4n, r4t⟩, r4e) : Vl × Int) ((⟨r5k, r5n, r5t⟩, r5e) : Vl × Int) ((⟨r6k, r6n, r6t⟩, r6e) : Vl × Int) ((⟨r7k, r7n, r7t⟩, r7e) : Vl × Int) from HL.out.trans ((if_neg (fun h => Bool.noConfusion (HCW.out.symm.trans h)))))
      -- region 11
      go_wp2_with fail
      refine (num_calls 12 _).mono ?_
      rintro e W39 ⟨rfl, hb⟩
      replace B := Lib.hid (B.out.below hb)
      replace BL := Lib.hid (below_then BL.out hb)
      clear hb
      go_wp2_with fail
      refine (num_calls (-18) _).mono ?_
      rintro e W40 ⟨rfl, hb⟩
      replace B := Lib.hid (B.out.below hb)
      replace BL := Lib.hid (below_then BL.out hb)
      clear hb
      obtain ⟨⟨⟨r8k, r8n, r8t⟩, r8e⟩, hr8⟩ : ∃ p, gcdR (⟨1, 12, []⟩ : Vl) (⟨1, (-18), []⟩ : Vl) = p := ⟨_, rfl⟩
      have hc8 := fun (W : World) (hW : Env W) => gcd_pub (⟨1, 12, []⟩ : Vl) (⟨1, (-18), []⟩ : Vl) (num_ok 12 (by unfold Small64; omega)) (num_ok (-18) (by unfold Small64; omega)) W hW
      have ho8 := gcdR_ok (⟨1, 12, []⟩ : Vl) (⟨1, (-18), []⟩ : Vl)
      rw [hr8] at hc8 ho8
      simp only [Vl.val, pr] at hc8
      have HC8 := Lib.hid hc8; have HOr8 : Hid (Vl.ok ⟨r8k, r8n, r8t⟩) := Lib.hid ho8; have HR8 := Lib.hid hr8
      clear hc8 ho8 hr8
      go_wp2_with fail
      refine (HC8.out _ (HE.out.below BL.out)).mono ?_
      rintro e W41 ⟨rfl, hb⟩
      replace B := Lib.hid (B.out.below hb)
      replace BL := Lib.hid (below_then BL.out hb)
      clear hb
      go_upto_region 12 with fail
      have hB : Bxs (W41.alloc (.cells #[.int .i64 r8k, .int .i64 r8n, .string ⟨List.toArray r8t⟩] 23)) ((W41.heap.size, (⟨r8k, r8n, r8t⟩ : Vl)) :: [(g10, (⟨r7k, r7n, r7t⟩ : Vl)), (g9, (⟨r6k, r6n, r6t⟩ : Vl)), (g8, (⟨r5k, r5n, r5t⟩ : Vl)), (g7, (⟨r4k, r4n, r4t⟩ : Vl)), (g6, (⟨r3k, r3n, r3t⟩ : Vl)), (g5, (⟨r2k, r2n, r2t⟩ : Vl)), (g4, (⟨r1k, r1n, r1t⟩ : Vl)), (g0, (⟨r0k, r0n, r0t⟩ : Vl))]) := B.out.push (⟨r8k, r8n, r8t⟩ : Vl) 23
      have hL : Below w.heap.size w (W41.alloc (.cells #[.int .i64 r8k, .int .i64 r8n, .string ⟨List.toArray r8t⟩] 23)) := BL.out.alloc BL.out.size _
      obtain ⟨W42, hW⟩ : ∃ X, W41.alloc (.cells #[.int .i64 r8k, .int .i64 r8n, .string ⟨List.toArray r8t⟩] 23) = X := ⟨_, rfl⟩
      obtain ⟨g11, hg⟩ : ∃ g, W41.heap.size = g := ⟨_, rfl⟩
      rw [hW] at hB hL ⊢
      rw [hg] at hB ⊢
      have HGb17_11_9 : Hid (w.heap.size ≤ g11) := Lib.hid (by rw [← hg]; exact BL.out.size)
      replace B := Lib.hid hB
      replace BL := Lib.hid hL
      clear hB hL hW hg
      replace HL := Lib.hid (show true = awake_s1 ((⟨r0k, r0n, r0t⟩, r0e) : Vl × Int) ((⟨r1k, r1n, r1t⟩, r1e) : Vl × Int) ((⟨r2k, r2n, r2t⟩, r2e) : Vl × Int) ((⟨r3k, r3n, r3t⟩, r3e) : Vl × Int) ((⟨r4k, r4n, r4t⟩, r4e) : Vl × Int) ((⟨r5k, r5n, r5t⟩, r5e) : Vl × Int) ((⟨r6k, r6n, r6t⟩, r6e) : Vl × Int) ((⟨r7k, r7n, r7t⟩, r7e) : Vl × Int) ((⟨r8k, r8n, r8t⟩, r8e) : Vl × Int) from HL.out.trans (by unfold awake_s2; rw [HR8.out]))
      -- region 12
      go_upto_region 13 with fail
      have hB : Bxs (W42.alloc (.cells #[.int .i64 2, .int .i64 0, .string ⟨List.toArray ([57, 50, 50, 51, 51, 55, 50, 48, 51, 54, 56, 53, 52, 55, 55, 53, 56, 48, 56] : List UInt8)⟩] 23)) ((W42.heap.size, (⟨2, 0, ([57, 50, 50, 51, 51, 55, 50, 48, 51, 54, 56, 53, 52, 55, 55, 53, 56, 48, 56] : List UInt8)⟩ : Vl)) :: [(g11, (⟨r8k, r8n, r8t⟩ : Vl)), (g10, (⟨r7k, r7n, r7t⟩ : Vl)), (g9, (⟨r6k, r6n, r6t⟩ : Vl)), (g8, (⟨r5k, r5n, r5t⟩ : Vl)), (g7, (⟨r4k, r4n, r4t⟩ : Vl)), (g6, (⟨r3k, r3n, r3t⟩ : Vl)), (g5, (⟨r2k, r2n, r2t⟩ : Vl)), (g4, (⟨r1k, r1n, r1t⟩ : Vl)), (g0, (⟨r0k, r0n, r0t⟩ : Vl))]) := B.out.push (⟨2, 0, ([57, 50, 50, 51, 51, 55, 50, 48, 51, 54, 56, 53, 52, 55, 55, 53, 56, 48, 56] : List UInt8)⟩ : Vl) 23
      have hL : Below w.heap.size w (W42.alloc (.cells #[.int .i64 2, .int .i64 0, .string ⟨List.toArray ([57, 50, 50, 51, 51, 55, 50, 48, 51, 54, 56, 53, 52, 55, 55, 53, 56, 48, 56] : List UInt8)⟩] 23)) := BL.out.alloc BL.out.size _
      obtain ⟨W43, hW⟩ : ∃ X, W42.alloc (.cells #[.int .i64 2, .int .i64 0, .string ⟨List.toArray ([57, 50, 50, 51, 51, 55, 50, 48, 51, 54, 56, 53, 52, 55, 55, 53, 56, 48, 56] : List UInt8)⟩] 23) = X := ⟨_, rfl⟩
      obtain ⟨g12, hg⟩ : ∃ g, W42.heap.size = g := ⟨_, rfl⟩
      rw [hW] at hB hL ⊢
      rw [hg] at hB ⊢
      have HGb19_12_10 : Hid (w.heap.size ≤ g12) := Lib.hid (by rw [← hg]; exact BL.out.size)
      replace B := Lib.hid hB
      replace BL := Lib.hid hL
      clear hB hL hW hg
      -- region 13, the end
      obtain ⟨b8, h⟩ : ∃ b : Bool, (veqB r0k r0n r0t 2 0 ([57, 50, 50, 51, 51, 55, 50, 48, 51, 54, 56, 53, 52, 55, 55, 53, 56, 48, 56] : List UInt8)) = b := ⟨_, rfl⟩
      have HA8 := Lib.hid h
      clear h
      obtain ⟨b9, h⟩ : ∃ b : Bool, (veqB r1k r1n r1t 1 9223372036854775807 []) = b := ⟨_, rfl⟩
      have HA9 := Lib.hid h
      clear h
      obtain ⟨b10, h⟩ : ∃ b : Bool, (r2t == ([49, 56, 52, 52, 54, 55, 52, 52, 48, 55, 51, 55, 48, 57, 53, 53, 49, 54, 49, 54] : List UInt8)) = b := ⟨_, rfl⟩
      have HA10 := Lib.hid h
      clear h
      obtain ⟨b11, h⟩ : ∃ b : Bool, (veqB r3k r3n r3t 1 (-4) []) = b := ⟨_, rfl⟩
      have HA11 := Lib.hid h
      clear h
      obtain ⟨b12, h⟩ : ∃ b : Bool, (veqB r4k r4n r4t 1 1 []) = b := ⟨_, rfl⟩
      have HA12 := Lib.hid h
      clear h
      obtain ⟨b13, h⟩ : ∃ b : Bool, (veqB r5k r5n r5t r2k r2n r2t) = b := ⟨_, rfl⟩
      have HA13 := Lib.hid h
      clear h
      obtain ⟨b14, h⟩ : ∃ b : Bool, (veqB r6k r6n r6t 1 9 []) = b := ⟨_, rfl⟩
      have HA14 := Lib.hid h
      clear h
      obtain ⟨b15, h⟩ : ∃ b : Bool, (r8e == 0) = b := ⟨_, rfl⟩
      have HA15 := Lib.hid h
      clear h
      obtain ⟨b16, h⟩ : ∃ b : Bool, (veqB r8k r8n r8t 1 6 []) = b := ⟨_, rfl⟩
      have HA16 := Lib.hid h
      clear h
      cases b8 with
      | true =>
        cases b9 with
        | true =>
          cases b10 with
          | true =>
            cases b11 with
            | true =>
              cases b12 with
              | true =>
                cases b13 with
                | true =>
                  cases b14 with
                  | true =>
                    cases b15 with
                    | true =>
                      cases b16 with
                      | true =>
                        clear HL
                        go_upto_region 13 with fail
                        have f0_0 : (veqB r0k r0n r0t 2 0 ([57, 50, 50, 51, 51, 55, 50, 48, 51, 54, 56, 53, 52, 55, 55, 53, 56, 48, 56] : List UInt8)) = true := HA8.out
                        have f1_0 : (veqB r1k r1n r1t 1 9223372036854775807 []) = true := HA9.out
                        have f2_0 : (r2t == ([49, 56, 52, 52, 54, 55, 52, 52, 48, 55, 51, 55, 48, 57, 53, 53, 49, 54, 49, 54] : List UInt8)) = true := HA10.out
                        have f3_0 : (veqB r3k r3n r3t 1 (-4) []) = true := HA11.out
                        have f4_0 : (veqB r4k r4n r4t 1 1 []) = true := HA12.out
                        have f5_0 : (veqB r5k r5n r5t r2k r2n r2t) = true := HA13.out
                        have f6_0 : (veqB r6k r6n r6t 1 9 []) = true := HA14.out
                        have f7_0 : ((r8e : Int) == 0) = true := HA15.out
                        have f7_1 : ((r8e : Int) != 0) = false := by have h := HA15.out; simpa using h
                        have f8_0 : (veqB r8k r8n r8t 1 6 []) = true := HA16.out
                        refine wp_region_noPanic ?_
                        refine region_late (fun (X : World) => X.cell? ⟨g0, 0, none⟩ = some (.int .i64 r0k) ∧ X.cell? ⟨g0, 1, none⟩ = some (.int .i64 r0n) ∧ X.cell? ⟨g0, 2, none⟩ = some (.string ⟨List.toArray r0t⟩) ∧ X.cell? ⟨g12, 0, none⟩ = some (.int .i64 2) ∧ X.cell? ⟨g12, 1, none⟩ = some (.int .i64 0) ∧ X.cell? ⟨g12, 2, none⟩ = some (.string ⟨List.toArray ([57, 50, 50, 51, 51, 55, 50, 48, 51, 54, 56, 53, 52, 55, 55, 53, 56, 48, 56] : List UInt8)⟩) ∧ X.cell? ⟨g4, 0, none⟩ = some (.int .i64 r1k) ∧ X.cell? ⟨g4, 1, none⟩ = some (.int .i64 r1n) ∧ X.cell? ⟨g4, 2, none⟩ = some (.string ⟨List.toArray r1t⟩) ∧ X.cell? ⟨g5, 0, none⟩ = some (.int .i64 r2k) ∧ X.cell? ⟨g5, 1, none⟩ = some (.int .i64 r2n) ∧ X.cell? ⟨g5, 2, none⟩ = some (.string ⟨List.toArray r2t⟩) ∧ X.cell? ⟨g6, 0, none⟩ = some (.int .i64 r3k) ∧ X.cell? ⟨g6, 1, none⟩ = some (.int .i64 r3n) ∧ X.cell? ⟨g6, 2, none⟩ = some (.string ⟨List.toArray r3t⟩) ∧ X.cell? ⟨g7, 0, none⟩ = some (.int .i64 r4k) ∧ X.cell? ⟨g7, 1, none⟩ = some (.int .i64 r4n) ∧ X.cell? ⟨g7, 2, none⟩ = some (.string ⟨List.toArray r4t⟩) ∧ X.cell? ⟨g8, 0, none⟩ = some (.int .i64 r5k) ∧ X.cell? ⟨g8, 1, none⟩ = some (.int .i64 r5n) ∧ X.cell? ⟨g8, 2, none⟩ = some (.string ⟨List.toArray r5t⟩) ∧ X.cell? ⟨g9, 0, none⟩ = some (.int .i64 r6k) ∧ X.cell? ⟨g9, 1, none⟩ = some (.int .i64 r6n) ∧ X.cell? ⟨g9, 2, none⟩ = some (.string ⟨List.toArray r6t⟩) ∧ X.cell? ⟨g11, 0, none⟩ = some (.int .i64 r8k) ∧ X.cell? ⟨g11, 1, none⟩ = some (.int .i64 r8n) ∧ X.cell? ⟨g11, 2, none⟩ = some (.string ⟨List.toArray r8t⟩)) (fun _ => false) (by kernel_rfl) ?_
                        have hb := (Below.refl W43.heap.size W43).drew
                        obtain ⟨W44, hW⟩ : ∃ X, W43.drew = X := ⟨_, rfl⟩
                        rw [hW] at hb ⊢
                        clear hW
                        replace B := Lib.hid (B.out.below hb)
                        replace BL := Lib.hid (below_then BL.out hb)
                        clear hb
                        have hHeld : W44.cell? ⟨g0, 0, none⟩ = some (.int .i64 r0k) ∧ W44.cell? ⟨g0, 1, none⟩ = some (.int .i64 r0n) ∧ W44.cell? ⟨g0, 2, none⟩ = some (.string ⟨List.toArray r0t⟩) ∧ W44.cell? ⟨g12, 0, none⟩ = some (.int .i64 2) ∧ W44.cell? ⟨g12, 1, none⟩ = some (.int .i64 0) ∧ W44.cell? ⟨g12, 2, none⟩ = some (.string ⟨List.toArray ([57, 50, 50, 51, 51, 55, 50, 48, 51, 54, 56, 53, 52, 55, 55, 53, 56, 48, 56] : List UInt8)⟩) ∧ W44.cell? ⟨g4, 0, none⟩ = some (.int .i64 r1k) ∧ W44.cell? ⟨g4, 1, none⟩ = some (.int .i64 r1n) ∧ W44.cell? ⟨g4, 2, none⟩ = some (.string ⟨List.toArray r1t⟩) ∧ W44.cell? ⟨g5, 0, none⟩ = some (.int .i64 r2k) ∧ W44.cell? ⟨g5, 1, none⟩ = some (.int .i64 r2n) ∧ W44.cell? ⟨g5, 2, none⟩ = some (.string ⟨List.toArray r2t⟩) ∧ W44.cell? ⟨g6, 0, none⟩ = some (.int .i64 r3k) ∧ W44.cell? ⟨g6, 1, none⟩ = some (.int .i64 r3n) ∧ W44.cell? ⟨g6, 2, none⟩ = some (.string ⟨List.toArray r3t⟩) ∧ W44.cell? ⟨g7, 0, none⟩ = some (.int .i64 r4k) ∧ W44.cell? ⟨g7, 1, none⟩ = some (.int .i64 r4n) ∧ W44.cell? ⟨g7, 2, none⟩ = some (.string ⟨List.toArray r4t⟩) ∧ W44.cell? ⟨g8, 0, none⟩ = some (.int .i64 r5k) ∧ W44.cell? ⟨g8, 1, none⟩ = some (.int .i64 r5n) ∧ W44.cell? ⟨g8, 2, none⟩ = some (.string ⟨List.toArray r5t⟩) ∧ W44.cell? ⟨g9, 0, none⟩ = some (.int .i64 r6k) ∧ W44.cell? ⟨g9, 1, none⟩ = some (.int .i64 r6n) ∧ W44.cell? ⟨g9, 2, none⟩ = some (.string ⟨List.toArray r6t⟩) ∧ W44.cell? ⟨g11, 0, none⟩ = some (.int .i64 r8k) ∧ W44.cell? ⟨g11, 1, none⟩ = some (.int .i64 r8n) ∧ W44.cell? ⟨g11, 2, none⟩ = some (.string ⟨List.toArray r8t⟩) := ⟨(B.out.get 9 rfl).c0, (B.out.get 9 rfl).c1, (B.out.get 9 rfl).c2, (B.out.get 0 rfl).c0, (B.out.get 0 rfl).c1, (B.out.get 0 rfl).c2, (B.out.get 8 rfl).c0, (B.out.get 8 rfl).c1, (B.out.get 8 rfl).c2, (B.out.get 7 rfl).c0, (B.out.get 7 rfl).c1, (B.out.get 7 rfl).c2, (B.out.get 6 rfl).c0, (B.out.get 6 rfl).c1, (B.out.get 6 rfl).c2, (B.out.get 5 rfl).c0, (B.out.get 5 rfl).c1, (B.out.get 5 rfl).c2, (B.out.get 4 rfl).c0, (B.out.get 4 rfl).c1, (B.out.get 4 rfl).c2, (B.out.get 3 rfl).c0, (B.out.get 3 rfl).c1, (B.out.get 3 rfl).c2, (B.out.get 1 rfl).c0, (B.out.get 1 rfl).c1, (B.out.get 1 rfl).c2⟩
                        refine late_take_at (some 101) (i := 0) (v := (.agg #[.int .i64 r0k, .int .i64 r0n, .string ⟨List.toArray r0t⟩])) rfl rfl rfl (by kernel_rfl) (by kernel_rfl) (by kernel_rfl) (by kernel_rfl) (fun _ _ _ h => h) clean_none (Or.inl ⟨by rfl, by intro w hSw; go_split_ands; go_simp⟩) hHeld ?_
                        try simp only [Act.put, List.setIfInBounds_toArray, List.set_cons_zero, List.set_cons_succ]
                        refine late_take_at (some 102) (i := 1) (v := (.agg #[.int .i64 2, .int .i64 0, .string ⟨List.toArray ([57, 50, 50, 51, 51, 55, 50, 48, 51, 54, 56, 53, 52, 55, 55, 53, 56, 48, 56] : List UInt8)⟩])) rfl rfl rfl (by kernel_rfl) (by kernel_rfl) (by kernel_rfl) (by kernel_rfl) (fun _ _ _ h => h) clean_none (Or.inl ⟨by rfl, by intro w hSw; go_split_ands; go_simp⟩) hHeld ?_
                        try simp only [Act.put, List.setIfInBounds_toArray, List.set_cons_zero, List.set_cons_succ]
                        refine late_pure_at (some 103) (i := 2) (v := (.bool true)) rfl rfl rfl (by kernel_rfl) (by kernel_rfl) (by kernel_rfl) (fun _ _ _ h => h) (Or.inl ⟨by rfl, by intro w _; go_simp⟩) (fun _ => hHeld) ?_
                        try simp only [Act.put, List.setIfInBounds_toArray, List.set_cons_zero, List.set_cons_succ]
                        refine late_pure_at (some 104) (i := 3) (v := (.bool true)) rfl rfl rfl (by kernel_rfl) (by kernel_rfl) (by kernel_rfl) (fun _ _ _ h => h) (Or.inl ⟨by rfl, by intro w _; go_simp⟩) (fun _ => hHeld) ?_
                        try simp only [Act.put, List.setIfInBounds_toArray, List.set_cons_zero, List.set_cons_succ]
                        refine late_take_at (some 105) (i := 4) (v := (.agg #[.int .i64 r1k, .int .i64 r1n, .string ⟨List.toArray r1t⟩])) rfl rfl rfl (by kernel_rfl) (by kernel_rfl) (by kernel_rfl) (by kernel_rfl) (fun _ _ _ h => h) clean_none (Or.inl ⟨by rfl, by intro w hSw; go_split_ands; go_simp⟩) hHeld ?_
                        try simp only [Act.put, List.setIfInBounds_toArray, List.set_cons_zero, List.set_cons_succ]
                        refine late_ready (rs := [5]) (by kernel_rfl) (by simp) ?_
                        refine AllLate.cons rfl (fun K hK => ?_) ?_
                        · skip
                          go_simp
                          refine (num_calls 9223372036854775807 _).mono ?_
                          rintro e W45 ⟨rfl, hb⟩
                          clear hHeld
                          replace B := Lib.hid (B.out.below hb)
                          replace BL := Lib.hid (below_then BL.out hb)
                          clear hb
                          have hHeld : W45.cell? ⟨g0, 0, none⟩ = some (.int .i64 r0k) ∧ W45.cell? ⟨g0, 1, none⟩ = some (.int .i64 r0n) ∧ W45.cell? ⟨g0, 2, none⟩ = some (.string ⟨List.toArray r0t⟩) ∧ W45.cell? ⟨g12, 0, none⟩ = some (.int .i64 2) ∧ W45.cell? ⟨g12, 1, none⟩ = some (.int .i64 0) ∧ W45.cell? ⟨g12, 2, none⟩ = some (.string ⟨List.toArray ([57, 50, 50, 51, 51, 55, 50, 48, 51, 54, 56, 53, 52, 55, 55, 53, 56, 48, 56] : List UInt8)⟩) ∧ W45.cell? ⟨g4, 0, none⟩ = some (.int .i64 r1k) ∧ W45.cell? ⟨g4, 1, none⟩ = some (.int .i64 r1n) ∧ W45.cell? ⟨g4, 2, none⟩ = some (.string ⟨List.toArray r1t⟩) ∧ W45.cell? ⟨g5, 0, none⟩ = some (.int .i64 r2k) ∧ W45.cell? ⟨g5, 1, none⟩ = some (.int .i64 r2n) ∧ W45.cell? ⟨g5, 2, none⟩ = some (.string ⟨List.toArray r2t⟩) ∧ W45.cell? ⟨g6, 0, none⟩ = some (.int .i64 r3k) ∧ W45.cell? ⟨g6, 1, none⟩ = some (.int .i64 r3n) ∧ W45.cell? ⟨g6, 2, none⟩ = some (.string ⟨List.toArray r3t⟩) ∧ W45.cell? ⟨g7, 0, none⟩ = some (.int .i64 r4k) ∧ W45.cell? ⟨g7, 1, none⟩ = some (.int .i64 r4n) ∧ W45.cell? ⟨g7, 2, none⟩ = some (.string ⟨List.toArray r4t⟩) ∧ W45.cell? ⟨g8, 0, none⟩ = some (.int .i64 r5k) ∧ W45.cell? ⟨g8, 1, none⟩ = some (.int .i64 r5n) ∧ W45.cell? ⟨g8, 2, none⟩ = some (.string ⟨List.toArray r5t⟩) ∧ W45.cell? ⟨g9, 0, none⟩ = some (.int .i64 r6k) ∧ W45.cell? ⟨g9, 1, none⟩ = some (.int .i64 r6n) ∧ W45.cell? ⟨g9, 2, none⟩ = some (.string ⟨List.toArray r6t⟩) ∧ W45.cell? ⟨g11, 0, none⟩ = some (.int .i64 r8k) ∧ W45.cell? ⟨g11, 1, none⟩ = some (.int .i64 r8n) ∧ W45.cell? ⟨g11, 2, none⟩ = some (.string ⟨List.toArray r8t⟩) := ⟨(B.out.get 9 rfl).c0, (B.out.get 9 rfl).c1, (B.out.get 9 rfl).c2, (B.out.get 0 rfl).c0, (B.out.get 0 rfl).c1, (B.out.get 0 rfl).c2, (B.out.get 8 rfl).c0, (B.out.get 8 rfl).c1, (B.out.get 8 rfl).c2, (B.out.get 7 rfl).c0, (B.out.get 7 rfl).c1, (B.out.get 7 rfl).c2, (B.out.get 6 rfl).c0, (B.out.get 6 rfl).c1, (B.out.get 6 rfl).c2, (B.out.get 5 rfl).c0, (B.out.get 5 rfl).c1, (B.out.get 5 rfl).c2, (B.out.get 4 rfl).c0, (B.out.get 4 rfl).c1, (B.out.get 4 rfl).c2, (B.out.get 3 rfl).c0, (B.out.get 3 rfl).c1, (B.out.get 3 rfl).c2, (B.out.get 1 rfl).c0, (B.out.get 1 rfl).c1, (B.out.get 1 rfl).c2⟩
                          dsimp only
                          refine hK.out _ _ (fun _ => hHeld) ?_
                          clear hK K
                          try simp only [Act.put, List.setIfInBounds_toArray, List.set_cons_zero, List.set_cons_succ]
                          refine late_pure_at (some 107) (i := 6) (v := (.bool true)) rfl rfl rfl (by kernel_rfl) (by kernel_rfl) (by kernel_rfl) (fun _ _ _ h => h) (Or.inl ⟨by rfl, by intro w _; go_simp⟩) (fun _ => hHeld) ?_
                          try simp only [Act.put, List.setIfInBounds_toArray, List.set_cons_zero, List.set_cons_succ]
                          refine late_pure_at (some 108) (i := 7) (v := (.bool true)) rfl rfl rfl (by kernel_rfl) (by kernel_rfl) (by kernel_rfl) (fun _ _ _ h => h) (Or.inl ⟨by rfl, by intro w _; go_simp⟩) (fun _ => hHeld) ?_
                          try simp only [Act.put, List.setIfInBounds_toArray, List.set_cons_zero, List.set_cons_succ]
                          refine late_pure_at (some 109) (i := 8) (v := (.bool true)) rfl rfl rfl (by kernel_rfl) (by kernel_rfl) (by kernel_rfl) (fun _ _ _ h => h) (Or.inl ⟨by rfl, by intro w _; go_simp⟩) (fun _ => hHeld) ?_
                          try simp only [Act.put, List.setIfInBounds_toArray, List.set_cons_zero, List.set_cons_succ]
                          refine late_pure_at (some 110) (i := 9) (v := (.pointer (some ⟨g5, 2, none⟩))) rfl rfl rfl (by kernel_rfl) (by kernel_rfl) (by kernel_rfl) (fun _ _ _ h => h) (Or.inl ⟨by rfl, by intro w _; go_simp⟩) (fun _ => hHeld) ?_
                          try simp only [Act.put, List.setIfInBounds_toArray, List.set_cons_zero, List.set_cons_succ]
                          refine late_take_at (some 111) (i := 10) (v := (.string ⟨List.toArray r2t⟩)) rfl rfl rfl (by kernel_rfl) (by kernel_rfl) (by kernel_rfl) (by kernel_rfl) (fun _ _ _ h => h) clean_none (Or.inl ⟨by rfl, by intro w hSw; go_split_ands; go_simp⟩) hHeld ?_
                          try simp only [Act.put, List.setIfInBounds_toArray, List.set_cons_zero, List.set_cons_succ]
                          refine late_pure_at (some 112) (i := 11) (v := (.bool true)) rfl rfl rfl (by kernel_rfl) (by kernel_rfl) (by kernel_rfl) (fun _ _ _ h => h) (Or.inl ⟨by rfl, by intro w _; go_simp⟩) (fun _ => hHeld) ?_
                          try simp only [Act.put, List.setIfInBounds_toArray, List.set_cons_zero, List.set_cons_succ]
                          refine late_pure_at (some 113) (i := 12) (v := (.bool true)) rfl rfl rfl (by kernel_rfl) (by kernel_rfl) (by kernel_rfl) (fun _ _ _ h => h) (Or.inl ⟨by rfl, by intro w _; go_simp⟩) (fun _ => hHeld) ?_
                          try simp only [Act.put, List.setIfInBounds_toArray, List.set_cons_zero, List.set_cons_succ]
                          refine late_pure_at (some 114) (i := 13) (v := (.bool true)) rfl rfl rfl (by kernel_rfl) (by kernel_rfl) (by kernel_rfl) (fun _ _ _ h => h) (Or.inl ⟨by rfl, by intro w _; go_simp⟩) (fun _ => hHeld) ?_
                          try simp only [Act.put, List.setIfInBounds_toArray, List.set_cons_zero, List.set_cons_succ]
                          refine late_take_at (some 115) (i := 14) (v := (.agg #[.int .i64 r3k, .int .i64 r3n, .string ⟨List.toArray r3t⟩])) rfl rfl rfl (by kernel_rfl) (by kernel_rfl) (by kernel_rfl) (by kernel_rfl) (fun _ _ _ h => h) clean_none (Or.inl ⟨by rfl, by intro w hSw; go_split_ands; go_simp⟩) hHeld ?_
                          try simp only [Act.put, List.setIfInBounds_toArray, List.set_cons_zero, List.set_cons_succ]
                          refine late_ready (rs := [15]) (by kernel_rfl) (by simp) ?_
                          refine AllLate.cons rfl (fun K hK => ?_) ?_
                          · skip
                            go_simp
                            refine (num_calls (-4) _).mono ?_
                            rintro e W46 ⟨rfl, hb⟩
                            clear hHeld
                            replace B := Lib.hid (B.out.below hb)
                            replace BL := Lib.hid (below_then BL.out hb)
                            clear hb
                            have hHeld : W46.cell? ⟨g0, 0, none⟩ = some (.int .i64 r0k) ∧ W46.cell? ⟨g0, 1, none⟩ = some (.int .i64 r0n) ∧ W46.cell? ⟨g0, 2, none⟩ = some (.string ⟨List.toArray r0t⟩) ∧ W46.cell? ⟨g12, 0, none⟩ = some (.int .i64 2) ∧ W46.cell? ⟨g12, 1, none⟩ = some (.int .i64 0) ∧ W46.cell? ⟨g12, 2, none⟩ = some (.string ⟨List.toArray ([57, 50, 50, 51, 51, 55, 50, 48, 51, 54, 56, 53, 52, 55, 55, 53, 56, 48, 56] : List UInt8)⟩) ∧ W46.cell? ⟨g4, 0, none⟩ = some (.int .i64 r1k) ∧ W46.cell? ⟨g4, 1, none⟩ = some (.int .i64 r1n) ∧ W46.cell? ⟨g4, 2, none⟩ = some (.string ⟨List.toArray r1t⟩) ∧ W46.cell? ⟨g5, 0, none⟩ = some (.int .i64 r2k) ∧ W46.cell? ⟨g5, 1, none⟩ = some (.int .i64 r2n) ∧ W46.cell? ⟨g5, 2, none⟩ = some (.string ⟨List.toArray r2t⟩) ∧ W46.cell? ⟨g6, 0, none⟩ = some (.int .i64 r3k) ∧ W46.cell? ⟨g6, 1, none⟩ = some (.int .i64 r3n) ∧ W46.cell? ⟨g6, 2, none⟩ = some (.string ⟨List.toArray r3t⟩) ∧ W46.cell? ⟨g7, 0, none⟩ = some (.int .i64 r4k) ∧ W46.cell? ⟨g7, 1, none⟩ = some (.int .i64 r4n) ∧ W46.cell? ⟨g7, 2, none⟩ = some (.string ⟨List.toArray r4t⟩) ∧ W46.cell? ⟨g8, 0, none⟩ = some (.int .i64 r5k) ∧ W46.cell? ⟨g8, 1, none⟩ = some (.int .i64 r5n) ∧ W46.cell? ⟨g8, 2, none⟩ = some (.string ⟨List.toArray r5t⟩) ∧ W46.cell? ⟨g9, 0, none⟩ = some (.int .i64 r6k) ∧ W46.cell? ⟨g9, 1, none⟩ = some (.int .i64 r6n) ∧ W46.cell? ⟨g9, 2, none⟩ = some (.string ⟨List.toArray r6t⟩) ∧ W46.cell? ⟨g11, 0, none⟩ = some (.int .i64 r8k) ∧ W46.cell? ⟨g11, 1, none⟩ = some (.int .i64 r8n) ∧ W46.cell? ⟨g11, 2, none⟩ = some (.string ⟨List.toArray r8t⟩) := ⟨(B.out.get 9 rfl).c0, (B.out.get 9 rfl).c1, (B.out.get 9 rfl).c2, (B.out.get 0 rfl).c0, (B.out.get 0 rfl).c1, (B.out.get 0 rfl).c2, (B.out.get 8 rfl).c0, (B.out.get 8 rfl).c1, (B.out.get 8 rfl).c2, (B.out.get 7 rfl).c0, (B.out.get 7 rfl).c1, (B.out.get 7 rfl).c2, (B.out.get 6 rfl).c0, (B.out.get 6 rfl).c1, (B.out.get 6 rfl).c2, (B.out.get 5 rfl).c0, (B.out.get 5 rfl).c1, (B.out.get 5 rfl).c2, (B.out.get 4 rfl).c0, (B.out.get 4 rfl).c1, (B.out.get 4 rfl).c2, (B.out.get 3 rfl).c0, (B.out.get 3 rfl).c1, (B.out.get 3 rfl).c2, (B.out.get 1 rfl).c0, (B.out.get 1 rfl).c1, (B.out.get 1 rfl).c2⟩
                            dsimp only
                            refine hK.out _ _ (fun _ => hHeld) ?_
                            clear hK K
                            try simp only [Act.put, List.setIfInBounds_toArray, List.set_cons_zero, List.set_cons_succ]
                            refine late_pure_at (some 117) (i := 16) (v := (.bool true)) rfl rfl rfl (by kernel_rfl) (by kernel_rfl) (by kernel_rfl) (fun _ _ _ h => h) (Or.inl ⟨by rfl, by intro w _; go_simp⟩) (fun _ => hHeld) ?_
                            try simp only [Act.put, List.setIfInBounds_toArray, List.set_cons_zero, List.set_cons_succ]
                            refine late_pure_at (some 118) (i := 17) (v := (.bool true)) rfl rfl rfl (by kernel_rfl) (by kernel_rfl) (by kernel_rfl) (fun _ _ _ h => h) (Or.inl ⟨by rfl, by intro w _; go_simp⟩) (fun _ => hHeld) ?_
                            try simp only [Act.put, List.setIfInBounds_toArray, List.set_cons_zero, List.set_cons_succ]
                            refine late_pure_at (some 119) (i := 18) (v := (.bool true)) rfl rfl rfl (by kernel_rfl) (by kernel_rfl) (by kernel_rfl) (fun _ _ _ h => h) (Or.inl ⟨by rfl, by intro w _; go_simp⟩) (fun _ => hHeld) ?_
                            try simp only [Act.put, List.setIfInBounds_toArray, List.set_cons_zero, List.set_cons_succ]
                            refine late_take_at (some 120) (i := 19) (v := (.agg #[.int .i64 r4k, .int .i64 r4n, .string ⟨List.toArray r4t⟩])) rfl rfl rfl (by kernel_rfl) (by kernel_rfl) (by kernel_rfl) (by kernel_rfl) (fun _ _ _ h => h) clean_none (Or.inl ⟨by rfl, by intro w hSw; go_split_ands; go_simp⟩) hHeld ?_
                            try simp only [Act.put, List.setIfInBounds_toArray, List.set_cons_zero, List.set_cons_succ]
                            refine late_ready (rs := [20]) (by kernel_rfl) (by simp) ?_
                            refine AllLate.cons rfl (fun K hK => ?_) ?_
                            · skip
                              go_simp
                              refine (num_calls 1 _).mono ?_
                              rintro e W47 ⟨rfl, hb⟩
                              clear hHeld
                              replace B := Lib.hid (B.out.below hb)
                              replace BL := Lib.hid (below_then BL.out hb)
                              clear hb
                              have hHeld : W47.cell? ⟨g0, 0, none⟩ = some (.int .i64 r0k) ∧ W47.cell? ⟨g0, 1, none⟩ = some (.int .i64 r0n) ∧ W47.cell? ⟨g0, 2, none⟩ = some (.string ⟨List.toArray r0t⟩) ∧ W47.cell? ⟨g12, 0, none⟩ = some (.int .i64 2) ∧ W47.cell? ⟨g12, 1, none⟩ = some (.int .i64 0) ∧ W47.cell? ⟨g12, 2, none⟩ = some (.string ⟨List.toArray ([57, 50, 50, 51, 51, 55, 50, 48, 51, 54, 56, 53, 52, 55, 55, 53, 56, 48, 56] : List UInt8)⟩) ∧ W47.cell? ⟨g4, 0, none⟩ = some (.int .i64 r1k) ∧ W47.cell? ⟨g4, 1, none⟩ = some (.int .i64 r1n) ∧ W47.cell? ⟨g4, 2, none⟩ = some (.string ⟨List.toArray r1t⟩) ∧ W47.cell? ⟨g5, 0, none⟩ = some (.int .i64 r2k) ∧ W47.cell? ⟨g5, 1, none⟩ = some (.int .i64 r2n) ∧ W47.cell? ⟨g5, 2, none⟩ = some (.string ⟨List.toArray r2t⟩) ∧ W47.cell? ⟨g6, 0, none⟩ = some (.int .i64 r3k) ∧ W47.cell? ⟨g6, 1, none⟩ = some (.int .i64 r3n) ∧ W47.cell? ⟨g6, 2, none⟩ = some (.string ⟨List.toArray r3t⟩) ∧ W47.cell? ⟨g7, 0, none⟩ = some (.int .i64 r4k) ∧ W47.cell? ⟨g7, 1, none⟩ = some (.int .i64 r4n) ∧ W47.cell? ⟨g7, 2, none⟩ = some (.string ⟨List.toArray r4t⟩) ∧ W47.cell? ⟨g8, 0, none⟩ = some (.int .i64 r5k) ∧ W47.cell? ⟨g8, 1, none⟩ = some (.int .i64 r5n) ∧ W47.cell? ⟨g8, 2, none⟩ = some (.string ⟨List.toArray r5t⟩) ∧ W47.cell? ⟨g9, 0, none⟩ = some (.int .i64 r6k) ∧ W47.cell? ⟨g9, 1, none⟩ = some (.int .i64 r6n) ∧ W47.cell? ⟨g9, 2, none⟩ = some (.string ⟨List.toArray r6t⟩) ∧ W47.cell? ⟨g11, 0, none⟩ = some (.int .i64 r8k) ∧ W47.cell? ⟨g11, 1, none⟩ = some (.int .i64 r8n) ∧ W47.cell? ⟨g11, 2, none⟩ = some (.string ⟨List.toArray r8t⟩) := ⟨(B.out.get 9 rfl).c0, (B.out.get 9 rfl).c1, (B.out.get 9 rfl).c2, (B.out.get 0 rfl).c0, (B.out.get 0 rfl).c1, (B.out.get 0 rfl).c2, (B.out.get 8 rfl).c0, (B.out.get 8 rfl).c1, (B.out.get 8 rfl).c2, (B.out.get 7 rfl).c0, (B.out.get 7 rfl).c1, (B.out.get 7 rfl).c2, (B.out.get 6 rfl).c0, (B.out.get 6 rfl).c1, (B.out.get 6 rfl).c2, (B.out.get 5 rfl).c0, (B.out.get 5 rfl).c1, (B.out.get 5 rfl).c2, (B.out.get 4 rfl).c0, (B.out.get 4 rfl).c1, (B.out.get 4 rfl).c2, (B.out.get 3 rfl).c0, (B.out.get 3 rfl).c1, (B.out.get 3 rfl).c2, (B.out.get 1 rfl).c0, (B.out.get 1 rfl).c1, (B.out.get 1 rfl).c2⟩
                              dsimp only
                              refine hK.out _ _ (fun _ => hHeld) ?_
                              clear hK K
                              try simp only [Act.put, List.setIfInBounds_toArray, List.set_cons_zero, List.set_cons_succ]
                              refine late_pure_at (some 122) (i := 21) (v := (.bool true)) rfl rfl rfl (by kernel_rfl) (by kernel_rfl) (by kernel_rfl) (fun _ _ _ h => h) (Or.inl ⟨by rfl, by intro w _; go_simp⟩) (fun _ => hHeld) ?_
                              try simp only [Act.put, List.setIfInBounds_toArray, List.set_cons_zero, List.set_cons_succ]
                              refine late_pure_at (some 123) (i := 22) (v := (.bool true)) rfl rfl rfl (by kernel_rfl) (by kernel_rfl) (by kernel_rfl) (fun _ _ _ h => h) (Or.inl ⟨by rfl, by intro w _; go_simp⟩) (fun _ => hHeld) ?_
                              try simp only [Act.put, List.setIfInBounds_toArray, List.set_cons_zero, List.set_cons_succ]
                              refine late_pure_at (some 124) (i := 23) (v := (.bool true)) rfl rfl rfl (by kernel_rfl) (by kernel_rfl) (by kernel_rfl) (fun _ _ _ h => h) (Or.inl ⟨by rfl, by intro w _; go_simp⟩) (fun _ => hHeld) ?_
                              try simp only [Act.put, List.setIfInBounds_toArray, List.set_cons_zero, List.set_cons_succ]
                              refine late_take_at (some 125) (i := 24) (v := (.agg #[.int .i64 r5k, .int .i64 r5n, .string ⟨List.toArray r5t⟩])) rfl rfl rfl (by kernel_rfl) (by kernel_rfl) (by kernel_rfl) (by kernel_rfl) (fun _ _ _ h => h) clean_none (Or.inl ⟨by rfl, by intro w hSw; go_split_ands; go_simp⟩) hHeld ?_
                              try simp only [Act.put, List.setIfInBounds_toArray, List.set_cons_zero, List.set_cons_succ]
                              refine late_take_at (some 126) (i := 25) (v := (.agg #[.int .i64 r2k, .int .i64 r2n, .string ⟨List.toArray r2t⟩])) rfl rfl rfl (by kernel_rfl) (by kernel_rfl) (by kernel_rfl) (by kernel_rfl) (fun _ _ _ h => h) clean_none (Or.inl ⟨by rfl, by intro w hSw; go_split_ands; go_simp⟩) hHeld ?_
                              try simp only [Act.put, List.setIfInBounds_toArray, List.set_cons_zero, List.set_cons_succ]
                              refine late_pure_at (some 127) (i := 26) (v := (.bool true)) rfl rfl rfl (by kernel_rfl) (by kernel_rfl) (by kernel_rfl) (fun _ _ _ h => h) (Or.inl ⟨by rfl, by intro w _; go_simp⟩) (fun _ => hHeld) ?_
                              try simp only [Act.put, List.setIfInBounds_toArray, List.set_cons_zero, List.set_cons_succ]
                              refine late_pure_at (some 128) (i := 27) (v := (.bool true)) rfl rfl rfl (by kernel_rfl) (by kernel_rfl) (by kernel_rfl) (fun _ _ _ h => h) (Or.inl ⟨by rfl, by intro w _; go_simp⟩) (fun _ => hHeld) ?_
                              try simp only [Act.put, List.setIfInBounds_toArray, List.set_cons_zero, List.set_cons_succ]
                              refine late_pure_at (some 129) (i := 28) (v := (.bool true)) rfl rfl rfl (by kernel_rfl) (by kernel_rfl) (by kernel_rfl) (fun _ _ _ h => h) (Or.inl ⟨by rfl, by intro w _; go_simp⟩) (fun _ => hHeld) ?_
                              try simp only [Act.put, List.setIfInBounds_toArray, List.set_cons_zero, List.set_cons_succ]
                              refine late_take_at (some 130) (i := 29) (v := (.agg #[.int .i64 r6k, .int .i64 r6n, .string ⟨List.toArray r6t⟩])) rfl rfl rfl (by kernel_rfl) (by kernel_rfl) (by kernel_rfl) (by kernel_rfl) (fun _ _ _ h => h) clean_none (Or.inl ⟨by rfl, by intro w hSw; go_split_ands; go_simp⟩) hHeld ?_
                              try simp only [Act.put, List.setIfInBounds_toArray, List.set_cons_zero, List.set_cons_succ]
                              refine late_ready (rs := [30]) (by kernel_rfl) (by simp) ?_
                              refine AllLate.cons rfl (fun K hK => ?_) ?_
                              · skip
                                go_simp
                                refine (num_calls 9 _).mono ?_
                                rintro e W48 ⟨rfl, hb⟩
                                clear hHeld
                                replace B := Lib.hid (B.out.below hb)
                                replace BL := Lib.hid (below_then BL.out hb)
                                clear hb
                                have hHeld : W48.cell? ⟨g0, 0, none⟩ = some (.int .i64 r0k) ∧ W48.cell? ⟨g0, 1, none⟩ = some (.int .i64 r0n) ∧ W48.cell? ⟨g0, 2, none⟩ = some (.string ⟨List.toArray r0t⟩) ∧ W48.cell? ⟨g12, 0, none⟩ = some (.int .i64 2) ∧ W48.cell? ⟨g12, 1, none⟩ = some (.int .i64 0) ∧ W48.cell? ⟨g12, 2, none⟩ = some (.string ⟨List.toArray ([57, 50, 50, 51, 51, 55, 50, 48, 51, 54, 56, 53, 52, 55, 55, 53, 56, 48, 56] : List UInt8)⟩) ∧ W48.cell? ⟨g4, 0, none⟩ = some (.int .i64 r1k) ∧ W48.cell? ⟨g4, 1, none⟩ = some (.int .i64 r1n) ∧ W48.cell? ⟨g4, 2, none⟩ = some (.string ⟨List.toArray r1t⟩) ∧ W48.cell? ⟨g5, 0, none⟩ = some (.int .i64 r2k) ∧ W48.cell? ⟨g5, 1, none⟩ = some (.int .i64 r2n) ∧ W48.cell? ⟨g5, 2, none⟩ = some (.string ⟨List.toArray r2t⟩) ∧ W48.cell? ⟨g6, 0, none⟩ = some (.int .i64 r3k) ∧ W48.cell? ⟨g6, 1, none⟩ = some (.int .i64 r3n) ∧ W48.cell? ⟨g6, 2, none⟩ = some (.string ⟨List.toArray r3t⟩) ∧ W48.cell? ⟨g7, 0, none⟩ = some (.int .i64 r4k) ∧ W48.cell? ⟨g7, 1, none⟩ = some (.int .i64 r4n) ∧ W48.cell? ⟨g7, 2, none⟩ = some (.string ⟨List.toArray r4t⟩) ∧ W48.cell? ⟨g8, 0, none⟩ = some (.int .i64 r5k) ∧ W48.cell? ⟨g8, 1, none⟩ = some (.int .i64 r5n) ∧ W48.cell? ⟨g8, 2, none⟩ = some (.string ⟨List.toArray r5t⟩) ∧ W48.cell? ⟨g9, 0, none⟩ = some (.int .i64 r6k) ∧ W48.cell? ⟨g9, 1, none⟩ = some (.int .i64 r6n) ∧ W48.cell? ⟨g9, 2, none⟩ = some (.string ⟨List.toArray r6t⟩) ∧ W48.cell? ⟨g11, 0, none⟩ = some (.int .i64 r8k) ∧ W48.cell? ⟨g11, 1, none⟩ = some (.int .i64 r8n) ∧ W48.cell? ⟨g11, 2, none⟩ = some (.string ⟨List.toArray r8t⟩) := ⟨(B.out.get 9 rfl).c0, (B.out.get 9 rfl).c1, (B.out.get 9 rfl).c2, (B.out.get 0 rfl).c0, (B.out.get 0 rfl).c1, (B.out.get 0 rfl).c2, (B.out.get 8 rfl).c0, (B.out.get 8 rfl).c1, (B.out.get 8 rfl).c2, (B.out.get 7 rfl).c0, (B.out.get 7 rfl).c1, (B.out.get 7 rfl).c2, (B.out.get 6 rfl).c0, (B.out.get 6 rfl).c1, (B.out.get 6 rfl).c2, (B.out.get 5 rfl).c0, (B.out.get 5 rfl).c1, (B.out.get 5 rfl).c2, (B.out.get 4 rfl).c0, (B.out.get 4 rfl).c1, (B.out.get 4 rfl).c2, (B.out.get 3 rfl).c0, (B.out.get 3 rfl).c1, (B.out.get 3 rfl).c2, (B.out.get 1 rfl).c0, (B.out.get 1 rfl).c1, (B.out.get 1 rfl).c2⟩
                                dsimp only
                                refine hK.out _ _ (fun _ => hHeld) ?_
                                clear hK K
                                try simp only [Act.put, List.setIfInBounds_toArray, List.set_cons_zero, List.set_cons_succ]
                                refine late_pure_at (some 132) (i := 31) (v := (.bool true)) rfl rfl rfl (by kernel_rfl) (by kernel_rfl) (by kernel_rfl) (fun _ _ _ h => h) (Or.inl ⟨by rfl, by intro w _; go_simp⟩) (fun _ => hHeld) ?_
                                try simp only [Act.put, List.setIfInBounds_toArray, List.set_cons_zero, List.set_cons_succ]
                                refine late_pure_at (some 133) (i := 32) (v := (.bool true)) rfl rfl rfl (by kernel_rfl) (by kernel_rfl) (by kernel_rfl) (fun _ _ _ h => h) (Or.inl ⟨by rfl, by intro w _; go_simp⟩) (fun _ => hHeld) ?_
                                try simp only [Act.put, List.setIfInBounds_toArray, List.set_cons_zero, List.set_cons_succ]
                                refine late_pure_at (some 134) (i := 33) (v := (.bool true)) rfl rfl rfl (by kernel_rfl) (by kernel_rfl) (by kernel_rfl) (fun _ _ _ h => h) (Or.inl ⟨by rfl, by intro w _; go_simp⟩) (fun _ => hHeld) ?_
                                try simp only [Act.put, List.setIfInBounds_toArray, List.set_cons_zero, List.set_cons_succ]
                                refine late_pure_at (some 135) (i := 34) (v := (.int .i64 r8e)) rfl rfl rfl (by kernel_rfl) (by kernel_rfl) (by kernel_rfl) (fun _ _ _ h => h) (Or.inl ⟨by rfl, by intro w _; go_simp⟩) (fun _ => hHeld) ?_
                                try simp only [Act.put, List.setIfInBounds_toArray, List.set_cons_zero, List.set_cons_succ]
                                refine late_pure_at (some 136) (i := 35) (v := (.bool true)) rfl rfl rfl (by kernel_rfl) (by kernel_rfl) (by kernel_rfl) (fun _ _ _ h => h) (Or.inl ⟨by rfl, by intro w _; go_simp⟩) (fun _ => hHeld) ?_
                                try simp only [Act.put, List.setIfInBounds_toArray, List.set_cons_zero, List.set_cons_succ]
                                refine late_pure_at (some 137) (i := 36) (v := (.bool true)) rfl rfl rfl (by kernel_rfl) (by kernel_rfl) (by kernel_rfl) (fun _ _ _ h => h) (Or.inl ⟨by rfl, by intro w _; go_simp⟩) (fun _ => hHeld) ?_
                                try simp only [Act.put, List.setIfInBounds_toArray, List.set_cons_zero, List.set_cons_succ]
                                refine late_pure_at (some 138) (i := 37) (v := (.bool true)) rfl rfl rfl (by kernel_rfl) (by kernel_rfl) (by kernel_rfl) (fun _ _ _ h => h) (Or.inl ⟨by rfl, by intro w _; go_simp⟩) (fun _ => hHeld) ?_
                                try simp only [Act.put, List.setIfInBounds_toArray, List.set_cons_zero, List.set_cons_succ]
                                refine late_take_at (some 139) (i := 38) (v := (.agg #[.int .i64 r8k, .int .i64 r8n, .string ⟨List.toArray r8t⟩])) rfl rfl rfl (by kernel_rfl) (by kernel_rfl) (by kernel_rfl) (by kernel_rfl) (fun _ _ _ h => h) clean_none (Or.inl ⟨by rfl, by intro w hSw; go_split_ands; go_simp⟩) hHeld ?_
                                try simp only [Act.put, List.setIfInBounds_toArray, List.set_cons_zero, List.set_cons_succ]
                                refine late_ready (rs := [39]) (by kernel_rfl) (by simp) ?_
                                refine AllLate.cons rfl (fun K hK => ?_) ?_
                                · skip
                                  go_simp
                                  refine (num_calls 6 _).mono ?_
                                  rintro e W49 ⟨rfl, hb⟩
                                  clear hHeld
                                  replace B := Lib.hid (B.out.below hb)
                                  replace BL := Lib.hid (below_then BL.out hb)
                                  clear hb
                                  have hHeld : W49.cell? ⟨g0, 0, none⟩ = some (.int .i64 r0k) ∧ W49.cell? ⟨g0, 1, none⟩ = some (.int .i64 r0n) ∧ W49.cell? ⟨g0, 2, none⟩ = some (.string ⟨List.toArray r0t⟩) ∧ W49.cell? ⟨g12, 0, none⟩ = some (.int .i64 2) ∧ W49.cell? ⟨g12, 1, none⟩ = some (.int .i64 0) ∧ W49.cell? ⟨g12, 2, none⟩ = some (.string ⟨List.toArray ([57, 50, 50, 51, 51, 55, 50, 48, 51, 54, 56, 53, 52, 55, 55, 53, 56, 48, 56] : List UInt8)⟩) ∧ W49.cell? ⟨g4, 0, none⟩ = some (.int .i64 r1k) ∧ W49.cell? ⟨g4, 1, none⟩ = some (.int .i64 r1n) ∧ W49.cell? ⟨g4, 2, none⟩ = some (.string ⟨List.toArray r1t⟩) ∧ W49.cell? ⟨g5, 0, none⟩ = some (.int .i64 r2k) ∧ W49.cell? ⟨g5, 1, none⟩ = some (.int .i64 r2n) ∧ W49.cell? ⟨g5, 2, none⟩ = some (.string ⟨List.toArray r2t⟩) ∧ W49.cell? ⟨g6, 0, none⟩ = some (.int .i64 r3k) ∧ W49.cell? ⟨g6, 1, none⟩ = some (.int .i64 r3n) ∧ W49.cell? ⟨g6, 2, none⟩ = some (.string ⟨List.toArray r3t⟩) ∧ W49.cell? ⟨g7, 0, none⟩ = some (.int .i64 r4k) ∧ W49.cell? ⟨g7, 1, none⟩ = some (.int .i64 r4n) ∧ W49.cell? ⟨g7, 2, none⟩ = some (.string ⟨List.toArray r4t⟩) ∧ W49.cell? ⟨g8, 0, none⟩ = some (.int .i64 r5k) ∧ W49.cell? ⟨g8, 1, none⟩ = some (.int .i64 r5n) ∧ W49.cell? ⟨g8, 2, none⟩ = some (.string ⟨List.toArray r5t⟩) ∧ W49.cell? ⟨g9, 0, none⟩ = some (.int .i64 r6k) ∧ W49.cell? ⟨g9, 1, none⟩ = some (.int .i64 r6n) ∧ W49.cell? ⟨g9, 2, none⟩ = some (.string ⟨List.toArray r6t⟩) ∧ W49.cell? ⟨g11, 0, none⟩ = some (.int .i64 r8k) ∧ W49.cell? ⟨g11, 1, none⟩ = some (.int .i64 r8n) ∧ W49.cell? ⟨g11, 2, none⟩ = some (.string ⟨List.toArray r8t⟩) := ⟨(B.out.get 9 rfl).c0, (B.out.get 9 rfl).c1, (B.out.get 9 rfl).c2, (B.out.get 0 rfl).c0, (B.out.get 0 rfl).c1, (B.out.get 0 rfl).c2, (B.out.get 8 rfl).c0, (B.out.get 8 rfl).c1, (B.out.get 8 rfl).c2, (B.out.get 7 rfl).c0, (B.out.get 7 rfl).c1, (B.out.get 7 rfl).c2, (B.out.get 6 rfl).c0, (B.out.get 6 rfl).c1, (B.out.get 6 rfl).c2, (B.out.get 5 rfl).c0, (B.out.get 5 rfl).c1, (B.out.get 5 rfl).c2, (B.out.get 4 rfl).c0, (B.out.get 4 rfl).c1, (B.out.get 4 rfl).c2, (B.out.get 3 rfl).c0, (B.out.get 3 rfl).c1, (B.out.get 3 rfl).c2, (B.out.get 1 rfl).c0, (B.out.get 1 rfl).c1, (B.out.get 1 rfl).c2⟩
                                  dsimp only
                                  refine hK.out _ _ (fun _ => hHeld) ?_
                                  clear hK K
                                  try simp only [Act.put, List.setIfInBounds_toArray, List.set_cons_zero, List.set_cons_succ]
                                  refine late_pure_at (some 141) (i := 40) (v := (.bool true)) rfl rfl rfl (by kernel_rfl) (by kernel_rfl) (by kernel_rfl) (fun _ _ _ h => h) (Or.inl ⟨by rfl, by intro w _; go_simp⟩) (fun _ => hHeld) ?_
                                  try simp only [Act.put, List.setIfInBounds_toArray, List.set_cons_zero, List.set_cons_succ]
                                  refine late_pure_at (some 142) (i := 41) (v := (.bool true)) rfl rfl rfl (by kernel_rfl) (by kernel_rfl) (by kernel_rfl) (fun _ _ _ h => h) (Or.inl ⟨by rfl, by intro w _; go_simp⟩) (fun _ => hHeld) ?_
                                  try simp only [Act.put, List.setIfInBounds_toArray, List.set_cons_zero, List.set_cons_succ]
                                  refine late_pure_at (some 0) (i := 42) (v := (.bool true)) rfl rfl rfl (by kernel_rfl) (by kernel_rfl) (by kernel_rfl) (fun _ _ _ h => h) (Or.inl ⟨by rfl, by intro w _; go_simp⟩) (fun _ => hHeld) ?_
                                  try simp only [Act.put, List.setIfInBounds_toArray, List.set_cons_zero, List.set_cons_succ]
                                  refine late_done (by kernel_rfl) ?_ _
                                  refine NoPanic.normal ?_
                                  go_wp2_with fail
                                  go_ret
                                  exact ⟨rfl, BL.out⟩
                                exact AllLate.nil
                              exact AllLate.nil
                            exact AllLate.nil
                          exact AllLate.nil
                        exact AllLate.nil
                      | false =>
                        exact Bool.noConfusion (show true = false from HL.out.trans (by show (((((((((veqB r0k r0n r0t 2 0 ([57, 50, 50, 51, 51, 55, 50, 48, 51, 54, 56, 53, 52, 55, 55, 53, 56, 48, 56] : List UInt8)) && (veqB r1k r1n r1t 1 9223372036854775807 [])) && (r2t == ([49, 56, 52, 52, 54, 55, 52, 52, 48, 55, 51, 55, 48, 57, 53, 53, 49, 54, 49, 54] : List UInt8))) && (veqB r3k r3n r3t 1 (-4) [])) && (veqB r4k r4n r4t 1 1 [])) && (veqB r5k r5n r5t r2k r2n r2t)) && (veqB r6k r6n r6t 1 9 [])) && (r8e == 0)) && (veqB r8k r8n r8t 1 6 [])) = false; rw [HA8.out, HA9.out, HA10.out, HA11.out, HA12.out, HA13.out, HA14.out, HA15.out, HA16.out]; rfl))
                    | false =>
                      exact Bool.noConfusion (show true = false from HL.out.trans (by show (((((((((veqB r0k r0n r0t 2 0 ([57, 50, 50, 51, 51, 55, 50, 48, 51, 54, 56, 53, 52, 55, 55, 53, 56, 48, 56] : List UInt8)) && (veqB r1k r1n r1t 1 9223372036854775807 [])) && (r2t == ([49, 56, 52, 52, 54, 55, 52, 52, 48, 55, 51, 55, 48, 57, 53, 53, 49, 54, 49, 54] : List UInt8))) && (veqB r3k r3n r3t 1 (-4) [])) && (veqB r4k r4n r4t 1 1 [])) && (veqB r5k r5n r5t r2k r2n r2t)) && (veqB r6k r6n r6t 1 9 [])) && (r8e == 0)) && (veqB r8k r8n r8t 1 6 [])) = false; rw [HA8.out, HA9.out, HA10.out, HA11.out, HA12.out, HA13.out, HA14.out, HA15.out]; rfl))
                  | false =>
                    exact Bool.noConfusion (show true = false from HL.out.trans (by show (((((((((veqB r0k r0n r0t 2 0 ([57, 50, 50, 51, 51, 55, 50, 48, 51, 54, 56, 53, 52, 55, 55, 53, 56, 48, 56] : List UInt8)) && (veqB r1k r1n r1t 1 9223372036854775807 [])) && (r2t == ([49, 56, 52, 52, 54, 55, 52, 52, 48, 55, 51, 55, 48, 57, 53, 53, 49, 54, 49, 54] : List UInt8))) && (veqB r3k r3n r3t 1 (-4) [])) && (veqB r4k r4n r4t 1 1 [])) && (veqB r5k r5n r5t r2k r2n r2t)) && (veqB r6k r6n r6t 1 9 [])) && (r8e == 0)) && (veqB r8k r8n r8t 1 6 [])) = false; rw [HA8.out, HA9.out, HA10.out, HA11.out, HA12.out, HA13.out, HA14.out]; rfl))
                | false =>
                  exact Bool.noConfusion (show true = false from HL.out.trans (by show (((((((((veqB r0k r0n r0t 2 0 ([57, 50, 50, 51, 51, 55, 50, 48, 51, 54, 56, 53, 52, 55, 55, 53, 56, 48, 56] : List UInt8)) && (veqB r1k r1n r1t 1 9223372036854775807 [])) && (r2t == ([49, 56, 52, 52, 54, 55, 52, 52, 48, 55, 51, 55, 48, 57, 53, 53, 49, 54, 49, 54] : List UInt8))) && (veqB r3k r3n r3t 1 (-4) [])) && (veqB r4k r4n r4t 1 1 [])) && (veqB r5k r5n r5t r2k r2n r2t)) && (veqB r6k r6n r6t 1 9 [])) && (r8e == 0)) && (veqB r8k r8n r8t 1 6 [])) = false; rw [HA8.out, HA9.out, HA10.out, HA11.out, HA12.out, HA13.out]; rfl))
              | false =>
                exact Bool.noConfusion (show true = false from HL.out.trans (by show (((((((((veqB r0k r0n r0t 2 0 ([57, 50, 50, 51, 51, 55, 50, 48, 51, 54, 56, 53, 52, 55, 55, 53, 56, 48, 56] : List UInt8)) && (veqB r1k r1n r1t 1 9223372036854775807 [])) && (r2t == ([49, 56, 52, 52, 54, 55, 52, 52, 48, 55, 51, 55, 48, 57, 53, 53, 49, 54, 49, 54] : List UInt8))) && (veqB r3k r3n r3t 1 (-4) [])) && (veqB r4k r4n r4t 1 1 [])) && (veqB r5k r5n r5t r2k r2n r2t)) && (veqB r6k r6n r6t 1 9 [])) && (r8e == 0)) && (veqB r8k r8n r8t 1 6 [])) = false; rw [HA8.out, HA9.out, HA10.out, HA11.out, HA12.out]; rfl))
            | false =>
              exact Bool.noConfusion (show true = false from HL.out.trans (by show (((((((((veqB r0k r0n r0t 2 0 ([57, 50, 50, 51, 51, 55, 50, 48, 51, 54, 56, 53, 52, 55, 55, 53, 56, 48, 56] : List UInt8)) && (veqB r1k r1n r1t 1 9223372036854775807 [])) && (r2t == ([49, 56, 52, 52, 54, 55, 52, 52, 48, 55, 51, 55, 48, 57, 53, 53, 49, 54, 49, 54] : List UInt8))) && (veqB r3k r3n r3t 1 (-4) [])) && (veqB r4k r4n r4t 1 1 [])) && (veqB r5k r5n r5t r2k r2n r2t)) && (veqB r6k r6n r6t 1 9 [])) && (r8e == 0)) && (veqB r8k r8n r8t 1 6 [])) = false; rw [HA8.out, HA9.out, HA10.out, HA11.out]; rfl))
          | false =>
            exact Bool.noConfusion (show true = false from HL.out.trans (by show (((((((((veqB r0k r0n r0t 2 0 ([57, 50, 50, 51, 51, 55, 50, 48, 51, 54, 56, 53, 52, 55, 55, 53, 56, 48, 56] : List UInt8)) && (veqB r1k r1n r1t 1 9223372036854775807 [])) && (r2t == ([49, 56, 52, 52, 54, 55, 52, 52, 48, 55, 51, 55, 48, 57, 53, 53, 49, 54, 49, 54] : List UInt8))) && (veqB r3k r3n r3t 1 (-4) [])) && (veqB r4k r4n r4t 1 1 [])) && (veqB r5k r5n r5t r2k r2n r2t)) && (veqB r6k r6n r6t 1 9 [])) && (r8e == 0)) && (veqB r8k r8n r8t 1 6 [])) = false; rw [HA8.out, HA9.out, HA10.out]; rfl))
        | false =>
          exact Bool.noConfusion (show true = false from HL.out.trans (by show (((((((((veqB r0k r0n r0t 2 0 ([57, 50, 50, 51, 51, 55, 50, 48, 51, 54, 56, 53, 52, 55, 55, 53, 56, 48, 56] : List UInt8)) && (veqB r1k r1n r1t 1 9223372036854775807 [])) && (r2t == ([49, 56, 52, 52, 54, 55, 52, 52, 48, 55, 51, 55, 48, 57, 53, 53, 49, 54, 49, 54] : List UInt8))) && (veqB r3k r3n r3t 1 (-4) [])) && (veqB r4k r4n r4t 1 1 [])) && (veqB r5k r5n r5t r2k r2n r2t)) && (veqB r6k r6n r6t 1 9 [])) && (r8e == 0)) && (veqB r8k r8n r8t 1 6 [])) = false; rw [HA8.out, HA9.out]; rfl))
      | false =>
        exact Bool.noConfusion (show true = false from HL.out.trans (by show (((((((((veqB r0k r0n r0t 2 0 ([57, 50, 50, 51, 51, 55, 50, 48, 51, 54, 56, 53, 52, 55, 55, 53, 56, 48, 56] : List UInt8)) && (veqB r1k r1n r1t 1 9223372036854775807 [])) && (r2t == ([49, 56, 52, 52, 54, 55, 52, 52, 48, 55, 51, 55, 48, 57, 53, 53, 49, 54, 49, 54] : List UInt8))) && (veqB r3k r3n r3t 1 (-4) [])) && (veqB r4k r4n r4t 1 1 [])) && (veqB r5k r5n r5t r2k r2n r2t)) && (veqB r6k r6n r6t 1 9 [])) && (r8e == 0)) && (veqB r8k r8n r8t 1 6 [])) = false; rw [HA8.out]; rfl))
end Go.Proofs.YthjpbbbmnmhmmaaGreatDoor
