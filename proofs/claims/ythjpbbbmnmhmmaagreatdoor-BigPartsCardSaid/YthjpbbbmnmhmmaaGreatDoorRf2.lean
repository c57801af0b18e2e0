import Derived.Test.YthjpbbbmnmhmmaaGreatDoorRf1
import Derived.Test.YthjpbbbmnmhmmaaGreatDoorL0
import Derived.Test.YthjpbbbmnmhmmaaGreatDoorA29
import Derived.Test.YthjpbbbmnmhmmaaGreatDoorA20
set_option linter.unusedVariables false
set_option linter.unusedSimpArgs false
namespace Go.Proofs.YthjpbbbmnmhmmaaGreatDoor
open Go.RowKit Go.Shelf Go.Lib

/-! ### The text of a number -/
/-- The digits of a number, as bytes; 0 has none. -/
def tx (n : Nat) : List UInt8 := if n = 0 then [] else decDigits n
theorem tx_step {n : Nat} (h : n ≠ 0) : tx n = tx (n / 10) ++ [UInt8.ofNat (48 + n % 10)] := by
  unfold tx
  rw [if_neg h]
  by_cases hd : n < 10
  · rw [if_pos (by omega), decDigits, dif_pos hd, Nat.mod_eq_of_lt hd]; rfl
  · rw [if_neg (by omega), decDigits_big hd]

theorem digit_at : ∀ d : Nat, d < 10 → (ByteArray.mk #[48, 49, 50, 51, 52, 53, 54, 55, 56, 57]).extract d (d + 1) = ⟨#[UInt8.ofNat (48 + d)]⟩ := by
  intro d hd
  have : ∀ f : Fin 10, (ByteArray.mk #[48, 49, 50, 51, 52, 53, 54, 55, 56, 57]).extract f.val (f.val + 1) = ⟨#[UInt8.ofNat (48 + f.val)]⟩ := by decide +kernel
  exact this ⟨d, hd⟩
theorem bytes_snoc (l : List UInt8) (x : UInt8) : (ByteArray.mk l.toArray) ++ (ByteArray.mk #[x]) = ⟨(l ++ [x]).toArray⟩ := by
  apply ByteArray.ext
  simp [ByteArray.data_append]

set_option maxRecDepth 100000 in
set_option maxHeartbeats 2000000 in
theorem r_text (v : Value) (z : Int) (w : World) (h : NH w v z) (hl : (Ten.dig z.natAbs).length ≤ 1000) :
    Calls Tryz.prog 76 #[v] w fun e w' => e = .returned (.string ⟨(itoa z).toArray⟩) ∧ Below w.heap.size w w' := by
  obtain ⟨sv, rfl, hr⟩ := h
  obtain ⟨a, c, rfl, _, _, hla, hca⟩ := hr.form
  obtain ⟨m, hm⟩ : ∃ m, z.natAbs = m := ⟨_, rfl⟩
  obtain ⟨p, hp⟩ : ∃ p, decide (z < 0) = p := ⟨_, rfl⟩
  have HM := Lib.hid hm; have HP := Lib.hid hp
  rw [hm] at hla hca hl hr ⊢
  rw [hp]
  have HXR := Lib.hid (Ten.dig_inR m)
  have HE := Lib.hid (Ten.dig_eq_nil (n := m))
  have Hrd : Hid (∀ k, k < (Ten.dig m).length → rd (Ten.dig m) k = ((m / 10 ^ k % 10 : Nat) : Int)) := Lib.hid (fun k hk => (Ten.rd_dig hk).1)
  have Htop : Hid (∀ k, k < (Ten.dig m).length → m / 10 ^ k ≠ 0) := Lib.hid (fun k hk => by have := Ten.top_pos hk; omega)
  have Hlt := Lib.hid (Ten.dig_lt m)
  obtain ⟨X, hX⟩ : ∃ X, Ten.dig m = X := ⟨_, rfl⟩
  rw [hX] at hla hca hl HXR HE Hrd Htop Hlt ⊢
  have HC := Lib.hid hca
  have hb : ∀ o, Below w.heap.size w (w.alloc o) := fun o => (Below.refl _ w).alloc (Nat.le_refl _) o
  have HB := Lib.hid hb
  clear hm hp hX hca hr hb
  by_cases h0 : X.length = 0
  · have t1 : (X.length == 0) = true := by simp [h0]
    have t1' : ((X.length : Int) == 0) = true := by simp [h0]
    have HZ : Hid (itoa z = [48]) := Lib.hid (by
      have := HE.out.1 (List.eq_nil_of_length_eq_zero h0)
      have : z = 0 := by have := HM.out; omega
      subst this; decide +kernel)
    clear h0
    go_enter Tryz.func76, Tryz.ntmps76
    go_wp2_with fail
    go_ret
    exact ⟨by rw [HZ.out]; rfl, HB.out _⟩
  · have t1 : (X.length == 0) = false := by simp [h0]
    have t1' : ((X.length : Int) == 0) = false := by simp [h0]
    have HX0 := Lib.hid h0
    clear h0
    obtain ⟨sg, hsg⟩ : ∃ sg : List UInt8, (if p then [45] else []) = sg := ⟨_, rfl⟩
    have HSG := Lib.hid hsg
    have hfin : Hid (sg ++ tx m = itoa z) := Lib.hid (by
      have h1 := HX0.out
      have h2 : m ≠ 0 := fun e => h1 (by have := HE.out.2 e; rw [this]; rfl)
      unfold tx itoa
      have h3 := HM.out
      rw [if_neg h2, ← hsg, ← HP.out, h3]
      by_cases hz : z < 0
      · simp [hz]
      · have : m = z.toNat := by omega
        simp [hz, this])
    clear hsg
    go_enter Tryz.func76, Tryz.ntmps76
    go_upto_region 3 with fail
    have a0 := cell_in w #[.bool p, .slice a X.length c] 51 0 rfl
    have a1 := cell_in w #[.bool p, .slice a X.length c] 51 1 rfl
    obtain ⟨W, hW⟩ : ∃ W, w.alloc (.cells #[.bool p, .slice a X.length c] 51) = W := ⟨_, rfl⟩
    have hbw := HB.out (.cells #[.bool p, .slice a X.length c] 51)
    have hwlt : w.heap.size < W.heap.size := by rw [← hW]; simp
    rw [hW] at a0 a1 hbw ⊢
    have a0 : W.cell? ⟨w.heap.size, 0, none⟩ = some (.bool p) := a0
    have a1 : W.cell? ⟨w.heap.size, 1, none⟩ = some (.slice a X.length c) := a1
    have A1 := Lib.hid a1
    have HBW := Lib.hid hbw
    clear hW hbw
    cases p
    all_goals
      go_wp2_with fail
      go_loopw [3, 4] (fun o i wr => ∃ (k : Nat) (l : List UInt8), k ≤ X.length ∧ i = .int .i64 ((k : Int) - 1) ∧ o = .string ⟨l.toArray⟩ ∧ l.length + k ≤ 1001 ∧ Hid (l = sg ++ tx (m / 10 ^ k)) ∧ Hid (Below W.heap.size W wr)) (fun _ i _ => (RowKit.intOf i + 1).toNat)
      case atStart => exact ⟨X.length, sg, Nat.le_refl _, rfl, by rw [← HSG.out]; rfl, by rw [← HSG.out]; simp <;> omega, Lib.hid (by rw [Nat.div_eq_of_lt Hlt.out]; simp [tx]), Lib.hid (Below.refl _ _)⟩
      case round =>
        obtain ⟨k, l, hk, rfl, rfl, hll, HL, HBR⟩ := hrel
        rcases Nat.eq_zero_or_pos k with rfl | hk0
        · rw [show ((0 : Nat) : Int) - 1 = -1 from rfl]
          have HZ : Hid (l = itoa z) := Lib.hid (by rw [HL.out, ← hfin.out]; simp)
          go_wp2_with fail
          go_ret
          exact ⟨by rw [HZ.out]; rfl, HBW.out.trans (HBR.out.mono (Nat.le_of_lt hwlt))⟩
        · obtain ⟨k, rfl⟩ : ∃ m, k = m + 1 := ⟨k - 1, by omega⟩
          rw [show ((k + 1 : Nat) : Int) - 1 = (k : Int) by omega]
          obtain ⟨b, o, rfl, hc⟩ := HC.out (by intro e; subst e; simp at hk)
          have g1 := cell_on (HBW.out.trans (HBR.out.mono (Nat.le_of_lt hwlt))) (hc k (by omega))
          have g2 := cell_on HBR.out A1.out
          have i1 : (k : Int) < (X.length : Int) := by omega
          have d0 : (0 : Int) ≤ rd X k ∧ rd X k < 10 := HXR.out.at k
          have hrdk := Hrd.out k (by omega)
          obtain ⟨d, hd⟩ : ∃ d, m / 10 ^ k % 10 = d := ⟨_, rfl⟩
          have HD := Lib.hid hd
          have HTK := Lib.hid (Htop.out k (by omega))
          rw [hd] at hrdk
          rw [hrdk] at g1 d0
          have d1 : d < 10 := by omega
          clear hc hrdk hd d0 a0 a1
          have hEx := digit_at d d1
          have hcat : ¬ 9223372036854775807 < l.length + 1 := by omega
          have hApp := bytes_snoc l (UInt8.ofNat (48 + d))
          have HN := Lib.hid (show l ++ [UInt8.ofNat (48 + d)] = sg ++ tx (m / 10 ^ k) by
            rw [tx_step HTK.out, HD.out, HL.out, Nat.pow_succ, ← Nat.div_div_eq_div_mul, List.append_assoc])
          obtain ⟨x, hx⟩ : ∃ x, UInt8.ofNat (48 + d) = x := ⟨_, rfl⟩
          rw [hx] at hEx hApp HN
          clear hx
          go_wp2_with fail
          go_quiet (fail)
          go_wp2_with fail
          go_roundw
          case rel => exact ⟨k, _, by omega, by go_num, rfl, by simp; omega, HN, Lib.hid (drewN_on HBR.out _)⟩
          case measure => simp [RowKit.intOf] <;> omega
end Go.Proofs.YthjpbbbmnmhmmaaGreatDoor

namespace Go.Proofs.YthjpbbbmnmhmmaaGreatDoor
open Go.RowKit Go.Shelf Go.Lib

/-! ### The number of a text -/
/-- The digits of a text, the least first. -/
def dl (u : List UInt8) : List Int := u.reverse.map fun c => (c.toNat : Int) - 48
theorem dl_step (u : List UInt8) (k : Nat) (h : k < u.length) : dl (u.drop k) = dl (u.drop (k + 1)) ++ [(u[k].toNat : Int) - 48] := by
  rw [List.drop_eq_getElem_cons h]; unfold dl; rw [List.reverse_cons, List.map_append]; rfl
theorem dl_len (u : List UInt8) : (dl u).length = u.length := by simp [dl]
theorem dl_rng {u : List UInt8} (h : AllD u) : Ten.InR (dl u) := by
  intro x hx
  obtain ⟨c, hc, rfl⟩ := List.mem_map.1 hx
  have := h c (by simpa using hc)
  omega
theorem dl_val {u : List UInt8} (h : AllD u) : Ten.val (dl u) = (dv u : Int) := by
  induction u with
  | nil => simp [dl, dv, Ten.val]
  | cons c u ih =>
    have e : dl (c :: u) = dl u ++ [(c.toNat : Int) - 48] := by simp [dl]
    have h1 := h c (by simp)
    rw [e, Ten.val_snoc, ih (fun x hx => h x (by simp [hx])), dl_len, dv_cons]
    have h2 : ((c.toNat - 48 : Nat) : Int) = (c.toNat : Int) - 48 := by omega
    rw [Int.natCast_add, Int.natCast_mul, h2, pow_cast]; omega
theorem allD_step {u : List UInt8} {k : Nat} (hk : k < u.length) (h : AllD (u.drop (k + 1))) (h1 : 48 ≤ u[k].toNat) (h2 : u[k].toNat ≤ 57) : AllD (u.drop k) := by
  rw [List.drop_eq_getElem_cons hk]
  intro c hc
  rcases List.mem_cons.1 hc with rfl | hc
  · exact ⟨h1, h2⟩
  · exact h c hc
theorem not_allD {u : List UInt8} {k : Nat} (hk : k < u.length) (h : ¬ (48 ≤ u[k].toNat ∧ u[k].toNat ≤ 57)) : ¬ AllD u := fun ha => h (ha _ (List.getElem_mem hk))
theorem tail_bytes (c : UInt8) (t : List UInt8) : (ByteArray.mk (c :: t).toArray).extract 1 (t.length + 1) = ⟨t.toArray⟩ := by
  apply ByteArray.ext
  simp [ByteArray.data_extract]

/-- A number's shape. -/
def FormN (v : Value) : Prop := ∃ b a n c, v = .agg #[.bool b, .slice a n c]
theorem head_eq {u : List UInt8} (c : UInt8) (h : u.head? = some c) : ∀ h : 0 < (⟨u.toArray⟩ : ByteArray).size, (((((⟨u.toArray⟩ : ByteArray)[0]'h).toNat : Nat) : Int) == (c.toNat : Int)) = true := by
  intro h0
  cases u with
  | nil => cases h
  | cons d u => obtain rfl := Option.some.inj h; exact beq_self_eq_true _
theorem head_ne {u : List UInt8} (c : UInt8) (h : u.head? ≠ some c) : ∀ h : 0 < (⟨u.toArray⟩ : ByteArray).size, (((((⟨u.toArray⟩ : ByteArray)[0]'h).toNat : Nat) : Int) == (c.toNat : Int)) = false := by
  intro h0
  cases u with
  | nil => exact absurd h0 (by decide)
  | cons d u =>
    have hd : d ≠ c := fun e => h (by rw [e]; rfl)
    have hd' : d.toNat ≠ c.toNat := fun e => hd (UInt8.toNat_inj.1 e)
    show ((d.toNat : Int) == (c.toNat : Int)) = false
    simp; omega

set_option maxRecDepth 100000 in
set_option maxHeartbeats 4000000 in
theorem r_read (s : List UInt8) (hl : s.length ≤ 100000) (w : World) :
    Calls Tryz.prog 75 #[.string ⟨s.toArray⟩] w fun e w' => ∃ v, e = .returned (.tuple #[v, .bool (readZ s).isSome]) ∧ FormN v ∧ (∀ z, readZ s = some z → NH w' v z) ∧ Below w.heap.size w w' := by
  have hb : Below w.heap.size w (w.alloc (.cells #[.bool false, .slice none 0 0] 51)) := (Below.refl _ w).alloc (Nat.le_refl _) _
  have HR0 := Lib.hid (resN_new w 51)
  have hlt : w.heap.size < (w.alloc (.cells #[.bool false, .slice none 0 0] 51)).heap.size := by simp
  have Hnone : Hid (∀ W', readZ s = none → Below w.heap.size w W' → ∃ v, Ending.returned (.tuple #[.agg #[.bool false, .slice none 0 0], .bool false]) = .returned (.tuple #[v, .bool (readZ s).isSome]) ∧ FormN v ∧ (∀ z, readZ s = some z → NH W' v z) ∧ Below w.heap.size w W') := Lib.hid (fun W' h hb => ⟨_, by rw [h]; rfl, ⟨_, _, _, _, rfl⟩, fun z hz => by rw [h] at hz; (cases hz), hb⟩)
  obtain ⟨W, hW⟩ : ∃ W, w.alloc (.cells #[.bool false, .slice none 0 0] 51) = W := ⟨_, rfl⟩
  rw [hW] at hb HR0 hlt
  have HB0 := Lib.hid hb
  have HLT := Lib.hid hlt
  clear hb hlt
  by_cases hs0 : s = []
  · subst hs0
    clear hl
    have HN : Hid (readZ ([]) = none) := Lib.hid (by decide +kernel)
    have k0 := HR0.out.c0; have k1 := HR0.out.c1; have f0 := HR0.out.f0; have f1 := HR0.out.f1
    go_enter Tryz.func75, Tryz.ntmps75
    go_wp2_with fail
    refine bodyPost_ret (v := .tuple #[.agg #[.bool false, .slice none 0 0], .bool false]) (by simp [results, Tryz.results75, go_sem, *]) rfl ?_
    exact Hnone.out _ HN.out (below_put HB0.out (Nat.le_refl _) _ _)
  by_cases h45 : s.head? = some 45
  · obtain ⟨u, rfl⟩ : ∃ u, s = 45 :: u := by
      cases s with
      | nil => cases h45
      | cons c u => exact ⟨u, by rw [Option.some.inj h45]⟩
    have HUS : Hid (unsign (45 :: u) = u) := Lib.hid rfl
    have htb := tail_bytes 45 u
    have hf45 : ∀ h : 0 < (⟨List.toArray (45 :: u)⟩ : ByteArray).size, (((((⟨List.toArray (45 :: u)⟩ : ByteArray)[0]'h).toNat : Nat) : Int) == 45) = true := head_eq (u := 45 :: u) 45 rfl
    have hlu : u.length ≤ 100000 := by simp at hl; omega
    clear h45 hs0 hl
    by_cases hu0 : u = []
    · subst hu0
      clear hlu
      have HN : Hid (readZ ([45]) = none) := Lib.hid (by decide +kernel)
      have k0 := HR0.out.c0; have k1 := HR0.out.c1; have f0 := HR0.out.f0; have f1 := HR0.out.f1
      go_enter Tryz.func75, Tryz.ntmps75
      go_wp2_with fail
      refine bodyPost_ret (v := .tuple #[.agg #[.bool false, .slice none 0 0], .bool false]) (by simp [results, Tryz.results75, go_sem, *]) rfl ?_
      exact Hnone.out _ HN.out (below_put HB0.out (Nat.le_refl _) _ _)
    have hpos : 0 < u.length := List.length_pos_iff.2 hu0
    have hz1 : (u.length == 0) = false := by simp; omega
    by_cases h400 : 400 < u.length
    · have q0 : decide (400 < u.length) = true := by simpa using h400
      have q0i : decide ((400 : Int) < (u.length : Int)) = true := by simp; omega
      have p0 : (400 : Int) < (u.length : Int) := by omega
      have HN : Hid (readZ (45 :: u) = none) := Lib.hid (by exact if_pos (.inr (.inl (by rw [HUS.out]; exact h400))))
      have k0 := HR0.out.c0; have k1 := HR0.out.c1; have f0 := HR0.out.f0; have f1 := HR0.out.f1
      go_enter Tryz.func75, Tryz.ntmps75
      go_wp2_with fail
      refine bodyPost_ret (v := .tuple #[.agg #[.bool false, .slice none 0 0], .bool false]) (by simp [results, Tryz.results75, go_sem, *]) rfl ?_
      exact Hnone.out _ HN.out (below_put HB0.out (Nat.le_refl _) _ _)
    have q0 : decide (400 < u.length) = false := by simpa using h400
    have q0i : decide ((400 : Int) < (u.length : Int)) = false := by simp; omega
    have p0 : ¬ (400 : Int) < (u.length : Int) := by omega
    by_cases h48 : u.head? = some 48
    · have hf : ∀ h : 0 < (⟨List.toArray (u)⟩ : ByteArray).size, (((((⟨List.toArray (u)⟩ : ByteArray)[0]'h).toNat : Nat) : Int) == 48) = true := head_eq 48 h48
      have H48 := Lib.hid h48
      clear h48
      by_cases h1 : 1 < u.length
      · have q1 : decide (1 < u.length) = true := by simpa using h1
        have p1 : (1 : Int) < (u.length : Int) := by omega
        have HN : Hid (readZ (45 :: u) = none) := Lib.hid (by exact if_pos (.inr (.inr (.inl ⟨by rw [HUS.out]; exact H48.out, by simp⟩))))
        have k0 := HR0.out.c0; have k1 := HR0.out.c1; have f0 := HR0.out.f0; have f1 := HR0.out.f1
        go_enter Tryz.func75, Tryz.ntmps75
        go_wp2_with fail
        refine bodyPost_ret (v := .tuple #[.agg #[.bool false, .slice none 0 0], .bool false]) (by simp [results, Tryz.results75, go_sem, *]) rfl ?_
        exact Hnone.out _ HN.out (below_put HB0.out (Nat.le_refl _) _ _)
      · have q1 : decide (1 < u.length) = false := by simpa using h1
        have p1 : ¬ (1 : Int) < (u.length : Int) := by omega
        have HN : Hid (readZ (45 :: u) = none) := Lib.hid (by exact if_pos (.inr (.inr (.inl ⟨by rw [HUS.out]; exact H48.out, by simp⟩))))
        have k0 := HR0.out.c0; have k1 := HR0.out.c1; have f0 := HR0.out.f0; have f1 := HR0.out.f1
        go_enter Tryz.func75, Tryz.ntmps75
        go_wp2_with fail
        refine bodyPost_ret (v := .tuple #[.agg #[.bool false, .slice none 0 0], .bool false]) (by simp [results, Tryz.results75, go_sem, *]) rfl ?_
        exact Hnone.out _ HN.out (below_put HB0.out (Nat.le_refl _) _ _)
    have hf : ∀ h : 0 < (⟨List.toArray (u)⟩ : ByteArray).size, (((((⟨List.toArray (u)⟩ : ByteArray)[0]'h).toNat : Nat) : Int) == 48) = false := head_ne 48 h48
    have H48 := Lib.hid h48
    have HU0 := Lib.hid hu0
    have H400 := Lib.hid h400
    clear h48
    have HZ : Hid (∀ h : AllD u, readZ (45 :: u) = some (-(dv u : Int))) := Lib.hid (fun h => by unfold readZ; rw [HUS.out, if_neg (by rintro (h1 | h1 | h1 | h1); exact HU0.out h1; exact H400.out h1; exact H48.out h1.1; exact h1 h), if_pos (by simp)])
    have HNN : Hid (¬ AllD u → readZ (45 :: u) = none) := Lib.hid (fun h => if_pos (.inr (.inr (.inr (by rw [HUS.out]; exact h)))))
    have HLU := Lib.hid hlu
    clear hlu
    go_enter Tryz.func75, Tryz.ntmps75
    go_wp2_with fail
    go_loopw [5, 6] (fun d i wr => ∃ k : Nat, k ≤ u.length ∧ i = .int .i64 ((k : Int) - 1) ∧ Hid (AllD (u.drop k)) ∧ Hid (Own wr W.heap.size d (dl (u.drop k))) ∧ Hid (Below W.heap.size W wr) ∧ Hid (W.heap.size ≤ wr.heap.size)) (fun _ i _ => (RowKit.intOf i + 1).toNat)
    case atStart => exact ⟨u.length, Nat.le_refl _, rfl, Lib.hid (by rw [List.drop_length]; intro c hc; cases hc), Lib.hid (by rw [List.drop_length]; exact Own.nil _ _), Lib.hid (Below.refl _ _), Lib.hid (Nat.le_refl _)⟩
    case round =>
      obtain ⟨k, hk, rfl, HD, HO, HB, HS⟩ := hrel
      have HRW := Lib.hid (HR0.out.below HB.out)
      rcases Nat.eq_zero_or_pos k with rfl | hk0
      · rw [show ((0 : Nat) : Int) - 1 = -1 from rfl]
        rw [List.drop_zero] at HD HO
        have HI := Lib.hid (HO.out.ri (by rw [dl_len]; have := HLU.out; omega))
        go_wp2_with fail
        refine (r_signed_xs _ _ _ (dv u) _ HI.out.1 (dl_rng HD.out) HI.out.2 (by rw [dl_val HD.out]; rfl)).mono ?_
        rintro e w3 ⟨v3, rfl, hv3, hb3⟩
        have HV3 := Lib.hid hv3
        have HB3 := Lib.hid (below_then HB.out hb3)
        have HR3 := Lib.hid (HRW.out.below hb3)
        obtain ⟨b3, a3, n3, c3, rfl⟩ := hv3.form
        have k0 := HR3.out.c0; have k1 := HR3.out.c1; have f0 := HR3.out.f0; have f1 := HR3.out.f1
        clear hv3 hb3
        go_wp2_with fail
        refine bodyPost_ret (v := .tuple #[.agg #[.bool b3, .slice a3 n3 c3], .bool true]) (by simp [results, Tryz.results75, go_sem, *]) rfl ?_
        refine ⟨_, by rw [HZ.out HD.out]; rfl, ⟨_, _, _, _, rfl⟩, fun z hz => ?_, below_put (HB0.out.trans (HB3.out.mono (Nat.le_of_lt HLT.out))) (Nat.le_refl _) _ _⟩
        rw [HZ.out HD.out] at hz
        obtain rfl := Option.some.inj hz
        have h := HV3.out.put HR3.out.ni (.bool b3) (.slice a3 n3 c3)
        simpa using h
      · obtain ⟨k, rfl⟩ : ∃ m, k = m + 1 := ⟨k - 1, by omega⟩
        rw [show ((k + 1 : Nat) : Int) - 1 = (k : Int) by omega]
        have hlt : k < u.length := by omega
        have hstep := Lib.hid (dl_step u k hlt)
        have hall := Lib.hid (fun h1 h2 => allD_step hlt HD.out h1 h2)
        have hno := Lib.hid (fun h => not_allD hlt h)
        obtain ⟨c, hc⟩ : ∃ c, u[k] = c := ⟨_, rfl⟩
        rw [hc] at hstep hall hno
        have hbk : (({ data := u.toArray } : ByteArray)[k]'(show k < u.length from hlt)) = c := hc
        have hlt' : (k : Int) < (u.length : Int) := by omega
        have hc8 : c.toNat < 256 := c.toNat_lt
        clear hc
        by_cases hlo : c.toNat < 48
        · have q1 : decide (c.toNat < 48) = true := by simpa using hlo
          have q1' : decide ((c.toNat : Int) < 48) = true := by simp; omega
          have HN := Lib.hid (HNN.out (hno.out (by omega)))
          have k0 := HRW.out.c0; have k1 := HRW.out.c1; have f0 := HRW.out.f0; have f1 := HRW.out.f1
          clear hlo
          go_wp2_with fail
          refine bodyPost_ret (v := .tuple #[.agg #[.bool false, .slice none 0 0], .bool false]) (by simp [results, Tryz.results75, go_sem, *]) rfl ?_
          exact Hnone.out _ HN.out (below_put (HB0.out.trans (HB.out.mono (Nat.le_of_lt HLT.out))) (Nat.le_refl _) _ _)
        · have q1 : decide (c.toNat < 48) = false := by simp; omega
          have q1' : decide ((c.toNat : Int) < 48) = false := by simp; omega
          by_cases hhi : 57 < c.toNat
          · have q2 : decide (57 < c.toNat) = true := by simpa using hhi
            have q2' : decide (57 < (c.toNat : Int)) = true := by simp; omega
            have HN := Lib.hid (HNN.out (hno.out (by omega)))
            have k0 := HRW.out.c0; have k1 := HRW.out.c1; have f0 := HRW.out.f0; have f1 := HRW.out.f1
            clear hlo hhi
            go_wp2_with fail
            refine bodyPost_ret (v := .tuple #[.agg #[.bool false, .slice none 0 0], .bool false]) (by simp [results, Tryz.results75, go_sem, *]) rfl ?_
            exact Hnone.out _ HN.out (below_put (HB0.out.trans (HB.out.mono (Nat.le_of_lt HLT.out))) (Nat.le_refl _) _ _)
          · have q2 : decide (57 < c.toNat) = false := by simp; omega
            have q2' : decide (57 < (c.toNat : Int)) = false := by simp; omega
            have HA := Lib.hid (hall.out (by omega) (by omega))
            have c1 : (48 : Int) ≤ (c.toNat : Int) := by omega
            have c2 : (c.toNat : Int) ≤ 57 := by omega
            go_wp2_with (at_builtin; refine stop_at ?_)
            refine wpList_app1 rfl (.tmp 58) (.tmp 64) rfl W wr W.heap.size u5 (dl (u.drop (k + 1))) _ rfl rfl HO.out (by rw [dl_len, List.length_drop]; have := HLU.out; omega) HS.out HB.out ?_
            intro v' w5 ho5 hb5 hs5; have HO5 := Lib.hid ho5; have HB5 := Lib.hid hb5; have HS5 := Lib.hid hs5; clear ho5 hb5 hs5
            go_wp2_with fail
            go_roundw
            case rel =>
              exact ⟨k, by omega, by go_num, HA, Lib.hid (by rw [hstep.out]; exact HO5.out), HB5, HS5⟩
            case measure => simp [RowKit.intOf] <;> omega
  · obtain ⟨u, hu⟩ : ∃ u, s = u := ⟨_, rfl⟩
    subst hu
    obtain ⟨u, hu⟩ : ∃ u, s = u := ⟨_, rfl⟩
    rw [hu] at hs0 h45 hl Hnone ⊢
    clear hu
    have HUS : Hid (unsign u = u) := Lib.hid (unsign_of_not h45)
    have hf45 : ∀ h : 0 < (⟨List.toArray (u)⟩ : ByteArray).size, (((((⟨List.toArray (u)⟩ : ByteArray)[0]'h).toNat : Nat) : Int) == 45) = false := head_ne 45 h45
    have hlu := hl
    have hpos : 0 < u.length := List.length_pos_iff.2 hs0
    have hz1 : (u.length == 0) = false := by simp; omega
    have HU0 := Lib.hid hs0
    clear h45 hl
    by_cases h400 : 400 < u.length
    · have q0 : decide (400 < u.length) = true := by simpa using h400
      have q0i : decide ((400 : Int) < (u.length : Int)) = true := by simp; omega
      have p0 : (400 : Int) < (u.length : Int) := by omega
      have HN : Hid (readZ (u) = none) := Lib.hid (by exact if_pos (.inr (.inl (by rw [HUS.out]; exact h400))))
      have k0 := HR0.out.c0; have k1 := HR0.out.c1; have f0 := HR0.out.f0; have f1 := HR0.out.f1
      go_enter Tryz.func75, Tryz.ntmps75
      go_wp2_with fail
      refine bodyPost_ret (v := .tuple #[.agg #[.bool false, .slice none 0 0], .bool false]) (by simp [results, Tryz.results75, go_sem, *]) rfl ?_
      exact Hnone.out _ HN.out (below_put HB0.out (Nat.le_refl _) _ _)
    have q0 : decide (400 < u.length) = false := by simpa using h400
    have q0i : decide ((400 : Int) < (u.length : Int)) = false := by simp; omega
    have p0 : ¬ (400 : Int) < (u.length : Int) := by omega
    have H400 := Lib.hid h400
    by_cases h48 : u.head? = some 48
    · have hf : ∀ h : 0 < (⟨List.toArray (u)⟩ : ByteArray).size, (((((⟨List.toArray (u)⟩ : ByteArray)[0]'h).toNat : Nat) : Int) == 48) = true := head_eq 48 h48
      have H48 := Lib.hid h48
      clear h48
      by_cases h1 : 1 < u.length
      · have q1 : decide (1 < u.length) = true := by simpa using h1
        have q1i : decide ((1 : Int) < (u.length : Int)) = true := by simp; omega
        have p1 : (1 : Int) < (u.length : Int) := by omega
        have HN : Hid (readZ (u) = none) := Lib.hid (by exact if_pos (.inr (.inr (.inl ⟨by rw [HUS.out]; exact H48.out, fun e => by rw [e] at h1; simp at h1⟩))))
        have k0 := HR0.out.c0; have k1 := HR0.out.c1; have f0 := HR0.out.f0; have f1 := HR0.out.f1
        go_enter Tryz.func75, Tryz.ntmps75
        go_wp2_with fail
        refine bodyPost_ret (v := .tuple #[.agg #[.bool false, .slice none 0 0], .bool false]) (by simp [results, Tryz.results75, go_sem, *]) rfl ?_
        exact Hnone.out _ HN.out (below_put HB0.out (Nat.le_refl _) _ _)
      have q1 : decide (1 < u.length) = false := by simpa using h1
      have q1i : decide ((1 : Int) < (u.length : Int)) = false := by simp; omega
      have p1 : ¬ (1 : Int) < (u.length : Int) := by omega
      have H1 : Hid (u = [48]) := Lib.hid (by
        cases u with
        | nil => exact absurd rfl HU0.out
        | cons c u =>
          simp at h1
          obtain rfl := h1
          have := H48.out
          simp at this; subst this; rfl)
      have HZ : Hid (∀ h : AllD u, readZ (u) = some ((dv u : Int))) := Lib.hid (fun h => by unfold readZ; rw [HUS.out, if_neg (by rintro (h1 | h1 | h1 | h1); exact HU0.out h1; exact H400.out h1; exact h1.2 H1.out; exact h1 h), if_neg (by omega)])
      have HNN : Hid (¬ AllD u → readZ (u) = none) := Lib.hid (fun h => if_pos (.inr (.inr (.inr (by rw [HUS.out]; exact h)))))
      have HLU := Lib.hid hlu
      clear hlu
      go_enter Tryz.func75, Tryz.ntmps75
      go_wp2_with fail
      go_loopw [5, 6] (fun d i wr => ∃ k : Nat, k ≤ u.length ∧ i = .int .i64 ((k : Int) - 1) ∧ Hid (AllD (u.drop k)) ∧ Hid (Own wr W.heap.size d (dl (u.drop k))) ∧ Hid (Below W.heap.size W wr) ∧ Hid (W.heap.size ≤ wr.heap.size)) (fun _ i _ => (RowKit.intOf i + 1).toNat)
      case atStart => exact ⟨u.length, Nat.le_refl _, rfl, Lib.hid (by rw [List.drop_length]; intro c hc; cases hc), Lib.hid (by rw [List.drop_length]; exact Own.nil _ _), Lib.hid (Below.refl _ _), Lib.hid (Nat.le_refl _)⟩
      case round =>
        obtain ⟨k, hk, rfl, HD, HO, HB, HS⟩ := hrel
        have HRW := Lib.hid (HR0.out.below HB.out)
        rcases Nat.eq_zero_or_pos k with rfl | hk0
        · rw [show ((0 : Nat) : Int) - 1 = -1 from rfl]
          rw [List.drop_zero] at HD HO
          have HI := Lib.hid (HO.out.ri (by rw [dl_len]; have := HLU.out; omega))
          go_wp2_with fail
          refine (r_signed_xs _ _ _ (dv u) _ HI.out.1 (dl_rng HD.out) HI.out.2 (by rw [dl_val HD.out]; rfl)).mono ?_
          rintro e w3 ⟨v3, rfl, hv3, hb3⟩
          have HV3 := Lib.hid hv3
          have HB3 := Lib.hid (below_then HB.out hb3)
          have HR3 := Lib.hid (HRW.out.below hb3)
          obtain ⟨b3, a3, n3, c3, rfl⟩ := hv3.form
          have k0 := HR3.out.c0; have k1 := HR3.out.c1; have f0 := HR3.out.f0; have f1 := HR3.out.f1
          clear hv3 hb3
          go_wp2_with fail
          refine bodyPost_ret (v := .tuple #[.agg #[.bool b3, .slice a3 n3 c3], .bool true]) (by simp [results, Tryz.results75, go_sem, *]) rfl ?_
          refine ⟨_, by rw [HZ.out HD.out]; rfl, ⟨_, _, _, _, rfl⟩, fun z hz => ?_, below_put (HB0.out.trans (HB3.out.mono (Nat.le_of_lt HLT.out))) (Nat.le_refl _) _ _⟩
          rw [HZ.out HD.out] at hz
          obtain rfl := Option.some.inj hz
          have h := HV3.out.put HR3.out.ni (.bool b3) (.slice a3 n3 c3)
          simpa using h
        · obtain ⟨k, rfl⟩ : ∃ m, k = m + 1 := ⟨k - 1, by omega⟩
          rw [show ((k + 1 : Nat) : Int) - 1 = (k : Int) by omega]
          have hlt : k < u.length := by omega
          have hstep := Lib.hid (dl_step u k hlt)
          have hall := Lib.hid (fun h1 h2 => allD_step hlt HD.out h1 h2)
          have hno := Lib.hid (fun h => not_allD hlt h)
          obtain ⟨c, hc⟩ : ∃ c, u[k] = c := ⟨_, rfl⟩
          rw [hc] at hstep hall hno
          have hbk : (({ data := u.toArray } : ByteArray)[k]'(show k < u.length from hlt)) = c := hc
          have hlt' : (k : Int) < (u.length : Int) := by omega
          have hc8 : c.toNat < 256 := c.toNat_lt
          clear hc
          by_cases hlo : c.toNat < 48
          · have q1 : decide (c.toNat < 48) = true := by simpa using hlo
            have q1' : decide ((c.toNat : Int) < 48) = true := by simp; omega
            have HN := Lib.hid (HNN.out (hno.out (by omega)))
            have k0 := HRW.out.c0; have k1 := HRW.out.c1; have f0 := HRW.out.f0; have f1 := HRW.out.f1
            clear hlo
            go_wp2_with fail
            refine bodyPost_ret (v := .tuple #[.agg #[.bool false, .slice none 0 0], .bool false]) (by simp [results, Tryz.results75, go_sem, *]) rfl ?_
            exact Hnone.out _ HN.out (below_put (HB0.out.trans (HB.out.mono (Nat.le_of_lt HLT.out))) (Nat.le_refl _) _ _)
          · have q1 : decide (c.toNat < 48) = false := by simp; omega
            have q1' : decide ((c.toNat : Int) < 48) = false := by simp; omega
            by_cases hhi : 57 < c.toNat
            · have q2 : decide (57 < c.toNat) = true := by simpa using hhi
              have q2' : decide (57 < (c.toNat : Int)) = true := by simp; omega
              have HN := Lib.hid (HNN.out (hno.out (by omega)))
              have k0 := HRW.out.c0; have k1 := HRW.out.c1; have f0 := HRW.out.f0; have f1 := HRW.out.f1
              clear hlo hhi
              go_wp2_with fail
              refine bodyPost_ret (v := .tuple #[.agg #[.bool false, .slice none 0 0], .bool false]) (by simp [results, Tryz.results75, go_sem, *]) rfl ?_
              exact Hnone.out _ HN.out (below_put (HB0.out.trans (HB.out.mono (Nat.le_of_lt HLT.out))) (Nat.le_refl _) _ _)
            · have q2 : decide (57 < c.toNat) = false := by simp; omega
              have q2' : decide (57 < (c.toNat : Int)) = false := by simp; omega
              have HA := Lib.hid (hall.out (by omega) (by omega))
              have c1 : (48 : Int) ≤ (c.toNat : Int) := by omega
              have c2 : (c.toNat : Int) ≤ 57 := by omega
              go_wp2_with (at_builtin; refine stop_at ?_)
              refine wpList_app1 rfl (.tmp 58) (.tmp 64) rfl W wr W.heap.size u5 (dl (u.drop (k + 1))) _ rfl rfl HO.out (by rw [dl_len, List.length_drop]; have := HLU.out; omega) HS.out HB.out ?_
              intro v' w5 ho5 hb5 hs5; have HO5 := Lib.hid ho5; have HB5 := Lib.hid hb5; have HS5 := Lib.hid hs5; clear ho5 hb5 hs5
              go_wp2_with fail
              go_roundw
              case rel =>
                exact ⟨k, by omega, by go_num, HA, Lib.hid (by rw [hstep.out]; exact HO5.out), HB5, HS5⟩
              case measure => simp [RowKit.intOf] <;> omega
    have hf : ∀ h : 0 < (⟨List.toArray (u)⟩ : ByteArray).size, (((((⟨List.toArray (u)⟩ : ByteArray)[0]'h).toNat : Nat) : Int) == 48) = false := head_ne 48 h48
    have H48 := Lib.hid h48
    clear h48
    have HZ : Hid (∀ h : AllD u, readZ (u) = some ((dv u : Int))) := Lib.hid (fun h => by unfold readZ; rw [HUS.out, if_neg (by rintro (h1 | h1 | h1 | h1); exact HU0.out h1; exact H400.out h1; exact H48.out h1.1; exact h1 h), if_neg (by omega)])
    have HNN : Hid (¬ AllD u → readZ (u) = none) := Lib.hid (fun h => if_pos (.inr (.inr (.inr (by rw [HUS.out]; exact h)))))
    have HLU := Lib.hid hlu
    clear hlu
    go_enter Tryz.func75, Tryz.ntmps75
    go_wp2_with fail
    go_loopw [5, 6] (fun d i wr => ∃ k : Nat, k ≤ u.length ∧ i = .int .i64 ((k : Int) - 1) ∧ Hid (AllD (u.drop k)) ∧ Hid (Own wr W.heap.size d (dl (u.drop k))) ∧ Hid (Below W.heap.size W wr) ∧ Hid (W.heap.size ≤ wr.heap.size)) (fun _ i _ => (RowKit.intOf i + 1).toNat)
    case atStart => exact ⟨u.length, Nat.le_refl _, rfl, Lib.hid (by rw [List.drop_length]; intro c hc; cases hc), Lib.hid (by rw [List.drop_length]; exact Own.nil _ _), Lib.hid (Below.refl _ _), Lib.hid (Nat.le_refl _)⟩
    case round =>
      obtain ⟨k, hk, rfl, HD, HO, HB, HS⟩ := hrel
      have HRW := Lib.hid (HR0.out.below HB.out)
      rcases Nat.eq_zero_or_pos k with rfl | hk0
      · rw [show ((0 : Nat) : Int) - 1 = -1 from rfl]
        rw [List.drop_zero] at HD HO
        have HI := Lib.hid (HO.out.ri (by rw [dl_len]; have := HLU.out; omega))
        go_wp2_with fail
        refine (r_signed_xs _ _ _ (dv u) _ HI.out.1 (dl_rng HD.out) HI.out.2 (by rw [dl_val HD.out]; rfl)).mono ?_
        rintro e w3 ⟨v3, rfl, hv3, hb3⟩
        have HV3 := Lib.hid hv3
        have HB3 := Lib.hid (below_then HB.out hb3)
        have HR3 := Lib.hid (HRW.out.below hb3)
        obtain ⟨b3, a3, n3, c3, rfl⟩ := hv3.form
        have k0 := HR3.out.c0; have k1 := HR3.out.c1; have f0 := HR3.out.f0; have f1 := HR3.out.f1
        clear hv3 hb3
        go_wp2_with fail
        refine bodyPost_ret (v := .tuple #[.agg #[.bool b3, .slice a3 n3 c3], .bool true]) (by simp [results, Tryz.results75, go_sem, *]) rfl ?_
        refine ⟨_, by rw [HZ.out HD.out]; rfl, ⟨_, _, _, _, rfl⟩, fun z hz => ?_, below_put (HB0.out.trans (HB3.out.mono (Nat.le_of_lt HLT.out))) (Nat.le_refl _) _ _⟩
        rw [HZ.out HD.out] at hz
        obtain rfl := Option.some.inj hz
        have h := HV3.out.put HR3.out.ni (.bool b3) (.slice a3 n3 c3)
        simpa using h
      · obtain ⟨k, rfl⟩ : ∃ m, k = m + 1 := ⟨k - 1, by omega⟩
        rw [show ((k + 1 : Nat) : Int) - 1 = (k : Int) by omega]
        have hlt : k < u.length := by omega
        have hstep := Lib.hid (dl_step u k hlt)
        have hall := Lib.hid (fun h1 h2 => allD_step hlt HD.out h1 h2)
        have hno := Lib.hid (fun h => not_allD hlt h)
        obtain ⟨c, hc⟩ : ∃ c, u[k] = c := ⟨_, rfl⟩
        rw [hc] at hstep hall hno
        have hbk : (({ data := u.toArray } : ByteArray)[k]'(show k < u.length from hlt)) = c := hc
        have hlt' : (k : Int) < (u.length : Int) := by omega
        have hc8 : c.toNat < 256 := c.toNat_lt
        clear hc
        by_cases hlo : c.toNat < 48
        · have q1 : decide (c.toNat < 48) = true := by simpa using hlo
          have q1' : decide ((c.toNat : Int) < 48) = true := by simp; omega
          have HN := Lib.hid (HNN.out (hno.out (by omega)))
          have k0 := HRW.out.c0; have k1 := HRW.out.c1; have f0 := HRW.out.f0; have f1 := HRW.out.f1
          clear hlo
          go_wp2_with fail
          refine bodyPost_ret (v := .tuple #[.agg #[.bool false, .slice none 0 0], .bool false]) (by simp [results, Tryz.results75, go_sem, *]) rfl ?_
          exact Hnone.out _ HN.out (below_put (HB0.out.trans (HB.out.mono (Nat.le_of_lt HLT.out))) (Nat.le_refl _) _ _)
        · have q1 : decide (c.toNat < 48) = false := by simp; omega
          have q1' : decide ((c.toNat : Int) < 48) = false := by simp; omega
          by_cases hhi : 57 < c.toNat
          · have q2 : decide (57 < c.toNat) = true := by simpa using hhi
            have q2' : decide (57 < (c.toNat : Int)) = true := by simp; omega
            have HN := Lib.hid (HNN.out (hno.out (by omega)))
            have k0 := HRW.out.c0; have k1 := HRW.out.c1; have f0 := HRW.out.f0; have f1 := HRW.out.f1
            clear hlo hhi
            go_wp2_with fail
            refine bodyPost_ret (v := .tuple #[.agg #[.bool false, .slice none 0 0], .bool false]) (by simp [results, Tryz.results75, go_sem, *]) rfl ?_
            exact Hnone.out _ HN.out (below_put (HB0.out.trans (HB.out.mono (Nat.le_of_lt HLT.out))) (Nat.le_refl _) _ _)
          · have q2 : decide (57 < c.toNat) = false := by simp; omega
            have q2' : decide (57 < (c.toNat : Int)) = false := by simp; omega
            have HA := Lib.hid (hall.out (by omega) (by omega))
            have c1 : (48 : Int) ≤ (c.toNat : Int) := by omega
            have c2 : (c.toNat : Int) ≤ 57 := by omega
            go_wp2_with (at_builtin; refine stop_at ?_)
            refine wpList_app1 rfl (.tmp 58) (.tmp 64) rfl W wr W.heap.size u5 (dl (u.drop (k + 1))) _ rfl rfl HO.out (by rw [dl_len, List.length_drop]; have := HLU.out; omega) HS.out HB.out ?_
            intro v' w5 ho5 hb5 hs5; have HO5 := Lib.hid ho5; have HB5 := Lib.hid hb5; have HS5 := Lib.hid hs5; clear ho5 hb5 hs5
            go_wp2_with fail
            go_roundw
            case rel =>
              exact ⟨k, by omega, by go_num, HA, Lib.hid (by rw [hstep.out]; exact HO5.out), HB5, HS5⟩
            case measure => simp [RowKit.intOf] <;> omega
end Go.Proofs.YthjpbbbmnmhmmaaGreatDoor

namespace Go.Proofs.YthjpbbbmnmhmmaaGreatDoor
open Go.RowKit Go.Shelf Go.Lib

/-! ### A number as a value -/
theorem ResN.set0 {W : World} {g : Nat} (h : ResN W g) (u u' : Value) : ((W.setCell ⟨g, 0, none⟩ u).setCell ⟨g, 1, none⟩ u').cell? ⟨g, 0, none⟩ = some u := by
  rw [World.cell?_setCell_other _ _ _ _ (by intro e; cases e), World.cell?_setCell_same _ _ _ h.c0]
theorem ResN.set1 {W : World} {g : Nat} (h : ResN W g) (u u' : Value) : ((W.setCell ⟨g, 0, none⟩ u).setCell ⟨g, 1, none⟩ u').cell? ⟨g, 1, none⟩ = some u' := by
  have h1 : (W.setCell ⟨g, 0, none⟩ u).cell? ⟨g, 1, none⟩ = some (.slice none 0 0) := by rw [World.cell?_setCell_other _ _ _ _ (by intro e; cases e)]; exact h.c1
  rw [World.cell?_setCell_same _ _ _ h1]

/-- A number in a variable of its own. -/
structure NBox (W : World) (g : Nat) (b : Bool) (a : Option Addr) (n c : Nat) (z : Int) : Prop where
  x0 : W.cell? ⟨g, 0, none⟩ = some (.bool b)
  x1 : W.cell? ⟨g, 1, none⟩ = some (.slice a n c)
  num : NH W (.agg #[.bool b, .slice a n c]) z
theorem NBox.below {W W' : World} {g : Nat} {b : Bool} {a : Option Addr} {n c : Nat} {z : Int} (h : NBox W g b a n c z) (hb : Below W.heap.size W W') : NBox W' g b a n c z :=
  ⟨cell_on hb h.x0, cell_on hb h.x1, h.num.below hb⟩

theorem nbox_new (W : World) (t : TypeId) (b : Bool) (a : Option Addr) (n c : Nat) (z : Int) (h : NH W (.agg #[.bool b, .slice a n c]) z) (X : World)
    (hX : W.alloc (.cells #[.bool b, .slice a n c] t) = X) :
    NBox X W.heap.size b a n c z ∧ Below W.heap.size W X ∧ W.heap.size < X.heap.size := by
  subst hX
  have hb : Below W.heap.size W (W.alloc (.cells #[.bool b, .slice a n c] t)) := (Below.refl _ _).alloc (Nat.le_refl _) _
  exact ⟨⟨cell_in _ _ _ 0 rfl, cell_in _ _ _ 1 rfl, h.below hb⟩, hb, by simp⟩

/-- The digits from the top down. -/
def topN (X : List Int) (k : Nat) : Int := Ten.val (X.drop k)
theorem topN_step (X : List Int) (k : Nat) (h : k < X.length) : topN X k = rd X k + 10 * topN X (k + 1) := by
  unfold topN
  rw [List.drop_eq_getElem_cons h, Ten.val, rd_lt h]
theorem topN_dig (m k : Nat) : topN (Ten.dig m) k = ((m / 10 ^ k : Nat) : Int) := by
  unfold topN; rw [Ten.dig_drop, Ten.val_dig]

set_option maxRecDepth 100000 in
set_option maxHeartbeats 4000000 in
theorem r_value (v : Value) (z : Int) (w : World) (h : NH w v z) :
    Ans Tryz.prog 49 #[v] w (pr (limZ z)) := by
  have HV := Lib.hid h
  obtain ⟨sv, rfl, hr⟩ := h
  obtain ⟨a, c, rfl, _, _, hla, hca⟩ := hr.form
  obtain ⟨m, hm⟩ : ∃ m, z.natAbs = m := ⟨_, rfl⟩
  obtain ⟨p, hp⟩ : ∃ p, decide (z < 0) = p := ⟨_, rfl⟩
  have HM := Lib.hid hm; have HP := Lib.hid hp
  rw [hp] at HV
  rw [hm] at hla hca hr HV ⊢
  rw [hp]
  have hiff : (Ten.dig m).length ≤ 400 ↔ nDigits z.natAbs ≤ 400 := by rw [hm]; exact Ten.len_le_iff
  have Htop : Hid (∀ k, topN (Ten.dig m) k = ((m / 10 ^ k : Nat) : Int)) := Lib.hid (topN_dig m)
  have Hlt := Lib.hid (Ten.dig_lt m)
  have HXR := Lib.hid (Ten.dig_inR m)
  obtain ⟨X, hX⟩ : ∃ X, Ten.dig m = X := ⟨_, rfl⟩
  rw [hX] at hla hca HV Htop Hlt hiff HXR ⊢
  have HC := Lib.hid hca
  have HX := Lib.hid hX
  clear hm hp hX hca hr
  obtain ⟨W0, hW0⟩ : ∃ W0, w.alloc (.cells #[.bool p, .slice a X.length c] 51) = W0 := ⟨_, rfl⟩
  have hs0 : W0.heap.size = w.heap.size + 1 := by rw [← hW0]; simp
  have hbw0 : Below w.heap.size w W0 := by rw [← hW0]; exact (Below.refl _ w).alloc (Nat.le_refl _) _
  have x0 : W0.cell? ⟨w.heap.size, 0, none⟩ = some (.bool p) := by rw [← hW0]; exact cell_in _ _ _ 0 rfl
  have x1 : W0.cell? ⟨w.heap.size, 1, none⟩ = some (.slice a X.length c) := by rw [← hW0]; exact cell_in _ _ _ 1 rfl
  obtain ⟨W, hW⟩ : ∃ W, W0.alloc (.cells #[.int .i64 0, .int .i64 0, .string ⟨#[]⟩] 23) = W := ⟨_, rfl⟩
  have hbW : Below W0.heap.size W0 W := by rw [← hW]; exact (Below.refl _ _).alloc (Nat.le_refl _) _
  have hRV := resV_new W0 23
  rw [hW] at hRV
  have hBW := below_then hbw0 hbW
  have HBX : Hid (NBox W w.heap.size p a X.length c z) := Lib.hid ⟨cell_on hbW x0, cell_on hbW x1, HV.out.below hBW⟩
  have HBW := Lib.hid hBW
  have HRV := Lib.hid hRV
  obtain ⟨g, hg⟩ : ∃ g, W0.heap.size = g := ⟨_, rfl⟩
  have hgw : w.heap.size ≤ g := by omega
  have hng : ¬ g = w.heap.size := by omega
  have hng' : ¬ w.heap.size = g := by omega
  have HG := Lib.hid hg
  rw [hg] at HRV
  clear hs0 hbw0 x0 x1 hbW hRV hBW
  by_cases h400 : X.length ≤ 400
  · have e : limZ z = (Vl.of z, 0) := by unfold limZ; rw [if_pos (hiff.1 h400)]
    rw [e]
    have q0 : decide (400 < X.length) = false := by simp; omega
    have q0i : decide ((400 : Int) < (X.length : Int)) = false := by simp; omega
    have p0 : ¬ (400 : Int) < (X.length : Int) := by omega
    have HL4 := Lib.hid h400
    have x0 := HBX.out.x0; have x1 := HBX.out.x1
    clear hiff h400 e
    go_enter Tryz.func49, Tryz.ntmps49
    go_wp2_with fail
    refine (r_small (-9223372036854775808) _ (by omega) (by omega)).mono ?_
    rintro e w1 ⟨v1, rfl, hn1, hb1⟩
    obtain ⟨b1, a1, n1, c1, rfl⟩ := hn1.form
    have HN1 := Lib.hid hn1
    replace HBX := Lib.hid (HBX.out.below hb1)
    replace HRV := Lib.hid (HRV.out.below hb1)
    replace HBW := Lib.hid (below_then HBW.out hb1)
    clear hn1 hb1 x0 x1 hW hW0
    go_wp2_with fail
    obtain ⟨w2, hw2⟩ : ∃ w2, w1.alloc (.cells #[.bool b1, .slice a1 n1 c1] 51) = w2 := ⟨_, rfl⟩
    obtain ⟨hy, hb2, hlt2⟩ := nbox_new w1 _ b1 a1 n1 c1 _ HN1.out w2 hw2
    rw [hw2]
    have HY := Lib.hid hy
    replace HBX := Lib.hid (HBX.out.below hb2)
    replace HRV := Lib.hid (HRV.out.below hb2)
    replace HBW := Lib.hid (below_then HBW.out hb2)
    obtain ⟨g1, hg1⟩ : ∃ g, w1.heap.size = g := ⟨_, rfl⟩
    rw [hg1] at HY ⊢
    clear hw2 hy hb2 hlt2 HN1 hg1
    refine (r_small 9223372036854775807 _ (by omega) (by omega)).mono ?_
    rintro e w3 ⟨v3, rfl, hn3, hb3⟩
    obtain ⟨b3, a3, n3, c3, rfl⟩ := hn3.form
    have HN3 := Lib.hid hn3
    replace HBX := Lib.hid (HBX.out.below hb3)
    replace HY := Lib.hid (HY.out.below hb3)
    replace HRV := Lib.hid (HRV.out.below hb3)
    replace HBW := Lib.hid (below_then HBW.out hb3)
    clear hn3 hb3
    obtain ⟨w4, hw4⟩ : ∃ w4, w3.alloc (.cells #[.bool b3, .slice a3 n3 c3] 51) = w4 := ⟨_, rfl⟩
    obtain ⟨hy2, hb4, hlt4⟩ := nbox_new w3 _ b3 a3 n3 c3 _ HN3.out w4 hw4
    have HY2 := Lib.hid hy2
    replace HBX := Lib.hid (HBX.out.below hb4)
    replace HY := Lib.hid (HY.out.below hb4)
    replace HRV := Lib.hid (HRV.out.below hb4)
    replace HBW := Lib.hid (below_then HBW.out hb4)
    have x0 := HBX.out.x0; have x1 := HBX.out.x1; have y0 := HY.out.x0; have y1 := HY.out.x1; have u0 := HY2.out.x0; have u1 := HY2.out.x1
    clear hy2 hb4 hlt4 HN3
    go_wp2_with fail
    obtain ⟨g3, hg3⟩ : ∃ g, w3.heap.size = g := ⟨_, rfl⟩
    rw [hg3] at HY2 u0 u1 ⊢
    clear hw4 hg3
    refine (r_below _ _ z (-9223372036854775808) _ HBX.out.num HY.out.num).mono ?_
    rintro e w5 ⟨rfl, hb5⟩
    replace HBX := Lib.hid (HBX.out.below hb5)
    replace HY := Lib.hid (HY.out.below hb5)
    replace HY2 := Lib.hid (HY2.out.below hb5)
    replace HRV := Lib.hid (HRV.out.below hb5)
    replace HBW := Lib.hid (below_then HBW.out hb5)
    replace x0 := HBX.out.x0; replace x1 := HBX.out.x1; replace y0 := HY.out.x0; replace y1 := HY.out.x1; replace u0 := HY2.out.x0; replace u1 := HY2.out.x1
    clear hb5
    by_cases hlow : z < -9223372036854775808
    · have hd : decide (z < -9223372036854775808) = true := by simpa using hlow
      rw [hd]
      have hns : ¬ (-9223372036854775808 ≤ z ∧ z ≤ 9223372036854775807) := by omega
      clear hlow hd
      have HNS := Lib.hid hns
      clear hns
      go_wp2_with fail
      refine (r_text _ z _ HBX.out.num (by rw [HM.out, HX.out]; have := HL4.out; omega)).mono ?_
      rintro e w6 ⟨rfl, hb6⟩
      replace HRV := Lib.hid (HRV.out.below hb6)
      replace HBW := Lib.hid (below_then HBW.out hb6)
      have c0 := HRV.out.c0; have c1 := HRV.out.c1; have c2 := HRV.out.c2
      have f0 := HRV.out.f0; have f1 := HRV.out.f1; have f2 := HRV.out.f2
      clear hb6 x0 x1 y0 y1 u0 u1
      go_wp2_with fail
      refine bodyPost_ret (v := .tuple #[vE 2 0 (itoa z), .int .i64 0]) (by simp [results, Tryz.results49, go_sem, vE, *]) rfl ?_
      refine ⟨?_, below_put3 HBW.out hgw _ _ _⟩
      have e : Vl.of z = ⟨2, 0, itoa z⟩ := by unfold Vl.of; exact if_neg HNS.out
      rw [e]; rfl
    have hd : decide (z < -9223372036854775808) = false := by simpa using hlow
    rw [hd]
    clear hd
    go_wp2_with fail
    refine (r_below _ _ 9223372036854775807 z _ HY2.out.num HBX.out.num).mono ?_
    rintro e w5b ⟨rfl, hb5⟩
    replace HBX := Lib.hid (HBX.out.below hb5)
    replace HRV := Lib.hid (HRV.out.below hb5)
    replace HBW := Lib.hid (below_then HBW.out hb5)
    replace x0 := HBX.out.x0; replace x1 := HBX.out.x1
    clear hb5 y0 y1 u0 u1
    by_cases hhigh : 9223372036854775807 < z
    · have hd : decide (9223372036854775807 < z) = true := by simpa using hhigh
      rw [hd]
      have hns : ¬ (-9223372036854775808 ≤ z ∧ z ≤ 9223372036854775807) := by omega
      clear hhigh hlow hd
      have HNS := Lib.hid hns
      clear hns
      go_wp2_with fail
      refine (r_text _ z _ HBX.out.num (by rw [HM.out, HX.out]; have := HL4.out; omega)).mono ?_
      rintro e w6 ⟨rfl, hb6⟩
      replace HRV := Lib.hid (HRV.out.below hb6)
      replace HBW := Lib.hid (below_then HBW.out hb6)
      have c0 := HRV.out.c0; have c1 := HRV.out.c1; have c2 := HRV.out.c2
      have f0 := HRV.out.f0; have f1 := HRV.out.f1; have f2 := HRV.out.f2
      clear hb6 x0 x1
      go_wp2_with fail
      refine bodyPost_ret (v := .tuple #[vE 2 0 (itoa z), .int .i64 0]) (by simp [results, Tryz.results49, go_sem, vE, *]) rfl ?_
      refine ⟨?_, below_put3 HBW.out hgw _ _ _⟩
      have e : Vl.of z = ⟨2, 0, itoa z⟩ := by unfold Vl.of; exact if_neg HNS.out
      rw [e]; rfl
    have hd : decide (9223372036854775807 < z) = false := by simpa using hhigh
    rw [hd]
    have hs : -9223372036854775808 ≤ z ∧ z ≤ 9223372036854775807 := by omega
    clear hlow hhigh hd
    have HSm := Lib.hid hs
    have Hk : Hid (∀ k, 0 ≤ topN X k ∧ topN X k ≤ (m : Int)) := Lib.hid (fun k => by rw [Htop.out k]; exact ⟨Int.natCast_nonneg _, Int.ofNat_le.2 (Nat.div_le_self m _)⟩)
    have hmz : (p = true ∧ z = -(m : Int)) ∨ (p = false ∧ z = (m : Int)) := by
      have h1 := HM.out; have h2 := HP.out
      cases p
      · simp at h2; exact .inr ⟨rfl, by omega⟩
      · simp at h2; exact .inl ⟨rfl, by omega⟩
    rcases hmz with ⟨rfl, hz⟩ | ⟨rfl, hz⟩
    · have hm63 : (m : Int) ≤ 9223372036854775808 := by omega
      clear hs
      go_wp2_with fail
      go_loopw [6, 7] (fun nv i wr => ∃ k : Nat, k ≤ X.length ∧ i = .int .i64 ((k : Int) - 1) ∧ nv = .int .i64 (-(topN X k)) ∧ Hid (NBox wr w.heap.size true a X.length c z) ∧ Hid (ResV wr g) ∧ Hid (Below w.heap.size w wr)) (fun _ i _ => (RowKit.intOf i + 1).toNat)
      case atStart => exact ⟨X.length, Nat.le_refl _, rfl, congrArg (Value.int .i64) (by unfold topN; rw [List.drop_length]; rfl), HBX, HRV, HBW⟩
      case round =>
        clear HBX HRV HBW x0 x1
        obtain ⟨k, hk, rfl, rfl, HBX, HRV, HBW⟩ := hrel
        have x0 := HBX.out.x0; have x1 := HBX.out.x1
        rcases Nat.eq_zero_or_pos k with rfl | hk0
        · rw [show ((0 : Nat) : Int) - 1 = -1 from rfl]
          have c0 := HRV.out.c0; have c1 := HRV.out.c1; have c2 := HRV.out.c2
          have f0 := HRV.out.f0; have f1 := HRV.out.f1; have f2 := HRV.out.f2
          have ez : -(topN X 0) = z := by have := Htop.out 0; simp at this; omega
          rw [ez]
          clear ez
          go_wp2_with fail
          refine bodyPost_ret (v := .tuple #[vE 1 z [], .int .i64 0]) (by simp [results, Tryz.results49, go_sem, vE, *]) rfl ?_
          refine ⟨?_, below_put3 HBW.out hgw _ _ _⟩
          have e : Vl.of z = ⟨1, z, []⟩ := by unfold Vl.of; exact if_pos HSm.out
          rw [e]; rfl
        · obtain ⟨k, rfl⟩ : ∃ m, k = m + 1 := ⟨k - 1, by omega⟩
          rw [show ((k + 1 : Nat) : Int) - 1 = (k : Int) by omega]
          obtain ⟨b, o, rfl, hc⟩ := HC.out (by intro e; subst e; simp at hk)
          have g1' := cell_on HBW.out (hc k (by omega))
          have i1 : (k : Int) < (X.length : Int) := by omega
          have d0 : (0 : Int) ≤ rd X k ∧ rd X k < 10 := HXR.out.at k
          have hst := topN_step X k (by omega)
          have b1 := Hk.out k
          have b2 := Hk.out (k + 1)
          obtain ⟨tk, htk⟩ : ∃ t, topN X (k + 1) = t := ⟨_, rfl⟩
          obtain ⟨dk, hdk⟩ : ∃ t, rd X k = t := ⟨_, rfl⟩
          rw [htk] at hst b2 ⊢
          rw [hdk] at g1' d0 hst
          have HST := Lib.hid hst
          obtain ⟨d0, d1⟩ := d0
          obtain ⟨b20, b21⟩ := b2
          have b11 : 10 * tk + dk ≤ 9223372036854775808 - 0 := by omega
          clear hc hst b1 htk hdk
          go_wp2_with fail
          go_roundw
          case rel => exact ⟨k, by omega, by go_num, congrArg (Value.int .i64) (by rw [HST.out]; omega), HBX, HRV, HBW⟩
          case measure => simp [RowKit.intOf] <;> omega
    · have hm63 : (m : Int) ≤ 9223372036854775807 := by omega
      clear hs
      go_wp2_with fail
      go_loopw [6, 7] (fun nv i wr => ∃ k : Nat, k ≤ X.length ∧ i = .int .i64 ((k : Int) - 1) ∧ nv = .int .i64 (topN X k) ∧ Hid (NBox wr w.heap.size false a X.length c z) ∧ Hid (ResV wr g) ∧ Hid (Below w.heap.size w wr)) (fun _ i _ => (RowKit.intOf i + 1).toNat)
      case atStart => exact ⟨X.length, Nat.le_refl _, rfl, congrArg (Value.int .i64) (by unfold topN; rw [List.drop_length]; rfl), HBX, HRV, HBW⟩
      case round =>
        clear HBX HRV HBW x0 x1
        obtain ⟨k, hk, rfl, rfl, HBX, HRV, HBW⟩ := hrel
        have x0 := HBX.out.x0; have x1 := HBX.out.x1
        rcases Nat.eq_zero_or_pos k with rfl | hk0
        · rw [show ((0 : Nat) : Int) - 1 = -1 from rfl]
          have c0 := HRV.out.c0; have c1 := HRV.out.c1; have c2 := HRV.out.c2
          have f0 := HRV.out.f0; have f1 := HRV.out.f1; have f2 := HRV.out.f2
          have ez : topN X 0 = z := by have := Htop.out 0; simp at this; omega
          rw [ez]
          clear ez
          go_wp2_with fail
          refine bodyPost_ret (v := .tuple #[vE 1 z [], .int .i64 0]) (by simp [results, Tryz.results49, go_sem, vE, *]) rfl ?_
          refine ⟨?_, below_put3 HBW.out hgw _ _ _⟩
          have e : Vl.of z = ⟨1, z, []⟩ := by unfold Vl.of; exact if_pos HSm.out
          rw [e]; rfl
        · obtain ⟨k, rfl⟩ : ∃ m, k = m + 1 := ⟨k - 1, by omega⟩
          rw [show ((k + 1 : Nat) : Int) - 1 = (k : Int) by omega]
          obtain ⟨b, o, rfl, hc⟩ := HC.out (by intro e; subst e; simp at hk)
          have g1' := cell_on HBW.out (hc k (by omega))
          have i1 : (k : Int) < (X.length : Int) := by omega
          have d0 : (0 : Int) ≤ rd X k ∧ rd X k < 10 := HXR.out.at k
          have hst := topN_step X k (by omega)
          have b1 := Hk.out k
          have b2 := Hk.out (k + 1)
          obtain ⟨tk, htk⟩ : ∃ t, topN X (k + 1) = t := ⟨_, rfl⟩
          obtain ⟨dk, hdk⟩ : ∃ t, rd X k = t := ⟨_, rfl⟩
          rw [htk] at hst b2 ⊢
          rw [hdk] at g1' d0 hst
          have HST := Lib.hid hst
          obtain ⟨d0, d1⟩ := d0
          obtain ⟨b20, b21⟩ := b2
          have b11 : 10 * tk + dk ≤ 9223372036854775808 - 1 := by omega
          clear hc hst b1 htk hdk
          go_wp2_with fail
          go_roundw
          case rel => exact ⟨k, by omega, by go_num, congrArg (Value.int .i64) (by rw [HST.out]; omega), HBX, HRV, HBW⟩
          case measure => simp [RowKit.intOf] <;> omega
  · have e : limZ z = (Vl.zero, 2) := by unfold limZ; rw [if_neg (fun h => h400 (hiff.2 h))]
    rw [e]
    have q0 : decide (400 < X.length) = true := by simp; omega
    have q0i : decide ((400 : Int) < (X.length : Int)) = true := by simp; omega
    have p0 : (400 : Int) < (X.length : Int) := by omega
    have x0 := HBX.out.x0; have x1 := HBX.out.x1
    have c0 := HRV.out.c0; have c1 := HRV.out.c1; have c2 := HRV.out.c2
    have f0 := HRV.out.f0; have f1 := HRV.out.f1; have f2 := HRV.out.f2
    clear hiff h400
    go_enter Tryz.func49, Tryz.ntmps49
    go_wp2_with fail
    refine bodyPost_ret (v := .tuple #[vE 0 0 [], .int .i64 2]) (by simp [results, Tryz.results49, go_sem, vE, *]) rfl ?_
    exact ⟨rfl, below_put3 HBW.out hgw _ _ _⟩
end Go.Proofs.YthjpbbbmnmhmmaaGreatDoor

namespace Go.Proofs.YthjpbbbmnmhmmaaGreatDoor
open Go.RowKit Go.Shelf Go.Lib

/-! ### Which number a value is -/
theorem NH.formN {W : World} {v : Value} {z : Int} (h : NH W v z) : FormN v := h.form

/-- The value in its box, the result's variable. -/
theorem of_in (w : World) (k n : Int) (t : List UInt8) (W : World) (hW : (w.alloc (.cells #[.int .i64 k, .int .i64 n, .string ⟨t.toArray⟩] 23)).alloc (.cells #[.bool false, .slice none 0 0] 51) = W) :
    W.cell? ⟨w.heap.size, 0, none⟩ = some (.int .i64 k) ∧ W.cell? ⟨w.heap.size, 1, none⟩ = some (.int .i64 n) ∧ W.cell? ⟨w.heap.size, 2, none⟩ = some (.string ⟨t.toArray⟩) ∧ ResN W (w.heap.size + 1) ∧ Below w.heap.size w W := by
  subst hW
  have hb : ∀ (X : World) o, Below X.heap.size X (X.alloc o) := fun X o => (Below.refl _ _).alloc (Nat.le_refl _) _
  have hr := resN_new (w.alloc (.cells #[.int .i64 k, .int .i64 n, .string ⟨t.toArray⟩] 23)) 51
  simp only [World.size_alloc] at hr
  exact ⟨cell_on (hb _ _) (cell_in _ _ _ 0 rfl), cell_on (hb _ _) (cell_in _ _ _ 1 rfl), cell_on (hb _ _) (cell_in _ _ _ 2 rfl), hr, below_then (hb _ _) (hb _ _)⟩

set_option maxRecDepth 100000 in
set_option maxHeartbeats 2000000 in
theorem rof_small (z : Int) (hz : Small64 z) (w : World) :
    Calls Tryz.prog 56 #[.agg #[.int .i64 1, .int .i64 z, .string ⟨#[]⟩]] w fun e w' => ∃ v, e = .returned (.tuple #[v, .bool true]) ∧ NH w' v z ∧ Below w.heap.size w w' := by
  have HZ := Lib.hid hz
  clear hz
  obtain ⟨W, hW⟩ : ∃ W, (w.alloc (.cells #[.int .i64 1, .int .i64 z, .string ⟨(([] : List UInt8)).toArray⟩] 23)).alloc (.cells #[.bool false, .slice none 0 0] 51) = W := ⟨_, rfl⟩
  obtain ⟨v0, v1, v2, hr, hb⟩ := of_in w 1 z [] W hW
  have hW : (w.alloc (.cells #[.int .i64 1, .int .i64 z, .string ⟨#[]⟩] 23)).alloc (.cells #[.bool false, .slice none 0 0] 51) = W := hW
  have v2 : W.cell? ⟨w.heap.size, 2, none⟩ = some (.string ⟨#[]⟩) := v2
  have HR := Lib.hid hr; have HB := Lib.hid hb
  clear hr hb
  go_enter Tryz.func56, Tryz.ntmps56
  go_wp2_with fail
  refine (r_small z _ HZ.out.1 HZ.out.2).mono ?_
  rintro e w1 ⟨v, rfl, hn, hb1⟩
  obtain ⟨b1, a1, n1, c1, rfl⟩ := hn.form
  have HN := Lib.hid hn
  have HR1 := Lib.hid (HR.out.below hb1)
  have HB1 := Lib.hid (below_then HB.out hb1)
  have k0 := HR1.out.c0; have k1 := HR1.out.c1; have f0 := HR1.out.f0; have f1 := HR1.out.f1
  clear hn hb1 v0 v1 v2
  go_wp2_with fail
  refine bodyPost_ret (v := .tuple #[.agg #[.bool b1, .slice a1 n1 c1], .bool true]) (by simp [results, Tryz.results56, go_sem, *]) rfl ?_
  exact ⟨_, rfl, HN.out.put HR1.out.ni _ _, below_put HB1.out (by omega) _ _⟩

set_option maxRecDepth 100000 in
set_option maxHeartbeats 2000000 in
theorem of_not (k n : Int) (t : List UInt8) (ht : t.length ≤ 100000) (w : World) (h1 : ¬ (k = 1 ∧ t = [])) (h2 : (k = 2 ∧ n = 0) → readZ t = none) :
    Calls Tryz.prog 56 #[.agg #[.int .i64 k, .int .i64 n, .string ⟨t.toArray⟩]] w fun e w' => ∃ v, e = .returned (.tuple #[v, .bool false]) ∧ FormN v ∧ Below w.heap.size w w' := by
  have HT := Lib.hid ht
  obtain ⟨W, hW⟩ : ∃ W, (w.alloc (.cells #[.int .i64 k, .int .i64 n, .string ⟨t.toArray⟩] 23)).alloc (.cells #[.bool false, .slice none 0 0] 51) = W := ⟨_, rfl⟩
  obtain ⟨v0, v1, v2, hr, hb⟩ := of_in w k n t W hW
  have HR := Lib.hid hr; have HB := Lib.hid hb
  clear hr hb ht
  by_cases h3 : k = 2 ∧ n = 0
  · obtain ⟨rfl, rfl⟩ := h3
    have hz := Lib.hid (h2 ⟨rfl, rfl⟩)
    clear h1 h2
    go_enter Tryz.func56, Tryz.ntmps56
    go_wp2_with fail
    refine (r_read t HT.out _).mono ?_
    rw [hz.out]
    rintro e w3 ⟨v, rfl, ⟨b, a, m, c, rfl⟩, _, hb3⟩
    have HR3 := Lib.hid (HR.out.below hb3)
    have HB3 := Lib.hid (below_then HB.out hb3)
    have hlt := HR3.out.lt
    have k0 := HR3.out.c0; have k1 := HR3.out.c1; have f0 := HR3.out.f0; have f1 := HR3.out.f1
    clear hb3 v0 v1 v2 hW
    simp only [Option.isSome_none]
    go_wp2_with fail
    refine bodyPost_ret (v := .tuple #[.agg #[.bool false, .slice none 0 0], .bool false]) (by simp [results, Tryz.results56, go_sem, *]) rfl ?_
    have hpb := below_put HB3.out (g := w.heap.size + 1) (by omega) (.bool false) (.slice none 0 0)
    exact ⟨_, rfl, ⟨_, _, _, _, rfl⟩, hpb.alloc hpb.size _⟩
  · have hc : (k = 1 ∧ (t == []) = false ∧ (t != []) = true ∧ ¬ t = []) ∨ (k = 2 ∧ (n == 0) = false ∧ (n != 0) = true ∧ ¬ n = 0) ∨ ((k == 1) = false ∧ (k == 2) = false ∧ (k != 2) = true ∧ (¬ k = 1)) := by
      by_cases a : k = 1
      · left; refine ⟨a, ?_⟩; have : t ≠ [] := fun e => h1 ⟨a, e⟩; simp [this]
      · by_cases b : k = 2
        · right; left; refine ⟨b, ?_⟩; have : n ≠ 0 := fun e => h3 ⟨b, e⟩; simp [this]
        · right; right; simp [a, b]
    have k0 := HR.out.c0; have k1 := HR.out.c1; have f0 := HR.out.f0; have f1 := HR.out.f1
    have hne := HR.out.lt
    clear h1 h2 h3
    rcases hc with ⟨rfl, h1, h2, h3⟩ | ⟨rfl, h1, h2, h3⟩ | ⟨h0, h1, h2, h3⟩
    all_goals
      go_enter Tryz.func56, Tryz.ntmps56
      go_wp2_with fail
      refine bodyPost_ret (v := .tuple #[.agg #[.bool false, .slice none 0 0], .bool false]) (by simp [results, Tryz.results56, go_sem, *]) rfl ?_
      exact ⟨_, rfl, ⟨_, _, _, _, rfl⟩, below_put HB.out (by omega) _ _⟩

set_option maxRecDepth 100000 in
set_option maxHeartbeats 2000000 in
theorem of_text (t : List UInt8) (ht : t.length ≤ 100000) (z : Int) (hz : readZ t = some z) (w : World) :
    Calls Tryz.prog 56 #[.agg #[.int .i64 2, .int .i64 0, .string ⟨t.toArray⟩]] w fun e w' => ∃ v, e = .returned (.tuple #[v, .bool (!decide (Small64 z))]) ∧ NH w' v z ∧ Below w.heap.size w w' := by
  have HT := Lib.hid ht
  have HZ := Lib.hid hz
  obtain ⟨W, hW⟩ : ∃ W, (w.alloc (.cells #[.int .i64 2, .int .i64 0, .string ⟨t.toArray⟩] 23)).alloc (.cells #[.bool false, .slice none 0 0] 51) = W := ⟨_, rfl⟩
  obtain ⟨v0, v1, v2, hr, hb⟩ := of_in w 2 0 t W hW
  have HR := Lib.hid hr; have HB := Lib.hid hb
  clear hr hb ht hz
  go_enter Tryz.func56, Tryz.ntmps56
  go_wp2_with fail
  refine (r_read t HT.out _).mono ?_
  rw [HZ.out]
  rintro e w3 ⟨v, rfl, ⟨b, a, m, c, rfl⟩, hn3, hb3⟩
  have HN := Lib.hid (hn3 z rfl)
  replace HR := Lib.hid (HR.out.below hb3)
  replace HB := Lib.hid (below_then HB.out hb3)
  clear hb3 hn3 v0 v1 v2 hW
  simp only [Option.isSome_some]
  go_upto_region 8 with fail
  obtain ⟨X, hX⟩ : ∃ X, w3.alloc (.cells #[.bool b, .slice a m c] 51) = X := ⟨_, rfl⟩
  obtain ⟨hbx, hb4, hlt4⟩ := nbox_new w3 _ b a m c z HN.out X hX
  rw [hX]
  have hne1 : ¬ w3.heap.size = w.heap.size + 1 := by have := HR.out.lt; omega
  have hne2 : ¬ w.heap.size + 1 = w3.heap.size := by omega
  have HX := Lib.hid hbx
  replace HR := Lib.hid (HR.out.below hb4)
  replace HB := Lib.hid (below_then HB.out hb4)
  have x0 := HX.out.x0; have x1 := HX.out.x1
  obtain ⟨g4, hg4⟩ : ∃ g, w3.heap.size = g := ⟨_, rfl⟩
  rw [hg4] at hne1 hne2 HX x0 x1 ⊢
  clear hbx hb4 hlt4 hX HN hg4
  go_wp2_with fail
  refine (r_value _ z _ HX.out.num).mono ?_
  rintro e w5 ⟨rfl, hb5⟩
  replace HX := Lib.hid (HX.out.below hb5)
  replace HR := Lib.hid (HR.out.below hb5)
  replace HB := Lib.hid (below_then HB.out hb5)
  replace x0 := HX.out.x0; replace x1 := HX.out.x1
  clear hb5
  have hlim : limZ z = (Vl.of z, 0) := by unfold limZ; rw [if_pos (readZ_some HZ.out).2]
  rw [hlim]
  clear hlim
  have hlt5 : w.heap.size + 1 < w5.heap.size := HR.out.lt
  by_cases hs : Small64 z
  · skip
    have e : Vl.of z = ⟨1, z, []⟩ := by unfold Vl.of; exact if_pos hs
    rw [e]
    have HSB : Hid ((!decide (Small64 z)) = false) := Lib.hid (by simp [hs])
    simp only [pr, Vl.val]
    clear e hs
    go_upto_region 9 with fail
    obtain ⟨Y, hY⟩ : ∃ Y, w5.alloc (.cells #[.int .i64 1, .int .i64 z, .string ⟨([] : List UInt8).toArray⟩] 23) = Y := ⟨_, rfl⟩
    have hb6 : Below w5.heap.size w5 Y := by rw [← hY]; exact (Below.refl _ _).alloc (Nat.le_refl _) _
    have y0 : Y.cell? ⟨w5.heap.size, 0, none⟩ = some (.int .i64 1) := by rw [← hY]; exact cell_in _ _ _ 0 rfl
    replace x0 := cell_on hb6 x0; replace x1 := cell_on hb6 x1
    replace HX := Lib.hid (HX.out.below hb6)
    replace HR := Lib.hid (HR.out.below hb6)
    replace HB := Lib.hid (below_then HB.out hb6)
    have hne3 : ¬ w5.heap.size = w.heap.size + 1 := by omega
    have hne4 : ¬ w.heap.size + 1 = w5.heap.size := by omega
    have k0 := HR.out.c0; have k1 := HR.out.c1; have f0 := HR.out.f0; have f1 := HR.out.f1
    have hY : w5.alloc (.cells #[.int .i64 1, .int .i64 z, .string ⟨#[]⟩] 23) = Y := hY
    rw [hY]
    clear hb6 hY
    generalize w5.heap.size = g5 at *
    go_region_held3 (fun w' => w'.cell? ⟨g4, 0, none⟩ = some (.bool b) ∧ w'.cell? ⟨g4, 1, none⟩ = some (.slice a m c) ∧ w'.cell? ⟨g5, 0, none⟩ = some (.int .i64 1)) (first | go_keep) (fail)
    go_wp2_with fail
    refine bodyPost_ret (v := .tuple #[.agg #[.bool b, .slice a m c], .bool false]) (by simp [results, Tryz.results56, go_sem, *]) rfl ?_
    have hpb := below_put HB.out (g := w.heap.size + 1) (by omega) (.bool b) (.slice a m c)
    exact ⟨_, by rw [HSB.out], (HX.out.num.put HR.out.ni _ _).below (drewN_on (Below.refl _ _) 1), hpb.drew⟩
  · skip
    have e : Vl.of z = ⟨2, 0, itoa z⟩ := by unfold Vl.of; exact if_neg hs
    rw [e]
    have HSB : Hid ((!decide (Small64 z)) = true) := Lib.hid (by simp [hs])
    simp only [pr, Vl.val]
    clear e hs
    go_upto_region 9 with fail
    obtain ⟨Y, hY⟩ : ∃ Y, w5.alloc (.cells #[.int .i64 2, .int .i64 (0), .string ⟨(itoa z : List UInt8).toArray⟩] 23) = Y := ⟨_, rfl⟩
    have hb6 : Below w5.heap.size w5 Y := by rw [← hY]; exact (Below.refl _ _).alloc (Nat.le_refl _) _
    have y0 : Y.cell? ⟨w5.heap.size, 0, none⟩ = some (.int .i64 2) := by rw [← hY]; exact cell_in _ _ _ 0 rfl
    replace x0 := cell_on hb6 x0; replace x1 := cell_on hb6 x1
    replace HX := Lib.hid (HX.out.below hb6)
    replace HR := Lib.hid (HR.out.below hb6)
    replace HB := Lib.hid (below_then HB.out hb6)
    have hne3 : ¬ w5.heap.size = w.heap.size + 1 := by omega
    have hne4 : ¬ w.heap.size + 1 = w5.heap.size := by omega
    have k0 := HR.out.c0; have k1 := HR.out.c1; have f0 := HR.out.f0; have f1 := HR.out.f1
    skip
    rw [hY]
    clear hb6 hY
    generalize w5.heap.size = g5 at *
    go_region_held3 (fun w' => w'.cell? ⟨g4, 0, none⟩ = some (.bool b) ∧ w'.cell? ⟨g4, 1, none⟩ = some (.slice a m c) ∧ w'.cell? ⟨g5, 0, none⟩ = some (.int .i64 2)) (first | go_keep) (fail)
    go_wp2_with fail
    refine bodyPost_ret (v := .tuple #[.agg #[.bool b, .slice a m c], .bool true]) (by simp [results, Tryz.results56, go_sem, *]) rfl ?_
    have hpb := below_put HB.out (g := w.heap.size + 1) (by omega) (.bool b) (.slice a m c)
    exact ⟨_, by rw [HSB.out], (HX.out.num.put HR.out.ni _ _).below (drewN_on (Below.refl _ _) 1), hpb.drew⟩
end Go.Proofs.YthjpbbbmnmhmmaaGreatDoor

namespace Go.Proofs.YthjpbbbmnmhmmaaGreatDoor
open Go.RowKit Go.Shelf Go.Lib

theorem r_of (a : Vl) (ha : a.ok) (w : World) :
    Calls Tryz.prog 56 #[a.val] w fun e w' => ∃ v, e = .returned (.tuple #[v, .bool a.num.isSome]) ∧ FormN v ∧ (∀ z, a.num = some z → NH w' v z) ∧ Below w.heap.size w w' := by
  obtain ⟨k, n, t⟩ := a
  have hn : Small64 n := ha.n
  have ht : t.length ≤ 100000 := ha.t
  show Calls Tryz.prog 56 #[.agg #[.int .i64 k, .int .i64 n, .string ⟨t.toArray⟩]] w fun e w' => ∃ v, e = .returned (.tuple #[v, .bool (numZ k n t).isSome]) ∧ FormN v ∧ (∀ z, numZ k n t = some z → NH w' v z) ∧ Below w.heap.size w w'
  by_cases h1 : k = 1 ∧ t = []
  · have e : numZ k n t = some n := if_pos h1
    rw [e]
    obtain ⟨rfl, rfl⟩ := h1
    refine (rof_small n hn w).mono ?_
    rintro e w' ⟨v, rfl, h, hb⟩
    exact ⟨v, rfl, h.form, (fun z hz => by cases hz; exact h), hb⟩
  · by_cases h2 : k = 2 ∧ n = 0
    · have e : numZ k n t = (match readZ t with | some z => if Small64 z then none else some z | none => none) := by unfold numZ; rw [if_neg h1, if_pos h2]; rfl
      cases hr : readZ t with
      | none =>
        rw [hr] at e; rw [e]
        refine (of_not k n t ht w h1 (fun _ => hr)).mono ?_
        rintro e w' ⟨v, rfl, hf, hb⟩
        exact ⟨_, rfl, hf, (by intro z hz; simp at hz), hb⟩
      | some z =>
        rw [hr] at e
        obtain ⟨rfl, rfl⟩ := h2
        refine (of_text t ht z hr w).mono ?_
        rintro e2 w' ⟨v, rfl, h, hb⟩
        refine ⟨v, ?_, h.form, fun z' hz => ?_, hb⟩
        · rw [e]; by_cases hs : Small64 z <;> simp [hs]
        · rw [e] at hz; by_cases hs : Small64 z
          · simp [hs] at hz
          · simp [hs] at hz; subst hz; exact h
    · have e : numZ k n t = none := by unfold numZ; rw [if_neg h1, if_neg h2]
      rw [e]
      refine (of_not k n t ht w h1 (fun h => absurd h h2)).mono ?_
      rintro e w' ⟨v, rfl, hf, hb⟩
      exact ⟨_, rfl, hf, (by intro z hz; simp at hz), hb⟩

/-- Two values in their boxes, two results' variables. -/
structure BothIn (w W : World) (a b : Vl) : Prop where
  a0 : W.cell? ⟨w.heap.size, 0, none⟩ = some (.int .i64 a.k)
  a1 : W.cell? ⟨w.heap.size, 1, none⟩ = some (.int .i64 a.n)
  a2 : W.cell? ⟨w.heap.size, 2, none⟩ = some (.string ⟨a.t.toArray⟩)
  b0 : W.cell? ⟨w.heap.size + 1, 0, none⟩ = some (.int .i64 b.k)
  b1 : W.cell? ⟨w.heap.size + 1, 1, none⟩ = some (.int .i64 b.n)
  b2 : W.cell? ⟨w.heap.size + 1, 2, none⟩ = some (.string ⟨b.t.toArray⟩)
  r4 : ResN W (w.heap.size + 1 + 1)
  r5 : ResN W (w.heap.size + 1 + 1 + 1)
  bel : Below w.heap.size w W
theorem BothIn.below {w W W' : World} {a b : Vl} (h : BothIn w W a b) (hb : Below W.heap.size W W') : BothIn w W' a b :=
  ⟨cell_on hb h.a0, cell_on hb h.a1, cell_on hb h.a2, cell_on hb h.b0, cell_on hb h.b1, cell_on hb h.b2, h.r4.below hb, h.r5.below hb, below_then h.bel hb⟩
theorem bothIn_new (w : World) (a b : Vl) (t1 t2 t3 t4 : TypeId) (W : World) (hW : (((w.alloc (.cells #[.int .i64 a.k, .int .i64 a.n, .string ⟨a.t.toArray⟩] t1)).alloc (.cells #[.int .i64 b.k, .int .i64 b.n, .string ⟨b.t.toArray⟩] t2)).alloc (.cells #[.bool false, .slice none 0 0] t3)).alloc (.cells #[.bool false, .slice none 0 0] t4) = W) :
    BothIn w W a b := by
  subst hW
  have hb1 : ∀ (W : World) o, Below W.heap.size W (W.alloc o) := fun W o => (Below.refl _ _).alloc (Nat.le_refl _) _
  have hb2 : ∀ (W : World) o o', Below W.heap.size W ((W.alloc o).alloc o') := fun W o o' => below_then (hb1 W o) (hb1 _ o')
  have hb3 : ∀ (W : World) o o' o'', Below W.heap.size W (((W.alloc o).alloc o').alloc o'') := fun W o o' o'' => below_then (hb2 W o o') (hb1 _ o'')
  have hr4 := (resN_new ((w.alloc (.cells #[.int .i64 a.k, .int .i64 a.n, .string ⟨a.t.toArray⟩] t1)).alloc (.cells #[.int .i64 b.k, .int .i64 b.n, .string ⟨b.t.toArray⟩] t2)) t3).below (hb1 _ (.cells #[.bool false, .slice none 0 0] t4))
  have hr5 := resN_new (((w.alloc (.cells #[.int .i64 a.k, .int .i64 a.n, .string ⟨a.t.toArray⟩] t1)).alloc (.cells #[.int .i64 b.k, .int .i64 b.n, .string ⟨b.t.toArray⟩] t2)).alloc (.cells #[.bool false, .slice none 0 0] t3)) t4
  simp only [World.size_alloc] at hr4 hr5
  exact ⟨cell_on (hb3 _ _ _ _) (cell_in _ _ _ 0 rfl), cell_on (hb3 _ _ _ _) (cell_in _ _ _ 1 rfl), cell_on (hb3 _ _ _ _) (cell_in _ _ _ 2 rfl), cell_on (hb2 _ _ _) (cell_in2 _ _ _ _ 0 rfl), cell_on (hb2 _ _ _) (cell_in2 _ _ _ _ 1 rfl), cell_on (hb2 _ _ _) (cell_in2 _ _ _ _ 2 rfl), hr4, hr5, below_then (hb3 w _ _ _) (hb1 _ _)⟩

theorem ResN.put {W : World} {g g' : Nat} (h : ResN W g) (hne : ¬ g' = g) (u u' : Value) : ResN ((W.setCell ⟨g', 0, none⟩ u).setCell ⟨g', 1, none⟩ u') g :=
  ⟨cell_put h.c0 hne u u', cell_put h.c1 hne u u', by have := h.f0; simpa using this, by have := h.f1; simpa using this, h.ni.put (fun e => hne e.symm) u u' 0 1, by have := h.lt; simpa using this⟩
/-- Two cells of a number. -/
structure NCell (W : World) (g : Nat) (b : Bool) (a : Option Addr) (n c : Nat) : Prop where
  x0 : W.cell? ⟨g, 0, none⟩ = some (.bool b)
  x1 : W.cell? ⟨g, 1, none⟩ = some (.slice a n c)
theorem NCell.below {W W' : World} {g : Nat} {b : Bool} {a : Option Addr} {n c : Nat} (h : NCell W g b a n c) (hb : Below W.heap.size W W') : NCell W' g b a n c :=
  ⟨cell_on hb h.x0, cell_on hb h.x1⟩
theorem ncell_new (W : World) (t : TypeId) (b : Bool) (a : Option Addr) (n c : Nat) (X : World) (hX : W.alloc (.cells #[.bool b, .slice a n c] t) = X) :
    NCell X W.heap.size b a n c ∧ Below W.heap.size W X ∧ W.heap.size < X.heap.size := by
  subst hX
  exact ⟨⟨cell_in _ _ _ 0 rfl, cell_in _ _ _ 1 rfl⟩, (Below.refl _ _).alloc (Nat.le_refl _) _, by simp⟩

set_option maxRecDepth 100000 in
set_option maxHeartbeats 4000000 in
theorem r_both (a b : Vl) (ha : a.ok) (hb : b.ok) (w : World) :
    Calls Tryz.prog 47 #[a.val, b.val] w fun e w' => ∃ v v', e = .returned (.tuple #[v, v', .bool (a.num.isSome && b.num.isSome)]) ∧ FormN v ∧ FormN v' ∧ (∀ z, a.num = some z → NH w' v z) ∧ (∀ z, b.num = some z → NH w' v' z) ∧ Below w.heap.size w w' := by
  have CA : Hid (∀ W, Calls Tryz.prog 56 #[a.val] W fun e w' => ∃ v, e = .returned (.tuple #[v, .bool a.num.isSome]) ∧ FormN v ∧ (∀ z, a.num = some z → NH w' v z) ∧ Below W.heap.size W w') := Lib.hid (r_of a ha)
  have CB : Hid (∀ W, Calls Tryz.prog 56 #[b.val] W fun e w' => ∃ v, e = .returned (.tuple #[v, .bool b.num.isSome]) ∧ FormN v ∧ (∀ z, b.num = some z → NH w' v z) ∧ Below W.heap.size W w') := Lib.hid (r_of b hb)
  obtain ⟨p, hp⟩ : ∃ p, a.num.isSome = p := ⟨_, rfl⟩
  obtain ⟨q, hq⟩ : ∃ q, b.num.isSome = q := ⟨_, rfl⟩
  obtain ⟨na, hna⟩ : ∃ na, a.num = na := ⟨_, rfl⟩
  obtain ⟨nb, hnb⟩ : ∃ nb, b.num = nb := ⟨_, rfl⟩
  rw [hp] at CA; rw [hq] at CB; rw [hp, hq]
  rw [hna] at CA; rw [hnb] at CB; rw [hna, hnb]
  clear hp hq hna hnb ha hb
  obtain ⟨W, hW⟩ : ∃ W, (((w.alloc (.cells #[.int .i64 a.k, .int .i64 a.n, .string ⟨a.t.toArray⟩] 23)).alloc (.cells #[.int .i64 b.k, .int .i64 b.n, .string ⟨b.t.toArray⟩] 23)).alloc (.cells #[.bool false, .slice none 0 0] 51)).alloc (.cells #[.bool false, .slice none 0 0] 51) = W := ⟨_, rfl⟩
  have HI := Lib.hid (bothIn_new w a b _ _ _ _ W hW)
  obtain ⟨ak, an, at'⟩ := a
  obtain ⟨bk, bn, bt⟩ := b
  simp only [Vl.val] at CA CB hW ⊢
  have a0 : W.cell? ⟨w.heap.size, 0, none⟩ = some (.int .i64 ak) := HI.out.a0
  have a1 : W.cell? ⟨w.heap.size, 1, none⟩ = some (.int .i64 an) := HI.out.a1
  have a2 : W.cell? ⟨w.heap.size, 2, none⟩ = some (.string ⟨at'.toArray⟩) := HI.out.a2
  go_enter Tryz.func47, Tryz.ntmps47
  go_upto_region 1 with fail
  clear hW
  go_wp2_with fail
  refine (CA.out _).mono ?_
  rintro e w1 ⟨v, rfl, ⟨pb, pa, pn, pc, rfl⟩, hn1, hb1⟩
  have HNX := Lib.hid hn1
  replace HI := Lib.hid (HI.out.below hb1)
  clear hn1 hb1 a0 a1 a2
  go_upto_region 2 with fail
  obtain ⟨X, hX⟩ : ∃ X, w1.alloc (.cells #[.bool pb, .slice pa pn pc] 51) = X := ⟨_, rfl⟩
  obtain ⟨hcx, hb2, hlt2⟩ := ncell_new w1 _ pb pa pn pc X hX
  rw [hX]
  have hgx : w.heap.size + 1 + 1 + 1 < w1.heap.size := HI.out.r5.lt
  have HCX := Lib.hid hcx
  replace HI := Lib.hid (HI.out.below hb2)
  replace HNX := Lib.hid (fun z hz => (HNX.out z hz).below hb2)
  generalize w1.heap.size = gx at *
  clear hcx hb2 hX
  have b0 : X.cell? ⟨w.heap.size + 1, 0, none⟩ = some (.int .i64 bk) := HI.out.b0
  have b1 : X.cell? ⟨w.heap.size + 1, 1, none⟩ = some (.int .i64 bn) := HI.out.b1
  have b2 : X.cell? ⟨w.heap.size + 1, 2, none⟩ = some (.string ⟨bt.toArray⟩) := HI.out.b2
  go_wp2_with fail
  refine (CB.out _).mono ?_
  rintro e w3 ⟨v, rfl, ⟨qb, qa, qn, qc, rfl⟩, hn3, hb3⟩
  have HNY := Lib.hid hn3
  replace HI := Lib.hid (HI.out.below hb3)
  replace HCX := Lib.hid (HCX.out.below hb3)
  replace HNX := Lib.hid (fun z hz => (HNX.out z hz).below hb3)
  have hgx3 : gx < w3.heap.size := Nat.lt_of_lt_of_le hlt2 hb3.size
  clear hn3 hb3 b0 b1 b2 hlt2
  go_upto_region 3 with fail
  obtain ⟨Y, hY⟩ : ∃ Y, w3.alloc (.cells #[.bool qb, .slice qa qn qc] 51) = Y := ⟨_, rfl⟩
  obtain ⟨hcy, hb4, hlt4⟩ := ncell_new w3 _ qb qa qn qc Y hY
  rw [hY]
  have HCY := Lib.hid hcy
  replace HI := Lib.hid (HI.out.below hb4)
  replace HCX := Lib.hid (HCX.out.below hb4)
  replace HNX := Lib.hid (fun z hz => (HNX.out z hz).below hb4)
  replace HNY := Lib.hid (fun z hz => (HNY.out z hz).below hb4)
  have hgy : w.heap.size + 1 + 1 + 1 < w3.heap.size := by omega
  generalize w3.heap.size = gy at *
  clear hcy hb4 hY
  have x0 := HCX.out.x0; have x1 := HCX.out.x1; have y0 := HCY.out.x0; have y1 := HCY.out.x1
  have k0 := HI.out.r4.c0; have k1 := HI.out.r4.c1; have f0 := HI.out.r4.f0; have f1 := HI.out.r4.f1
  have m0 := HI.out.r5.c0; have m1 := HI.out.r5.c1; have h0 := HI.out.r5.f0; have h1 := HI.out.r5.f1
  have e1 : ¬ gx = w.heap.size + 1 + 1 := by omega
  have e2 : ¬ w.heap.size + 1 + 1 = gx := by omega
  have e3 : ¬ gx = w.heap.size + 1 + 1 + 1 := by omega
  have e4 : ¬ w.heap.size + 1 + 1 + 1 = gx := by omega
  have e5 : ¬ gy = w.heap.size + 1 + 1 := by omega
  have e6 : ¬ w.heap.size + 1 + 1 = gy := by omega
  have e7 : ¬ gy = w.heap.size + 1 + 1 + 1 := by omega
  have e8 : ¬ w.heap.size + 1 + 1 + 1 = gy := by omega
  cases p with
  | false =>
    refine wp_region_noPanic ?_
    refine region_late (fun (X : World) => X.cell? ⟨gx, 0, none⟩ = some (.bool pb) ∧ X.cell? ⟨gx, 1, none⟩ = some (.slice pa pn pc) ∧ X.cell? ⟨gy, 0, none⟩ = some (.bool qb) ∧ X.cell? ⟨gy, 1, none⟩ = some (.slice qa qn qc)) (fun _ => false) (by kernel_rfl) ?_
    have hb := (Below.refl Y.heap.size Y).drew
    obtain ⟨Y, hY⟩ : ∃ X, Y.drew = X := ⟨_, rfl⟩
    rw [hY] at hb ⊢
    clear hY
    replace HI := Lib.hid (HI.out.below hb)
    replace HNX := Lib.hid (fun z hz => (HNX.out z hz).below hb)
    replace HNY := Lib.hid (fun z hz => (HNY.out z hz).below hb)
    have hHeld : Y.cell? ⟨gx, 0, none⟩ = some (.bool pb) ∧ Y.cell? ⟨gx, 1, none⟩ = some (.slice pa pn pc) ∧ Y.cell? ⟨gy, 0, none⟩ = some (.bool qb) ∧ Y.cell? ⟨gy, 1, none⟩ = some (.slice qa qn qc) := ⟨cell_on hb x0, cell_on hb x1, cell_on hb y0, cell_on hb y1⟩
    have k0 := HI.out.r4.c0; have k1 := HI.out.r4.c1; have f0 := HI.out.r4.f0; have f1 := HI.out.r4.f1
    have m0 := HI.out.r5.c0; have m1 := HI.out.r5.c1; have h0 := HI.out.r5.f0; have h1 := HI.out.r5.f1
    clear hb x0 x1 y0 y1
    refine late_take_at (some 21) (i := 0) (v := (.agg #[.bool pb, .slice pa pn pc])) rfl rfl rfl (by kernel_rfl) (by kernel_rfl) (by kernel_rfl) (by kernel_rfl) (fun _ _ _ h => h) clean_none (Or.inl ⟨by rfl, by intro w hSw; go_split_ands; go_simp⟩) hHeld ?_
    try simp only [Act.put, List.setIfInBounds_toArray, List.set_cons_zero, List.set_cons_succ]
    refine late_take_at (some 22) (i := 1) (v := (.agg #[.bool qb, .slice qa qn qc])) rfl rfl rfl (by kernel_rfl) (by kernel_rfl) (by kernel_rfl) (by kernel_rfl) (fun _ _ _ h => h) clean_none (Or.inl ⟨by rfl, by intro w hSw; go_split_ands; go_simp⟩) hHeld ?_
    try simp only [Act.put, List.setIfInBounds_toArray, List.set_cons_zero, List.set_cons_succ]
    refine late_pure_at (some 23) (i := 2) (v := (.bool false)) rfl rfl rfl (by kernel_rfl) (by kernel_rfl) (by kernel_rfl) (fun _ _ _ h => h) (Or.inl ⟨by rfl, by intro w _; go_simp⟩) (fun _ => hHeld) ?_
    try simp only [Act.put, List.setIfInBounds_toArray, List.set_cons_zero, List.set_cons_succ]
    refine late_pure_at (some 24) (i := 3) (v := (.bool false)) rfl rfl rfl (by kernel_rfl) (by kernel_rfl) (by kernel_rfl) (fun _ _ _ h => h) (Or.inl ⟨by rfl, by intro w _; go_simp⟩) (fun _ => hHeld) ?_
    try simp only [Act.put, List.setIfInBounds_toArray, List.set_cons_zero, List.set_cons_succ]
    refine late_pure_at (some 25) (i := 4) (v := undef) rfl rfl rfl (by kernel_rfl) (by kernel_rfl) (by kernel_rfl) (fun _ _ _ h => h) (Or.inr ⟨by rfl, rfl⟩) (fun _ => hHeld) ?_
    try simp only [Act.put, List.setIfInBounds_toArray, List.set_cons_zero, List.set_cons_succ]
    refine late_pure_at (some 26) (i := 5) (v := (.bool false)) rfl rfl rfl (by kernel_rfl) (by kernel_rfl) (by kernel_rfl) (fun _ _ _ h => h) (Or.inl ⟨by rfl, by intro w _; go_simp⟩) (fun _ => hHeld) ?_
    try simp only [Act.put, List.setIfInBounds_toArray, List.set_cons_zero, List.set_cons_succ]
    refine late_ready (rs := [6]) (by kernel_rfl) (by simp) ?_
    refine AllLate.cons rfl (fun K hK => ?_) AllLate.nil
    go_simp
    obtain ⟨Z6, hZ⟩ : ∃ X, (Y.setCell ⟨(w.heap.size + 1 + 1), 0, none⟩ (.bool pb)).setCell ⟨(w.heap.size + 1 + 1), 1, none⟩ (.slice pa pn pc) = X := ⟨_, rfl⟩
    rw [hZ]
    have hHeld : Z6.cell? ⟨gx, 0, none⟩ = some (.bool pb) ∧ Z6.cell? ⟨gx, 1, none⟩ = some (.slice pa pn pc) ∧ Z6.cell? ⟨gy, 0, none⟩ = some (.bool qb) ∧ Z6.cell? ⟨gy, 1, none⟩ = some (.slice qa qn qc) := by
      rw [← hZ]
      exact ⟨cell_put hHeld.1 e2 _ _, cell_put hHeld.2.1 e2 _ _, cell_put hHeld.2.2.1 e6 _ _, cell_put hHeld.2.2.2 e6 _ _⟩
    have hni := HI.out.r4.ni
    have hpb := below_put HI.out.bel (g := w.heap.size + 1 + 1) (by omega) (.bool pb) (.slice pa pn pc)
    have s0 := HI.out.r4.set0 (.bool pb) (.slice pa pn pc)
    have s1 := HI.out.r4.set1 (.bool pb) (.slice pa pn pc)
    have hr5 := HI.out.r5.put (g' := w.heap.size + 1 + 1) (by omega) (.bool pb) (.slice pa pn pc)
    rw [hZ] at hpb s0 s1 hr5
    replace HNX := Lib.hid (fun z hz => by have h := (HNX.out z hz).put hni (.bool pb) (.slice pa pn pc); rw [hZ] at h; exact h)
    replace HNY := Lib.hid (fun z hz => by have h := (HNY.out z hz).put hni (.bool pb) (.slice pa pn pc); rw [hZ] at h; exact h)
    have HPB := Lib.hid hpb; have HR5 := Lib.hid hr5
    have m0 := hr5.c0; have m1 := hr5.c1; have h0 := hr5.f0; have h1 := hr5.f1
    clear hpb hr5 hni k0 k1 f0 f1
    clear hZ
    refine hK.out _ _ (fun _ => hHeld) ?_
    clear hK K
    try simp only [Act.put, List.setIfInBounds_toArray, List.set_cons_zero, List.set_cons_succ]
    refine late_ready (rs := [7]) (by kernel_rfl) (by simp) ?_
    refine AllLate.cons rfl (fun K hK => ?_) AllLate.nil
    go_simp
    obtain ⟨Z7, hZ⟩ : ∃ X, (Z6.setCell ⟨(w.heap.size + 1 + 1 + 1), 0, none⟩ (.bool qb)).setCell ⟨(w.heap.size + 1 + 1 + 1), 1, none⟩ (.slice qa qn qc) = X := ⟨_, rfl⟩
    rw [hZ]
    have hHeld : Z7.cell? ⟨gx, 0, none⟩ = some (.bool pb) ∧ Z7.cell? ⟨gx, 1, none⟩ = some (.slice pa pn pc) ∧ Z7.cell? ⟨gy, 0, none⟩ = some (.bool qb) ∧ Z7.cell? ⟨gy, 1, none⟩ = some (.slice qa qn qc) := by
      rw [← hZ]
      exact ⟨cell_put hHeld.1 e4 _ _, cell_put hHeld.2.1 e4 _ _, cell_put hHeld.2.2.1 e8 _ _, cell_put hHeld.2.2.2 e8 _ _⟩
    have hpb := below_put HPB.out (g := w.heap.size + 1 + 1 + 1) (by omega) (.bool qb) (.slice qa qn qc)
    have u0 := HR5.out.set0 (.bool qb) (.slice qa qn qc)
    have u1 := HR5.out.set1 (.bool qb) (.slice qa qn qc)
    replace s0 := cell_put s0 (g' := w.heap.size + 1 + 1 + 1) (by omega) (.bool qb) (.slice qa qn qc)
    replace s1 := cell_put s1 (g' := w.heap.size + 1 + 1 + 1) (by omega) (.bool qb) (.slice qa qn qc)
    rw [hZ] at hpb s0 s1 u0 u1
    replace HNX := Lib.hid (fun z hz => by have h := (HNX.out z hz).put HR5.out.ni (.bool qb) (.slice qa qn qc); rw [hZ] at h; exact h)
    replace HNY := Lib.hid (fun z hz => by have h := (HNY.out z hz).put HR5.out.ni (.bool qb) (.slice qa qn qc); rw [hZ] at h; exact h)
    replace HPB := Lib.hid hpb
    clear hpb m0 m1 h0 h1
    clear hZ
    refine hK.out _ _ (fun _ => hHeld) ?_
    clear hK K
    try simp only [Act.put, List.setIfInBounds_toArray, List.set_cons_zero, List.set_cons_succ]
    refine late_pure_at (some 6) (i := 8) (v := (.bool false)) rfl rfl rfl (by kernel_rfl) (by kernel_rfl) (by kernel_rfl) (fun _ _ _ h => h) (Or.inl ⟨by rfl, by intro w _; go_simp⟩) (fun _ => hHeld) ?_
    try simp only [Act.put, List.setIfInBounds_toArray, List.set_cons_zero, List.set_cons_succ]
    refine late_done (by kernel_rfl) ?_ _
    refine NoPanic.normal ?_
    go_wp2_with fail
    refine bodyPost_ret (v := .tuple #[.agg #[.bool pb, .slice pa pn pc], .agg #[.bool qb, .slice qa qn qc], .bool false]) (by simp [results, Tryz.results47, go_sem, *]) rfl ?_
    exact ⟨_, _, rfl, ⟨_, _, _, _, rfl⟩, ⟨_, _, _, _, rfl⟩, HNX.out, HNY.out, HPB.out⟩
  | true =>
    refine wp_region_noPanic ?_
    refine region_late (fun (X : World) => X.cell? ⟨gx, 0, none⟩ = some (.bool pb) ∧ X.cell? ⟨gx, 1, none⟩ = some (.slice pa pn pc) ∧ X.cell? ⟨gy, 0, none⟩ = some (.bool qb) ∧ X.cell? ⟨gy, 1, none⟩ = some (.slice qa qn qc)) (fun _ => false) (by kernel_rfl) ?_
    have hb := (Below.refl Y.heap.size Y).drew
    obtain ⟨Y, hY⟩ : ∃ X, Y.drew = X := ⟨_, rfl⟩
    rw [hY] at hb ⊢
    clear hY
    replace HI := Lib.hid (HI.out.below hb)
    replace HNX := Lib.hid (fun z hz => (HNX.out z hz).below hb)
    replace HNY := Lib.hid (fun z hz => (HNY.out z hz).below hb)
    have hHeld : Y.cell? ⟨gx, 0, none⟩ = some (.bool pb) ∧ Y.cell? ⟨gx, 1, none⟩ = some (.slice pa pn pc) ∧ Y.cell? ⟨gy, 0, none⟩ = some (.bool qb) ∧ Y.cell? ⟨gy, 1, none⟩ = some (.slice qa qn qc) := ⟨cell_on hb x0, cell_on hb x1, cell_on hb y0, cell_on hb y1⟩
    have k0 := HI.out.r4.c0; have k1 := HI.out.r4.c1; have f0 := HI.out.r4.f0; have f1 := HI.out.r4.f1
    have m0 := HI.out.r5.c0; have m1 := HI.out.r5.c1; have h0 := HI.out.r5.f0; have h1 := HI.out.r5.f1
    clear hb x0 x1 y0 y1
    refine late_take_at (some 21) (i := 0) (v := (.agg #[.bool pb, .slice pa pn pc])) rfl rfl rfl (by kernel_rfl) (by kernel_rfl) (by kernel_rfl) (by kernel_rfl) (fun _ _ _ h => h) clean_none (Or.inl ⟨by rfl, by intro w hSw; go_split_ands; go_simp⟩) hHeld ?_
    try simp only [Act.put, List.setIfInBounds_toArray, List.set_cons_zero, List.set_cons_succ]
    refine late_take_at (some 22) (i := 1) (v := (.agg #[.bool qb, .slice qa qn qc])) rfl rfl rfl (by kernel_rfl) (by kernel_rfl) (by kernel_rfl) (by kernel_rfl) (fun _ _ _ h => h) clean_none (Or.inl ⟨by rfl, by intro w hSw; go_split_ands; go_simp⟩) hHeld ?_
    try simp only [Act.put, List.setIfInBounds_toArray, List.set_cons_zero, List.set_cons_succ]
    refine late_pure_at (some 23) (i := 2) (v := (.bool true)) rfl rfl rfl (by kernel_rfl) (by kernel_rfl) (by kernel_rfl) (fun _ _ _ h => h) (Or.inl ⟨by rfl, by intro w _; go_simp⟩) (fun _ => hHeld) ?_
    try simp only [Act.put, List.setIfInBounds_toArray, List.set_cons_zero, List.set_cons_succ]
    refine late_pure_at (some 24) (i := 3) (v := (.bool true)) rfl rfl rfl (by kernel_rfl) (by kernel_rfl) (by kernel_rfl) (fun _ _ _ h => h) (Or.inl ⟨by rfl, by intro w _; go_simp⟩) (fun _ => hHeld) ?_
    try simp only [Act.put, List.setIfInBounds_toArray, List.set_cons_zero, List.set_cons_succ]
    refine late_pure_at (some 25) (i := 4) (v := (.bool q)) rfl rfl rfl (by kernel_rfl) (by kernel_rfl) (by kernel_rfl) (fun _ _ _ h => h) (Or.inl ⟨by rfl, by intro w _; go_simp⟩) (fun _ => hHeld) ?_
    try simp only [Act.put, List.setIfInBounds_toArray, List.set_cons_zero, List.set_cons_succ]
    refine late_pure_at (some 26) (i := 5) (v := (.bool q)) rfl rfl rfl (by kernel_rfl) (by kernel_rfl) (by kernel_rfl) (fun _ _ _ h => h) (Or.inl ⟨by rfl, by intro w _; go_simp⟩) (fun _ => hHeld) ?_
    try simp only [Act.put, List.setIfInBounds_toArray, List.set_cons_zero, List.set_cons_succ]
    refine late_ready (rs := [6]) (by kernel_rfl) (by simp) ?_
    refine AllLate.cons rfl (fun K hK => ?_) AllLate.nil
    go_simp
    obtain ⟨Z6, hZ⟩ : ∃ X, (Y.setCell ⟨(w.heap.size + 1 + 1), 0, none⟩ (.bool pb)).setCell ⟨(w.heap.size + 1 + 1), 1, none⟩ (.slice pa pn pc) = X := ⟨_, rfl⟩
    rw [hZ]
    have hHeld : Z6.cell? ⟨gx, 0, none⟩ = some (.bool pb) ∧ Z6.cell? ⟨gx, 1, none⟩ = some (.slice pa pn pc) ∧ Z6.cell? ⟨gy, 0, none⟩ = some (.bool qb) ∧ Z6.cell? ⟨gy, 1, none⟩ = some (.slice qa qn qc) := by
      rw [← hZ]
      exact ⟨cell_put hHeld.1 e2 _ _, cell_put hHeld.2.1 e2 _ _, cell_put hHeld.2.2.1 e6 _ _, cell_put hHeld.2.2.2 e6 _ _⟩
    have hni := HI.out.r4.ni
    have hpb := below_put HI.out.bel (g := w.heap.size + 1 + 1) (by omega) (.bool pb) (.slice pa pn pc)
    have s0 := HI.out.r4.set0 (.bool pb) (.slice pa pn pc)
    have s1 := HI.out.r4.set1 (.bool pb) (.slice pa pn pc)
    have hr5 := HI.out.r5.put (g' := w.heap.size + 1 + 1) (by omega) (.bool pb) (.slice pa pn pc)
    rw [hZ] at hpb s0 s1 hr5
    replace HNX := Lib.hid (fun z hz => by have h := (HNX.out z hz).put hni (.bool pb) (.slice pa pn pc); rw [hZ] at h; exact h)
    replace HNY := Lib.hid (fun z hz => by have h := (HNY.out z hz).put hni (.bool pb) (.slice pa pn pc); rw [hZ] at h; exact h)
    have HPB := Lib.hid hpb; have HR5 := Lib.hid hr5
    have m0 := hr5.c0; have m1 := hr5.c1; have h0 := hr5.f0; have h1 := hr5.f1
    clear hpb hr5 hni k0 k1 f0 f1
    clear hZ
    refine hK.out _ _ (fun _ => hHeld) ?_
    clear hK K
    try simp only [Act.put, List.setIfInBounds_toArray, List.set_cons_zero, List.set_cons_succ]
    refine late_ready (rs := [7]) (by kernel_rfl) (by simp) ?_
    refine AllLate.cons rfl (fun K hK => ?_) AllLate.nil
    go_simp
    obtain ⟨Z7, hZ⟩ : ∃ X, (Z6.setCell ⟨(w.heap.size + 1 + 1 + 1), 0, none⟩ (.bool qb)).setCell ⟨(w.heap.size + 1 + 1 + 1), 1, none⟩ (.slice qa qn qc) = X := ⟨_, rfl⟩
    rw [hZ]
    have hHeld : Z7.cell? ⟨gx, 0, none⟩ = some (.bool pb) ∧ Z7.cell? ⟨gx, 1, none⟩ = some (.slice pa pn pc) ∧ Z7.cell? ⟨gy, 0, none⟩ = some (.bool qb) ∧ Z7.cell? ⟨gy, 1, none⟩ = some (.slice qa qn qc) := by
      rw [← hZ]
      exact ⟨cell_put hHeld.1 e4 _ _, cell_put hHeld.2.1 e4 _ _, cell_put hHeld.2.2.1 e8 _ _, cell_put hHeld.2.2.2 e8 _ _⟩
    have hpb := below_put HPB.out (g := w.heap.size + 1 + 1 + 1) (by omega) (.bool qb) (.slice qa qn qc)
    have u0 := HR5.out.set0 (.bool qb) (.slice qa qn qc)
    have u1 := HR5.out.set1 (.bool qb) (.slice qa qn qc)
    replace s0 := cell_put s0 (g' := w.heap.size + 1 + 1 + 1) (by omega) (.bool qb) (.slice qa qn qc)
    replace s1 := cell_put s1 (g' := w.heap.size + 1 + 1 + 1) (by omega) (.bool qb) (.slice qa qn qc)
    rw [hZ] at hpb s0 s1 u0 u1
    replace HNX := Lib.hid (fun z hz => by have h := (HNX.out z hz).put HR5.out.ni (.bool qb) (.slice qa qn qc); rw [hZ] at h; exact h)
    replace HNY := Lib.hid (fun z hz => by have h := (HNY.out z hz).put HR5.out.ni (.bool qb) (.slice qa qn qc); rw [hZ] at h; exact h)
    replace HPB := Lib.hid hpb
    clear hpb m0 m1 h0 h1
    clear hZ
    refine hK.out _ _ (fun _ => hHeld) ?_
    clear hK K
    try simp only [Act.put, List.setIfInBounds_toArray, List.set_cons_zero, List.set_cons_succ]
    refine late_pure_at (some 6) (i := 8) (v := (.bool q)) rfl rfl rfl (by kernel_rfl) (by kernel_rfl) (by kernel_rfl) (fun _ _ _ h => h) (Or.inl ⟨by rfl, by intro w _; go_simp⟩) (fun _ => hHeld) ?_
    try simp only [Act.put, List.setIfInBounds_toArray, List.set_cons_zero, List.set_cons_succ]
    refine late_done (by kernel_rfl) ?_ _
    refine NoPanic.normal ?_
    go_wp2_with fail
    refine bodyPost_ret (v := .tuple #[.agg #[.bool pb, .slice pa pn pc], .agg #[.bool qb, .slice qa qn qc], .bool q]) (by simp [results, Tryz.results47, go_sem, *]) rfl ?_
    exact ⟨_, _, rfl, ⟨_, _, _, _, rfl⟩, ⟨_, _, _, _, rfl⟩, HNX.out, HNY.out, HPB.out⟩
end Go.Proofs.YthjpbbbmnmhmmaaGreatDoor

namespace Go.Proofs.YthjpbbbmnmhmmaaGreatDoor
open Go.RowKit Go.Shelf Go.Lib

/-! ### The reference's operations on two values -/
/-- Two values in their boxes, the result's variable. -/
structure PairIn (w W : World) (a b : Vl) : Prop where
  a0 : W.cell? ⟨w.heap.size, 0, none⟩ = some (.int .i64 a.k)
  a1 : W.cell? ⟨w.heap.size, 1, none⟩ = some (.int .i64 a.n)
  a2 : W.cell? ⟨w.heap.size, 2, none⟩ = some (.string ⟨a.t.toArray⟩)
  b0 : W.cell? ⟨w.heap.size + 1, 0, none⟩ = some (.int .i64 b.k)
  b1 : W.cell? ⟨w.heap.size + 1, 1, none⟩ = some (.int .i64 b.n)
  b2 : W.cell? ⟨w.heap.size + 1, 2, none⟩ = some (.string ⟨b.t.toArray⟩)
  r : ResV W (w.heap.size + 1 + 1)
  bel : Below w.heap.size w W
theorem PairIn.below {w W W' : World} {a b : Vl} (h : PairIn w W a b) (hb : Below W.heap.size W W') : PairIn w W' a b :=
  ⟨cell_on hb h.a0, cell_on hb h.a1, cell_on hb h.a2, cell_on hb h.b0, cell_on hb h.b1, cell_on hb h.b2, h.r.below hb, below_then h.bel hb⟩
theorem pairIn_new (w : World) (a b : Vl) (t1 t2 t3 : TypeId) (W : World) (hW : ((w.alloc (.cells #[.int .i64 a.k, .int .i64 a.n, .string ⟨a.t.toArray⟩] t1)).alloc (.cells #[.int .i64 b.k, .int .i64 b.n, .string ⟨b.t.toArray⟩] t2)).alloc (.cells #[.int .i64 0, .int .i64 0, .string ⟨#[]⟩] t3) = W) :
    PairIn w W a b := by
  subst hW
  have hb1 : ∀ (W : World) o, Below W.heap.size W (W.alloc o) := fun W o => (Below.refl _ _).alloc (Nat.le_refl _) _
  have hb2 : ∀ (W : World) o o', Below W.heap.size W ((W.alloc o).alloc o') := fun W o o' => below_then (hb1 W o) (hb1 _ o')
  have hr := resV_new ((w.alloc (.cells #[.int .i64 a.k, .int .i64 a.n, .string ⟨a.t.toArray⟩] t1)).alloc (.cells #[.int .i64 b.k, .int .i64 b.n, .string ⟨b.t.toArray⟩] t2)) t3
  simp only [World.size_alloc] at hr
  exact ⟨cell_on (hb2 _ _ _) (cell_in _ _ _ 0 rfl), cell_on (hb2 _ _ _) (cell_in _ _ _ 1 rfl), cell_on (hb2 _ _ _) (cell_in _ _ _ 2 rfl), cell_on (hb1 _ _) (cell_in2 _ _ _ _ 0 rfl), cell_on (hb1 _ _) (cell_in2 _ _ _ _ 1 rfl), cell_on (hb1 _ _) (cell_in2 _ _ _ _ 2 rfl), hr, below_then (hb2 w _ _) (hb1 _ _)⟩

theorem ropR_none {f : Int → Int → Vl × Int} {a b : Vl} (h : (a.num.isSome && b.num.isSome) = false) : opR f a b = (Vl.zero, 31) := by
  unfold opR
  cases hx : a.num with
  | none => rfl
  | some x =>
    cases hy : b.num with
    | none => rfl
    | some y => rw [hx, hy] at h; cases h
theorem ropR_some {f : Int → Int → Vl × Int} {a b : Vl} {x y : Int} (ha : a.num = some x) (hb : b.num = some y) : opR f a b = f x y := by
  unfold opR; rw [ha, hb]
theorem ten_len {z : Int} (h : nDigits z.natAbs ≤ 400) : (Ten.dig z.natAbs).length ≤ 400 := Ten.len_le h
theorem ncell2 (W : World) (t t' : TypeId) (b : Bool) (a : Option Addr) (n c : Nat) (b' : Bool) (a' : Option Addr) (n' c' : Nat) (X : World) (hX : (W.alloc (.cells #[.bool b, .slice a n c] t)).alloc (.cells #[.bool b', .slice a' n' c'] t') = X) :
    NCell X W.heap.size b a n c ∧ NCell X (W.heap.size + 1) b' a' n' c' ∧ Below W.heap.size W X := by
  subst hX
  exact ⟨⟨cell_on ((Below.refl _ _).alloc (Nat.le_refl _) _) (cell_in _ _ _ 0 rfl), cell_on ((Below.refl _ _).alloc (Nat.le_refl _) _) (cell_in _ _ _ 1 rfl)⟩, ⟨cell_in2 _ _ _ _ 0 rfl, cell_in2 _ _ _ _ 1 rfl⟩, ((Below.refl _ W).alloc (Nat.le_refl _) _).alloc (by simp) _⟩

set_option maxRecDepth 100000 in
set_option maxHeartbeats 4000000 in
theorem r_Add (a b : Vl) (ha : a.ok) (hb : b.ok) (w : World) : Ans Tryz.prog 34 #[a.val, b.val] w (pr (addR a b)) := by
  have HC : Hid (∀ W, Calls Tryz.prog 47 #[a.val, b.val] W fun e w' => ∃ v v', e = .returned (.tuple #[v, v', .bool (a.num.isSome && b.num.isSome)]) ∧ FormN v ∧ FormN v' ∧ (∀ z, a.num = some z → NH w' v z) ∧ (∀ z, b.num = some z → NH w' v' z) ∧ Below W.heap.size W w') := Lib.hid (r_both a b ha hb)
  have HLA : Hid (∀ z, a.num = some z → nDigits z.natAbs ≤ 400) := Lib.hid (fun z hz => (vl_of_num ha hz).2)
  have HLB : Hid (∀ z, b.num = some z → nDigits z.natAbs ≤ 400) := Lib.hid (fun z hz => (vl_of_num hb hz).2)
  clear ha hb
  obtain ⟨R, hR⟩ : ∃ R, addR a b = R := ⟨_, rfl⟩
  have HR := Lib.hid hR
  rw [hR]
  clear hR
  obtain ⟨W, hW⟩ : ∃ W, ((w.alloc (.cells #[.int .i64 a.k, .int .i64 a.n, .string ⟨a.t.toArray⟩] 23)).alloc (.cells #[.int .i64 b.k, .int .i64 b.n, .string ⟨b.t.toArray⟩] 23)).alloc (.cells #[.int .i64 0, .int .i64 0, .string ⟨#[]⟩] 23) = W := ⟨_, rfl⟩
  have HI := Lib.hid (pairIn_new w a b _ _ _ W hW)
  obtain ⟨na, hna⟩ : ∃ na, a.num = na := ⟨_, rfl⟩
  obtain ⟨nb, hnb⟩ : ∃ nb, b.num = nb := ⟨_, rfl⟩
  rw [hna, hnb] at HC
  rw [hna] at HLA
  rw [hnb] at HLB
  have HNA := Lib.hid hna; have HNB := Lib.hid hnb
  clear hna hnb
  obtain ⟨p, hp⟩ : ∃ p, (na.isSome && nb.isSome) = p := ⟨_, rfl⟩
  rw [hp] at HC
  have HP := Lib.hid hp
  clear hp
  have a0 := HI.out.a0; have a1 := HI.out.a1; have a2 := HI.out.a2; have b0 := HI.out.b0; have b1 := HI.out.b1; have b2 := HI.out.b2
  obtain ⟨ak, an, at'⟩ := a
  obtain ⟨bk, bn, bt⟩ := b
  simp only [Vl.val] at HC hW ⊢
  simp only at a0 a1 a2 b0 b1 b2
  go_enter Tryz.func34, Tryz.ntmps34
  go_upto_region 1 with fail
  clear hW
  go_wp2_with fail
  refine (HC.out _).mono ?_
  rintro e w1 ⟨v, v', rfl, ⟨pb, pa, pn, pc, rfl⟩, ⟨qb, qa, qn, qc, rfl⟩, hnx, hny, hb1⟩
  have HNX := Lib.hid hnx; have HNY := Lib.hid hny
  replace HI := Lib.hid (HI.out.below hb1)
  clear hnx hny hb1 a0 a1 a2 b0 b1 b2
  go_upto_region 2 with fail
  obtain ⟨X, hX⟩ : ∃ X, (w1.alloc (.cells #[.bool pb, .slice pa pn pc] 51)).alloc (.cells #[.bool qb, .slice qa qn qc] 51) = X := ⟨_, rfl⟩
  obtain ⟨hcx, hcy, hb2⟩ := ncell2 w1 _ _ pb pa pn pc qb qa qn qc X hX
  rw [hX]
  have hgx : w.heap.size + 1 + 1 < w1.heap.size := HI.out.r.lt
  obtain ⟨gy, hgy⟩ : ∃ g, w1.heap.size + 1 = g := ⟨_, rfl⟩
  rw [hgy] at hcy ⊢
  have hgy2 : w.heap.size + 1 + 1 < gy := by omega
  have HCX := Lib.hid hcx; have HCY := Lib.hid hcy
  replace HI := Lib.hid (HI.out.below hb2)
  replace HNX := Lib.hid (fun z hz => (HNX.out z hz).below hb2)
  replace HNY := Lib.hid (fun z hz => (HNY.out z hz).below hb2)
  clear hcx hcy hb2 hX hgy
  generalize w1.heap.size = gx at *
  cases p with
  | false =>
    have e : R = (Vl.zero, 31) := by rw [← HR.out]; exact ropR_none (by rw [HNA.out, HNB.out]; exact HP.out)
    subst e
    have c0 := HI.out.r.c0; have c1 := HI.out.r.c1; have c2 := HI.out.r.c2
    have f0 := HI.out.r.f0; have f1 := HI.out.r.f1; have f2 := HI.out.r.f2
    go_wp2_with fail
    refine bodyPost_ret (v := .tuple #[vE 0 0 [], .int .i64 31]) (by simp [results, Tryz.results34, go_sem, vE, *]) rfl ?_
    exact ⟨rfl, below_put3 HI.out.bel (by omega) _ _ _⟩
  | true =>
    obtain ⟨x, rfl⟩ : ∃ x, na = some x := by
      cases na with
      | none => exact absurd HP.out (by simp)
      | some x => exact ⟨x, rfl⟩
    obtain ⟨y, rfl⟩ : ∃ y, nb = some y := by
      cases nb with
      | none => exact absurd HP.out (by simp)
      | some y => exact ⟨y, rfl⟩
    have LA : Hid ((Ten.dig x.natAbs).length ≤ 400) := Lib.hid (ten_len (HLA.out x rfl))
    have LB : Hid ((Ten.dig y.natAbs).length ≤ 400) := Lib.hid (ten_len (HLB.out y rfl))
    have HRE : Hid (addF x y = R) := Lib.hid (by rw [← HR.out]; exact (ropR_some HNA.out HNB.out).symm)
    replace HNX := Lib.hid (HNX.out x rfl)
    replace HNY := Lib.hid (HNY.out y rfl)
    have x0 := HCX.out.x0; have x1 := HCX.out.x1; have y0 := HCY.out.x0; have y1 := HCY.out.x1
    clear HLA HLB HP HNA HNB HR
    have HVE : Hid (limZ (x + y) = R) := HRE
    go_wp2_with fail
    refine (r_add _ _ x y _ HNX.out HNY.out (by have := LA.out; omega) (by have := LB.out; omega)).mono ?_
    rintro e w4 ⟨v4, rfl, hn4, hb4⟩
    have HN4 := Lib.hid hn4
    replace HI := Lib.hid (HI.out.below hb4)
    clear hn4 hb4 x0 x1 y0 y1
    go_wp2_with fail
    refine (r_value _ _ _ HN4.out).mono ?_
    rintro e w9 ⟨rfl, hb9⟩
    replace HI := Lib.hid (HI.out.below hb9)
    rw [HVE.out]
    obtain ⟨⟨rk, rn, rt⟩, re⟩ := R
    simp only [pr, Vl.val]
    have c0 := HI.out.r.c0; have c1 := HI.out.r.c1; have c2 := HI.out.r.c2
    have f0 := HI.out.r.f0; have f1 := HI.out.r.f1; have f2 := HI.out.r.f2
    clear hb9
    go_wp2_with fail
    refine bodyPost_ret (v := .tuple #[vE rk rn rt, .int .i64 re]) (by simp [results, Tryz.results34, go_sem, vE, *]) rfl ?_
    exact ⟨rfl, below_put3 HI.out.bel (by omega) _ _ _⟩
end Go.Proofs.YthjpbbbmnmhmmaaGreatDoor

namespace Go.Proofs.YthjpbbbmnmhmmaaGreatDoor
open Go.RowKit Go.Shelf Go.Lib

set_option maxRecDepth 100000 in
set_option maxHeartbeats 4000000 in
theorem r_Sub (a b : Vl) (ha : a.ok) (hb : b.ok) (w : World) : Ans Tryz.prog 35 #[a.val, b.val] w (pr (subR a b)) := by
  have HC : Hid (∀ W, Calls Tryz.prog 47 #[a.val, b.val] W fun e w' => ∃ v v', e = .returned (.tuple #[v, v', .bool (a.num.isSome && b.num.isSome)]) ∧ FormN v ∧ FormN v' ∧ (∀ z, a.num = some z → NH w' v z) ∧ (∀ z, b.num = some z → NH w' v' z) ∧ Below W.heap.size W w') := Lib.hid (r_both a b ha hb)
  have HLA : Hid (∀ z, a.num = some z → nDigits z.natAbs ≤ 400) := Lib.hid (fun z hz => (vl_of_num ha hz).2)
  have HLB : Hid (∀ z, b.num = some z → nDigits z.natAbs ≤ 400) := Lib.hid (fun z hz => (vl_of_num hb hz).2)
  clear ha hb
  obtain ⟨R, hR⟩ : ∃ R, subR a b = R := ⟨_, rfl⟩
  have HR := Lib.hid hR
  rw [hR]
  clear hR
  obtain ⟨W, hW⟩ : ∃ W, ((w.alloc (.cells #[.int .i64 a.k, .int .i64 a.n, .string ⟨a.t.toArray⟩] 23)).alloc (.cells #[.int .i64 b.k, .int .i64 b.n, .string ⟨b.t.toArray⟩] 23)).alloc (.cells #[.int .i64 0, .int .i64 0, .string ⟨#[]⟩] 23) = W := ⟨_, rfl⟩
  have HI := Lib.hid (pairIn_new w a b _ _ _ W hW)
  obtain ⟨na, hna⟩ : ∃ na, a.num = na := ⟨_, rfl⟩
  obtain ⟨nb, hnb⟩ : ∃ nb, b.num = nb := ⟨_, rfl⟩
  rw [hna, hnb] at HC
  rw [hna] at HLA
  rw [hnb] at HLB
  have HNA := Lib.hid hna; have HNB := Lib.hid hnb
  clear hna hnb
  obtain ⟨p, hp⟩ : ∃ p, (na.isSome && nb.isSome) = p := ⟨_, rfl⟩
  rw [hp] at HC
  have HP := Lib.hid hp
  clear hp
  have a0 := HI.out.a0; have a1 := HI.out.a1; have a2 := HI.out.a2; have b0 := HI.out.b0; have b1 := HI.out.b1; have b2 := HI.out.b2
  obtain ⟨ak, an, at'⟩ := a
  obtain ⟨bk, bn, bt⟩ := b
  simp only [Vl.val] at HC hW ⊢
  simp only at a0 a1 a2 b0 b1 b2
  go_enter Tryz.func35, Tryz.ntmps35
  go_upto_region 1 with fail
  clear hW
  go_wp2_with fail
  refine (HC.out _).mono ?_
  rintro e w1 ⟨v, v', rfl, ⟨pb, pa, pn, pc, rfl⟩, ⟨qb, qa, qn, qc, rfl⟩, hnx, hny, hb1⟩
  have HNX := Lib.hid hnx; have HNY := Lib.hid hny
  replace HI := Lib.hid (HI.out.below hb1)
  clear hnx hny hb1 a0 a1 a2 b0 b1 b2
  go_upto_region 2 with fail
  obtain ⟨X, hX⟩ : ∃ X, (w1.alloc (.cells #[.bool pb, .slice pa pn pc] 51)).alloc (.cells #[.bool qb, .slice qa qn qc] 51) = X := ⟨_, rfl⟩
  obtain ⟨hcx, hcy, hb2⟩ := ncell2 w1 _ _ pb pa pn pc qb qa qn qc X hX
  rw [hX]
  have hgx : w.heap.size + 1 + 1 < w1.heap.size := HI.out.r.lt
  obtain ⟨gy, hgy⟩ : ∃ g, w1.heap.size + 1 = g := ⟨_, rfl⟩
  rw [hgy] at hcy ⊢
  have hgy2 : w.heap.size + 1 + 1 < gy := by omega
  have HCX := Lib.hid hcx; have HCY := Lib.hid hcy
  replace HI := Lib.hid (HI.out.below hb2)
  replace HNX := Lib.hid (fun z hz => (HNX.out z hz).below hb2)
  replace HNY := Lib.hid (fun z hz => (HNY.out z hz).below hb2)
  clear hcx hcy hb2 hX hgy
  generalize w1.heap.size = gx at *
  cases p with
  | false =>
    have e : R = (Vl.zero, 31) := by rw [← HR.out]; exact ropR_none (by rw [HNA.out, HNB.out]; exact HP.out)
    subst e
    have c0 := HI.out.r.c0; have c1 := HI.out.r.c1; have c2 := HI.out.r.c2
    have f0 := HI.out.r.f0; have f1 := HI.out.r.f1; have f2 := HI.out.r.f2
    go_wp2_with fail
    refine bodyPost_ret (v := .tuple #[vE 0 0 [], .int .i64 31]) (by simp [results, Tryz.results35, go_sem, vE, *]) rfl ?_
    exact ⟨rfl, below_put3 HI.out.bel (by omega) _ _ _⟩
  | true =>
    obtain ⟨x, rfl⟩ : ∃ x, na = some x := by
      cases na with
      | none => exact absurd HP.out (by simp)
      | some x => exact ⟨x, rfl⟩
    obtain ⟨y, rfl⟩ : ∃ y, nb = some y := by
      cases nb with
      | none => exact absurd HP.out (by simp)
      | some y => exact ⟨y, rfl⟩
    have LA : Hid ((Ten.dig x.natAbs).length ≤ 400) := Lib.hid (ten_len (HLA.out x rfl))
    have LB : Hid ((Ten.dig y.natAbs).length ≤ 400) := Lib.hid (ten_len (HLB.out y rfl))
    have HRE : Hid (subF x y = R) := Lib.hid (by rw [← HR.out]; exact (ropR_some HNA.out HNB.out).symm)
    replace HNX := Lib.hid (HNX.out x rfl)
    replace HNY := Lib.hid (HNY.out y rfl)
    have x0 := HCX.out.x0; have x1 := HCX.out.x1; have y0 := HCY.out.x0; have y1 := HCY.out.x1
    clear HLA HLB HP HNA HNB HR
    obtain ⟨⟨rk, rn, rt⟩, re⟩ := R
    have HVE : Hid (pr (limZ (x + -y)) = .tuple #[.agg #[.int .i64 rk, .int .i64 rn, .string ⟨rt.toArray⟩], .int .i64 re]) := Lib.hid (by have h := HRE.out; rw [← Int.sub_eq_add_neg]; unfold subF at h; rw [h]; rfl)
    have DR := Lib.hid ((Below.refl X.heap.size X).drew)
    have hne := HI.out.r.lt
    have e1 : ¬ gx = w.heap.size + 1 + 1 := by omega
    have e2 : ¬ w.heap.size + 1 + 1 = gx := by omega
    have e3 : ¬ gy = w.heap.size + 1 + 1 := by omega
    have e4 : ¬ w.heap.size + 1 + 1 = gy := by omega
    clear HRE
    go_wp2_with fail
    go_region_held3 (fun w' => w'.cell? ⟨gx, 0, none⟩ = some (.bool pb) ∧ w'.cell? ⟨gx, 1, none⟩ = some (.slice pa pn pc) ∧ w'.cell? ⟨gy, 0, none⟩ = some (.bool qb) ∧ w'.cell? ⟨gy, 1, none⟩ = some (.slice qa qn qc))
      (first | go_keep | (go_split_ands; exact ⟨cell_on hb5 x0, cell_on hb5 x1, cell_on hb5 y0, cell_on hb5 y1⟩) | (go_split_ands; exact ⟨cell_on hb6 x0, cell_on hb6 x1, cell_on hb6 y0, cell_on hb6 y1⟩) | (go_split_ands; exact ⟨cell_on hb9 x0, cell_on hb9 x1, cell_on hb9 y0, cell_on hb9 y1⟩))
      (first | (go_at_call 71; refine (r_negated _ y _ (HNY.out.below DR.out)).mono ?_; rintro e w5 ⟨v5, rfl, hn5, hb5'⟩; have hb5 := below_then DR.out hb5'; have HB5 := Lib.hid hb5; have HN5 := Lib.hid hn5; obtain ⟨b5, a5, n5, c5, rfl⟩ := hn5.form; clear hb5' hn5)
             | (go_at_call 70; refine (r_add _ _ x (-y) _ (HNX.out.below HB5.out) HN5.out (by have := LA.out; omega) (by have := LB.out; rw [Int.natAbs_neg]; omega)).mono ?_; rintro e w6 ⟨v6, rfl, hn6, hb6'⟩; have hb6 := below_then HB5.out hb6'; have HB6 := Lib.hid hb6; have HN6 := Lib.hid hn6; obtain ⟨b6, a6, n6, c6, rfl⟩ := hn6.form; clear hb6' hn6)
             | (go_at_call 49; refine (r_value _ (x + -y) _ HN6.out).mono ?_; rw [HVE.out]; rintro e w9 ⟨rfl, hb9'⟩; have hb9 := below_then HB6.out hb9'; have HB9 := Lib.hid hb9; have c0 := (HI.out.below hb9).r.c0; have c1 := (HI.out.below hb9).r.c1; have c2 := (HI.out.below hb9).r.c2; have f0 := (HI.out.below hb9).r.f0; have f1 := (HI.out.below hb9).r.f1; have f2 := (HI.out.below hb9).r.f2; clear hb9'))
    go_wp2_with fail
    refine bodyPost_ret (v := .tuple #[vE rk rn rt, .int .i64 re]) (by simp [results, Tryz.results35, go_sem, vE, *]) rfl ?_
    exact ⟨rfl, below_put3 (HI.out.below HB9.out).bel (by omega) _ _ _⟩

set_option maxRecDepth 100000 in
set_option maxHeartbeats 4000000 in
theorem r_Mul (a b : Vl) (ha : a.ok) (hb : b.ok) (w : World) : Ans Tryz.prog 36 #[a.val, b.val] w (pr (mulR a b)) := by
  have HC : Hid (∀ W, Calls Tryz.prog 47 #[a.val, b.val] W fun e w' => ∃ v v', e = .returned (.tuple #[v, v', .bool (a.num.isSome && b.num.isSome)]) ∧ FormN v ∧ FormN v' ∧ (∀ z, a.num = some z → NH w' v z) ∧ (∀ z, b.num = some z → NH w' v' z) ∧ Below W.heap.size W w') := Lib.hid (r_both a b ha hb)
  have HLA : Hid (∀ z, a.num = some z → nDigits z.natAbs ≤ 400) := Lib.hid (fun z hz => (vl_of_num ha hz).2)
  have HLB : Hid (∀ z, b.num = some z → nDigits z.natAbs ≤ 400) := Lib.hid (fun z hz => (vl_of_num hb hz).2)
  clear ha hb
  obtain ⟨R, hR⟩ : ∃ R, mulR a b = R := ⟨_, rfl⟩
  have HR := Lib.hid hR
  rw [hR]
  clear hR
  obtain ⟨W, hW⟩ : ∃ W, ((w.alloc (.cells #[.int .i64 a.k, .int .i64 a.n, .string ⟨a.t.toArray⟩] 23)).alloc (.cells #[.int .i64 b.k, .int .i64 b.n, .string ⟨b.t.toArray⟩] 23)).alloc (.cells #[.int .i64 0, .int .i64 0, .string ⟨#[]⟩] 23) = W := ⟨_, rfl⟩
  have HI := Lib.hid (pairIn_new w a b _ _ _ W hW)
  obtain ⟨na, hna⟩ : ∃ na, a.num = na := ⟨_, rfl⟩
  obtain ⟨nb, hnb⟩ : ∃ nb, b.num = nb := ⟨_, rfl⟩
  rw [hna, hnb] at HC
  rw [hna] at HLA
  rw [hnb] at HLB
  have HNA := Lib.hid hna; have HNB := Lib.hid hnb
  clear hna hnb
  obtain ⟨p, hp⟩ : ∃ p, (na.isSome && nb.isSome) = p := ⟨_, rfl⟩
  rw [hp] at HC
  have HP := Lib.hid hp
  clear hp
  have a0 := HI.out.a0; have a1 := HI.out.a1; have a2 := HI.out.a2; have b0 := HI.out.b0; have b1 := HI.out.b1; have b2 := HI.out.b2
  obtain ⟨ak, an, at'⟩ := a
  obtain ⟨bk, bn, bt⟩ := b
  simp only [Vl.val] at HC hW ⊢
  simp only at a0 a1 a2 b0 b1 b2
  go_enter Tryz.func36, Tryz.ntmps36
  go_upto_region 1 with fail
  clear hW
  go_wp2_with fail
  refine (HC.out _).mono ?_
  rintro e w1 ⟨v, v', rfl, ⟨pb, pa, pn, pc, rfl⟩, ⟨qb, qa, qn, qc, rfl⟩, hnx, hny, hb1⟩
  have HNX := Lib.hid hnx; have HNY := Lib.hid hny
  replace HI := Lib.hid (HI.out.below hb1)
  clear hnx hny hb1 a0 a1 a2 b0 b1 b2
  go_upto_region 2 with fail
  obtain ⟨X, hX⟩ : ∃ X, (w1.alloc (.cells #[.bool pb, .slice pa pn pc] 51)).alloc (.cells #[.bool qb, .slice qa qn qc] 51) = X := ⟨_, rfl⟩
  obtain ⟨hcx, hcy, hb2⟩ := ncell2 w1 _ _ pb pa pn pc qb qa qn qc X hX
  rw [hX]
  have hgx : w.heap.size + 1 + 1 < w1.heap.size := HI.out.r.lt
  obtain ⟨gy, hgy⟩ : ∃ g, w1.heap.size + 1 = g := ⟨_, rfl⟩
  rw [hgy] at hcy ⊢
  have hgy2 : w.heap.size + 1 + 1 < gy := by omega
  have HCX := Lib.hid hcx; have HCY := Lib.hid hcy
  replace HI := Lib.hid (HI.out.below hb2)
  replace HNX := Lib.hid (fun z hz => (HNX.out z hz).below hb2)
  replace HNY := Lib.hid (fun z hz => (HNY.out z hz).below hb2)
  clear hcx hcy hb2 hX hgy
  generalize w1.heap.size = gx at *
  cases p with
  | false =>
    have e : R = (Vl.zero, 31) := by rw [← HR.out]; exact ropR_none (by rw [HNA.out, HNB.out]; exact HP.out)
    subst e
    have c0 := HI.out.r.c0; have c1 := HI.out.r.c1; have c2 := HI.out.r.c2
    have f0 := HI.out.r.f0; have f1 := HI.out.r.f1; have f2 := HI.out.r.f2
    go_wp2_with fail
    refine bodyPost_ret (v := .tuple #[vE 0 0 [], .int .i64 31]) (by simp [results, Tryz.results36, go_sem, vE, *]) rfl ?_
    exact ⟨rfl, below_put3 HI.out.bel (by omega) _ _ _⟩
  | true =>
    obtain ⟨x, rfl⟩ : ∃ x, na = some x := by
      cases na with
      | none => exact absurd HP.out (by simp)
      | some x => exact ⟨x, rfl⟩
    obtain ⟨y, rfl⟩ : ∃ y, nb = some y := by
      cases nb with
      | none => exact absurd HP.out (by simp)
      | some y => exact ⟨y, rfl⟩
    have LA : Hid ((Ten.dig x.natAbs).length ≤ 400) := Lib.hid (ten_len (HLA.out x rfl))
    have LB : Hid ((Ten.dig y.natAbs).length ≤ 400) := Lib.hid (ten_len (HLB.out y rfl))
    have HRE : Hid (mulF x y = R) := Lib.hid (by rw [← HR.out]; exact (ropR_some HNA.out HNB.out).symm)
    replace HNX := Lib.hid (HNX.out x rfl)
    replace HNY := Lib.hid (HNY.out y rfl)
    have x0 := HCX.out.x0; have x1 := HCX.out.x1; have y0 := HCY.out.x0; have y1 := HCY.out.x1
    clear HLA HLB HP HNA HNB HR
    obtain ⟨⟨rk, rn, rt⟩, re⟩ := R
    have HVE : Hid (pr (limZ (x * y)) = .tuple #[.agg #[.int .i64 rk, .int .i64 rn, .string ⟨rt.toArray⟩], .int .i64 re]) := Lib.hid (by have h := HRE.out; unfold mulF at h; rw [h]; rfl)
    have DR := Lib.hid ((Below.refl X.heap.size X).drew)
    have hne := HI.out.r.lt
    have e1 : ¬ gx = w.heap.size + 1 + 1 := by omega
    have e2 : ¬ w.heap.size + 1 + 1 = gx := by omega
    have e3 : ¬ gy = w.heap.size + 1 + 1 := by omega
    have e4 : ¬ w.heap.size + 1 + 1 = gy := by omega
    clear HRE
    have hpx : pb = decide (x < 0) := by obtain ⟨s, e, _⟩ := HNX.out; cases e; rfl
    have hqy : qb = decide (y < 0) := by obtain ⟨s, e, _⟩ := HNY.out; cases e; rfl
    have HX : Hid (RT X (.slice pa pn pc) x.natAbs) := Lib.hid (by obtain ⟨s, e, h⟩ := HNX.out; cases e; exact h)
    have HY : Hid (RT X (.slice qa qn qc) y.natAbs) := Lib.hid (by obtain ⟨s, e, h⟩ := HNY.out; cases e; exact h)
    have HZ : Hid ((if (!pb == qb) = true then -((x.natAbs * y.natAbs : Nat) : Int) else ((x.natAbs * y.natAbs : Nat) : Int)) = x * y) := Lib.hid (by rw [hpx, hqy]; have h := mul_signs (x := x) (y := y) rfl rfl; rw [← h]; cases decide (x < 0) <;> cases decide (y < 0) <;> rfl)
    clear hpx hqy
    go_wp2_with fail
    go_region_held3 (fun w' => w'.cell? ⟨gx, 0, none⟩ = some (.bool pb) ∧ w'.cell? ⟨gx, 1, none⟩ = some (.slice pa pn pc) ∧ w'.cell? ⟨gy, 0, none⟩ = some (.bool qb) ∧ w'.cell? ⟨gy, 1, none⟩ = some (.slice qa qn qc))
      (first | go_keep | (go_split_ands; exact ⟨cell_on hb5 x0, cell_on hb5 x1, cell_on hb5 y0, cell_on hb5 y1⟩) | (go_split_ands; exact ⟨cell_on hb6 x0, cell_on hb6 x1, cell_on hb6 y0, cell_on hb6 y1⟩) | (go_split_ands; exact ⟨cell_on hb9 x0, cell_on hb9 x1, cell_on hb9 y0, cell_on hb9 y1⟩))
      (first | (go_at_call 59; refine (r_times _ _ x.natAbs y.natAbs _ (HX.out.below DR.out) (HY.out.below DR.out) (by have := LA.out; omega) (by have := LB.out; omega)).mono ?_; rintro e w5 ⟨v5, rfl, hn5, hb5'⟩; have hb5 := below_then DR.out hb5'; have HB5 := Lib.hid hb5; have HN5 := Lib.hid hn5; obtain ⟨a5, c5, rfl, hq5⟩ := hn5.form; clear hb5' hn5 hq5)
             | (go_at_call 58; refine (r_signed _ _ _ _ HN5.out).mono ?_; rw [HZ.out]; rintro e w6 ⟨v6, rfl, hn6, hb6'⟩; have hb6 := below_then HB5.out hb6'; have HB6 := Lib.hid hb6; have HN6 := Lib.hid hn6; obtain ⟨b6, a6, n6, c6, rfl⟩ := hn6.form; clear hb6' hn6)
             | (go_at_call 49; refine (r_value _ (x * y) _ HN6.out).mono ?_; rw [HVE.out]; rintro e w9 ⟨rfl, hb9'⟩; have hb9 := below_then HB6.out hb9'; have HB9 := Lib.hid hb9; have c0 := (HI.out.below hb9).r.c0; have c1 := (HI.out.below hb9).r.c1; have c2 := (HI.out.below hb9).r.c2; have f0 := (HI.out.below hb9).r.f0; have f1 := (HI.out.below hb9).r.f1; have f2 := (HI.out.below hb9).r.f2; clear hb9'))
    go_wp2_with fail
    refine bodyPost_ret (v := .tuple #[vE rk rn rt, .int .i64 re]) (by simp [results, Tryz.results36, go_sem, vE, *]) rfl ?_
    exact ⟨rfl, below_put3 (HI.out.below HB9.out).bel (by omega) _ _ _⟩

set_option maxRecDepth 100000 in
set_option maxHeartbeats 4000000 in
theorem r_Div (a b : Vl) (ha : a.ok) (hb : b.ok) (w : World) : Ans Tryz.prog 18 #[a.val, b.val] w (pr (divR a b)) := by
  have HC : Hid (∀ W, Calls Tryz.prog 47 #[a.val, b.val] W fun e w' => ∃ v v', e = .returned (.tuple #[v, v', .bool (a.num.isSome && b.num.isSome)]) ∧ FormN v ∧ FormN v' ∧ (∀ z, a.num = some z → NH w' v z) ∧ (∀ z, b.num = some z → NH w' v' z) ∧ Below W.heap.size W w') := Lib.hid (r_both a b ha hb)
  have HLA : Hid (∀ z, a.num = some z → nDigits z.natAbs ≤ 400) := Lib.hid (fun z hz => (vl_of_num ha hz).2)
  have HLB : Hid (∀ z, b.num = some z → nDigits z.natAbs ≤ 400) := Lib.hid (fun z hz => (vl_of_num hb hz).2)
  clear ha hb
  obtain ⟨R, hR⟩ : ∃ R, divR a b = R := ⟨_, rfl⟩
  have HR := Lib.hid hR
  rw [hR]
  clear hR
  obtain ⟨W, hW⟩ : ∃ W, ((w.alloc (.cells #[.int .i64 a.k, .int .i64 a.n, .string ⟨a.t.toArray⟩] 23)).alloc (.cells #[.int .i64 b.k, .int .i64 b.n, .string ⟨b.t.toArray⟩] 23)).alloc (.cells #[.int .i64 0, .int .i64 0, .string ⟨#[]⟩] 23) = W := ⟨_, rfl⟩
  have HI := Lib.hid (pairIn_new w a b _ _ _ W hW)
  obtain ⟨na, hna⟩ : ∃ na, a.num = na := ⟨_, rfl⟩
  obtain ⟨nb, hnb⟩ : ∃ nb, b.num = nb := ⟨_, rfl⟩
  rw [hna, hnb] at HC
  rw [hna] at HLA
  rw [hnb] at HLB
  have HNA := Lib.hid hna; have HNB := Lib.hid hnb
  clear hna hnb
  obtain ⟨p, hp⟩ : ∃ p, (na.isSome && nb.isSome) = p := ⟨_, rfl⟩
  rw [hp] at HC
  have HP := Lib.hid hp
  clear hp
  have a0 := HI.out.a0; have a1 := HI.out.a1; have a2 := HI.out.a2; have b0 := HI.out.b0; have b1 := HI.out.b1; have b2 := HI.out.b2
  obtain ⟨ak, an, at'⟩ := a
  obtain ⟨bk, bn, bt⟩ := b
  simp only [Vl.val] at HC hW ⊢
  simp only at a0 a1 a2 b0 b1 b2
  go_enter Tryz.func18, Tryz.ntmps18
  go_upto_region 1 with fail
  clear hW
  go_wp2_with fail
  refine (HC.out _).mono ?_
  rintro e w1 ⟨v, v', rfl, ⟨pb, pa, pn, pc, rfl⟩, ⟨qb, qa, qn, qc, rfl⟩, hnx, hny, hb1⟩
  have HNX := Lib.hid hnx; have HNY := Lib.hid hny
  replace HI := Lib.hid (HI.out.below hb1)
  clear hnx hny hb1 a0 a1 a2 b0 b1 b2
  go_upto_region 2 with fail
  obtain ⟨X, hX⟩ : ∃ X, (w1.alloc (.cells #[.bool pb, .slice pa pn pc] 51)).alloc (.cells #[.bool qb, .slice qa qn qc] 51) = X := ⟨_, rfl⟩
  obtain ⟨hcx, hcy, hb2⟩ := ncell2 w1 _ _ pb pa pn pc qb qa qn qc X hX
  rw [hX]
  have hgx : w.heap.size + 1 + 1 < w1.heap.size := HI.out.r.lt
  obtain ⟨gy, hgy⟩ : ∃ g, w1.heap.size + 1 = g := ⟨_, rfl⟩
  rw [hgy] at hcy ⊢
  have hgy2 : w.heap.size + 1 + 1 < gy := by omega
  have HCX := Lib.hid hcx; have HCY := Lib.hid hcy
  replace HI := Lib.hid (HI.out.below hb2)
  replace HNX := Lib.hid (fun z hz => (HNX.out z hz).below hb2)
  replace HNY := Lib.hid (fun z hz => (HNY.out z hz).below hb2)
  clear hcx hcy hb2 hX hgy
  generalize w1.heap.size = gx at *
  cases p with
  | false =>
    have e : R = (Vl.zero, 31) := by rw [← HR.out]; exact ropR_none (by rw [HNA.out, HNB.out]; exact HP.out)
    subst e
    have c0 := HI.out.r.c0; have c1 := HI.out.r.c1; have c2 := HI.out.r.c2
    have f0 := HI.out.r.f0; have f1 := HI.out.r.f1; have f2 := HI.out.r.f2
    go_wp2_with fail
    refine bodyPost_ret (v := .tuple #[vE 0 0 [], .int .i64 31]) (by simp [results, Tryz.results18, go_sem, vE, *]) rfl ?_
    exact ⟨rfl, below_put3 HI.out.bel (by omega) _ _ _⟩
  | true =>
    obtain ⟨x, rfl⟩ : ∃ x, na = some x := by
      cases na with
      | none => exact absurd HP.out (by simp)
      | some x => exact ⟨x, rfl⟩
    obtain ⟨y, rfl⟩ : ∃ y, nb = some y := by
      cases nb with
      | none => exact absurd HP.out (by simp)
      | some y => exact ⟨y, rfl⟩
    have LA : Hid ((Ten.dig x.natAbs).length ≤ 400) := Lib.hid (ten_len (HLA.out x rfl))
    have LB : Hid ((Ten.dig y.natAbs).length ≤ 400) := Lib.hid (ten_len (HLB.out y rfl))
    have HRE : Hid (divF x y = R) := Lib.hid (by rw [← HR.out]; exact (ropR_some HNA.out HNB.out).symm)
    replace HNX := Lib.hid (HNX.out x rfl)
    replace HNY := Lib.hid (HNY.out y rfl)
    have x0 := HCX.out.x0; have x1 := HCX.out.x1; have y0 := HCY.out.x0; have y1 := HCY.out.x1
    clear HLA HLB HP HNA HNB HR
    by_cases hy0 : y = 0
    · have e : R = (Vl.zero, 30) := by rw [← HRE.out]; unfold divF; rw [if_pos hy0]
      subst e
      subst hy0
      have HY : Hid (RT X (.slice qa qn qc) (Int.natAbs 0)) := Lib.hid (by obtain ⟨s, e, h⟩ := HNY.out; cases e; exact h)
      obtain ⟨qa', qc', e, _⟩ := HY.out.form
      cases e
      have hz : (Ten.dig (Int.natAbs 0)).length = 0 := by decide +kernel
      rw [hz] at y1 ⊢
      have c0 := HI.out.r.c0; have c1 := HI.out.r.c1; have c2 := HI.out.r.c2
      have f0 := HI.out.r.f0; have f1 := HI.out.r.f1; have f2 := HI.out.r.f2
      clear hz
      go_wp2_with fail
      refine bodyPost_ret (v := .tuple #[vE 0 0 [], .int .i64 30]) (by simp [results, Tryz.results18, go_sem, vE, *]) rfl ?_
      exact ⟨rfl, below_put3 HI.out.bel (by omega) _ _ _⟩
    · have HY0 := Lib.hid hy0
      have HVE : Hid (limZ (x.fdiv y) = R) := Lib.hid (by rw [← HRE.out]; unfold divF; rw [if_neg hy0])
      have HY : Hid (RT X (.slice qa qn qc) y.natAbs) := Lib.hid (by obtain ⟨s, e, h⟩ := HNY.out; cases e; exact h)
      have hqn : qn ≠ 0 := by
        obtain ⟨qa', qc', e, _⟩ := HY.out.form
        cases e
        intro h0
        exact hy0 (by have := Ten.dig_eq_nil.1 (List.eq_nil_of_length_eq_zero h0); omega)
      have q0 : (qn == 0) = false := by simp [hqn]
      have q0i : ((qn : Int) == 0) = false := by simp [hqn]
      clear hy0 HRE
      go_wp2_with fail
      refine (r_floor _ _ x y _ HNX.out HNY.out LA.out LB.out HY0.out).mono ?_
      rintro e w4 ⟨v4, v5, rfl, hn4, hn5, hb4⟩
      have HN4 := Lib.hid hn4
      have HN5 := Lib.hid hn5
      replace HI := Lib.hid (HI.out.below hb4)
      obtain ⟨b4, a4, n4, c4, rfl⟩ := hn4.form
      obtain ⟨b5, a5, n5, c5, rfl⟩ := hn5.form
      clear hn4 hn5 hb4 x0 x1 y0 y1
      go_upto_region 7 with fail
      obtain ⟨Y, hY⟩ : ∃ Y, (w4.alloc (.cells #[.bool b4, .slice a4 n4 c4] 51)).alloc (.cells #[.bool b5, .slice a5 n5 c5] 51) = Y := ⟨_, rfl⟩
      obtain ⟨hcx, hcy, hb2⟩ := ncell2 w4 _ _ b4 a4 n4 c4 b5 a5 n5 c5 Y hY
      rw [hY]
      have x0 := hcx.x0; have x1 := hcx.x1; have y0 := hcy.x0; have y1 := hcy.x1
      replace HI := Lib.hid (HI.out.below hb2)
      replace HN4 := Lib.hid (HN4.out.below hb2)
      replace HN5 := Lib.hid (HN5.out.below hb2)
      clear hcx hcy hb2 hY
      go_wp2_with fail
      refine (r_value _ _ _ HN4.out).mono ?_
      rintro e w9 ⟨rfl, hb9⟩
      replace HI := Lib.hid (HI.out.below hb9)
      rw [HVE.out]
      obtain ⟨⟨rk, rn, rt⟩, re⟩ := R
      simp only [pr, Vl.val]
      have c0 := HI.out.r.c0; have c1 := HI.out.r.c1; have c2 := HI.out.r.c2
      have f0 := HI.out.r.f0; have f1 := HI.out.r.f1; have f2 := HI.out.r.f2
      clear hb9
      go_wp2_with fail
      refine bodyPost_ret (v := .tuple #[vE rk rn rt, .int .i64 re]) (by simp [results, Tryz.results18, go_sem, vE, *]) rfl ?_
      exact ⟨rfl, below_put3 HI.out.bel (by omega) _ _ _⟩

set_option maxRecDepth 100000 in
set_option maxHeartbeats 4000000 in
theorem r_Mod (a b : Vl) (ha : a.ok) (hb : b.ok) (w : World) : Ans Tryz.prog 20 #[a.val, b.val] w (pr (modR a b)) := by
  have HC : Hid (∀ W, Calls Tryz.prog 47 #[a.val, b.val] W fun e w' => ∃ v v', e = .returned (.tuple #[v, v', .bool (a.num.isSome && b.num.isSome)]) ∧ FormN v ∧ FormN v' ∧ (∀ z, a.num = some z → NH w' v z) ∧ (∀ z, b.num = some z → NH w' v' z) ∧ Below W.heap.size W w') := Lib.hid (r_both a b ha hb)
  have HLA : Hid (∀ z, a.num = some z → nDigits z.natAbs ≤ 400) := Lib.hid (fun z hz => (vl_of_num ha hz).2)
  have HLB : Hid (∀ z, b.num = some z → nDigits z.natAbs ≤ 400) := Lib.hid (fun z hz => (vl_of_num hb hz).2)
  clear ha hb
  obtain ⟨R, hR⟩ : ∃ R, modR a b = R := ⟨_, rfl⟩
  have HR := Lib.hid hR
  rw [hR]
  clear hR
  obtain ⟨W, hW⟩ : ∃ W, ((w.alloc (.cells #[.int .i64 a.k, .int .i64 a.n, .string ⟨a.t.toArray⟩] 23)).alloc (.cells #[.int .i64 b.k, .int .i64 b.n, .string ⟨b.t.toArray⟩] 23)).alloc (.cells #[.int .i64 0, .int .i64 0, .string ⟨#[]⟩] 23) = W := ⟨_, rfl⟩
  have HI := Lib.hid (pairIn_new w a b _ _ _ W hW)
  obtain ⟨na, hna⟩ : ∃ na, a.num = na := ⟨_, rfl⟩
  obtain ⟨nb, hnb⟩ : ∃ nb, b.num = nb := ⟨_, rfl⟩
  rw [hna, hnb] at HC
  rw [hna] at HLA
  rw [hnb] at HLB
  have HNA := Lib.hid hna; have HNB := Lib.hid hnb
  clear hna hnb
  obtain ⟨p, hp⟩ : ∃ p, (na.isSome && nb.isSome) = p := ⟨_, rfl⟩
  rw [hp] at HC
  have HP := Lib.hid hp
  clear hp
  have a0 := HI.out.a0; have a1 := HI.out.a1; have a2 := HI.out.a2; have b0 := HI.out.b0; have b1 := HI.out.b1; have b2 := HI.out.b2
  obtain ⟨ak, an, at'⟩ := a
  obtain ⟨bk, bn, bt⟩ := b
  simp only [Vl.val] at HC hW ⊢
  simp only at a0 a1 a2 b0 b1 b2
  go_enter Tryz.func20, Tryz.ntmps20
  go_upto_region 1 with fail
  clear hW
  go_wp2_with fail
  refine (HC.out _).mono ?_
  rintro e w1 ⟨v, v', rfl, ⟨pb, pa, pn, pc, rfl⟩, ⟨qb, qa, qn, qc, rfl⟩, hnx, hny, hb1⟩
  have HNX := Lib.hid hnx; have HNY := Lib.hid hny
  replace HI := Lib.hid (HI.out.below hb1)
  clear hnx hny hb1 a0 a1 a2 b0 b1 b2
  go_upto_region 2 with fail
  obtain ⟨X, hX⟩ : ∃ X, (w1.alloc (.cells #[.bool pb, .slice pa pn pc] 51)).alloc (.cells #[.bool qb, .slice qa qn qc] 51) = X := ⟨_, rfl⟩
  obtain ⟨hcx, hcy, hb2⟩ := ncell2 w1 _ _ pb pa pn pc qb qa qn qc X hX
  rw [hX]
  have hgx : w.heap.size + 1 + 1 < w1.heap.size := HI.out.r.lt
  obtain ⟨gy, hgy⟩ : ∃ g, w1.heap.size + 1 = g := ⟨_, rfl⟩
  rw [hgy] at hcy ⊢
  have hgy2 : w.heap.size + 1 + 1 < gy := by omega
  have HCX := Lib.hid hcx; have HCY := Lib.hid hcy
  replace HI := Lib.hid (HI.out.below hb2)
  replace HNX := Lib.hid (fun z hz => (HNX.out z hz).below hb2)
  replace HNY := Lib.hid (fun z hz => (HNY.out z hz).below hb2)
  clear hcx hcy hb2 hX hgy
  generalize w1.heap.size = gx at *
  cases p with
  | false =>
    have e : R = (Vl.zero, 31) := by rw [← HR.out]; exact ropR_none (by rw [HNA.out, HNB.out]; exact HP.out)
    subst e
    have c0 := HI.out.r.c0; have c1 := HI.out.r.c1; have c2 := HI.out.r.c2
    have f0 := HI.out.r.f0; have f1 := HI.out.r.f1; have f2 := HI.out.r.f2
    go_wp2_with fail
    refine bodyPost_ret (v := .tuple #[vE 0 0 [], .int .i64 31]) (by simp [results, Tryz.results20, go_sem, vE, *]) rfl ?_
    exact ⟨rfl, below_put3 HI.out.bel (by omega) _ _ _⟩
  | true =>
    obtain ⟨x, rfl⟩ : ∃ x, na = some x := by
      cases na with
      | none => exact absurd HP.out (by simp)
      | some x => exact ⟨x, rfl⟩
    obtain ⟨y, rfl⟩ : ∃ y, nb = some y := by
      cases nb with
      | none => exact absurd HP.out (by simp)
      | some y => exact ⟨y, rfl⟩
    have LA : Hid ((Ten.dig x.natAbs).length ≤ 400) := Lib.hid (ten_len (HLA.out x rfl))
    have LB : Hid ((Ten.dig y.natAbs).length ≤ 400) := Lib.hid (ten_len (HLB.out y rfl))
    have HRE : Hid (modF x y = R) := Lib.hid (by rw [← HR.out]; exact (ropR_some HNA.out HNB.out).symm)
    replace HNX := Lib.hid (HNX.out x rfl)
    replace HNY := Lib.hid (HNY.out y rfl)
    have x0 := HCX.out.x0; have x1 := HCX.out.x1; have y0 := HCY.out.x0; have y1 := HCY.out.x1
    clear HLA HLB HP HNA HNB HR
    by_cases hy0 : y = 0
    · have e : R = (Vl.zero, 30) := by rw [← HRE.out]; unfold modF; rw [if_pos hy0]
      subst e
      subst hy0
      have HY : Hid (RT X (.slice qa qn qc) (Int.natAbs 0)) := Lib.hid (by obtain ⟨s, e, h⟩ := HNY.out; cases e; exact h)
      obtain ⟨qa', qc', e, _⟩ := HY.out.form
      cases e
      have hz : (Ten.dig (Int.natAbs 0)).length = 0 := by decide +kernel
      rw [hz] at y1 ⊢
      have c0 := HI.out.r.c0; have c1 := HI.out.r.c1; have c2 := HI.out.r.c2
      have f0 := HI.out.r.f0; have f1 := HI.out.r.f1; have f2 := HI.out.r.f2
      clear hz
      go_wp2_with fail
      refine bodyPost_ret (v := .tuple #[vE 0 0 [], .int .i64 30]) (by simp [results, Tryz.results20, go_sem, vE, *]) rfl ?_
      exact ⟨rfl, below_put3 HI.out.bel (by omega) _ _ _⟩
    · have HY0 := Lib.hid hy0
      have HVE : Hid (limZ (x.fmod y) = R) := Lib.hid (by rw [← HRE.out]; unfold modF; rw [if_neg hy0])
      have HY : Hid (RT X (.slice qa qn qc) y.natAbs) := Lib.hid (by obtain ⟨s, e, h⟩ := HNY.out; cases e; exact h)
      have hqn : qn ≠ 0 := by
        obtain ⟨qa', qc', e, _⟩ := HY.out.form
        cases e
        intro h0
        exact hy0 (by have := Ten.dig_eq_nil.1 (List.eq_nil_of_length_eq_zero h0); omega)
      have q0 : (qn == 0) = false := by simp [hqn]
      have q0i : ((qn : Int) == 0) = false := by simp [hqn]
      clear hy0 HRE
      go_wp2_with fail
      refine (r_floor _ _ x y _ HNX.out HNY.out LA.out LB.out HY0.out).mono ?_
      rintro e w4 ⟨v4, v5, rfl, hn4, hn5, hb4⟩
      have HN4 := Lib.hid hn4
      have HN5 := Lib.hid hn5
      replace HI := Lib.hid (HI.out.below hb4)
      obtain ⟨b4, a4, n4, c4, rfl⟩ := hn4.form
      obtain ⟨b5, a5, n5, c5, rfl⟩ := hn5.form
      clear hn4 hn5 hb4 x0 x1 y0 y1
      go_upto_region 7 with fail
      obtain ⟨Y, hY⟩ : ∃ Y, (w4.alloc (.cells #[.bool b4, .slice a4 n4 c4] 51)).alloc (.cells #[.bool b5, .slice a5 n5 c5] 51) = Y := ⟨_, rfl⟩
      obtain ⟨hcx, hcy, hb2⟩ := ncell2 w4 _ _ b4 a4 n4 c4 b5 a5 n5 c5 Y hY
      rw [hY]
      have x0 := hcx.x0; have x1 := hcx.x1; have y0 := hcy.x0; have y1 := hcy.x1
      replace HI := Lib.hid (HI.out.below hb2)
      replace HN4 := Lib.hid (HN4.out.below hb2)
      replace HN5 := Lib.hid (HN5.out.below hb2)
      clear hcx hcy hb2 hY
      go_wp2_with fail
      refine (r_value _ _ _ HN5.out).mono ?_
      rintro e w9 ⟨rfl, hb9⟩
      replace HI := Lib.hid (HI.out.below hb9)
      rw [HVE.out]
      obtain ⟨⟨rk, rn, rt⟩, re⟩ := R
      simp only [pr, Vl.val]
      have c0 := HI.out.r.c0; have c1 := HI.out.r.c1; have c2 := HI.out.r.c2
      have f0 := HI.out.r.f0; have f1 := HI.out.r.f1; have f2 := HI.out.r.f2
      clear hb9
      go_wp2_with fail
      refine bodyPost_ret (v := .tuple #[vE rk rn rt, .int .i64 re]) (by simp [results, Tryz.results20, go_sem, vE, *]) rfl ?_
      exact ⟨rfl, below_put3 HI.out.bel (by omega) _ _ _⟩
end Go.Proofs.YthjpbbbmnmhmmaaGreatDoor

namespace Go.Proofs.YthjpbbbmnmhmmaaGreatDoor
open Go.RowKit Go.Shelf Go.Lib

set_option maxRecDepth 100000 in
set_option maxHeartbeats 4000000 in
theorem r_Less (a b : Vl) (ha : a.ok) (hb : b.ok) (w : World) : Ans Tryz.prog 38 #[a.val, b.val] w (.tuple #[.bool (lessR a b).1, .int .i64 (lessR a b).2]) := by
  have HC : Hid (∀ W, Calls Tryz.prog 47 #[a.val, b.val] W fun e w' => ∃ v v', e = .returned (.tuple #[v, v', .bool (a.num.isSome && b.num.isSome)]) ∧ FormN v ∧ FormN v' ∧ (∀ z, a.num = some z → NH w' v z) ∧ (∀ z, b.num = some z → NH w' v' z) ∧ Below W.heap.size W w') := Lib.hid (r_both a b ha hb)
  clear ha hb
  obtain ⟨R, hR⟩ : ∃ R, lessR a b = R := ⟨_, rfl⟩
  have HR := Lib.hid hR
  rw [hR]
  clear hR
  obtain ⟨W0, hW0⟩ : ∃ W0, w.alloc (.cells #[.int .i64 a.k, .int .i64 a.n, .string ⟨a.t.toArray⟩] 23) = W0 := ⟨_, rfl⟩
  have hs0 : W0.heap.size = w.heap.size + 1 := by rw [← hW0]; simp
  obtain ⟨W, hW⟩ : ∃ W, W0.alloc (.cells #[.int .i64 b.k, .int .i64 b.n, .string ⟨b.t.toArray⟩] 23) = W := ⟨_, rfl⟩
  have hbw : Below w.heap.size w W := by rw [← hW, ← hW0]; exact ((Below.refl _ w).alloc (Nat.le_refl _) _).alloc (by simp) _
  have hb0 : Below W0.heap.size W0 W := by rw [← hW]; exact (Below.refl _ _).alloc (Nat.le_refl _) _
  have a0 : W.cell? ⟨w.heap.size, 0, none⟩ = some (.int .i64 a.k) := cell_on hb0 (by rw [← hW0]; exact cell_in _ _ _ 0 rfl)
  have a1 : W.cell? ⟨w.heap.size, 1, none⟩ = some (.int .i64 a.n) := cell_on hb0 (by rw [← hW0]; exact cell_in _ _ _ 1 rfl)
  have a2 : W.cell? ⟨w.heap.size, 2, none⟩ = some (.string ⟨a.t.toArray⟩) := cell_on hb0 (by rw [← hW0]; exact cell_in _ _ _ 2 rfl)
  have b0 : W.cell? ⟨W0.heap.size, 0, none⟩ = some (.int .i64 b.k) := by rw [← hW]; exact cell_in _ _ _ 0 rfl
  have b1 : W.cell? ⟨W0.heap.size, 1, none⟩ = some (.int .i64 b.n) := by rw [← hW]; exact cell_in _ _ _ 1 rfl
  have b2 : W.cell? ⟨W0.heap.size, 2, none⟩ = some (.string ⟨b.t.toArray⟩) := by rw [← hW]; exact cell_in _ _ _ 2 rfl
  have HBW := Lib.hid hbw
  obtain ⟨na, hna⟩ : ∃ na, a.num = na := ⟨_, rfl⟩
  obtain ⟨nb, hnb⟩ : ∃ nb, b.num = nb := ⟨_, rfl⟩
  rw [hna, hnb] at HC
  have HNA := Lib.hid hna; have HNB := Lib.hid hnb
  clear hna hnb hb0 hbw hs0
  obtain ⟨p, hp⟩ : ∃ p, (na.isSome && nb.isSome) = p := ⟨_, rfl⟩
  rw [hp] at HC
  have HP := Lib.hid hp
  clear hp
  obtain ⟨ak, an, at'⟩ := a
  obtain ⟨bk, bn, bt⟩ := b
  simp only [Vl.val] at HC ⊢
  simp only at a0 a1 a2 b0 b1 b2 hW hW0
  go_enter Tryz.func38, Tryz.ntmps38
  go_upto_region 1 with fail
  clear hW hW0
  go_wp2_with fail
  refine (HC.out _).mono ?_
  rintro e w1 ⟨v, v', rfl, ⟨pb, pa, pn, pc, rfl⟩, ⟨qb, qa, qn, qc, rfl⟩, hnx, hny, hb1⟩
  have HNX := Lib.hid hnx; have HNY := Lib.hid hny
  replace HBW := Lib.hid (below_then HBW.out hb1)
  clear hnx hny hb1 a0 a1 a2 b0 b1 b2
  go_upto_region 2 with fail
  obtain ⟨X, hX⟩ : ∃ X, (w1.alloc (.cells #[.bool pb, .slice pa pn pc] 51)).alloc (.cells #[.bool qb, .slice qa qn qc] 51) = X := ⟨_, rfl⟩
  obtain ⟨hcx, hcy, hb2⟩ := ncell2 w1 _ _ pb pa pn pc qb qa qn qc X hX
  rw [hX]
  replace HBW := Lib.hid (below_then HBW.out hb2)
  replace HNX := Lib.hid (fun z hz => (HNX.out z hz).below hb2)
  replace HNY := Lib.hid (fun z hz => (HNY.out z hz).below hb2)
  have x0 := hcx.x0; have x1 := hcx.x1; have y0 := hcy.x0; have y1 := hcy.x1
  clear hcx hcy hb2 hX
  cases p with
  | false =>
    have e : R = (false, 31) := by
      rw [← HR.out]
      unfold lessR
      rw [HNA.out, HNB.out]
      have h := HP.out
      cases na with
      | none => rfl
      | some x =>
        cases nb with
        | none => rfl
        | some y => cases h
    subst e
    go_wp2_with fail
    refine bodyPost_ret (v := .tuple #[.bool false, .int .i64 31]) (by simp [results, Tryz.results38, go_sem, *]) rfl ?_
    exact ⟨rfl, HBW.out⟩
  | true =>
    obtain ⟨x, rfl⟩ : ∃ x, na = some x := by
      cases na with
      | none => exact absurd HP.out (by simp)
      | some x => exact ⟨x, rfl⟩
    obtain ⟨y, rfl⟩ : ∃ y, nb = some y := by
      cases nb with
      | none => exact absurd HP.out (by simp)
      | some y => exact ⟨y, rfl⟩
    have e : R = (decide (x < y), 0) := by
      rw [← HR.out]
      unfold lessR
      rw [HNA.out, HNB.out]
    subst e
    go_wp2_with fail
    refine (r_below _ _ x y _ (HNX.out x rfl) (HNY.out y rfl)).mono ?_
    rintro e w4 ⟨rfl, hb4⟩
    replace HBW := Lib.hid (below_then HBW.out hb4)
    clear hb4 x0 x1 y0 y1
    go_wp2_with fail
    refine bodyPost_ret (v := .tuple #[.bool (decide (x < y)), .int .i64 0]) (by simp [results, Tryz.results38, go_sem, *]) rfl ?_
    exact ⟨rfl, HBW.out⟩

set_option maxRecDepth 100000 in
set_option maxHeartbeats 4000000 in
theorem r_Check (a : Vl) (ha : a.ok) (w : World) : Ans Tryz.prog 45 #[a.val] w (.int .i64 (checkR a)) := by
  have HC : Hid (∀ W, Calls Tryz.prog 56 #[a.val] W fun e w' => ∃ v, e = .returned (.tuple #[v, .bool a.num.isSome]) ∧ FormN v ∧ (∀ z, a.num = some z → NH w' v z) ∧ Below W.heap.size W w') := Lib.hid (r_of a ha)
  have HLA : Hid (∀ z, a.num = some z → nDigits z.natAbs ≤ 400) := Lib.hid (fun z hz => (vl_of_num ha hz).2)
  clear ha
  obtain ⟨R, hR⟩ : ∃ R, checkR a = R := ⟨_, rfl⟩
  have HR := Lib.hid hR
  rw [hR]
  clear hR
  obtain ⟨W, hW⟩ : ∃ W, w.alloc (.cells #[.int .i64 a.k, .int .i64 a.n, .string ⟨a.t.toArray⟩] 23) = W := ⟨_, rfl⟩
  have hbw : Below w.heap.size w W := by rw [← hW]; exact (Below.refl _ w).alloc (Nat.le_refl _) _
  have a0 : W.cell? ⟨w.heap.size, 0, none⟩ = some (.int .i64 a.k) := by rw [← hW]; exact cell_in _ _ _ 0 rfl
  have a1 : W.cell? ⟨w.heap.size, 1, none⟩ = some (.int .i64 a.n) := by rw [← hW]; exact cell_in _ _ _ 1 rfl
  have a2 : W.cell? ⟨w.heap.size, 2, none⟩ = some (.string ⟨a.t.toArray⟩) := by rw [← hW]; exact cell_in _ _ _ 2 rfl
  have HBW := Lib.hid hbw
  obtain ⟨na, hna⟩ : ∃ na, a.num = na := ⟨_, rfl⟩
  rw [hna] at HC HLA
  have HNA := Lib.hid hna
  clear hna hbw
  obtain ⟨ak, an, at'⟩ := a
  simp only [Vl.val] at HC ⊢
  simp only at a0 a1 a2 hW
  go_enter Tryz.func45, Tryz.ntmps45
  go_upto_region 1 with fail
  clear hW
  go_wp2_with fail
  refine (HC.out _).mono ?_
  rintro e w1 ⟨v, rfl, ⟨pb, pa, pn, pc, rfl⟩, hnx, hb1⟩
  have HNX := Lib.hid hnx
  replace HBW := Lib.hid (below_then HBW.out hb1)
  clear hnx hb1 a0 a1 a2
  go_upto_region 2 with fail
  obtain ⟨X, hX⟩ : ∃ X, w1.alloc (.cells #[.bool pb, .slice pa pn pc] 51) = X := ⟨_, rfl⟩
  obtain ⟨hcx, hb2, _⟩ := ncell_new w1 _ pb pa pn pc X hX
  rw [hX]
  replace HBW := Lib.hid (below_then HBW.out hb2)
  replace HNX := Lib.hid (fun z hz => (HNX.out z hz).below hb2)
  have x0 := hcx.x0; have x1 := hcx.x1
  clear hcx hb2 hX
  cases na with
  | none =>
    have e : R = 31 := by rw [← HR.out]; unfold checkR; rw [HNA.out]
    subst e
    simp only [Option.isSome_none]
    go_wp2_with fail
    refine bodyPost_ret (v := .int .i64 31) (by simp [results, Tryz.results45, go_sem, *]) rfl ?_
    exact ⟨rfl, HBW.out⟩
  | some x =>
    have e : R = 0 := by rw [← HR.out]; unfold checkR; rw [HNA.out]
    subst e
    replace HNX := Lib.hid (HNX.out x rfl)
    replace HLA := Lib.hid (HLA.out x rfl)
    simp only [Option.isSome_some]
    go_wp2_with fail
    refine bodyPost_ret (v := .int .i64 0) (by simp [results, Tryz.results45, go_sem, *]) rfl ?_
    exact ⟨rfl, HBW.out⟩
set_option maxRecDepth 100000 in
set_option maxHeartbeats 4000000 in
theorem r_Text (a : Vl) (ha : a.ok) (w : World) : Ans Tryz.prog 41 #[a.val] w (.tuple #[.string ⟨(textR a).1.toArray⟩, .int .i64 (textR a).2]) := by
  have HC : Hid (∀ W, Calls Tryz.prog 56 #[a.val] W fun e w' => ∃ v, e = .returned (.tuple #[v, .bool a.num.isSome]) ∧ FormN v ∧ (∀ z, a.num = some z → NH w' v z) ∧ Below W.heap.size W w') := Lib.hid (r_of a ha)
  have HLA : Hid (∀ z, a.num = some z → nDigits z.natAbs ≤ 400) := Lib.hid (fun z hz => (vl_of_num ha hz).2)
  clear ha
  obtain ⟨R, hR⟩ : ∃ R, textR a = R := ⟨_, rfl⟩
  have HR := Lib.hid hR
  rw [hR]
  clear hR
  obtain ⟨W, hW⟩ : ∃ W, w.alloc (.cells #[.int .i64 a.k, .int .i64 a.n, .string ⟨a.t.toArray⟩] 23) = W := ⟨_, rfl⟩
  have hbw : Below w.heap.size w W := by rw [← hW]; exact (Below.refl _ w).alloc (Nat.le_refl _) _
  have a0 : W.cell? ⟨w.heap.size, 0, none⟩ = some (.int .i64 a.k) := by rw [← hW]; exact cell_in _ _ _ 0 rfl
  have a1 : W.cell? ⟨w.heap.size, 1, none⟩ = some (.int .i64 a.n) := by rw [← hW]; exact cell_in _ _ _ 1 rfl
  have a2 : W.cell? ⟨w.heap.size, 2, none⟩ = some (.string ⟨a.t.toArray⟩) := by rw [← hW]; exact cell_in _ _ _ 2 rfl
  have HBW := Lib.hid hbw
  obtain ⟨na, hna⟩ : ∃ na, a.num = na := ⟨_, rfl⟩
  rw [hna] at HC HLA
  have HNA := Lib.hid hna
  clear hna hbw
  obtain ⟨ak, an, at'⟩ := a
  simp only [Vl.val] at HC ⊢
  simp only at a0 a1 a2 hW
  go_enter Tryz.func41, Tryz.ntmps41
  go_upto_region 1 with fail
  clear hW
  go_wp2_with fail
  refine (HC.out _).mono ?_
  rintro e w1 ⟨v, rfl, ⟨pb, pa, pn, pc, rfl⟩, hnx, hb1⟩
  have HNX := Lib.hid hnx
  replace HBW := Lib.hid (below_then HBW.out hb1)
  clear hnx hb1 a0 a1 a2
  go_upto_region 2 with fail
  obtain ⟨X, hX⟩ : ∃ X, w1.alloc (.cells #[.bool pb, .slice pa pn pc] 51) = X := ⟨_, rfl⟩
  obtain ⟨hcx, hb2, _⟩ := ncell_new w1 _ pb pa pn pc X hX
  rw [hX]
  replace HBW := Lib.hid (below_then HBW.out hb2)
  replace HNX := Lib.hid (fun z hz => (HNX.out z hz).below hb2)
  have x0 := hcx.x0; have x1 := hcx.x1
  clear hcx hb2 hX
  cases na with
  | none =>
    have e : R = ([], 31) := by rw [← HR.out]; unfold textR; rw [HNA.out]
    subst e
    simp only [Option.isSome_none]
    go_wp2_with fail
    refine bodyPost_ret (v := .tuple #[.string ⟨#[]⟩, .int .i64 31]) (by simp [results, Tryz.results41, go_sem, *]) rfl ?_
    exact ⟨rfl, HBW.out⟩
  | some x =>
    have e : R = (itoa x, 0) := by rw [← HR.out]; unfold textR; rw [HNA.out]
    subst e
    replace HNX := Lib.hid (HNX.out x rfl)
    replace HLA := Lib.hid (HLA.out x rfl)
    simp only [Option.isSome_some]
    go_wp2_with fail
    refine (r_text _ x _ HNX.out (Nat.le_trans (ten_len HLA.out) (by decide))).mono ?_
    rintro e w4 ⟨rfl, hb4⟩
    replace HBW := Lib.hid (below_then HBW.out hb4)
    clear hb4 x0 x1
    go_wp2_with fail
    refine bodyPost_ret (v := .tuple #[.string ⟨(itoa x).toArray⟩, .int .i64 0]) (by simp [results, Tryz.results41, go_sem, *]) rfl ?_
    exact ⟨rfl, HBW.out⟩
set_option maxRecDepth 100000 in
set_option maxHeartbeats 4000000 in
theorem r_Digits (a : Vl) (ha : a.ok) (w : World) : Ans Tryz.prog 43 #[a.val] w (.tuple #[.int .i64 (digitsR a).1, .int .i64 (digitsR a).2]) := by
  have HC : Hid (∀ W, Calls Tryz.prog 56 #[a.val] W fun e w' => ∃ v, e = .returned (.tuple #[v, .bool a.num.isSome]) ∧ FormN v ∧ (∀ z, a.num = some z → NH w' v z) ∧ Below W.heap.size W w') := Lib.hid (r_of a ha)
  have HLA : Hid (∀ z, a.num = some z → nDigits z.natAbs ≤ 400) := Lib.hid (fun z hz => (vl_of_num ha hz).2)
  clear ha
  obtain ⟨R, hR⟩ : ∃ R, digitsR a = R := ⟨_, rfl⟩
  have HR := Lib.hid hR
  rw [hR]
  clear hR
  obtain ⟨W, hW⟩ : ∃ W, w.alloc (.cells #[.int .i64 a.k, .int .i64 a.n, .string ⟨a.t.toArray⟩] 23) = W := ⟨_, rfl⟩
  have hbw : Below w.heap.size w W := by rw [← hW]; exact (Below.refl _ w).alloc (Nat.le_refl _) _
  have a0 : W.cell? ⟨w.heap.size, 0, none⟩ = some (.int .i64 a.k) := by rw [← hW]; exact cell_in _ _ _ 0 rfl
  have a1 : W.cell? ⟨w.heap.size, 1, none⟩ = some (.int .i64 a.n) := by rw [← hW]; exact cell_in _ _ _ 1 rfl
  have a2 : W.cell? ⟨w.heap.size, 2, none⟩ = some (.string ⟨a.t.toArray⟩) := by rw [← hW]; exact cell_in _ _ _ 2 rfl
  have HBW := Lib.hid hbw
  obtain ⟨na, hna⟩ : ∃ na, a.num = na := ⟨_, rfl⟩
  rw [hna] at HC HLA
  have HNA := Lib.hid hna
  clear hna hbw
  obtain ⟨ak, an, at'⟩ := a
  simp only [Vl.val] at HC ⊢
  simp only at a0 a1 a2 hW
  go_enter Tryz.func43, Tryz.ntmps43
  go_upto_region 1 with fail
  clear hW
  go_wp2_with fail
  refine (HC.out _).mono ?_
  rintro e w1 ⟨v, rfl, ⟨pb, pa, pn, pc, rfl⟩, hnx, hb1⟩
  have HNX := Lib.hid hnx
  replace HBW := Lib.hid (below_then HBW.out hb1)
  clear hnx hb1 a0 a1 a2
  go_upto_region 2 with fail
  obtain ⟨X, hX⟩ : ∃ X, w1.alloc (.cells #[.bool pb, .slice pa pn pc] 51) = X := ⟨_, rfl⟩
  obtain ⟨hcx, hb2, _⟩ := ncell_new w1 _ pb pa pn pc X hX
  rw [hX]
  replace HBW := Lib.hid (below_then HBW.out hb2)
  replace HNX := Lib.hid (fun z hz => (HNX.out z hz).below hb2)
  have x0 := hcx.x0; have x1 := hcx.x1
  clear hcx hb2 hX
  cases na with
  | none =>
    have e : R = (0, 31) := by rw [← HR.out]; unfold digitsR; rw [HNA.out]
    subst e
    simp only [Option.isSome_none]
    go_wp2_with fail
    refine bodyPost_ret (v := .tuple #[.int .i64 0, .int .i64 31]) (by simp [results, Tryz.results43, go_sem, *]) rfl ?_
    exact ⟨rfl, HBW.out⟩
  | some x =>
    have e : R = (((nDigits x.natAbs : Nat) : Int), 0) := by rw [← HR.out]; unfold digitsR; rw [HNA.out]
    subst e
    replace HNX := Lib.hid (HNX.out x rfl)
    replace HLA := Lib.hid (HLA.out x rfl)
    simp only [Option.isSome_some]
    have HL : Hid (pn = (Ten.dig x.natAbs).length) := Lib.hid (by obtain ⟨s, e, h⟩ := HNX.out; obtain ⟨a', c', e', _⟩ := h.form; cases e; cases e'; rfl)
    by_cases h0 : pn = 0
    · subst h0
      have e : nDigits x.natAbs = 1 := by
        have h1 := HL.out.symm
        rw [Ten.dig_len_nd] at h1
        by_cases hx : x.natAbs = 0
        · rw [hx]; exact nDigits_small (by omega)
        · rw [if_neg hx] at h1; have := nDigits_pos x.natAbs; omega
      have HD := Lib.hid e
      clear e
      have hmax : max (0 : Int) 1 = 1 := by decide
      go_wp2_with fail
      refine bodyPost_ret (v := .tuple #[.int .i64 1, .int .i64 0]) (by simp [results, Tryz.results43, go_sem, *]) rfl ?_
      exact ⟨(by show _ = Ending.returned (.tuple #[.int .i64 ((nDigits x.natAbs : Nat) : Int), .int .i64 0]); rw [HD.out]; try rfl), HBW.out⟩
    · have e : ((nDigits x.natAbs : Nat) : Int) = (pn : Int) := by
        have h1 := HL.out
        rw [Ten.dig_len_nd] at h1
        by_cases hx : x.natAbs = 0
        · rw [if_pos hx] at h1; exact absurd h1 h0
        · rw [if_neg hx] at h1; omega
      have HD := Lib.hid e
      clear e
      have hmax : max (pn : Int) 1 = (pn : Int) := by omega
      have hgt : ¬ (pn : Int) < 1 := by omega
      have hge : (1 : Int) ≤ (pn : Int) := by omega
      go_wp2_with fail
      refine bodyPost_ret (v := .tuple #[.int .i64 pn, .int .i64 0]) (by simp [results, Tryz.results43, go_sem, *]) rfl ?_
      exact ⟨(by show _ = Ending.returned (.tuple #[.int .i64 ((nDigits x.natAbs : Nat) : Int), .int .i64 0]); rw [HD.out]; try rfl), HBW.out⟩
set_option maxRecDepth 100000 in
set_option maxHeartbeats 4000000 in
theorem r_Of (t : List UInt8) (ht : t.length ≤ 100000) (w : World) : Ans Tryz.prog 40 #[.string ⟨t.toArray⟩] w (pr (ofR t)) := by
  have HT := Lib.hid ht
  clear ht
  obtain ⟨R, hR⟩ : ∃ R, ofR t = R := ⟨_, rfl⟩
  have HR := Lib.hid hR
  rw [hR]
  clear hR
  obtain ⟨W, hW⟩ : ∃ W, w.alloc (.cells #[.int .i64 0, .int .i64 0, .string ⟨#[]⟩] 23) = W := ⟨_, rfl⟩
  have hbw : Below w.heap.size w W := by rw [← hW]; exact (Below.refl _ w).alloc (Nat.le_refl _) _
  have HV := Lib.hid (by rw [← hW]; exact resV_new w _ : ResV W w.heap.size)
  have HBW := Lib.hid hbw
  clear hbw
  go_enter Tryz.func40, Tryz.ntmps40
  go_upto_region 1 with fail
  clear hW
  go_wp2_with fail
  refine (r_read t HT.out _).mono ?_
  rintro e w1 ⟨v, rfl, ⟨pb, pa, pn, pc, rfl⟩, hnx, hb1⟩
  have HNX := Lib.hid hnx
  replace HBW := Lib.hid (below_then HBW.out hb1)
  replace HV := Lib.hid (HV.out.below hb1)
  clear hnx hb1
  go_upto_region 2 with fail
  obtain ⟨X, hX⟩ : ∃ X, w1.alloc (.cells #[.bool pb, .slice pa pn pc] 51) = X := ⟨_, rfl⟩
  obtain ⟨hcx, hb2, _⟩ := ncell_new w1 _ pb pa pn pc X hX
  rw [hX]
  replace HBW := Lib.hid (below_then HBW.out hb2)
  replace HV := Lib.hid (HV.out.below hb2)
  replace HNX := Lib.hid (fun z hz => (HNX.out z hz).below hb2)
  have x0 := hcx.x0; have x1 := hcx.x1
  clear hcx hb2 hX
  cases hz : readZ t with
  | none =>
    have e : R = (Vl.zero, 31) := by rw [← HR.out]; unfold ofR; rw [hz]
    subst e
    simp only [Option.isSome_none]
    have c0 := HV.out.c0; have c1 := HV.out.c1; have c2 := HV.out.c2
    have f0 := HV.out.f0; have f1 := HV.out.f1; have f2 := HV.out.f2
    clear hz
    go_wp2_with fail
    refine bodyPost_ret (v := .tuple #[vE 0 0 [], .int .i64 31]) (by simp [results, Tryz.results40, go_sem, vE, *]) rfl ?_
    exact ⟨rfl, below_put3 HBW.out (Nat.le_refl _) _ _ _⟩
  | some z =>
    have hlim : limZ z = (Vl.of z, 0) := by unfold limZ; rw [if_pos (readZ_some hz).2]
    have e : R = (Vl.of z, 0) := by rw [← HR.out]; unfold ofR; rw [hz]
    subst e
    replace HNX := Lib.hid (HNX.out z hz)
    simp only [Option.isSome_some]
    have HLM := Lib.hid hlim
    clear hz hlim
    go_wp2_with fail
    refine (r_value _ z _ HNX.out).mono ?_
    rw [HLM.out]
    rintro e w9 ⟨rfl, hb9⟩
    replace HBW := Lib.hid (below_then HBW.out hb9)
    replace HV := Lib.hid (HV.out.below hb9)
    obtain ⟨⟨rk, rn, rt⟩, hV⟩ : ∃ V, Vl.of z = V := ⟨_, rfl⟩
    have HOF := Lib.hid hV
    rw [hV]
    simp only [pr, Vl.val]
    have c0 := HV.out.c0; have c1 := HV.out.c1; have c2 := HV.out.c2
    have f0 := HV.out.f0; have f1 := HV.out.f1; have f2 := HV.out.f2
    clear hb9 hV
    go_wp2_with fail
    refine bodyPost_ret (v := .tuple #[vE rk rn rt, .int .i64 0]) (by simp [results, Tryz.results40, go_sem, vE, *]) rfl ?_
    exact ⟨by rw [HOF.out]; rfl, below_put3 HBW.out (Nat.le_refl _) _ _ _⟩
end Go.Proofs.YthjpbbbmnmhmmaaGreatDoor

namespace Go.Proofs.YthjpbbbmnmhmmaaGreatDoor
open Go.RowKit Go.Shelf Go.Lib

/-! ### The reference, as the laws' walks ask for it -/
theorem radd_pub (a b : Vl) (ha : a.ok) (hb : b.ok) (w : World) (hE : Env w) : Ans Tryz.prog 34 #[a.val, b.val] w (pr (addR a b)) := r_Add a b ha hb w
theorem rsub_pub (a b : Vl) (ha : a.ok) (hb : b.ok) (w : World) (hE : Env w) : Ans Tryz.prog 35 #[a.val, b.val] w (pr (subR a b)) := r_Sub a b ha hb w
theorem rmul_pub (a b : Vl) (ha : a.ok) (hb : b.ok) (w : World) (hE : Env w) : Ans Tryz.prog 36 #[a.val, b.val] w (pr (mulR a b)) := r_Mul a b ha hb w
theorem rdiv_pub (a b : Vl) (ha : a.ok) (hb : b.ok) (w : World) (hE : Env w) : Ans Tryz.prog 18 #[a.val, b.val] w (pr (divR a b)) := r_Div a b ha hb w
theorem rmod_pub (a b : Vl) (ha : a.ok) (hb : b.ok) (w : World) (hE : Env w) : Ans Tryz.prog 20 #[a.val, b.val] w (pr (modR a b)) := r_Mod a b ha hb w
theorem rlessV (a b : Vl) (ha : a.ok) (hb : b.ok) (w : World) (hE : Env w) : Ans Tryz.prog 38 #[a.val, b.val] w (.tuple #[.bool (lessR a b).1, .int .i64 (lessR a b).2]) := r_Less a b ha hb w
theorem rofV (t : List UInt8) (ht : t.length ≤ 100000) (w : World) (hE : Env w) : Ans Tryz.prog 40 #[.string ⟨t.toArray⟩] w (pr (ofR t)) := r_Of t ht w
theorem rtextV (a : Vl) (ha : a.ok) (w : World) (hE : Env w) : Ans Tryz.prog 41 #[a.val] w (.tuple #[.string ⟨(textR a).1.toArray⟩, .int .i64 (textR a).2]) := r_Text a ha w
theorem rdigitsV (a : Vl) (ha : a.ok) (w : World) (hE : Env w) : Ans Tryz.prog 43 #[a.val] w (.tuple #[.int .i64 (digitsR a).1, .int .i64 (digitsR a).2]) := r_Digits a ha w
theorem rcheckV (a : Vl) (ha : a.ok) (w : World) (hE : Env w) : Ans Tryz.prog 45 #[a.val] w (.int .i64 (checkR a)) := r_Check a ha w
end Go.Proofs.YthjpbbbmnmhmmaaGreatDoor
