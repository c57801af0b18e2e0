import Derived.Test.YthjpbbbmnmhmmaaGreatDoorA1
set_option linter.unusedVariables false
set_option linter.unusedSimpArgs false
namespace Go.Proofs.YthjpbbbmnmhmmaaGreatDoor
open Go.RowKit Go.Shelf

/-- From the highest digit down: the first pair that differs decides. -/
def cmpDown (xs ys : List Int) : Nat → Int
  | 0 => 0
  | k + 1 => if rd xs k = rd ys k then cmpDown xs ys k else cmpI (rd xs k) (rd ys k)

theorem compare_calls (va vb : Value) (xs ys : List Int) (w : World) (ha : RI w va xs) (hb : RI w vb ys) :
    Calls Tryz.prog 63 #[va, vb] w fun e w' => e = .returned (.int .i64 (if xs.length = ys.length then cmpDown xs ys xs.length else cmpI xs.length ys.length)) ∧ Below w.heap.size w w' := by
  obtain ⟨r, Hr⟩ : ∃ r, Hid ((if xs.length = ys.length then cmpDown xs ys xs.length else cmpI xs.length ys.length) = r) := ⟨_, Lib.hid rfl⟩
  rw [Hr.out]
  obtain ⟨a, ca, rfl, hla, hca⟩ := ha
  obtain ⟨b, cb, rfl, hlb, hcb⟩ := hb
  by_cases hl : xs.length = ys.length
  · have H := Lib.hid hl
    clear hl
    have hbb : ((xs.length : Int) != (ys.length : Int)) = false := by have := H.out; simp [this]
    have HP := Lib.hid hca; have HQ := Lib.hid hcb
    clear hca hcb
    go_enter Tryz.func63, Tryz.ntmps63
    go_wp2_with fail
    go_loopw [5] (fun i wr => ∃ k : Nat, k ≤ xs.length ∧ i = .int .i64 ((k : Int) - 1) ∧ Hid (cmpDown xs ys k = cmpDown xs ys xs.length) ∧ Below w.heap.size w wr) (fun i _ => (intOf i + 1).toNat)
    case atStart => exact ⟨xs.length, Nat.le_refl _, rfl, Lib.hid rfl, Below.refl _ _⟩
    case round =>
      obtain ⟨k, hk, rfl, hck, hbl⟩ := hrel
      rcases Nat.eq_zero_or_pos k with rfl | hk0
      · rw [show ((0 : Nat) : Int) - 1 = -1 from rfl]
        go_wp2_with fail
        go_ret
        exact ⟨ret_int (by rw [← Hr.out, if_pos H.out, ← hck.out]; rfl), hbl⟩
      · obtain ⟨m, rfl⟩ : ∃ m, k = m + 1 := ⟨k - 1, by omega⟩
        rw [show ((m + 1 : Nat) : Int) - 1 = (m : Int) by omega]
        have hm : m < xs.length := by omega
        have hm' : m < ys.length := by have := H.out; omega
        obtain ⟨b1, o1, rfl, hc1⟩ := HP.out (by intro e; subst e; simp at hm)
        obtain ⟨b2, o2, rfl, hc2⟩ := HQ.out (by intro e; subst e; simp at hm')
        have h1 : wr.cell? ⟨b1, o1 + m, none⟩ = some (.int .i64 (rd xs m)) := (hbl.cell (p := ⟨b1, o1 + m, none⟩) (World.block_lt_of_cell? w _ (hc1 m hm))).trans (hc1 m hm)
        have h2 : wr.cell? ⟨b2, o2 + m, none⟩ = some (.int .i64 (rd ys m)) := (hbl.cell (p := ⟨b2, o2 + m, none⟩) (World.block_lt_of_cell? w _ (hc2 m hm'))).trans (hc2 m hm')
        clear hc1 hc2 HP HQ
        by_cases he : rd xs m = rd ys m
        · have hne : (rd xs m != rd ys m) = false := by simp [he]
          have he' := Lib.hid he
          clear he
          go_wp2_with fail
          go_quiet (fail)
          go_wp2_with fail
          go_roundw
          case rel => exact ⟨m, by omega, rfl, Lib.hid (by rw [← hck.out]; simp only [cmpDown]; rw [if_pos he'.out]), drewN_on hbl _⟩
          case measure => simp [intOf] <;> omega
        · have hne : (rd xs m != rd ys m) = true := by simp [he]
          have he' := Lib.hid he
          clear he
          go_wp2_with fail
          go_quiet (fail)
          go_wp2_with fail
          go_quiet ((go_at_call 91; exact quiet_add_left (compareInt_calls _ _ _)))
          go_wp2_with fail
          go_ret
          exact ⟨ret_int (by rw [← Hr.out, if_pos H.out, ← hck.out]; simp only [cmpDown]; rw [if_neg he'.out]), drewN_on (drewN_on hbl _) _⟩
  · have hbb : ((xs.length : Int) != (ys.length : Int)) = true := by simp; omega
    have H := Lib.hid hl
    clear hl hca hcb
    go_enter Tryz.func63, Tryz.ntmps63
    go_wp2_with (go_at_call 91; refine (compareInt_calls _ _ _).mono ?_; rintro e w' ⟨rfl, rfl⟩)
    go_ret
    exact ⟨ret_int (by rw [← Hr.out, if_neg H.out]), Below.refl _ _⟩

theorem size_calls (sv : Value) (zs : List Int) (w : World) (h : RI w sv zs) (hr : InR zs) :
    Calls Tryz.prog 54 #[sv] w fun e w' => e = .returned (.int .i64 (sizeD zs)) ∧ w = w' := by
  obtain ⟨r, Hr⟩ : ∃ r, Hid (sizeD zs = r) := ⟨_, Lib.hid rfl⟩
  rw [Hr.out]
  by_cases hz : zs = []
  · subst hz
    have hn := fun w h => none_calls sv [] w h
    have H := Lib.hid h
    clear h
    go_enter Tryz.func54, Tryz.ntmps54
    go_wp2_with (go_at_call 78; refine (none_calls _ _ _ H.out).mono ?_; rintro e w' ⟨rfl, rfl⟩)
    go_ret
    exact ⟨ret_int (by rw [← Hr.out]; rfl), rfl⟩
  · have H := Lib.hid h
    obtain ⟨a, cap, rfl, hl, hc⟩ := h
    obtain ⟨b, off, rfl, hc'⟩ := hc hz
    have hlen : 0 < zs.length := List.length_pos_iff.2 hz
    obtain ⟨m, hm⟩ : ∃ m, zs.length = m + 1 := ⟨zs.length - 1, by omega⟩
    have hcm := hc' m (by omega)
    have hrm := InR.at hr m
    have Hm := Lib.hid hm
    have hmm : m ≤ 1000000 := by omega
    rw [hm] at H ⊢
    have HZ := Lib.hid hz
    clear hc hc' hm hz hlen hl hr
    have hfin : Hid (6 * (m : Int) + cnt10 (rd zs m).toNat = r) := by
      refine Lib.hid ?_
      rw [← Hr.out]; unfold sizeD; rw [if_neg HZ.out, Hm.out]
      rw [show m + 1 - 1 = m from rfl]; omega
    have hx : Hid (rd zs m = ((rd zs m).toNat : Int)) := Lib.hid (by omega)
    have hx6 : Hid ((rd zs m).toNat < 1000000) := Lib.hid (by omega)
    have hdz : Hid (decide (zs = []) = false) := Lib.hid (by simp [HZ.out])
    go_enter Tryz.func54, Tryz.ntmps54
    go_wp2_with (go_at_call 78; refine (none_calls _ _ _ H.out).mono ?_; rw [hdz.out]; rintro e w' ⟨rfl, rfl⟩)
    rw [hx.out]
    obtain ⟨x0, hx0⟩ : ∃ x0, (rd zs m).toNat = x0 := ⟨_, rfl⟩
    rw [hx0] at hfin hx6 ⊢
    clear hcm hrm hx hx0
    go_loop [3, 4] (fun n x => ∃ (c : Int) (y : Nat), n = .int .i64 c ∧ x = .int .i64 (y : Int) ∧ Hid (c + cnt10 y = r) ∧ Hid (y ≤ x0) ∧ 0 ≤ c ∧ c ≤ 6000000 + 10 - cnt10 y) (fun _ x => (intOf x).toNat)
    case atStart => exact ⟨_, x0, rfl, rfl, hfin, Lib.hid (Nat.le_refl _), by omega, by have := cnt10_le 6 x0 (by have := hx6.out; omega); omega⟩
    case round =>
      obtain ⟨c, y, rfl, rfl, hc, hy, hc0, hc1⟩ := hrel
      rcases Nat.eq_zero_or_pos y with rfl | hy0
      · go_wp2
        go_ret
        exact ⟨ret_int (by rw [← hc.out, cnt10_zero]; simp), rfl⟩
      · have e := Lib.hid (cnt10_pos hy0)
        have hb1 : c ≤ 6000009 := by have := e.out; omega
        have hyb : (y : Int) < 1000000 := by have := hx6.out; have := hy.out; omega
        go_wp2
        go_round
        case rel => exact ⟨c + 1, y / 10, rfl, by go_num, Lib.hid (by have := hc.out; have := e.out; omega), Lib.hid (by have := hy.out; omega), by omega, by have := e.out; omega⟩
        case measure => simp [intOf]; omega
end Go.Proofs.YthjpbbbmnmhmmaaGreatDoor
