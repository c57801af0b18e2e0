import Derived.Test.YthjpbbbmnmhmmaaGreatDoorA10
set_option linter.unusedVariables false
set_option linter.unusedSimpArgs false
namespace Go.Proofs.YthjpbbbmnmhmmaaGreatDoor
open Go.RowKit Go.Shelf

theorem OwnI.below {W W' : World} {base g N : Nat} {zs : List Int} (h : OwnI W base g N zs) (hb : Below W.heap.size W W') : OwnI W' base g N zs :=
  ⟨h.1, h.2.kept (row := none) ⟨hb.os, hb.tape, hb.output, hb.size, fun k hk _ => hb.block k hk⟩ (.inr (by simp [Value.ownBlock]))⟩
theorem OwnI.lt {W : World} {base g N : Nat} {zs : List Int} (h : OwnI W base g N zs) : g < W.heap.size := by
  obtain ⟨cur, hc⟩ := h.block; exact (Array.getElem?_eq_some_iff.1 hc).1

/-- A slice of another block isn't touched by a store. -/
theorem RI.store {W : World} {v : Value} {zs : List Int} (h : RI W v zs) {B g j : Nat} (u : Value) (hf : Fr B v) (hg : g < B) : RI (W.setCell ⟨g, j, none⟩ u) v zs := by
  obtain ⟨a, cap, rfl, hl, hc⟩ := h
  refine ⟨a, cap, rfl, hl, fun hz => ?_⟩
  obtain ⟨b, off, rfl, hc'⟩ := hc hz
  have hb := hf _ _ _ rfl
  refine ⟨b, off, rfl, fun i hi => ?_⟩
  rw [World.cell?_setCell_other _ _ _ _ (by intro e; cases e; simp at hb; omega)]
  exact hc' i hi

theorem cmpI_le {x y : Int} (h : x ≤ y) : cmpI x y ≤ 0 := by
  unfold cmpI
  split
  · omega
  · rw [if_neg (by omega)]; exact Int.le_refl _
theorem cmpI_ge {x y : Int} (h : y ≤ x) : 0 ≤ cmpI x y := by unfold cmpI; rw [if_neg (by omega)]; split <;> omega

set_option maxRecDepth 100000 in
set_option maxHeartbeats 8000000 in
theorem divide_calls (va vb : Value) (m n : Nat) (w : World) (ha : RI w va (dig m)) (hb : RI w vb (dig n)) (hla : (dig m).length ≤ 500) (hlb : (dig n).length ≤ 500) (hn : n ≠ 0) :
    Calls Tryz.prog 61 #[va, vb] w fun e w' => ∃ q r, e = .returned (.tuple #[q, r]) ∧ RI w' q (dig (m / n)) ∧ RI w' r (dig (m % n)) ∧ Below w.heap.size w w' := by
  have HB := Lib.hid hb
  obtain ⟨a, ca, rfl, _, ha⟩ := ha
  obtain ⟨b, cb, rfl, _, _⟩ := hb
  have HCa := Lib.hid ha
  have HN := Lib.hid hn
  obtain ⟨L, hL⟩ : ∃ L, (dig m).length = L := ⟨_, rfl⟩
  have HL := Lib.hid hL
  rw [hL] at hla ⊢
  clear ha hn hL
  obtain ⟨i0, hi, hz0, hz1, hz2⟩ := info_parts infoInt
  go_enter Tryz.func61, Tryz.ntmps61
  go_wp2_with (at_make; refine wpList_make_full w rfl _ _ 60 rfl w.heap.size 3 i0 (.int .i64 0) 1 Tryz.underlying60 hi hz0 hz1 _ _ _ _ L rfl rfl rfl rfl (by rw [hz2]; omega) (by unfold maxLen; omega) (Nat.le_refl _) ?_; intro w1 hown hgrow)
  have hO : OwnI w1 w.heap.size w.heap.size L (List.replicate L 0) := ⟨by simp, by
    have := hown; simp only [Value.cells, Nat.mul_one, toList_madeCells_one] at this; rw [List.map_replicate]; exact this⟩
  have hB0 : Below w.heap.size w w1 := (Below.refl _ w).grown hgrow (Nat.le_refl _) (fun k e => by cases e)
  have hD : Hid (Dv m n L 0 (List.replicate L 0)) := Lib.hid (by have := Dv.start m n HN.out; rw [HL.out] at this; exact this)
  clear hown hgrow
  go_loopw [7, 8] (fun r t wr => ∃ (k R : Nat) (zs : List Int), t = .int .i64 ((k : Int) - 1) ∧ k ≤ L ∧ OwnI wr w.heap.size w.heap.size L zs ∧ Hid (Dv m n k R zs) ∧ Hid (RI wr r (dig R)) ∧ Below w.heap.size w wr) (fun _ t _ => (intOf t + 1).toNat)
  case atStart => exact ⟨L, 0, _, rfl, Nat.le_refl _, hO, hD, Lib.hid (by rw [dig_zero]; exact RI.nil _), hB0⟩
  case round =>
    clear hO hB0 hD
    obtain ⟨k, R, zs, rfl, hk, hO, hD, hR, hbel⟩ := hrel
    rcases Nat.eq_zero_or_pos k with rfl | hk0
    · rw [show ((0 : Nat) : Int) - 1 = -1 from rfl]
      have hq := Lib.hid (hO.reads (by omega))
      have hO' := Lib.hid hO
      have hbb := Lib.hid hbel
      clear hO hbel
      have hdone := Lib.hid hD.out.done
      go_wp2_with fail
      refine (values_digits _ zs wr hq.out).mono ?_
      rintro e w2 ⟨fv, rfl, hI, hb2⟩
      have hI' := Lib.hid hI
      have hb2' := Lib.hid hb2
      clear hI hb2
      go_wp2_with fail
      refine (gathered_calls _ fv zs w2 hI'.out hb2'.out.size (by have := hO'.out.1; omega) hD.out.rng).mono ?_
      rintro e w3 ⟨qv, rfl, hQ, hb3, _⟩
      have hQ' := Lib.hid hQ
      have hb3' := Lib.hid (below_then hb2'.out hb3)
      clear hQ hb3
      go_wp2_with fail
      go_ret2
      exact ⟨_, _, rfl, by rw [← hdone.out.1]; exact hQ'.out, by rw [← hdone.out.2]; exact hR.out.below hb3'.out, hbb.out.trans (hb3'.out.mono hbb.out.size)⟩
    · obtain ⟨k, rfl⟩ : ∃ m, k = m + 1 := ⟨k - 1, by omega⟩
      rw [show ((k + 1 : Nat) : Int) - 1 = (k : Int) by omega]
      obtain ⟨x, hx, hx6, hstep, hskip⟩ := hD.out.next (by rw [HL.out]; omega)
      obtain ⟨ba, oa, rfl, hca⟩ := HCa.out (by intro e; have := HL.out; rw [e] at this; simp at this; omega)
      have hck := cell_on (hbel.mono (Nat.le_refl _)) (hca k (by rw [HL.out]; omega))
      rw [hx] at hck
      have hklt : k < L := by omega
      have HS := Lib.hid hstep; have HK := Lib.hid hskip
      have hRlen : (dig R).length ≤ 500 := Nat.le_trans (dig_len_mono (Nat.le_of_lt hD.out.r)) hlb
      have hRn := Lib.hid hD.out.r
      have hbx : Below wr.heap.size wr (wr.alloc (.cells #[.int .i64 x] 3)) := (Below.refl _ wr).alloc (Nat.le_refl _) _
      obtain ⟨v', w2, hrun, hRI, hb2⟩ := run_append_fresh (wr.alloc (.cells #[.int .i64 x] 3)) wr.heap.size x u7 (dig R) (Boxed.new wr 3 (.int .i64 (x : Int))).cell (hR.out.below hbx) (by omega)
      have HRUN := Lib.hid hrun; have HRI := Lib.hid hRI; have HB2 := Lib.hid (below_then hbx hb2)
      have HHO := Lib.hid hO; have HBEL := Lib.hid hbel; have HX := Lib.hid hx
      clear hca hstep hskip hRI hb2 hrun hbx hO hbel hx
      go_wp2_with (at_builtin; refine wpList_append_run rfl _ _ 49 60 rfl _ _ v' w2 rfl rfl HRUN.out ?_)
      refine (values_ints _ _ w2 HRI.out).mono ?_
      rintro e w3 ⟨fv, rfl, hI, hb3⟩
      have hI' := Lib.hid hI
      have hb3' := Lib.hid hb3
      clear hI hb3
      go_wp2_with fail
      have hRN : Hid ((val ((x : Int) :: dig R)).toNat = x + 1000000 * R) := Lib.hid (by rw [val, val_dig]; omega)
      refine (gathered_calls _ fv _ w3 hI'.out hb3'.out.size (by simp; omega) (InR.mk (by omega) (dig_inR R))).mono ?_
      rintro e w4 ⟨rv, rfl, hR4, hb4, hf4⟩
      rw [hRN.out] at hR4
      obtain ⟨N, hN⟩ : ∃ N, x + 1000000 * R = N := ⟨_, rfl⟩
      rw [hN] at hR4 HS HK
      have hNle : Hid (N < 1000000 * n) := Lib.hid (by have := hRn.out; omega)
      have hR4' := Lib.hid hR4
      have hf4' := Lib.hid hf4
      have hb14 : Hid (Below wr.heap.size wr w4) := Lib.hid (below_then HB2.out (below_then hb3'.out hb4))
      have hg3 : Hid (w.heap.size < w3.heap.size) := Lib.hid (by have := HHO.out.lt; have := HB2.out.size; have := hb3'.out.size; omega)
      have hbw4 : Hid (Below w.heap.size w w4) := Lib.hid (HBEL.out.trans (hb14.out.mono HBEL.out.size))
      clear hR4 hb4 hf4 hN
      go_wp2_with fail
      refine (compareN_calls _ _ N n w4 hR4'.out (HB.out.below hbw4.out)).mono ?_
      rintro e w5 ⟨rfl, hb5⟩
      have hb15 : Hid (Below wr.heap.size wr w5) := Lib.hid (below_then hb14.out hb5)
      have hR5 : Hid (RI w5 rv (dig N)) := Lib.hid (hR4'.out.below hb5)
      have hbw5 : Hid (Below w.heap.size w w5) := Lib.hid (HBEL.out.trans (hb15.out.mono HBEL.out.size))
      clear hb5
      by_cases hlt : N < n
      · rw [show cmpI (N : Int) (n : Int) = -1 by unfold cmpI; rw [if_pos (by omega)]]
        have hlt' := Lib.hid hlt
        clear hlt
        go_wp2_with fail
        exact ⟨⟨k, N, zs, rfl, by omega, HHO.out.below hb15.out, Lib.hid (HK.out hlt'.out), hR5, hbw5.out⟩, by simp [intOf] <;> omega⟩
      · obtain ⟨cc, hcc, hcc0⟩ : ∃ cc : Int, cmpI (N : Int) (n : Int) = cc ∧ 0 ≤ cc := ⟨_, rfl, cmpI_ge (by omega)⟩
        rw [hcc]
        have hge := Lib.hid (show n ≤ N by omega)
        clear hcc hlt
        go_wp2_with fail
        go_loopw [9, 10] (fun lo hi wq => ∃ (l h : Nat), lo = .int .i64 l ∧ hi = .int .i64 h ∧ 1 ≤ l ∧ l ≤ h ∧ h ≤ 999999 ∧ Hid (l * n ≤ N ∧ N < (h + 1) * n) ∧ Hid (Below w5.heap.size w5 wq)) (fun lo hi _ => (intOf hi - intOf lo).toNat)
        case atStart => exact ⟨1, 999999, rfl, rfl, by omega, by omega, by omega, Lib.hid ⟨by have := hge.out; omega, by have := hNle.out; omega⟩, Lib.hid (Below.refl _ _)⟩
        case round =>
          obtain ⟨l, h, rfl, rfl, hl1, hlh, hh, hin, hbq⟩ := hrel
          by_cases hlt : l < h
          · go_wp2_with fail
            rw [show ((l : Int) + (h : Int) + 1) / 2 = (((l + h + 1) / 2 : Nat) : Int) by omega]
            obtain ⟨md, hmd⟩ : ∃ md, (l + h + 1) / 2 = md := ⟨_, rfl⟩
            rw [hmd]
            have hm1 : l < md := by omega
            have hm2 : md ≤ h := by omega
            have HMD := Lib.hid hmd
            clear hmd
            have hbwq : Hid (Below w.heap.size w _) := Lib.hid (hbw5.out.trans (hbq.out.mono hbw5.out.size))
            refine (scaled_calls _ n md _ (HB.out.below hbwq.out) (by omega) (by omega)).mono ?_
            rintro e w6 ⟨sv, rfl, hS, hb6⟩
            have hS' := Lib.hid hS
            have hb6' := Lib.hid (below_then hbq.out hb6)
            clear hS hb6
            go_wp2_with fail
            refine (compareN_calls _ _ (n * md) N w6 hS'.out (hR5.out.below hb6'.out)).mono ?_
            rintro e w7 ⟨rfl, hb7⟩
            have hb7' := Lib.hid (below_then hb6'.out hb7)
            clear hb7
            by_cases hc : n * md ≤ N
            · obtain ⟨c2, hc2, hc20⟩ : ∃ c2 : Int, cmpI ((n * md : Nat) : Int) (N : Int) = c2 ∧ c2 ≤ 0 := ⟨_, rfl, cmpI_le (by omega)⟩
              rw [hc2]
              have hcx := Lib.hid hc
              clear hc hc2
              go_wp2_with fail
              exact ⟨⟨md, h, rfl, rfl, by omega, by omega, by omega, Lib.hid ⟨by rw [Nat.mul_comm]; exact hcx.out, hin.out.2⟩, hb7'⟩, by simp [intOf] <;> omega⟩
            · have hc2 : cmpI ((n * md : Nat) : Int) (N : Int) = 1 := by unfold cmpI; rw [if_neg (by omega), if_pos (by omega)]
              rw [hc2]
              have hcx := Lib.hid hc
              clear hc hc2
              go_wp2_with fail
              exact ⟨⟨l, md - 1, rfl, by rw [show (((md - 1 : Nat)) : Int) = (md : Int) - 1 by omega], by omega, by omega, by omega, Lib.hid ⟨hin.out.1, by rw [show md - 1 + 1 = md by omega, Nat.mul_comm]; have := hcx.out; omega⟩, hb7'⟩, by simp [intOf] <;> omega⟩
          · obtain rfl : h = l := by omega
            have hO6 := (HHO.out.below hb15.out).below hbq.out
            have hcz := hO6.cell (j := k) hklt
            have hfz := hO6.frozen k
            have hst := Lib.hid (hO6.stored k (h : Int))
            have hbwq : Hid (Below w.heap.size w _) := Lib.hid (hbw5.out.trans (hbq.out.mono hbw5.out.size))
            have hRq : Hid (RI _ rv (dig N)) := Lib.hid (hR5.out.below hbq.out)
            clear hO6
            go_wp2_with fail
            obtain ⟨w8, hw8⟩ : ∃ w8, wr.setCell ⟨w.heap.size, k, none⟩ (.int .i64 (h : Int)) = w8 := ⟨_, rfl⟩
            have hO8 : Hid (OwnI w8 w.heap.size w.heap.size L (zs.set k h)) := Lib.hid (by rw [← hw8]; exact hst.out.1)
            have hb8 : Hid (Below w.heap.size w w8) := Lib.hid (by rw [← hw8]; exact hbwq.out.setCell (p := ⟨w.heap.size, k, none⟩) (Nat.le_refl _) _)
            have hR8 : Hid (RI w8 rv (dig N)) := Lib.hid (by rw [← hw8]; exact hRq.out.store _ hf4'.out hg3.out)
            rw [hw8]
            clear hcz hfz hst hw8
            refine (scaled_calls _ n h _ (HB.out.below hb8.out) (by omega) (by omega)).mono ?_
            rintro e w9 ⟨sv, rfl, hS, hb9⟩
            have hS' := Lib.hid hS
            have hb9' := Lib.hid hb9
            clear hS hb9
            go_wp2_with fail
            have hNl : (dig N).length ≤ 10000 := Nat.le_trans (dig_len ((dig n).length + 1) N (by have := dig_lt n; have := hNle.out; rw [Nat.pow_succ]; omega)) (by omega)
            have hnh : n * h ≤ N := by rw [Nat.mul_comm]; exact hin.out.1
            refine (minus_calls _ _ N (n * h) w9 (hR8.out.below hb9'.out) hS'.out hNl (Nat.le_trans (dig_len_mono hnh) hNl) hnh).mono ?_
            rintro e w10 ⟨rv', rfl, hR10, hb10⟩
            have hR10' := Lib.hid hR10
            have hb10' := Lib.hid (below_then hb9'.out hb10)
            have hnh' := Lib.hid hnh
            clear hR10 hb10 hNl hnh
            go_wp2_with fail
            exact ⟨⟨k, N - h * n, zs.set k h, rfl, by omega, hO8.out.below hb10'.out, Lib.hid (HS.out h hin.out.1 hin.out.2 (by omega)), Lib.hid (by rw [Nat.mul_comm h n]; exact hR10'.out), hb8.out.trans (hb10'.out.mono hb8.out.size)⟩, by simp [intOf] <;> omega⟩
end Go.Proofs.YthjpbbbmnmhmmaaGreatDoor
