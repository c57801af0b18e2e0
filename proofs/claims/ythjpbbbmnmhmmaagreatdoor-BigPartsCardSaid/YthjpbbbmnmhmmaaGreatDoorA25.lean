import Derived.Test.YthjpbbbmnmhmmaaGreatDoorA18
set_option linter.unusedVariables false
set_option linter.unusedSimpArgs false
namespace Go.Proofs.YthjpbbbmnmhmmaaGreatDoor
open Go.RowKit Go.Shelf Go.Lib

theorem number_any {k n : Int} {t : List UInt8} (h : VOk k n t) (w : World) (hE : Env w) :
    Calls Tryz.prog 68 #[.agg #[.int .i64 k, .int .i64 n, .string ⟨t.toArray⟩]] w fun e w' => ∃ a m c b, e = .returned (.tuple #[.agg #[.slice a m c, .bool b], .bool (numZ k n t).isSome]) ∧ (∀ z, numZ k n t = some z → WH w' (.agg #[.slice a m c, .bool b]) z) ∧ Below w.heap.size w w' := by
  refine (number_calls k n t h.n h.t w hE).mono ?_
  rintro e w' ⟨v, rfl, ⟨a, m, c, b, rfl⟩, h2, h3⟩
  exact ⟨a, m, c, b, rfl, h2, h3⟩

set_option maxRecDepth 100000 in
set_option maxHeartbeats 2000000 in
theorem less_pub {k n : Int} {t : List UInt8} {k' n' : Int} {t' : List UInt8} (h : VOk k n t) (h' : VOk k' n' t') (w : World) (hE : Env w) (r : Value)
    (hr : r = match numZ k n t, numZ k' n' t' with | some x, some y => .tuple #[.bool (decide (x < y)), .int .i64 0] | _, _ => .tuple #[.bool false, .int .i64 31]) :
    Ans Tryz.prog 37 #[.agg #[.int .i64 k, .int .i64 n, .string ⟨t.toArray⟩], .agg #[.int .i64 k', .int .i64 n', .string ⟨t'.toArray⟩]] w r := by
  have HE := Lib.hid hE
  have HV := Lib.hid h; have HV' := Lib.hid h'
  have hb : ∀ o o', Below w.heap.size w ((w.alloc o).alloc o') := fun o o' => ((Below.refl _ w).alloc (Nat.le_refl _) o).alloc (by simp) o'
  have HB := Lib.hid hb
  obtain ⟨ok, hok⟩ : ∃ ok, (numZ k n t).isSome = ok := ⟨_, rfl⟩
  obtain ⟨ok', hok'⟩ : ∃ ok, (numZ k' n' t').isSome = ok := ⟨_, rfl⟩
  have HOK := Lib.hid hok; have HOK' := Lib.hid hok'
  have HR := Lib.hid hr
  clear hb hE h h' hok hok' hr
  go_enter Tryz.func37, Tryz.ntmps37
  go_wp2_with fail
  refine (number_any HV.out _ (HE.out.below (HB.out _ _))).mono ?_
  rw [HOK.out]
  rintro e w3 ⟨a, m, c, b, rfl, hW, hb3⟩
  have HW := Lib.hid hW
  have hbe := Lib.hid ((below_then (HB.out _ _) hb3).alloc (below_then (HB.out _ _) hb3).size (.cells #[.slice a m c, .bool b] 62))
  have y0 := cell_on ((Below.refl _ w3).alloc (Nat.le_refl _) (.cells #[.slice a m c, .bool b] 62)) (cell_on hb3 (cell_in2 w (.cells #[.int .i64 k, .int .i64 n, .string ⟨t.toArray⟩] 23) #[.int .i64 k', .int .i64 n', .string ⟨t'.toArray⟩] 23 0 rfl))
  have y1 := cell_on ((Below.refl _ w3).alloc (Nat.le_refl _) (.cells #[.slice a m c, .bool b] 62)) (cell_on hb3 (cell_in2 w (.cells #[.int .i64 k, .int .i64 n, .string ⟨t.toArray⟩] 23) #[.int .i64 k', .int .i64 n', .string ⟨t'.toArray⟩] 23 1 rfl))
  have y2 := cell_on ((Below.refl _ w3).alloc (Nat.le_refl _) (.cells #[.slice a m c, .bool b] 62)) (cell_on hb3 (cell_in2 w (.cells #[.int .i64 k, .int .i64 n, .string ⟨t.toArray⟩] 23) #[.int .i64 k', .int .i64 n', .string ⟨t'.toArray⟩] 23 2 rfl))
  have x0 : (w3.alloc (.cells #[.slice a m c, .bool b] 62)).cell? ⟨w3.heap.size, 0, none⟩ = some (.slice a m c) := cell_in w3 #[.slice a m c, .bool b] 62 0 rfl
  have x1 : (w3.alloc (.cells #[.slice a m c, .bool b] 62)).cell? ⟨w3.heap.size, 1, none⟩ = some (.bool b) := cell_in w3 #[.slice a m c, .bool b] 62 1 rfl
  have HW3 : Hid (∀ z, numZ k n t = some z → WH (w3.alloc (.cells #[.slice a m c, .bool b] 62)) (.agg #[.slice a m c, .bool b]) z) := Lib.hid fun z hz => (HW.out z hz).below ((Below.refl _ w3).alloc (Nat.le_refl _) _)
  have HEW := Lib.hid (HE.out.below hbe.out)
  have hl3 : w3.heap.size < (w3.alloc (.cells #[.slice a m c, .bool b] 62)).heap.size := by simp
  clear hW hb3 HW
  generalize hX : w3.alloc (.cells #[.slice a m c, .bool b] 62) = X at *
  go_wp2_with fail
  refine (number_any HV'.out _ HEW.out).mono ?_
  rw [HOK'.out]
  rintro e w5 ⟨a', m', c', b', rfl, hW', hb5⟩
  have HBF := Lib.hid ((below_then hbe.out hb5).alloc (below_then hbe.out hb5).size (.cells #[.slice a' m' c', .bool b'] 62))
  have HWA : Hid (∀ z, numZ k n t = some z → WH (w5.alloc (.cells #[.slice a' m' c', .bool b'] 62)) (.agg #[.slice a m c, .bool b]) z) := Lib.hid fun z hz => ((HW3.out z hz).below hb5).below ((Below.refl _ w5).alloc (Nat.le_refl _) _)
  have HWB : Hid (∀ z, numZ k' n' t' = some z → WH (w5.alloc (.cells #[.slice a' m' c', .bool b'] 62)) (.agg #[.slice a' m' c', .bool b']) z) := Lib.hid fun z hz => (hW' z hz).below ((Below.refl _ w5).alloc (Nat.le_refl _) _)
  replace x0 := cell_on hb5 x0
  replace x1 := cell_on hb5 x1
  have hl5 : w3.heap.size < w5.heap.size := Nat.lt_of_lt_of_le hl3 hb5.size
  clear hW' hb5
  cases ok with
  | false =>
    obtain rfl : r = .tuple #[.bool false, .int .i64 31] := by rw [HR.out]; cases hq : numZ k n t with | none => rfl | some z => have := HOK.out; rw [hq] at this; cases this
    go_wp2_with fail
    refine bodyPost_ret (v := .tuple #[.bool false, .int .i64 31]) (by simp [results, Tryz.results37, go_sem]) rfl ?_
    exact ⟨rfl, HBF.out⟩
  | true =>
    cases ok' with
    | false =>
      obtain rfl : r = .tuple #[.bool false, .int .i64 31] := by
        rw [HR.out]; cases hq : numZ k' n' t' with | none => cases numZ k n t <;> rfl | some z => have := HOK'.out; rw [hq] at this; cases this
      go_wp2_with fail
      refine bodyPost_ret (v := .tuple #[.bool false, .int .i64 31]) (by simp [results, Tryz.results37, go_sem]) rfl ?_
      exact ⟨rfl, HBF.out⟩
    | true =>
      obtain ⟨x, hx⟩ := Option.isSome_iff_exists.1 HOK.out
      obtain ⟨y, hy⟩ := Option.isSome_iff_exists.1 HOK'.out
      have HWX := Lib.hid (HWA.out x hx); have HWY := Lib.hid (HWB.out y hy)
      obtain rfl : r = .tuple #[.bool (decide (x < y)), .int .i64 0] := by rw [HR.out, hx, hy]
      clear hx hy
      go_wp2_with fail
      refine (less_calls _ _ x y _ HWX.out HWY.out).mono ?_
      rintro e w7 ⟨rfl, hb7⟩
      have HB7 := Lib.hid (below_then HBF.out hb7)
      clear hb7
      go_wp2_with fail
      refine bodyPost_ret (v := .tuple #[.bool (decide (x < y)), .int .i64 0]) (by simp [results, Tryz.results37, go_sem]) rfl ?_
      exact ⟨rfl, HB7.out⟩
end Go.Proofs.YthjpbbbmnmhmmaaGreatDoor
