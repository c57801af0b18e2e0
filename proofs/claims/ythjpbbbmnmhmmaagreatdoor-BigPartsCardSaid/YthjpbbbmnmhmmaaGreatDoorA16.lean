import Derived.Test.YthjpbbbmnmhmmaaGreatDoorA15
set_option linter.unusedVariables false
set_option linter.unusedSimpArgs false
namespace Go.Proofs.YthjpbbbmnmhmmaaGreatDoor
open Go.RowKit Go.Shelf Go.Lib

/-- A result variable that holds a value of the interface, as it lay at first. -/
structure ResV (W : World) (g : Nat) : Prop where
  c0 : W.cell? ⟨g, 0, none⟩ = some (.int .i64 0)
  c1 : W.cell? ⟨g, 1, none⟩ = some (.int .i64 0)
  c2 : W.cell? ⟨g, 2, none⟩ = some (.string ⟨#[]⟩)
  f0 : W.frozen? ⟨g, 0, none⟩ = false
  f1 : W.frozen? ⟨g, 1, none⟩ = false
  f2 : W.frozen? ⟨g, 2, none⟩ = false
  lt : g < W.heap.size

theorem ResV.below {W W' : World} {g : Nat} (h : ResV W g) (hb : Below W.heap.size W W') : ResV W' g :=
  ⟨cell_on hb h.c0, cell_on hb h.c1, cell_on hb h.c2, (hb.frozen (p := ⟨g, 0, none⟩) h.lt).trans h.f0, (hb.frozen (p := ⟨g, 1, none⟩) h.lt).trans h.f1, (hb.frozen (p := ⟨g, 2, none⟩) h.lt).trans h.f2, Nat.lt_of_lt_of_le h.lt hb.size⟩

theorem resV_new (W : World) (t : TypeId) : ResV (W.alloc (.cells #[.int .i64 0, .int .i64 0, .string ⟨#[]⟩] t)) W.heap.size :=
  ⟨cell_in _ _ _ 0 rfl, cell_in _ _ _ 1 rfl, cell_in _ _ _ 2 rfl, frozen_in _ _ _ 0, frozen_in _ _ _ 1, frozen_in _ _ _ 2, by simp⟩

theorem below_put3 {B : Nat} {w W : World} (h : Below B w W) {g : Nat} (hg : B ≤ g) (u u' u'' : Value) : Below B w (((W.setCell ⟨g, 0, none⟩ u).setCell ⟨g, 1, none⟩ u').setCell ⟨g, 2, none⟩ u'') :=
  ((h.setCell (p := ⟨g, 0, none⟩) hg _).setCell (p := ⟨g, 1, none⟩) hg _).setCell (p := ⟨g, 2, none⟩) hg _

theorem vE_zero : vE 0 0 [] = .agg #[.int .i64 0, .int .i64 0, .string ⟨#[]⟩] := rfl

/-- What is asked of a value that is looked at. -/
structure VOk (k n : Int) (t : List UInt8) : Prop where
  n : Small64 n
  t : t.length ≤ 100000

theorem number_some {k n : Int} {t : List UInt8} {z : Int} (h : VOk k n t) (hz : numZ k n t = some z) (w : World) (hE : Env w) :
    Calls Tryz.prog 68 #[.agg #[.int .i64 k, .int .i64 n, .string ⟨t.toArray⟩]] w fun e w' => ∃ v, e = .returned (.tuple #[v, .bool true]) ∧ FormW v ∧ WH w' v z ∧ Below w.heap.size w w' := by
  have := number_calls k n t h.n h.t w hE
  rw [hz] at this
  exact this.mono fun e w' ⟨v, h1, h2, h3, h4⟩ => ⟨v, h1, h2, h3 z rfl, h4⟩

theorem number_none {k n : Int} {t : List UInt8} (h : VOk k n t) (hz : numZ k n t = none) (w : World) (hE : Env w) :
    Calls Tryz.prog 68 #[.agg #[.int .i64 k, .int .i64 n, .string ⟨t.toArray⟩]] w fun e w' => ∃ v, e = .returned (.tuple #[v, .bool false]) ∧ FormW v ∧ Below w.heap.size w w' := by
  have := number_calls k n t h.n h.t w hE
  rw [hz] at this
  exact this.mono fun e w' ⟨v, h1, h2, h3, h4⟩ => ⟨v, h1, h2, h4⟩

set_option maxRecDepth 100000 in
set_option maxHeartbeats 2000000 in
theorem need_some {k n : Int} {t : List UInt8} {z : Int} (h : VOk k n t) (hz : numZ k n t = some z) (w : World) (hE : Env w) :
    Calls Tryz.prog 51 #[.agg #[.int .i64 k, .int .i64 n, .string ⟨t.toArray⟩]] w fun e w' => ∃ v, e = .returned v ∧ FormW v ∧ WH w' v z ∧ Below w.heap.size w w' := by
  have HZ := Lib.hid hz
  have HE := Lib.hid hE
  have HV := Lib.hid h
  have hb : ∀ o o', Below w.heap.size w ((w.alloc o).alloc o') := fun o o' => ((Below.refl _ w).alloc (Nat.le_refl _) o).alloc (by simp) o'
  have HB := Lib.hid hb
  clear hz hE hb h
  go_enter Tryz.func51, Tryz.ntmps51
  go_wp2_with fail
  refine (number_some HV.out HZ.out _ (HE.out.below (HB.out _ _))).mono ?_
  rintro e w3 ⟨v, rfl, ⟨a, sn, ca, bb, rfl⟩, hW, hb3⟩
  have HW := Lib.hid hW
  have hbe := Lib.hid (below_then (HB.out _ _) hb3)
  have hr2 := (by simpa using resW_new (w.alloc (.cells #[.int .i64 k, .int .i64 n, .string ⟨t.toArray⟩] 23)) 62 : ResW _ (w.heap.size + 1)).below hb3
  have d0 := hr2.c0; have d1 := hr2.c1; have f0 := hr2.f0; have f1 := hr2.f1
  have hlt := hr2.lt
  have HR2 := Lib.hid hr2
  clear hb3 hr2 hW
  go_wp2_with fail
  refine bodyPost_ret (v := .agg #[.slice a sn ca, .bool bb]) (by simp [results, Tryz.results51, go_sem, *]) rfl ?_
  have hpb := below_put hbe.out (g := w.heap.size + 1) (by omega)
  exact ⟨_, rfl, ⟨_, _, _, _, rfl⟩, (HW.out.put HR2.out.ni _ _).below ((Below.refl _ _).alloc (Nat.le_refl _) _), (hpb _ _).alloc (hpb _ _).size _⟩

set_option maxRecDepth 100000 in
set_option maxHeartbeats 2000000 in
theorem need_none {k n : Int} {t : List UInt8} (h : VOk k n t) (hz : numZ k n t = none) (w : World) (hE : Env w) :
    Calls Tryz.prog 51 #[.agg #[.int .i64 k, .int .i64 n, .string ⟨t.toArray⟩]] w fun e w' => e = .panicked (badV 31) ∧ Below w.heap.size w w' := by
  have HZ := Lib.hid hz
  have HE := Lib.hid hE
  have HV := Lib.hid h
  have hb : ∀ o o', Below w.heap.size w ((w.alloc o).alloc o') := fun o o' => ((Below.refl _ w).alloc (Nat.le_refl _) o).alloc (by simp) o'
  have HB := Lib.hid hb
  clear hz hE hb h
  go_enter Tryz.func51, Tryz.ntmps51
  go_wp2_with fail
  refine (number_none HV.out HZ.out _ (HE.out.below (HB.out _ _))).mono ?_
  rintro e w3 ⟨v, rfl, ⟨a, sn, ca, bb, rfl⟩, hb3⟩
  have hbe := Lib.hid (below_then (HB.out _ _) hb3)
  clear hb3
  go_wp2_with fail
  exact ⟨rfl, rfl, hbe.out.alloc hbe.out.size _⟩

/-- What a call of an exported function leaves: its results; whatever was there stands. -/
def Ans (P : Program) (f : FuncId) (args : Array Value) (w : World) (r : Value) : Prop :=
  Calls P f args w fun e w' => e = .returned r ∧ Below w.heap.size w w'

set_option maxRecDepth 100000 in
set_option maxHeartbeats 2000000 in
theorem check_calls {k n : Int} {t : List UInt8} (h : VOk k n t) (w : World) (hE : Env w) :
    Ans Tryz.prog 44 #[.agg #[.int .i64 k, .int .i64 n, .string ⟨t.toArray⟩]] w (match numZ k n t with | some z => .int .i64 0 | none => .int .i64 31) := by
  have HE := Lib.hid hE
  have HV := Lib.hid h
  have hb : ∀ o, Below w.heap.size w (w.alloc o) := fun o => (Below.refl _ w).alloc (Nat.le_refl _) o
  have HB := Lib.hid hb
  clear hE hb h
  cases hz : numZ k n t with
  | none =>
    have HZ := Lib.hid hz
    clear hz
    go_enter Tryz.func44, Tryz.ntmps44
    go_wp2_with fail
    refine (number_none HV.out HZ.out _ (HE.out.below (HB.out _))).mono ?_
    rintro e w3 ⟨v, rfl, ⟨a, sn, ca, bb, rfl⟩, hb3⟩
    have hbe := Lib.hid (below_then (HB.out _) hb3)
    clear hb3
    go_wp2_with fail
    refine bodyPost_ret (v := .int .i64 31) (by simp [results, Tryz.results44, go_sem, *]) rfl ?_
    exact ⟨rfl, hbe.out.alloc hbe.out.size _⟩
  | some z =>
    have HZ := Lib.hid hz
    clear hz
    go_enter Tryz.func44, Tryz.ntmps44
    go_wp2_with fail
    refine (number_some HV.out HZ.out _ (HE.out.below (HB.out _))).mono ?_
    rintro e w3 ⟨v, rfl, ⟨a, sn, ca, bb, rfl⟩, hW, hb3⟩
    have hbe := Lib.hid ((below_then (HB.out _) hb3).alloc (below_then (HB.out _) hb3).size (.cells #[.slice a sn ca, .bool bb] 62))
    have HW := Lib.hid (hW.below ((Below.refl _ w3).alloc (Nat.le_refl _) (.cells #[.slice a sn ca, .bool bb] 62)))
    have HEW := Lib.hid (HE.out.below hbe.out)
    clear hb3 hW
    go_wp2_with fail
    refine bodyPost_ret (v := .int .i64 0) (by simp [results, Tryz.results44, go_sem, *]) rfl ?_
    exact ⟨rfl, hbe.out⟩


theorem numZ_nd {k n : Int} {t : List UInt8} {z : Int} (hn : Small64 n) (h : numZ k n t = some z) : nDigits z.natAbs ≤ 400 ∧ vE k n t = vv z := by
  unfold numZ at h
  split at h
  · rename_i hc
    cases h
    obtain ⟨rfl, rfl⟩ := hc
    exact ⟨by have := nd_small hn; omega, (if_pos hn).symm⟩
  · split at h
    · rename_i hc
      split at h
      · rename_i z' hr
        split at h
        · cases h
        · rename_i hs
          cases h
          obtain ⟨rfl, rfl⟩ := hc
          obtain ⟨ht, hd⟩ := readZ_some hr
          exact ⟨hd, by rw [ht]; exact (if_neg hs).symm⟩
      · cases h
    · cases h

theorem dig_1000 {z : Int} (h : nDigits z.natAbs ≤ 400) : (dig z.natAbs).length ≤ 1000 := by have := dig_len_nd h; omega

set_option maxRecDepth 100000 in
set_option maxHeartbeats 2000000 in
theorem text_pub {k n : Int} {t : List UInt8} (h : VOk k n t) (w : World) (hE : Env w) :
    Ans Tryz.prog 32 #[.agg #[.int .i64 k, .int .i64 n, .string ⟨t.toArray⟩]] w (match numZ k n t with | some z => .tuple #[.string ⟨(itoa z).toArray⟩, .int .i64 0] | none => .tuple #[.string ⟨#[]⟩, .int .i64 31]) := by
  have HE := Lib.hid hE
  have HV := Lib.hid h
  have hb : ∀ o, Below w.heap.size w (w.alloc o) := fun o => (Below.refl _ w).alloc (Nat.le_refl _) o
  have HB := Lib.hid hb
  clear hE hb h
  cases hz : numZ k n t with
  | none =>
    have HZ := Lib.hid hz
    clear hz
    go_enter Tryz.func32, Tryz.ntmps32
    go_wp2_with fail
    refine (number_none HV.out HZ.out _ (HE.out.below (HB.out _))).mono ?_
    rintro e w3 ⟨v, rfl, ⟨a, sn, ca, bb, rfl⟩, hb3⟩
    have hbe := Lib.hid (below_then (HB.out _) hb3)
    clear hb3
    go_wp2_with fail
    refine bodyPost_ret (v := .tuple #[.string ⟨#[]⟩, .int .i64 31]) (by simp [results, Tryz.results32, go_sem, *]) rfl ?_
    exact ⟨rfl, hbe.out.alloc hbe.out.size _⟩
  | some z =>
    have HZ := Lib.hid hz
    clear hz
    go_enter Tryz.func32, Tryz.ntmps32
    go_wp2_with fail
    refine (number_some HV.out HZ.out _ (HE.out.below (HB.out _))).mono ?_
    rintro e w3 ⟨v, rfl, ⟨a, sn, ca, bb, rfl⟩, hW, hb3⟩
    have hbe := Lib.hid ((below_then (HB.out _) hb3).alloc (below_then (HB.out _) hb3).size (.cells #[.slice a sn ca, .bool bb] 62))
    have HW := Lib.hid (hW.below ((Below.refl _ w3).alloc (Nat.le_refl _) (.cells #[.slice a sn ca, .bool bb] 62)))
    have HEW := Lib.hid (HE.out.below hbe.out)
    clear hb3 hW
    go_wp2_with fail
    have hnd := numZ_nd HV.out.n HZ.out
    refine (text_calls _ z _ HW.out HEW.out (dig_1000 hnd.1)).mono ?_
    rintro e w5 ⟨rfl, hb5⟩
    have hbf := Lib.hid (below_then hbe.out hb5)
    clear hb5 hnd
    go_wp2_with fail
    refine bodyPost_ret (v := .tuple #[.string ⟨(itoa z).toArray⟩, .int .i64 0]) (by simp [results, Tryz.results32, go_sem, *]) rfl ?_
    exact ⟨rfl, hbf.out⟩

set_option maxRecDepth 100000 in
set_option maxHeartbeats 2000000 in
theorem digits_pub {k n : Int} {t : List UInt8} (h : VOk k n t) (w : World) (hE : Env w) :
    Ans Tryz.prog 42 #[.agg #[.int .i64 k, .int .i64 n, .string ⟨t.toArray⟩]] w (match numZ k n t with | some z => .tuple #[.int .i64 (nDigits z.natAbs : Nat), .int .i64 0] | none => .tuple #[.int .i64 0, .int .i64 31]) := by
  have HE := Lib.hid hE
  have HV := Lib.hid h
  have hb : ∀ o, Below w.heap.size w (w.alloc o) := fun o => (Below.refl _ w).alloc (Nat.le_refl _) o
  have HB := Lib.hid hb
  clear hE hb h
  cases hz : numZ k n t with
  | none =>
    have HZ := Lib.hid hz
    clear hz
    go_enter Tryz.func42, Tryz.ntmps42
    go_wp2_with fail
    refine (number_none HV.out HZ.out _ (HE.out.below (HB.out _))).mono ?_
    rintro e w3 ⟨v, rfl, ⟨a, sn, ca, bb, rfl⟩, hb3⟩
    have hbe := Lib.hid (below_then (HB.out _) hb3)
    clear hb3
    go_wp2_with fail
    refine bodyPost_ret (v := .tuple #[.int .i64 0, .int .i64 31]) (by simp [results, Tryz.results42, go_sem, *]) rfl ?_
    exact ⟨rfl, hbe.out.alloc hbe.out.size _⟩
  | some z =>
    have HZ := Lib.hid hz
    clear hz
    go_enter Tryz.func42, Tryz.ntmps42
    go_wp2_with fail
    refine (number_some HV.out HZ.out _ (HE.out.below (HB.out _))).mono ?_
    rintro e w3 ⟨v, rfl, ⟨a, sn, ca, bb, rfl⟩, hW, hb3⟩
    have hbe := Lib.hid ((below_then (HB.out _) hb3).alloc (below_then (HB.out _) hb3).size (.cells #[.slice a sn ca, .bool bb] 62))
    have HW := Lib.hid (hW.below ((Below.refl _ w3).alloc (Nat.le_refl _) (.cells #[.slice a sn ca, .bool bb] 62)))
    have HEW := Lib.hid (HE.out.below hbe.out)
    clear hb3 hW
    go_wp2_with fail
    obtain ⟨sv, hsv, hRI⟩ := HW.out
    cases hsv
    refine (size_calls _ _ _ hRI (dig_inR _)).mono ?_
    rw [sizeD_dig]
    rintro e w5 ⟨rfl, rfl⟩
    clear hRI
    go_wp2_with fail
    refine bodyPost_ret (v := .tuple #[.int .i64 (nDigits z.natAbs : Nat), .int .i64 0]) (by simp [results, Tryz.results42, go_sem, *]) rfl ?_
    exact ⟨rfl, hbe.out⟩


set_option maxRecDepth 100000 in
set_option maxHeartbeats 2000000 in
theorem of_pub (t : List UInt8) (ht : t.length ≤ 100000) (w : World) (hE : Env w) :
    Ans Tryz.prog 39 #[.string ⟨t.toArray⟩] w (match readZ t with | some z => .tuple #[vv z, .int .i64 0] | none => .tuple #[vE 0 0 [], .int .i64 31]) := by
  have HE := Lib.hid hE
  have HT := Lib.hid ht
  have hb : ∀ o, Below w.heap.size w (w.alloc o) := fun o => (Below.refl _ w).alloc (Nat.le_refl _) o
  have HB := Lib.hid hb
  clear hE hb ht
  rw [vE_zero]
  cases hz : readZ t with
  | none =>
    have HZ := Lib.hid hz
    clear hz
    go_enter Tryz.func39, Tryz.ntmps39
    go_wp2_with fail
    refine (read_none t HT.out _ HZ.out).mono ?_
    rintro e w3 ⟨rfl, hb3⟩
    have hbe := Lib.hid (below_then (HB.out _) hb3)
    have hr2 := (resV_new w 23).below hb3
    have d0 := hr2.c0; have d1 := hr2.c1; have d2 := hr2.c2; have f0 := hr2.f0; have f1 := hr2.f1; have f2 := hr2.f2
    have hlt := hr2.lt
    clear hb3 hr2
    go_wp2_with fail
    refine bodyPost_ret (v := .tuple #[.agg #[.int .i64 0, .int .i64 0, .string ⟨#[]⟩], .int .i64 31]) (by simp [results, Tryz.results39, go_sem, *]) rfl ?_
    have hpb := below_put3 hbe.out (Nat.le_refl _)
    exact ⟨rfl, (hpb _ _ _).alloc (hpb _ _ _).size _⟩
  | some z =>
    have HZ := Lib.hid hz
    obtain ⟨hzt, hnd⟩ := readZ_some hz
    have HND := Lib.hid hnd
    obtain ⟨k, n, T, hv⟩ : ∃ k n T, vv z = .agg #[.int .i64 k, .int .i64 n, .string T] := by unfold vv; split <;> exact ⟨_, _, _, rfl⟩
    have HVV := Lib.hid hv
    dsimp only
    rw [hv]
    clear hz hzt hnd hv
    go_enter Tryz.func39, Tryz.ntmps39
    go_wp2_with fail
    refine (read_some t HT.out _ z HZ.out).mono ?_
    rintro e w3 ⟨v, rfl, hW, hb3⟩
    obtain ⟨a, sn, ca, bb, rfl⟩ := hW.form
    have hr2 := ((resV_new w 23).below hb3).below ((Below.refl _ w3).alloc (Nat.le_refl _) (.cells #[.slice a sn ca, .bool bb] 62))
    have hbe := Lib.hid ((below_then (HB.out _) hb3).alloc (below_then (HB.out _) hb3).size (.cells #[.slice a sn ca, .bool bb] 62))
    have HW := Lib.hid (hW.below ((Below.refl _ w3).alloc (Nat.le_refl _) (.cells #[.slice a sn ca, .bool bb] 62)))
    have HEW := Lib.hid (HE.out.below hbe.out)
    have HR2 := Lib.hid hr2
    clear hb3 hW hr2
    go_wp2_with fail
    refine (val_ok _ z _ HW.out HEW.out HND.out).mono ?_
    rw [HVV.out]
    rintro e w5 ⟨rfl, hb5⟩
    have hbf := Lib.hid (below_then hbe.out hb5)
    have hr3 := HR2.out.below hb5
    have d0 := hr3.c0; have d1 := hr3.c1; have d2 := hr3.c2; have f0 := hr3.f0; have f1 := hr3.f1; have f2 := hr3.f2
    clear hb5 hr3
    go_wp2_with fail
    refine bodyPost_ret (v := .tuple #[.agg #[.int .i64 k, .int .i64 n, .string T], .int .i64 0]) (by simp [results, Tryz.results39, go_sem, *]) rfl ?_
    exact ⟨rfl, below_put3 hbf.out (Nat.le_refl _) _ _ _⟩
end Go.Proofs.YthjpbbbmnmhmmaaGreatDoor
