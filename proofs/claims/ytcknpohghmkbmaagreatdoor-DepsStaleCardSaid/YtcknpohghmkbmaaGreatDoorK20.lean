import Derived.Test.YtcknpohghmkbmaaGreatDoorK19
import Derived.Deep.RegionHeld3
set_option linter.unusedVariables false
set_option linter.unusedSimpArgs false
/- The texts A15 of the proof, laid one behind the other. -/
namespace Go.Proofs.YtcknpohghmkbmaaGreatDoor.Bg
open Go.RowKit Go.Shelf Go.Lib
def vE (k n : Int) (t : List UInt8) : Value := .agg #[.int .i64 k, .int .i64 n, .string ⟨t.toArray⟩]
def NoInt (W : World) (g : Nat) : Prop := ∀ j x, W.cell? ⟨g, j, none⟩ ≠ some (.int .i64 x)
structure ResW (W : World) (g : Nat) : Prop where
 c0 : W.cell? ⟨g, 0, none⟩ = some (.slice none 0 0)
 c1 : W.cell? ⟨g, 1, none⟩ = some (.bool false)
 f0 : W.frozen? ⟨g, 0, none⟩ = false
 f1 : W.frozen? ⟨g, 1, none⟩ = false
 ni : NoInt W g
 lt : g < W.heap.size
theorem ResW.below {W W' : World} {g : Nat} (h : ResW W g) (hb : Below W.heap.size W W') : ResW W' g :=
 ⟨cell_on hb h.c0, cell_on hb h.c1, (hb.frozen (p := ⟨g, 0, none⟩) h.lt).trans h.f0, (hb.frozen (p := ⟨g, 1, none⟩) h.lt).trans h.f1, fun j x => by rw [hb.cell (p := ⟨g, j, none⟩) h.lt]; exact h.ni j x, Nat.lt_of_lt_of_le h.lt hb.size⟩
theorem resW_new (W : World) (t : TypeId) : ResW (W.alloc (.cells #[.slice none 0 0, .bool false] t)) W.heap.size := by
 refine ⟨cell_in _ _ _ 0 rfl, cell_in _ _ _ 1 rfl, frozen_in _ _ _ 0, frozen_in _ _ _ 1, fun j x => ?_, by simp⟩
 have hnew := World.alloc_heap_new W (.cells #[.slice none 0 0, .bool false] t)
 simp only [World.cell?]
 rw [hnew]
 simp only [Option.isSome_none, Bool.false_eq_true, if_false]
 match j with
 | 0 => simp
 | 1 => simp
 | j + 2 => simp
theorem RI.put {W : World} {v : Value} {zs : List Int} (h : RI W v zs) {g : Nat} (hg : NoInt W g) (u u' : Value) : RI ((W.setCell ⟨g, 0, none⟩ u).setCell ⟨g, 1, none⟩ u') v zs := by
 obtain ⟨a, cap, rfl, hl, hc⟩ := h
 refine ⟨a, cap, rfl, hl, fun hz => ?_⟩
 obtain ⟨b, off, rfl, hc'⟩ := hc hz
 refine ⟨b, off, rfl, fun i hi => ?_⟩
 have hne : b ≠ g := fun e => hg _ _ (e ▸ hc' i hi)
 rw [World.cell?_setCell_other _ _ _ _ (fun e => hne (congrArg Addr.block e).symm), World.cell?_setCell_other _ _ _ _ (fun e => hne (congrArg Addr.block e).symm)]
 exact hc' i hi
theorem WH.put {W : World} {v : Value} {z : Int} (h : WH W v z) {g : Nat} (hg : NoInt W g) (u u' : Value) : WH ((W.setCell ⟨g, 0, none⟩ u).setCell ⟨g, 1, none⟩ u') v z := by
 obtain ⟨sv, e, hr⟩ := h; exact ⟨sv, e, hr.put hg u u'⟩
theorem below_put {B : Nat} {w W : World} (h : Below B w W) {g : Nat} (hg : B <= g) (u u' : Value) : Below B w ((W.setCell ⟨g, 0, none⟩ u).setCell ⟨g, 1, none⟩ u') :=
 (h.setCell (p := ⟨g, 0, none⟩) hg _).setCell (p := ⟨g, 1, none⟩) hg _
theorem itoa64_calls (z : Int) (hz : -9223372036854775808 <= z /\ z <= 9223372036854775807) (w : World) (hE : Env w) :
  Calls Tryz.prog 192 #[.int .i64 z] w fun e w' => e = .returned (.string ⟨(itoa z).toArray⟩) /\ Below w.heap.size w w' := by
 refine (Tryz.strconv_Itoa z (by omega) (by omega) w hE.tab).mono ?_
 rintro e w' ⟨rfl, k, os, rfl⟩
 exact ⟨rfl, below_grow _ w (Nat.le_refl _) k os⟩
theorem nd_small {z : Int} (hz : -9223372036854775808 <= z /\ z <= 9223372036854775807) : nDigits z.natAbs <= 19 := nDigits_le (k := 18) (by omega)
set_option maxRecDepth 100000 in
set_option maxHeartbeats 2000000 in
theorem number_small (z : Int) (hz : -9223372036854775808 <= z /\ z <= 9223372036854775807) (w : World) (hE : Env w) :
  Calls Tryz.prog 162 #[.agg #[.int .i64 1, .int .i64 z, .string ⟨#[]⟩]] w fun e w' => ∃ v, e = .returned (.tuple #[v, .bool true]) /\ WH w' v z /\ Below w.heap.size w w' := by
 have HZ := Lib.hid hz
 have HE := Lib.hid hE
 have hb : ∀ o o', Below w.heap.size w ((w.alloc o).alloc o') := fun o o' => ((Below.refl _ w).alloc (Nat.le_refl _) o).alloc (by simp) o'
 have HB := Lib.hid hb
 clear hz hE hb
 go_enter Tryz.func162, Tryz.ntmps162
 go_wp2_with fail
 refine (itoa64_calls z HZ.out _ (HE.out.below (HB.out _ _))).mono ?_
 rintro e w2 ⟨rfl, hb2⟩
 have hbb := Lib.hid (below_then (HB.out _ _) hb2)
 go_wp2_with fail
 refine (read_some (itoa z) ?_ _ z ?_).mono ?_
 ·rw [itoa_length]; have := nd_small HZ.out; split <;> omega
 ·exact readZ_itoa z (by have := nd_small HZ.out; omega)
 rintro e w3 ⟨v, rfl, hW, hb3⟩
 have HW := Lib.hid hW
 obtain ⟨sv, rfl, hRI⟩ := hW
 obtain ⟨a, ca, rfl, _⟩ := hRI
 have hbe := Lib.hid (below_then (below_then (HB.out _ _) hb2) hb3)
 have hr2 := ((by simpa using resW_new (w.alloc (.cells #[.int .i64 1, .int .i64 z, .string ⟨#[]⟩] 28)) 219 : ResW _ (w.heap.size + 1)).below hb2).below hb3
 have d0 := hr2.c0; have d1 := hr2.c1; have f0 := hr2.f0; have f1 := hr2.f1
 have hlt := hr2.lt
 have HR2 := Lib.hid hr2
 clear hb2 hb3 hr2
 go_wp2_with fail
 refine bodyPost_ret (v := .tuple #[.agg #[.slice a (dig z.natAbs).length ca, .bool (decide (z < 0))], .bool true]) (by simp [results, Tryz.results162, go_sem, *]) rfl ?_
 have hpb := below_put hbe.out (g := w.heap.size + 1) (by omega)
 exact ⟨_, rfl, (HW.out.put HR2.out.ni _ _).below ((Below.refl _ _).alloc (Nat.le_refl _) _), (hpb _ _).alloc (hpb _ _).size _⟩
def Small64 (z : Int) : Prop := -9223372036854775808 <= z /\ z <= 9223372036854775807
instance (z : Int) : Decidable (Small64 z) := inferInstanceAs (Decidable (_ /\ _))
set_option maxRecDepth 100000 in
set_option maxHeartbeats 2000000 in
theorem number_text (t : List UInt8) (ht : t.length <= 100000) (z : Int) (hz : readZ t = some z) (w : World) (hE : Env w) :
  Calls Tryz.prog 162 #[.agg #[.int .i64 2, .int .i64 0, .string ⟨t.toArray⟩]] w fun e w' => ∃ v, e = .returned (.tuple #[v, .bool (!decide (Small64 z))]) /\ WH w' v z /\ Below w.heap.size w w' := by
 have HZ := Lib.hid hz
 have HE := Lib.hid hE
 have hb : ∀ o o', Below w.heap.size w ((w.alloc o).alloc o') := fun o o' => ((Below.refl _ w).alloc (Nat.le_refl _) o).alloc (by simp) o'
 have HB := Lib.hid hb
 have HT := Lib.hid ht
 clear hz hE hb ht
 go_enter Tryz.func162, Tryz.ntmps162
 go_wp2_with fail
 refine (read_some t HT.out _ z HZ.out).mono ?_
 rintro e w3 ⟨v, rfl, hW, hb3⟩
 have HW := Lib.hid hW
 obtain ⟨sv, rfl, hRI⟩ := hW
 obtain ⟨a, ca, rfl, _⟩ := hRI
 have hbe := Lib.hid (below_then (HB.out _ _) hb3)
 have hr2 := (by simpa using resW_new (w.alloc (.cells #[.int .i64 2, .int .i64 0, .string ⟨t.toArray⟩] 28)) 219 : ResW _ (w.heap.size + 1)).below hb3
 have d0 := hr2.c0; have d1 := hr2.c1; have f0 := hr2.f0; have f1 := hr2.f1
 have hlt := hr2.lt
 have HR2 := Lib.hid hr2
 have b0 : w3.cell? ⟨w.heap.size, 0, none⟩ = some (.int .i64 2) := cell_on hb3 (by go_simp)
 have b1 : w3.cell? ⟨w.heap.size, 1, none⟩ = some (.int .i64 0) := cell_on hb3 (by go_simp)
 have b2 : w3.cell? ⟨w.heap.size, 2, none⟩ = some (.string ⟨t.toArray⟩) := cell_on hb3 (by go_simp)
 clear hb3 hr2
 go_wp2_with fail
 have hbW : Below w3.heap.size w3 (w3.alloc (.cells #[.slice a (dig z.natAbs).length ca, .bool (decide (z < 0))] 219)) := (Below.refl _ _).alloc (Nat.le_refl _) _
 have x0 : (w3.alloc (.cells #[.slice a (dig z.natAbs).length ca, .bool (decide (z < 0))] 219)).cell? ⟨w3.heap.size, 0, none⟩ = some (.slice a (dig z.natAbs).length ca) := cell_in _ _ _ 0 rfl
 have x1 : (w3.alloc (.cells #[.slice a (dig z.natAbs).length ca, .bool (decide (z < 0))] 219)).cell? ⟨w3.heap.size, 1, none⟩ = some (.bool (decide (z < 0))) := cell_in _ _ _ 1 rfl
 have HW2 := Lib.hid (HW.out.below hbW)
 have hbe2 := Lib.hid (below_then hbe.out hbW)
 have HR3 := Lib.hid (HR2.out.below hbW)
 replace b0 := cell_on hbW b0
 replace b1 := cell_on hbW b1
 replace b2 := cell_on hbW b2
 replace d0 := cell_on hbW d0
 replace d1 := cell_on hbW d1
 replace f0 := HR3.out.f0
 replace f1 := HR3.out.f1
 clear HW hbe HR2
 generalize w3.alloc (.cells #[.slice a (dig z.natAbs).length ca, .bool (decide (z < 0))] 219) = W at *
 clear hbW
 obtain ⟨hzt, hnd⟩ := readZ_some HZ.out
 have HND := Lib.hid hnd
 have HEW := Lib.hid (HE.out.below hbe2.out)
 clear hnd
 have hne1 : ¬ w3.heap.size = w.heap.size + 1 := by omega
 have hne2 : ¬ w.heap.size + 1 = w3.heap.size := by omega
 have DR := Lib.hid ((Below.refl W.heap.size W).drew)
 have hcase : (vv z = .agg #[.int .i64 1, .int .i64 z, .string ⟨#[]⟩] /\ (!decide (Small64 z)) = false) \/ (vv z = .agg #[.int .i64 2, .int .i64 0, .string ⟨t.toArray⟩] /\ (!decide (Small64 z)) = true) := by
  by_cases hs : Small64 z
  ·exact .inl ⟨if_pos hs, by simp [hs]⟩
  ·exact .inr ⟨by rw [hzt]; exact if_neg hs, by simp [hs]⟩
 clear hzt
 rcases hcase with ⟨hv, hs⟩ | ⟨hv, hs⟩
 ·have HS := Lib.hid hs
  have HV := Lib.hid hv
  clear hv hs
  go_region_held3 (fun w' => w'.cell? ⟨w3.heap.size, 0, none⟩ = some (.slice a (dig z.natAbs).length ca) /\ w'.cell? ⟨w3.heap.size, 1, none⟩ = some (.bool (decide (z < 0))) /\ w'.cell? ⟨w.heap.size, 0, none⟩ = some (.int .i64 2) /\ w'.cell? ⟨w.heap.size, 1, none⟩ = some (.int .i64 0) /\ w'.cell? ⟨w.heap.size, 2, none⟩ = some (.string ⟨t.toArray⟩))
   (first | go_keep | (go_split_ands; exact ⟨cell_on hb5 x0, cell_on hb5 x1, cell_on hb5 b0, cell_on hb5 b1, cell_on hb5 b2⟩) | (trace_state; fail))
   (first | (go_at_call 193; refine (val_ok _ z _ (HW2.out.below DR.out) (HEW.out.below DR.out) HND.out).mono ?_; rw [HV.out]; rintro e w5 ⟨rfl, hb5'⟩; have hb5 := below_then DR.out hb5'; clear hb5'; have y0 := cell_on hb5 d0; have y1 := cell_on hb5 d1; have y2 := (HR3.out.below hb5).f0; have y3 := (HR3.out.below hb5).f1))
  have HB5 := Lib.hid hb5
  have hlt5 : w.heap.size + 1 < w5.heap.size := by have := hb5.size; have := HR3.out.lt; omega
  clear hb5
  go_wp2_with fail
  refine bodyPost_ret (v := .tuple #[.agg #[.slice a (dig z.natAbs).length ca, .bool (decide (z < 0))], .bool false]) (by simp [results, Tryz.results162, go_sem, *]) rfl ?_
  exact ⟨_, by rw [HS.out], (HW2.out.below HB5.out).put (HR3.out.below HB5.out).ni _ _, below_put (below_then hbe2.out HB5.out) (by omega) _ _⟩
 ·have HS := Lib.hid hs
  have HV := Lib.hid hv
  clear hv hs
  go_region_held3 (fun w' => w'.cell? ⟨w3.heap.size, 0, none⟩ = some (.slice a (dig z.natAbs).length ca) /\ w'.cell? ⟨w3.heap.size, 1, none⟩ = some (.bool (decide (z < 0))) /\ w'.cell? ⟨w.heap.size, 0, none⟩ = some (.int .i64 2) /\ w'.cell? ⟨w.heap.size, 1, none⟩ = some (.int .i64 0) /\ w'.cell? ⟨w.heap.size, 2, none⟩ = some (.string ⟨t.toArray⟩))
   (first | go_keep | (go_split_ands; exact ⟨cell_on hb5 x0, cell_on hb5 x1, cell_on hb5 b0, cell_on hb5 b1, cell_on hb5 b2⟩) | (trace_state; fail))
   (first | (go_at_call 193; refine (val_ok _ z _ (HW2.out.below DR.out) (HEW.out.below DR.out) HND.out).mono ?_; rw [HV.out]; rintro e w5 ⟨rfl, hb5'⟩; have hb5 := below_then DR.out hb5'; clear hb5'; have y0 := cell_on hb5 d0; have y1 := cell_on hb5 d1; have y2 := (HR3.out.below hb5).f0; have y3 := (HR3.out.below hb5).f1))
  have HB5 := Lib.hid hb5
  have hlt5 : w.heap.size + 1 < w5.heap.size := by have := hb5.size; have := HR3.out.lt; omega
  clear hb5
  go_wp2_with fail
  refine bodyPost_ret (v := .tuple #[.agg #[.slice a (dig z.natAbs).length ca, .bool (decide (z < 0))], .bool true]) (by simp [results, Tryz.results162, go_sem, *]) rfl ?_
  exact ⟨_, by rw [HS.out], (HW2.out.below HB5.out).put (HR3.out.below HB5.out).ni _ _, below_put (below_then hbe2.out HB5.out) (by omega) _ _⟩
def numZ (k n : Int) (t : List UInt8) : Option Int :=
 if k = 1 /\ t = [] then some n else if k = 2 /\ n = 0 then (match readZ t with | some z => if Small64 z then none else some z | none => none) else none
set_option maxRecDepth 100000 in
set_option maxHeartbeats 2000000 in
theorem number_not (k n : Int) (t : List UInt8) (ht : t.length <= 100000) (w : World) (h1 : ¬ (k = 1 /\ t = [])) (h2 : (k = 2 /\ n = 0) -> readZ t = none) :
  Calls Tryz.prog 162 #[.agg #[.int .i64 k, .int .i64 n, .string ⟨t.toArray⟩]] w fun e w' => e = .returned (.tuple #[.agg #[.slice none 0 0, .bool false], .bool false]) /\ Below w.heap.size w w' := by
 have hb : ∀ o o', Below w.heap.size w ((w.alloc o).alloc o') := fun o o' => ((Below.refl _ w).alloc (Nat.le_refl _) o).alloc (by simp) o'
 have HB := Lib.hid hb
 have HT := Lib.hid ht
 have H2 := Lib.hid h2
 clear hb ht
 have e1 : (decide (k = 1) && decide (t = [])) = false := by simpa using h1
 by_cases h3 : k = 2 /\ n = 0
 ·obtain ⟨rfl, rfl⟩ := h3
  have hz := Lib.hid (h2 ⟨rfl, rfl⟩)
  clear h1 h2 e1
  go_enter Tryz.func162, Tryz.ntmps162
  go_wp2_with fail
  refine (read_none t HT.out _ hz.out).mono ?_
  rintro e w3 ⟨rfl, hb3⟩
  have hbe := Lib.hid (below_then (HB.out _ _) hb3)
  have hr2 := (by simpa using resW_new (w.alloc (.cells #[.int .i64 2, .int .i64 0, .string ⟨t.toArray⟩] 28)) 219 : ResW _ (w.heap.size + 1)).below hb3
  have d0 := hr2.c0; have d1 := hr2.c1; have f0 := hr2.f0; have f1 := hr2.f1
  have hlt := hr2.lt
  clear hb3
  go_wp2_with fail
  go_region
  all_goals
   go_wp2_with fail
   refine bodyPost_ret (v := .tuple #[.agg #[.slice none 0 0, .bool false], .bool false]) (by simp [results, Tryz.results162, go_sem, *]) rfl ?_
   exact ⟨rfl, (below_put hbe.out (g := w.heap.size + 1) (by omega) _ _).alloc (by have := hbe.out.size; simpa using this) _ |>.drew⟩
 ·have hc : (k = 1 /\ (t == []) = false /\ (t != []) = true) \/ (k = 2 /\ (n == 0) = false /\ (n != 0) = true) \/ ((k == 1) = false /\ (k == 2) = false /\ (k != 2) = true) := by
   by_cases a : k = 1
   ·left; refine ⟨a, ?_⟩; have : t ≠ [] := fun e => h1 ⟨a, e⟩; simp [this]
   ·by_cases b : k = 2
    ·right; left; refine ⟨b, ?_⟩; have : n ≠ 0 := fun e => h3 ⟨b, e⟩; simp [this]
    ·right; right; simp [a, b]
  clear h1 h2 h3 e1
  rcases hc with ⟨rfl, h1, h2⟩ | ⟨rfl, h1, h2⟩ | ⟨h0, h1, h2⟩
  all_goals
   go_enter Tryz.func162, Tryz.ntmps162
   go_wp2_with fail
   refine bodyPost_ret (v := .tuple #[.agg #[.slice none 0 0, .bool false], .bool false]) (by simp [results, Tryz.results162, go_sem, *]) rfl ?_
   exact ⟨rfl, HB.out _ _⟩
def FormW (v : Value) : Prop := ∃ a n c b, v = .agg #[.slice a n c, .bool b]
theorem WH.form {W : World} {v : Value} {z : Int} (h : WH W v z) : FormW v := by
 obtain ⟨sv, rfl, a, ca, rfl, _⟩ := h; exact ⟨_, _, _, _, rfl⟩
theorem number_calls (k n : Int) (t : List UInt8) (hn : Small64 n) (ht : t.length <= 100000) (w : World) (hE : Env w) :
  Calls Tryz.prog 162 #[vE k n t] w fun e w' => ∃ v, e = .returned (.tuple #[v, .bool (numZ k n t).isSome]) /\ FormW v /\ (∀ z, numZ k n t = some z -> WH w' v z) /\ Below w.heap.size w w' := by
 by_cases h1 : k = 1 /\ t = []
 ·have e : numZ k n t = some n := if_pos h1
  rw [e]
  obtain ⟨rfl, rfl⟩ := h1
  refine (number_small n hn w hE).mono ?_
  rintro e w' ⟨v, rfl, h, hb⟩
  exact ⟨v, rfl, h.form, (fun z hz => by cases hz; exact h), hb⟩
 ·by_cases h2 : k = 2 /\ n = 0
  ·have e : numZ k n t = (match readZ t with | some z => if Small64 z then none else some z | none => none) := by unfold numZ; rw [if_neg h1, if_pos h2]
   cases hr : readZ t with
   | none =>
    rw [hr] at e; rw [e]
    refine (number_not k n t ht w h1 (fun _ => hr)).mono ?_
    rintro e w' ⟨rfl, hb⟩
    exact ⟨_, rfl, ⟨_, _, _, _, rfl⟩, (by intro z hz; simp at hz), hb⟩
   | some z =>
    rw [hr] at e
    obtain ⟨rfl, rfl⟩ := h2
    refine (number_text t ht z hr w hE).mono ?_
    rintro e2 w' ⟨v, rfl, h, hb⟩
    refine ⟨v, ?_, h.form, fun z' hz => ?_, hb⟩
    ·rw [e]; by_cases hs : Small64 z <;> simp [hs]
    ·rw [e] at hz; by_cases hs : Small64 z
     ·simp [hs] at hz
     ·simp [hs] at hz; subst hz; exact h
  ·have e : numZ k n t = none := by unfold numZ; rw [if_neg h1, if_neg h2]
   rw [e]
   refine (number_not k n t ht w h1 (fun h => absurd h h2)).mono ?_
   rintro e w' ⟨rfl, hb⟩
   exact ⟨_, rfl, ⟨_, _, _, _, rfl⟩, (by intro z hz; simp at hz), hb⟩
end Go.Proofs.YtcknpohghmkbmaaGreatDoor.Bg
