import Derived.Test.YthjpbbbmnmhmmaaGreatDoorA12
import Derived.WalkLawsBesides
import Derived.WalkSpells
set_option linter.unusedVariables false
set_option linter.unusedSimpArgs false
namespace Go.Proofs.YthjpbbbmnmhmmaaGreatDoor
open Go.RowKit Go.Shelf Go.Lib

theorem cell_in (w : World) (cs : Array Value) (t : TypeId) (j : Nat) {v : Value} (h : cs[j]? = some v) : (w.alloc (.cells cs t)).cell? ⟨w.heap.size, j, none⟩ = some v := by
  have := World.alloc_heap_new w (.cells cs t)
  simp only [World.cell?, this]; simpa using h
theorem frozen_in (w : World) (cs : Array Value) (t : TypeId) (j : Nat) : (w.alloc (.cells cs t)).frozen? ⟨w.heap.size, j, none⟩ = false := by
  have := World.alloc_heap_new w (.cells cs t)
  simp only [World.frozen?, this]; simp
theorem cell_in2 (w : World) (o : Obj) (cs : Array Value) (t : TypeId) (j : Nat) {v : Value} (h : cs[j]? = some v) : ((w.alloc o).alloc (.cells cs t)).cell? ⟨w.heap.size + 1, j, none⟩ = some v := by
  have := cell_in (w.alloc o) cs t j h; rwa [World.size_alloc] at this
theorem frozen_in2 (w : World) (o : Obj) (cs : Array Value) (t : TypeId) (j : Nat) : ((w.alloc o).alloc (.cells cs t)).frozen? ⟨w.heap.size + 1, j, none⟩ = false := by
  have := frozen_in (w.alloc o) cs t j; rwa [World.size_alloc] at this

theorem dig_len_nd {n k : Nat} (h : nDigits n ≤ k) : 6 * (dig n).length ≤ k + 6 := by
  have := sizeD_dig n
  unfold sizeD at this
  split at this
  · rename_i e; rw [e]; simp
  · omega

/-- The value of a number. -/
def vv (z : Int) : Value := if -9223372036854775808 ≤ z ∧ z ≤ 9223372036854775807 then .agg #[.int .i64 1, .int .i64 z, .string ⟨#[]⟩] else .agg #[.int .i64 2, .int .i64 0, .string ⟨(itoa z).toArray⟩]

def badV (n : Int) : List PanicEntry := [{ v := .iface 96 (.agg #[.int .i64 n]), recovered := false }]

set_option maxHeartbeats 1000000 in
theorem val_limit (v : Value) (z : Int) (w : World) (h : WH w v z) (hE : Env w) (hl : (dig z.natAbs).length ≤ 1000) (hd : 400 < nDigits z.natAbs) :
    Calls Tryz.prog 55 #[v] w fun e w' => e = .panicked (badV 2) ∧ Below w.heap.size w w' := by
  obtain ⟨sv, rfl, hr⟩ := h
  have HR := Lib.hid hr
  obtain ⟨a, ca, rfl, _⟩ := hr
  obtain ⟨neg, hneg⟩ : ∃ neg, decide (z < 0) = neg := ⟨_, rfl⟩
  rw [hneg]
  have hsz : Hid (sizeD (dig z.natAbs) = nDigits z.natAbs) := Lib.hid (sizeD_dig _)
  obtain ⟨k, hk⟩ : ∃ k, nDigits z.natAbs = k := ⟨_, rfl⟩
  rw [hk] at hsz hd
  have hd' : (400 : Int) < (k : Int) := by omega
  have hb : ∀ o o', Below w.heap.size w ((w.alloc o).alloc o') := fun o o' => ((Below.refl _ w).alloc (Nat.le_refl _) o).alloc (by simp) o'
  have HB := Lib.hid hb
  clear hneg hk hb hd
  have hp : Hid (badV 2 = [{ v := .iface 96 (.agg #[.int .i64 2]), recovered := false }]) := Lib.hid rfl
  rw [hp.out]
  go_enter Tryz.func55, Tryz.ntmps55
  go_wp2_with fail
  refine (size_calls _ _ _ (HR.out.below (HB.out _ _)) (dig_inR _)).mono ?_
  rw [hsz.out]
  rintro e w' ⟨rfl, rfl⟩
  go_wp2_with fail
  exact ⟨rfl, rfl, HB.out _ _⟩

set_option maxHeartbeats 1000000 in
theorem val_ok (v : Value) (z : Int) (w : World) (h : WH w v z) (hE : Env w) (hd : nDigits z.natAbs ≤ 400) :
    Calls Tryz.prog 55 #[v] w fun e w' => e = .returned (vv z) ∧ Below w.heap.size w w' := by
  have HW := Lib.hid h
  obtain ⟨sv, rfl, hr⟩ := h
  have HR := Lib.hid hr
  obtain ⟨a, ca, rfl, _⟩ := hr
  obtain ⟨neg, hneg⟩ : ∃ neg, decide (z < 0) = neg := ⟨_, rfl⟩
  rw [hneg] at HW ⊢
  have hsz : Hid (sizeD (dig z.natAbs) = nDigits z.natAbs) := Lib.hid (sizeD_dig _)
  have hdl : Hid ((dig z.natAbs).length ≤ 1000) := Lib.hid (by have := dig_len_nd hd; omega)
  have hil : Hid ((itoa z).length ≤ 401) := Lib.hid (by rw [itoa_length]; split <;> omega)
  obtain ⟨k, hk⟩ : ∃ k, nDigits z.natAbs = k := ⟨_, rfl⟩
  rw [hk] at hsz hd
  have hd' : (k : Int) ≤ 400 := by omega
  have hb : ∀ o o', Below w.heap.size w ((w.alloc o).alloc o') := fun o o' => ((Below.refl _ w).alloc (Nat.le_refl _) o).alloc (by simp) o'
  have HB := Lib.hid hb
  have HE := Lib.hid hE
  clear hneg hk hb hd hE
  obtain ⟨R, hR⟩ : ∃ R, vv z = R := ⟨_, rfl⟩
  have HRR := Lib.hid hR
  rw [hR]
  clear hR
  go_enter Tryz.func55, Tryz.ntmps55
  go_wp2_with fail
  refine (size_calls _ _ _ (HR.out.below (HB.out _ _)) (dig_inR _)).mono ?_
  rw [hsz.out]
  rintro e w' ⟨rfl, rfl⟩
  go_wp2_with fail
  refine (text_calls _ z _ (HW.out.below (HB.out _ _)) (HE.out.below (HB.out _ _)) hdl.out).mono ?_
  rintro e w2 ⟨rfl, hb2⟩
  have hb2' := Lib.hid hb2
  have hcc : ∀ W', Below w2.heap.size w2 W' → W'.cell? ⟨w.heap.size + 1, 0, none⟩ = some (.int .i64 0) ∧ W'.cell? ⟨w.heap.size + 1, 1, none⟩ = some (.int .i64 0) ∧ W'.cell? ⟨w.heap.size + 1, 2, none⟩ = some (.string ⟨#[]⟩) ∧ (∀ j, W'.frozen? ⟨w.heap.size + 1, j, none⟩ = false) := fun W' hW => by
    have hb := below_then hb2 hW
    exact ⟨cell_on hb (cell_in2 _ _ _ _ 0 rfl), cell_on hb (cell_in2 _ _ _ _ 1 rfl), cell_on hb (cell_in2 _ _ _ _ 2 rfl), fun j => (hb.frozen (p := ⟨w.heap.size + 1, j, none⟩) (by simp)).trans (frozen_in2 _ _ _ _ j)⟩
  have HCC := Lib.hid hcc
  have hbb : Hid (Below w.heap.size w w2) := Lib.hid (below_then (HB.out _ _) hb2)
  clear hcc
  clear hb2
  by_cases hi : -9223372036854775808 ≤ z ∧ z ≤ 9223372036854775807
  · have hp : Hid (Lib.parseIntB 64 (itoa z) = .ok z) := Lib.hid (by rw [parseInt_itoa, if_pos hi])
    have hi' := Lib.hid hi
    clear hi
    go_wp2_with fail
    refine (Tryz.strconv_ParseInt_10_at64_ok ⟨(itoa z).toArray⟩ (by have := hil.out; simp [ByteArray.size]; omega) z (by simpa using hp.out) w2).mono ?_
    rintro e w3 ⟨rfl, hw3⟩
    have hb3 : Below w2.heap.size w2 w3 := by
      rcases hw3 with rfl | ⟨t, rfl⟩
      · exact Below.refl _ _
      · exact bytesWorld_below _ _ _
    clear hw3
    obtain ⟨c0, c1, c2, cf⟩ := HCC.out w3 hb3
    have f0 := cf 0; have f1 := cf 1; have f2 := cf 2
    have hb3' := Lib.hid (below_then hbb.out hb3)
    clear hb3 cf
    go_wp2_with fail
    refine bodyPost_ret (v := .agg #[.int .i64 1, .int .i64 z, .string ⟨#[]⟩]) (by simp [results, Tryz.results55, go_sem, c0, c1, c2]) rfl ?_
    exact ⟨by rw [← HRR.out]; unfold vv; rw [if_pos hi'.out], ((hb3'.out.setCell (p := ⟨w.heap.size + 1, 0, none⟩) (by simp) _).setCell (p := ⟨w.heap.size + 1, 1, none⟩) (by simp) _).setCell (p := ⟨w.heap.size + 1, 2, none⟩) (by simp) _⟩
  · have hp : Hid (Lib.parseIntB 64 (itoa z) = .range) := Lib.hid (by rw [parseInt_itoa, if_neg hi])
    have hi' := Lib.hid hi
    clear hi
    obtain ⟨tp, pv, hv⟩ := (HE.out.below hbb.out).rng
    have HV := Lib.hid hv
    clear hv
    go_wp2_with fail
    refine (Tryz.strconv_ParseInt_10_at64_range_var ⟨(itoa z).toArray⟩ (by have := hil.out; simp [ByteArray.size]; omega) (by simpa using hp.out) tp pv w2 HV.out).mono ?_
    rintro e w3 ⟨N, rfl, hN1, hN2, hb3⟩
    obtain ⟨c0, c1, c2, cf⟩ := HCC.out w3 hb3
    have f0 := cf 0; have f1 := cf 1; have f2 := cf 2
    have hb3' := Lib.hid (below_then hbb.out hb3)
    clear hb3 cf hN1 hN2
    go_wp2_with fail
    refine bodyPost_ret (v := .agg #[.int .i64 2, .int .i64 0, .string ⟨(itoa z).toArray⟩]) (by simp [results, Tryz.results55, go_sem, c0, c1, c2]) rfl ?_
    exact ⟨by rw [← HRR.out]; unfold vv; rw [if_neg hi'.out], ((hb3'.out.setCell (p := ⟨w.heap.size + 1, 0, none⟩) (by simp) _).setCell (p := ⟨w.heap.size + 1, 1, none⟩) (by simp) _).setCell (p := ⟨w.heap.size + 1, 2, none⟩) (by simp) _⟩
end Go.Proofs.YthjpbbbmnmhmmaaGreatDoor
