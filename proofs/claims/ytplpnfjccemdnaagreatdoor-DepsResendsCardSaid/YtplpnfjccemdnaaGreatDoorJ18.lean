import Derived.Test.YtplpnfjccemdnaaGreatDoorJ17
import Derived.WalkLawsBesides
import Derived.WalkSpells
import Derived.Deep.RegionHeld3
set_option linter.unusedVariables false
set_option linter.unusedSimpArgs false
/- The texts A13 A14 A15 of the proof, laid one behind the other. -/
namespace Go.Proofs.YtplpnfjccemdnaaGreatDoor.Bg
open Go.RowKit Go.Shelf Go.Lib
theorem cell_in (w : World) (cs : Array Value) (t : TypeId) (j : Nat) {v : Value} (h : cs[j]? = some v) : (w.alloc (.cells cs t)).cell? ⟨w.heap.size, j, none⟩ = some v := by
 have := World.alloc_heap_new w (.cells cs t)
 simp only [World.cell?, this]; simpa using h
theorem frozen_in (w : World) (cs : Array Value) (t : TypeId) (j : Nat) : (w.alloc (.cells cs t)).frozen? ⟨w.heap.size, j, none⟩ = false := by
 have := World.alloc_heap_new w (.cells cs t)
 simp only [World.frozen?, this]; simp
theorem cell_in2 (w : World) (o : Obj) (cs : Array Value) (t : TypeId) (j : Nat) {v : Value} (h : cs[j]? = some v) : ((w.alloc o).alloc (.cells cs t)).cell? ⟨w.heap.size + 1, j, none⟩ = some v := by
 have := cell_in (w.alloc o) cs t j h; rwa [World.size_alloc] at this
theorem frozen_in2 (w : World) (o : Obj) (cs : Array Value) (t : TypeId) (j : Nat) : ((w.alloc o).alloc (.cells cs t)).frozen? ⟨w.heap.size + 1, j, none⟩ = false := by
 have := frozen_in (w.alloc o) cs t j; rwa [World.size_alloc] at this
theorem dig_len_nd {n k : Nat} (h : nDigits n <= k) : 6 * (dig n).length <= k + 6 := by
 have := sizeD_dig n
 unfold sizeD at this
 split at this
 ·rename_i e; rw [e]; simp
 ·omega
def vv (z : Int) : Value := if -9223372036854775808 <= z /\ z <= 9223372036854775807 then .agg #[.int .i64 1, .int .i64 z, .string ⟨#[]⟩] else .agg #[.int .i64 2, .int .i64 0, .string ⟨(itoa z).toArray⟩]
set_option maxHeartbeats 1000000 in
theorem val_ok (v : Value) (z : Int) (w : World) (h : WH w v z) (hE : Env w) (hd : nDigits z.natAbs <= 400) :
  Calls Tryz.prog 206 #[v] w fun e w' => e = .returned (vv z) /\ Below w.heap.size w w' := by
 have HW := Lib.hid h
 obtain ⟨sv, rfl, hr⟩ := h
 have HR := Lib.hid hr
 obtain ⟨a, ca, rfl, _⟩ := hr
 obtain ⟨neg, hneg⟩ : ∃ neg, decide (z < 0) = neg := ⟨_, rfl⟩
 rw [hneg] at HW ⊢
 have hsz : Hid (sizeD (dig z.natAbs) = nDigits z.natAbs) := Lib.hid (sizeD_dig _)
 have hdl : Hid ((dig z.natAbs).length <= 1000) := Lib.hid (by have := dig_len_nd hd; omega)
 have hil : Hid ((itoa z).length <= 401) := Lib.hid (by rw [itoa_length]; split <;> omega)
 obtain ⟨k, hk⟩ : ∃ k, nDigits z.natAbs = k := ⟨_, rfl⟩
 rw [hk] at hsz hd
 have hd' : (k : Int) <= 400 := by omega
 have hb : ∀ o o', Below w.heap.size w ((w.alloc o).alloc o') := fun o o' => ((Below.refl _ w).alloc (Nat.le_refl _) o).alloc (by simp) o'
 have HB := Lib.hid hb
 have HE := Lib.hid hE
 clear hneg hk hb hd hE
 obtain ⟨R, hR⟩ : ∃ R, vv z = R := ⟨_, rfl⟩
 have HRR := Lib.hid hR
 rw [hR]
 clear hR
 go_enter Tryz.func206, Tryz.ntmps206
 go_wp2_with fail
 refine (size_calls _ _ _ (HR.out.below (HB.out _ _)) (dig_inR _)).mono ?_
 rw [hsz.out]
 rintro e w' ⟨rfl, rfl⟩
 go_wp2_with fail
 refine (text_calls _ z _ (HW.out.below (HB.out _ _)) (HE.out.below (HB.out _ _)) hdl.out).mono ?_
 rintro e w2 ⟨rfl, hb2⟩
 have hb2' := Lib.hid hb2
 have hcc : ∀ W', Below w2.heap.size w2 W' -> W'.cell? ⟨w.heap.size + 1, 0, none⟩ = some (.int .i64 0) /\ W'.cell? ⟨w.heap.size + 1, 1, none⟩ = some (.int .i64 0) /\ W'.cell? ⟨w.heap.size + 1, 2, none⟩ = some (.string ⟨#[]⟩) /\ (∀ j, W'.frozen? ⟨w.heap.size + 1, j, none⟩ = false) := fun W' hW => by
  have hb := below_then hb2 hW
  exact ⟨cell_on hb (cell_in2 _ _ _ _ 0 rfl), cell_on hb (cell_in2 _ _ _ _ 1 rfl), cell_on hb (cell_in2 _ _ _ _ 2 rfl), fun j => (hb.frozen (p := ⟨w.heap.size + 1, j, none⟩) (by simp)).trans (frozen_in2 _ _ _ _ j)⟩
 have HCC := Lib.hid hcc
 have hbb : Hid (Below w.heap.size w w2) := Lib.hid (below_then (HB.out _ _) hb2)
 clear hcc
 clear hb2
 by_cases hi : -9223372036854775808 <= z /\ z <= 9223372036854775807
 ·have hp : Hid (Lib.parseIntB 64 (itoa z) = .ok z) := Lib.hid (by rw [parseInt_itoa, if_pos hi])
  have hi' := Lib.hid hi
  clear hi
  go_wp2_with fail
  refine (Tryz.strconv_ParseInt_10_at64_ok ⟨(itoa z).toArray⟩ (by have := hil.out; simp [ByteArray.size]; omega) z (by simpa using hp.out) w2).mono ?_
  rintro e w3 ⟨rfl, hw3⟩
  have hb3 : Below w2.heap.size w2 w3 := by
   rcases hw3 with rfl | ⟨t, rfl⟩
   ·exact Below.refl _ _
   ·exact bytesWorld_below _ _ _
  clear hw3
  obtain ⟨c0, c1, c2, cf⟩ := HCC.out w3 hb3
  have f0 := cf 0; have f1 := cf 1; have f2 := cf 2
  have hb3' := Lib.hid (below_then hbb.out hb3)
  clear hb3 cf
  go_wp2_with fail
  refine bodyPost_ret (v := .agg #[.int .i64 1, .int .i64 z, .string ⟨#[]⟩]) (by simp [results, Tryz.results206, go_sem, c0, c1, c2]) rfl ?_
  exact ⟨by rw [<- HRR.out]; unfold vv; rw [if_pos hi'.out], ((hb3'.out.setCell (p := ⟨w.heap.size + 1, 0, none⟩) (by simp) _).setCell (p := ⟨w.heap.size + 1, 1, none⟩) (by simp) _).setCell (p := ⟨w.heap.size + 1, 2, none⟩) (by simp) _⟩
 ·have hp : Hid (Lib.parseIntB 64 (itoa z) = .range) := Lib.hid (by rw [parseInt_itoa, if_neg hi])
  have hi' := Lib.hid hi
  clear hi
  obtain ⟨tp, pv, hv⟩ := (HE.out.below hbb.out).rng
  have HV := Lib.hid hv
  clear hv
  go_wp2_with fail
  refine (Tryz.strconv_ParseInt_10_at64_range_var ⟨(itoa z).toArray⟩ (by have := hil.out; simp [ByteArray.size]; omega) (by simpa using hp.out) tp pv w2 HV.out).mono ?_
  rintro e w3 ⟨N, rfl, hN1, hN2, hb3⟩
  obtain ⟨c0, c1, c2, cf⟩ := HCC.out w3 hb3
  have f0 := cf 0; have f1 := cf 1; have f2 := cf 2
  have hb3' := Lib.hid (below_then hbb.out hb3)
  clear hb3 cf hN1 hN2
  go_wp2_with fail
  refine bodyPost_ret (v := .agg #[.int .i64 2, .int .i64 0, .string ⟨(itoa z).toArray⟩]) (by simp [results, Tryz.results206, go_sem, c0, c1, c2]) rfl ?_
  exact ⟨by rw [<- HRR.out]; unfold vv; rw [if_neg hi'.out], ((hb3'.out.setCell (p := ⟨w.heap.size + 1, 0, none⟩) (by simp) _).setCell (p := ⟨w.heap.size + 1, 1, none⟩) (by simp) _).setCell (p := ⟨w.heap.size + 1, 2, none⟩) (by simp) _⟩
end Go.Proofs.YtplpnfjccemdnaaGreatDoor.Bg
namespace Go.Proofs.YtplpnfjccemdnaaGreatDoor.Bg
open Go.RowKit Go.Shelf Go.Lib
theorem trimPrefix_unsign (l : List UInt8) : Lib.trimPrefix l [45] = unsign l := by
 unfold Lib.trimPrefix Lib.hasPrefix unsign
 cases l with
 | nil => rfl
 | cons c l =>
  by_cases hc : c = 45
  ·subst hc; rfl
  ·have : ([45] : List UInt8).isPrefixOf (c :: l) = false := by simp [List.isPrefixOf]; exact fun h => hc h.symm
   rw [this]
   split
   ·rename_i h; cases h
   ·split
    ·rename_i heq; exact absurd (List.cons.inj heq).1 hc
    ·rfl
theorem trimS_nil {l : List UInt8} : Lib.trimS l [48, 49, 50, 51, 52, 53, 54, 55, 56, 57] = [] ↔ AllD l := by
 have hmem : ∀ c : UInt8, ([48, 49, 50, 51, 52, 53, 54, 55, 56, 57] : List UInt8).contains c = true ↔ 48 <= c.toNat /\ c.toNat <= 57 := by
  intro c
  have : ∀ n : Fin 256, ([48, 49, 50, 51, 52, 53, 54, 55, 56, 57] : List UInt8).contains (UInt8.ofNat n.val) = true ↔ 48 <= n.val /\ n.val <= 57 := by decide +kernel
  have := this ⟨c.toNat, c.toNat_lt⟩
  simpa using this
 have hdw : ∀ m : List UInt8, m.dropWhile (([48, 49, 50, 51, 52, 53, 54, 55, 56, 57] : List UInt8).contains ·) = [] ↔ AllD m := by
  intro m
  induction m with
  | nil => simp [AllD]
  | cons c m ih =>
   rw [List.dropWhile_cons]
   by_cases hc : ([48, 49, 50, 51, 52, 53, 54, 55, 56, 57] : List UInt8).contains c = true
   ·rw [if_pos hc, ih]
    constructor
    ·intro h x hx
     rcases List.mem_cons.1 hx with rfl | hx
     ·exact (hmem _).1 hc
     ·exact h x hx
    ·intro h x hx; exact h x (by simp [hx])
   ·rw [if_neg hc]
    constructor
    ·intro h; cases h
    ·intro h; exact absurd ((hmem c).2 (h c (by simp))) hc
 unfold Lib.trimS Lib.trimLeftS Lib.trimRightS
 rw [hdw]
 constructor
 ·intro h
  have hsplit : l.reverse.takeWhile (([48, 49, 50, 51, 52, 53, 54, 55, 56, 57] : List UInt8).contains ·) ++ l.reverse.dropWhile (([48, 49, 50, 51, 52, 53, 54, 55, 56, 57] : List UInt8).contains ·) = l.reverse := List.takeWhile_append_dropWhile
  intro x hx
  have hx' : x ∈ l.reverse := by simpa using hx
  rw [<- hsplit] at hx'
  rcases List.mem_append.1 hx' with hx' | hx'
  ·exact (hmem x).1 (by
    have := List.all_takeWhile (p := (([48, 49, 50, 51, 52, 53, 54, 55, 56, 57] : List UInt8).contains ·)) (l := l.reverse)
    rw [List.all_eq_true] at this
    exact this x hx')
  ·exact h x (by simpa using hx')
 ·intro h x hx
  have hx' : x ∈ l.reverse.dropWhile (([48, 49, 50, 51, 52, 53, 54, 55, 56, 57] : List UInt8).contains ·) := by simpa using hx
  exact h x (by have := (List.dropWhile_sublist _).subset hx'; simpa using this)
theorem trim_calls (t : List UInt8) (ht : t.length <= 1000000) (w : World) :
  Calls Tryz.prog 237 #[.string ⟨t.toArray⟩, .string ⟨#[48, 49, 50, 51, 52, 53, 54, 55, 56, 57]⟩] w fun e w' => (∃ l, e = .returned (.string ⟨l.toArray⟩) /\ (l = [] ↔ AllD t)) /\ Below w.heap.size w w' := by
 refine (Any.strings_Trim_laid Tryz.lays160 (by kernel_rfl) ⟨t.toArray⟩ ⟨#[48, 49, 50, 51, 52, 53, 54, 55, 56, 57]⟩ w (by simp [ByteArray.size]; omega) (by decide) (ascii_of_all (by decide))).mono ?_
 rintro e w' ⟨rfl, hb⟩
 exact ⟨⟨_, rfl, trimS_nil⟩, hb⟩
theorem minus_trim (l : List UInt8) (w : World) :
  Calls Tryz.prog 236 #[.string ⟨l.toArray⟩, .string ⟨#[45]⟩] w fun e w' => e = .returned (.string ⟨(unsign l).toArray⟩) /\ w = w' := by
 refine (Tryz.strings_TrimPrefix ⟨l.toArray⟩ ⟨#[45]⟩ w).mono ?_
 rintro e w' ⟨rfl, rfl⟩
 exact ⟨by rw [<- trimPrefix_unsign], rfl⟩
theorem own_forms {w : World} {base n : Nat} {v : Value} {xs : List Int} (h : w.ownsRow base 3 1 v n (xs.map (Value.int .i64))) :
  n = xs.length /\ ((v = .slice none 0 0 /\ xs = []) \/ ∃ g cap, v = .slice (some ⟨g, 0, none⟩) n cap /\ base <= g /\ n <= cap /\ cap <= maxLen /\ ∀ j, j < n -> w.cell? ⟨g, j, none⟩ = some (.int .i64 (rd xs j))) := by
 have hl : xs.length = n := by have := h.1; simpa using this
 refine ⟨hl.symm, ?_⟩
 rcases h.2 with ⟨rfl, h0⟩ | ⟨g, cap, cur, rfl, hb, _, h1, h2, _⟩
 ·left; subst h0; exact ⟨rfl, List.eq_nil_of_length_eq_zero hl⟩
 ·right
  refine ⟨g, cap, rfl, hb, h1, h2, fun j hj => ?_⟩
  have := h.cells (g := g) rfl j (.int .i64 (rd xs j)) (by simp [rd, List.getElem?_eq_getElem (show j < xs.length by omega)])
  have e : (⟨g, 0, none⟩ : Addr).add j = ⟨g, j, none⟩ := by unfold Addr.add; split <;> simp_all
  rwa [e] at this
def FrB (B : Nat) (v : Value) : Prop := ∀ a n c, v = .slice (some a) n c -> B <= a.block
theorem RI.store {W : World} {v : Value} {zs : List Int} (h : RI W v zs) {B g j : Nat} (u : Value) (hf : FrB B v) (hg : g < B) : RI (W.setCell ⟨g, j, none⟩ u) v zs := by
 obtain ⟨a, cap, rfl, hl, hc⟩ := h
 refine ⟨a, cap, rfl, hl, fun hz => ?_⟩
 obtain ⟨b, off, rfl, hc'⟩ := hc hz
 have hb := hf _ _ _ rfl
 refine ⟨b, off, rfl, fun i hi => ?_⟩
 rw [World.cell?_setCell_other _ _ _ _ (by intro e; cases e; simp at hb; omega)]
 exact hc' i hi
theorem infoInt : (Tryz.prog.info? 3).map (fun i => (i.zero, i.size, i.bytes)) = some (some (.int .i64 0), 1, 8) := by kernel_rfl
set_option maxRecDepth 100000 in
set_option maxHeartbeats 4000000 in
theorem read_none (l : List UInt8) (hl : l.length <= 100000) (w : World) (h : readZ l = none) :
  Calls Tryz.prog 204 #[.string ⟨l.toArray⟩] w fun e w' => e = .returned (.tuple #[.agg #[.slice none 0 0, .bool false], .bool false]) /\ Below w.heap.size w w' := by
 obtain ⟨t, ht⟩ : ∃ t, unsign l = t := ⟨_, rfl⟩
 have HT := Lib.hid ht
 have hul := unsign_len l
 rw [ht] at hul
 have H := Lib.hid h
 have hb : ∀ o, Below w.heap.size w (w.alloc o) := fun o => (Below.refl _ w).alloc (Nat.le_refl _) o
 have HB := Lib.hid hb
 clear ht h hb
 by_cases c1 : t = []
 ·subst c1
  go_enter Tryz.func204, Tryz.ntmps204
  go_wp2_with fail
  refine (minus_trim l _).mono ?_
  rw [HT.out]
  rintro e w' ⟨rfl, rfl⟩
  go_wp2_with fail
  refine bodyPost_ret (v := .tuple #[.agg #[.slice none 0 0, .bool false], .bool false]) (by simp [results, Tryz.results204, go_sem]) rfl ?_
  exact ⟨rfl, HB.out _⟩
 ·obtain ⟨c, r, rfl⟩ : ∃ c r, t = c :: r := by cases t with | nil => exact absurd rfl c1 | cons c r => exact ⟨c, r, rfl⟩
  clear c1
  by_cases c2 : 400 < (c :: r).length
  ·have c2' : (400 : Int) < (r.length : Int) + 1 := by simp at c2; omega
   go_enter Tryz.func204, Tryz.ntmps204
   go_wp2_with fail
   refine (minus_trim l _).mono ?_
   rw [HT.out]
   rintro e w' ⟨rfl, rfl⟩
   go_wp2_with fail
   refine bodyPost_ret (v := .tuple #[.agg #[.slice none 0 0, .bool false], .bool false]) (by simp [results, Tryz.results204, go_sem]) rfl ?_
   exact ⟨rfl, HB.out _⟩
  ·have c2' : (r.length : Int) + 1 <= 400 := by simp at c2; omega
   have c2d : decide ((400 : Int) < (r.length : Int) + 1) = false := by simp; omega
   have hb0 : ((⟨(c :: r).toArray⟩ : ByteArray)[0]'(by simp [ByteArray.size])) = c := rfl
   by_cases c3 : c = 48 /\ l ≠ [48]
   ·obtain ⟨rfl, c3⟩ := c3
    have e1 : (l == [48]) = false := by simp [c3]
    have e2 : (l != [48]) = true := by simp [c3]
    clear c3
    go_enter Tryz.func204, Tryz.ntmps204
    go_wp2_with fail
    refine (minus_trim l _).mono ?_
    rw [HT.out]
    rintro e w' ⟨rfl, rfl⟩
    go_wp2_with fail
    refine bodyPost_ret (v := .tuple #[.agg #[.slice none 0 0, .bool false], .bool false]) (by simp [results, Tryz.results204, go_sem]) rfl ?_
    exact ⟨rfl, HB.out _⟩
   ·have c4 : ¬ AllD (c :: r) := fun hA => by
     have := H.out; unfold readZ at this; rw [HT.out] at this
     rw [if_neg] at this
     ·cases this
     ·rintro (h1 | h1 | h1 | h1)
      ·cases h1
      ·exact c2 h1
      ·simp at h1; exact c3 ⟨h1.1, by simpa using h1.2⟩
      ·exact h1 hA
    have C4 := Lib.hid c4
    have e0 : Hid (c = 48 -> l = [48]) := Lib.hid (fun h => Classical.byContradiction fun h2 => c3 ⟨h, h2⟩)
    clear c4 c3
    by_cases c5 : c = 48
    ·have := e0.out c5
     subst this; subst c5
     exact absurd (show AllD ([48] : List UInt8) by decide) (by have h1 := HT.out; have h2 : unsign [48] = [48] := rfl; rw [h2] at h1; rw [h1]; exact C4.out)
    ·have e1 : ((c.toNat : Int) == 48) = false := by
      have : c.toNat ≠ 48 := fun h => c5 (UInt8.toNat_inj.1 h)
      simp; omega
     clear c5
     go_enter Tryz.func204, Tryz.ntmps204
     go_wp2_with fail
     refine (minus_trim l _).mono ?_
     rw [HT.out]
     rintro e w' ⟨rfl, rfl⟩
     go_wp2_with fail
     refine (trim_calls (c :: r) (by simp; omega) _).mono ?_
     rintro e w2 ⟨⟨m, rfl, hm⟩, hb2⟩
     have hm' : m ≠ [] := fun h => C4.out (hm.1 h)
     obtain ⟨c6, m, rfl⟩ : ∃ c r, m = c :: r := by cases m with | nil => exact absurd rfl hm' | cons c r => exact ⟨c, r, rfl⟩
     have hcc : w2.cell? ⟨w.heap.size, 0, none⟩ = some (.slice none 0 0) /\ w2.cell? ⟨w.heap.size, 1, none⟩ = some (.bool false) := ⟨cell_on hb2 (cell_in _ _ _ 0 rfl), cell_on hb2 (cell_in _ _ _ 1 rfl)⟩
     have hff : ∀ j, w2.frozen? ⟨w.heap.size, j, none⟩ = false := fun j => (hb2.frozen (p := ⟨w.heap.size, j, none⟩) (by simp)).trans (frozen_in _ _ _ j)
     have f0 := hff 0; have f1 := hff 1
     obtain ⟨k0, k1⟩ := hcc
     have HB2 := Lib.hid (below_then (HB.out _) hb2)
     clear hm hm' hff hb2
     go_wp2_with fail
     refine bodyPost_ret (v := .tuple #[.agg #[.slice none 0 0, .bool false], .bool false]) (by simp [results, Tryz.results204, go_sem, k0, k1]) rfl ?_
     exact ⟨rfl, (HB2.out.setCell (p := ⟨w.heap.size, 0, none⟩) (Nat.le_refl _) _).setCell (p := ⟨w.heap.size, 1, none⟩) (Nat.le_refl _) _⟩
theorem strip_RI {W : World} {b cap : Nat} {xs : List Int} (hx : InR xs) (hc : ∀ j, j < xs.length -> W.cell? ⟨b, j, none⟩ = some (.int .i64 (rd xs j))) {k : Nat} (hk : k <= xs.length) (hlen : xs.length <= 1000000) (hv : val (xs.take k) = val xs) (hz : k = 0 \/ rd xs (k - 1) ≠ 0) :
  RI W (.slice (some ⟨b, 0, none⟩) k cap) (dig (val xs).toNat) := by
 have e : xs.take k = dig (val xs).toNat := by
  rw [<- hv]
  refine dig_val (InR.take hx k) ?_
  rcases hz with rfl | hz
  ·left; simp
  ·right
   rcases Nat.eq_zero_or_pos k with rfl | h0
   ·simp
   ·have : (xs.take k).getLast? = some (rd xs (k - 1)) := by
     rw [List.getLast?_eq_getElem?]
     simp [rd, List.length_take, Nat.min_eq_left hk, List.getElem?_take, show k - 1 < k by omega, List.getElem?_eq_getElem (show k - 1 < xs.length by omega)]
    rw [this]; simpa using hz
 rw [<- e]
 refine ⟨_, cap, by simp [Nat.min_eq_left hk], by simp; omega, fun _ => ⟨b, 0, rfl, fun j hj => ?_⟩⟩
 have hj' : j < k := by simpa [Nat.min_eq_left hk] using hj
 have := hc j (by omega)
 simp only [Nat.zero_add]
 rw [this]; simp [rd, List.getElem?_take, hj']
structure Rd (t : List UInt8) (k : Nat) (xs : List Int) : Prop where
 len : xs.length = k
 rng : InR xs
 v : val xs = dv (t.drop (t.length - 6 * k))
 more : k = 0 \/ 6 * (k - 1) < t.length
def chunk (t : List UInt8) (k : Nat) : List UInt8 := (t.drop (t.length - 6 * (k + 1))).take (t.length - 6 * k - (t.length - 6 * (k + 1)))
theorem chunk_len {t : List UInt8} {k : Nat} (h : 6 * k < t.length) : (chunk t k).length <= 6 := by
 unfold chunk; rw [List.length_take, List.length_drop]; omega
theorem Rd.step {t : List UInt8} {k : Nat} {xs : List Int} (h : Rd t k xs) (hA : AllD t) (hk : 6 * k < t.length) : Rd t (k + 1) (xs ++ [(dv (chunk t k) : Int)]) := by
 have hAc : AllD (chunk t k) := fun c hc => hA c ((List.drop_subset _ _) ((List.take_subset _ _) hc))
 have hlt : dv (chunk t k) < 1000000 := Nat.lt_of_lt_of_le (dv_lt hAc) (Nat.le_trans (Nat.pow_le_pow_right (by decide) (chunk_len hk)) (by decide))
 refine ⟨by simp [h.len], fun x hx => ?_, ?_, .inr (by omega)⟩
 ·rcases List.mem_append.1 hx with hx | hx
  ·exact h.rng x hx
  ·rw [List.mem_singleton] at hx; subst hx; omega
 ·have e : t.drop (t.length - 6 * (k + 1)) = chunk t k ++ t.drop (t.length - 6 * k) := by
   unfold chunk
   rw [show t.drop (t.length - 6 * k) = (t.drop (t.length - 6 * (k + 1))).drop (t.length - 6 * k - (t.length - 6 * (k + 1))) by rw [List.drop_drop]; congr 1; omega, List.take_append_drop]
  rw [e, dv_append, val_append, h.v, h.len, List.length_drop, show t.length - (t.length - 6 * k) = 6 * k by omega]
  simp only [val]
  have : ((dv (chunk t k) * 10 ^ (6 * k) : Nat) : Int) = (dv (chunk t k) : Int) * 1000000 ^ k := by
   rw [<- pow_six]; simp
  rw [Int.mul_zero, Int.add_zero, Int.mul_comm, <- this]; omega
theorem Rd.done {t : List UInt8} {k : Nat} {xs : List Int} (h : Rd t k xs) (hk : t.length <= 6 * k) : val xs = dv t := by
 have := h.v; rwa [show t.length - 6 * k = 0 by omega, List.drop_zero] at this
theorem dv_take_succ {l : List UInt8} {p : Nat} (h : p < l.length) : dv (l.take (p + 1)) = dv (l.take p) * 10 + (l[p].toNat - 48) := by
 rw [List.take_succ_eq_append_getElem h, dv_append]; simp [dv]
theorem extract_list (t : List UInt8) (a b : Nat) : (⟨t.toArray⟩ : ByteArray).extract a b = ⟨((t.drop a).take (b - a)).toArray⟩ := by
 apply ByteArray.ext
 rw [ByteArray.data_extract]
 simp
set_option maxRecDepth 100000 in
set_option maxHeartbeats 2000000 in
theorem read_some (l : List UInt8) (hl : l.length <= 100000) (w : World) (z : Int) (h : readZ l = some z) :
  Calls Tryz.prog 204 #[.string ⟨l.toArray⟩] w fun e w' => ∃ v, e = .returned (.tuple #[v, .bool true]) /\ WH w' v z /\ Below w.heap.size w w' := by
 obtain ⟨t, ht⟩ : ∃ t, unsign l = t := ⟨_, rfl⟩
 have hul := unsign_len l
 have hfacts : t ≠ [] /\ t.length <= 400 /\ (t.head? = some 48 -> l = [48]) /\ AllD t /\ dv t = z.natAbs /\ (decide (t.length < l.length) = decide (z < 0)) := by
  have h2 := h
  unfold readZ at h2; rw [ht] at h2
  split at h2
  ·cases h2
  ·rename_i hc
   have hA : AllD t := Classical.byContradiction fun e => hc (.inr (.inr (.inr e)))
   have hz := Option.some.inj h2
   refine ⟨fun e => hc (.inl e), by rcases Nat.lt_or_ge 400 t.length with e | e; exact absurd (.inr (.inl e)) hc; exact e, fun e => Classical.byContradiction fun e2 => hc (.inr (.inr (.inl ⟨e, e2⟩))), hA, ?_, ?_⟩
   ·rw [<- hz]; split <;> simp
   ·obtain ⟨hs, _⟩ := readZ_some h
    rw [decide_eq_decide]
    have e1 : unsign (itoa z) = decDigits z.natAbs := by
     unfold itoa; by_cases h0 : z < 0
     ·rw [if_pos h0]; rfl
     ·rw [if_neg h0, unsign_of_not (digit_not_minus _), show z.toNat = z.natAbs by omega]
    rw [hs] at ht ⊢
    rw [<- ht, e1, itoa_length, decDigits_length]
    by_cases h0 : z < 0
    ·simp [h0]
    ·simp [h0]
 rw [ht] at hul
 obtain ⟨h1, h2, h3, h4, h5, h6⟩ := hfacts
 obtain ⟨n, hn⟩ : ∃ n, z.natAbs = n := ⟨_, rfl⟩
 obtain ⟨neg, hneg⟩ : ∃ neg, decide (z < 0) = neg := ⟨_, rfl⟩
 have HT := Lib.hid ht; have HN := Lib.hid hn; have HNEG := Lib.hid hneg; have HA := Lib.hid h4; have HH := Lib.hid h3
 have HD := Lib.hid (h5.trans hn)
 have HL := Lib.hid (h6.trans hneg)
 have hb : ∀ o, Below w.heap.size w (w.alloc o) := fun o => (Below.refl _ w).alloc (Nat.le_refl _) o
 have HB := Lib.hid hb
 clear hb h h3 h4 h5 h6 ht hn hneg
 obtain ⟨c, r, rfl⟩ : ∃ c r, t = c :: r := by cases t with | nil => exact absurd rfl h1 | cons c r => exact ⟨c, r, rfl⟩
 clear h1
 have c2' : (r.length : Int) + 1 <= 400 := by simp at h2; omega
 have c2d : decide ((400 : Int) < (r.length : Int) + 1) = false := by simp; omega
 have hb0 : ((⟨(c :: r).toArray⟩ : ByteArray)[0]'(by simp [ByteArray.size])) = c := rfl
 obtain ⟨i0, hi, hz0, hz1, hz2⟩ := info_parts infoInt
 have hcase : (((c.toNat : Int) == 48) = true /\ (l == [48]) = true /\ (l != [48]) = false) \/ (((c.toNat : Int) == 48) = false) := by
  by_cases e : c = 48
  ·left; subst e; have := HH.out rfl; subst this; exact ⟨rfl, rfl, rfl⟩
  ·right; have : c.toNat ≠ 48 := fun h => e (UInt8.toNat_inj.1 h)
   simp; omega
 rcases hcase with ⟨e1, e2, e3⟩ | e1
 all_goals
  go_enter Tryz.func204, Tryz.ntmps204
  go_wp2_with fail
  refine (minus_trim l _).mono ?_
  rw [HT.out]
  rintro e w' ⟨rfl, rfl⟩
  go_wp2_with fail
  refine (trim_calls (c :: r) (by simp; omega) _).mono ?_
  rintro e w2 ⟨⟨m, rfl, hm⟩, hb2⟩
  obtain rfl : m = [] := hm.2 HA.out
  have HB2 := Lib.hid hb2
  clear hm hb2
  go_wp2_with fail
  have HPOS := Lib.hid (show 0 < (c :: r).length by simp)
  clear hb0 c2d HH
  generalize hct : c :: r = t at *
  have e0 : ((r.length : Int) + 1) = ((t.length : Nat) : Int) := by rw [<- hct]; simp
  rw [e0]
  clear e0 c2' e1 hct
  go_loopw [5, 6] (fun v t6 wr => ∃ (k : Nat) (xs : List Int), t6 = .int .i64 ((t.length : Int) - 6 * (k : Int)) /\ 6 * k < t.length + 6 /\ wr.ownsRow w2.heap.size 3 1 v k (xs.map (Value.int .i64)) /\ Hid (Rd t k xs) /\ Hid (Below w2.heap.size w2 wr)) (fun _ t6 _ => (RowKit.intOf t6).toNat)
  case atStart => exact ⟨0, [], by simp, by omega, World.ownsRow_nil _ _ _ _, Lib.hid ⟨rfl, by simp [InR], by simp [val, dv], .inl rfl⟩, Lib.hid (Below.refl _ _)⟩
  case round =>
   obtain ⟨k, xs, rfl, hk6, hown, HR, HBw⟩ := hrel
   by_cases hk : 6 * k < t.length
   ·obtain ⟨E, hE⟩ : ∃ E : Nat, E = t.length - 6 * k := ⟨_, rfl⟩
    have e1 : ((t.length : Int) - 6 * (k : Int)) = (E : Int) := by omega
    rw [e1]
    have hE0 : (0 : Int) < (E : Int) := by omega
    have hE1 : (E : Int) <= 400 := by omega
    have HE := Lib.hid hE
    have HO := Lib.hid hown
    have HK := Lib.hid hk
    have HLL := Lib.hid h2
    have HK6 := Lib.hid hk6
    clear hE e1 hown hk hk6 h2
    go_wp2_with fail
    refine (greatest_calls 0 ((E : Int) - 6) _).mono ?_
    rintro e w3 ⟨rfl, rfl⟩
    obtain ⟨S, hS⟩ : ∃ S : Nat, S = E - 6 := ⟨_, rfl⟩
    have e2 : (if (0 : Int) < (E : Int) - 6 then (E : Int) - 6 else 0) = (S : Int) := by split <;> omega
    rw [e2]
    have hS1 : (S : Int) <= (E : Int) := by omega
    have hS2 : (E : Int) <= (t.length : Int) := by have := HE.out; omega
    have HS := Lib.hid hS
    clear e2 hS
    go_wp2_with fail
    have hs : (⟨t.toArray⟩ : ByteArray).extract S E = ⟨(chunk t k).toArray⟩ := by
     rw [extract_list]; unfold chunk; rw [HS.out, HE.out]
     rw [show t.length - 6 * k - 6 = t.length - 6 * (k + 1) by omega]
    rw [hs]
    have hcl := chunk_len HK.out
    have hAc : AllD (chunk t k) := fun c hc => HA.out c ((List.drop_subset _ _) ((List.take_subset _ _) hc))
    have HR' := Lib.hid (HR.out.step HA.out HK.out)
    clear hs hS1 hS2
    generalize chunk t k = C at *
    have HAc := Lib.hid hAc; have HCL := Lib.hid hcl
    clear hAc hcl
    go_loopw [7] (fun nv w' => ∃ pos acc : Nat, w' = wr.iter ⟨C.toArray⟩ pos /\ nv = .int .i64 (acc : Int) /\ Hid (pos <= C.length) /\ Hid (acc = dv (C.take pos))) (fun _ w' => C.length - w'.iterPos wr.heap.size)
    case atStart => exact ⟨0, 0, rfl, rfl, Lib.hid (by omega), Lib.hid (by simp [dv])⟩
    case round =>
     obtain ⟨pos, acc, rfl, rfl, HP, HAcc⟩ := hrel
     by_cases hp : pos < C.length
     ·have hd := HAc.out C[pos] (List.getElem_mem _)
      have hnx : ∀ ty, (Instr.next (.pointer (some ⟨wr.heap.size, 0, none⟩)) true ty).run Tryz.prog (wr.iter ⟨C.toArray⟩ pos) = .ok (.tuple #[.bool true, .int .i64 pos, .int .i32 (C[pos].toNat : Int)]) (wr.iter ⟨C.toArray⟩ (pos + 1)) := fun ty => run_next_ascii wr ⟨C.toArray⟩ pos ty (by simpa [ByteArray.size] using hp) (by show C[pos].toNat < 128; omega)
      have hnext : Hid (acc * 10 + (C[pos].toNat - 48) = dv (C.take (pos + 1))) := Lib.hid (by rw [dv_take_succ hp, HAcc.out])
      have hacc : (acc : Int) <= 1000000 := by
       have h1 := dv_lt (l := C.take pos) (fun c hc => HAc.out c ((List.take_subset _ _) hc))
       have h2 := HCL.out
       have h3 : 10 ^ (C.take pos).length <= 10 ^ 6 := Nat.pow_le_pow_right (by decide) (by rw [List.length_take]; omega)
       have := HAcc.out
       omega
      have HPp := Lib.hid hp
      generalize C[pos].toNat = d at *
      have hd1 : (48 : Int) <= (d : Int) := by omega
      have hd2 : (d : Int) <= 57 := by omega
      clear hd hp
      go_wp2_with fail
      exact ⟨⟨pos + 1, acc * 10 + (d - 48), rfl, congrArg _ (by clear hnx hnext; omega), Lib.hid HPp.out, hnext⟩, by simp; have := HPp.out; omega⟩
     ·have hnx : ∀ ty, (Instr.next (.pointer (some ⟨wr.heap.size, 0, none⟩)) true ty).run Tryz.prog (wr.iter ⟨C.toArray⟩ pos) = .ok (.tuple #[.bool false]) (wr.iter ⟨C.toArray⟩ pos) := fun ty => run_next_end wr ⟨C.toArray⟩ pos ty (by simpa [ByteArray.size] using hp)
      have hfin : (dv C : Int) = (acc : Int) := by have := HAcc.out; rw [List.take_of_length_le (by omega)] at this; rw [this]
      rw [hfin] at HR'
      clear hfin hp
      have hsz := HBw.out.size
      have hown' : (wr.iter ⟨C.toArray⟩ pos).ownsRow w2.heap.size 3 1 u5 k (xs.map (Value.int .i64)) := HO.out.alloc _
      have hkb : k <= 100 := by have := HK.out; have := HLL.out; omega
      have hbw' : Below w2.heap.size w2 (wr.iter ⟨C.toArray⟩ pos) := HBw.out.alloc hsz _
      have HBW' := Lib.hid hbw'
      have HOWN := Lib.hid hown'
      clear hown' hbw'
      generalize hWW : wr.iter ⟨C.toArray⟩ pos = WW at *
      go_wp2_with (at_builtin; refine wpList_append_own _ rfl _ _ 246 rfl w2.heap.size 3 i0 (.int .i64 0) 1 8 Tryz.underlying246 hi hz0 hz1 hz2 rfl (by decide) _ _ _ rfl (HOWN.out.alloc _) ⟨WW.heap.size, 0, none⟩ 1 1 [.int .i64 acc] rfl rfl (cell_one_new _ _ _) (by simp [Value.oneCell']) (by unfold maxLen; omega) (by omega) (by have := HBW'.out.size; simp; omega) ?_; intro v' w5 hown5 hgrow5 _; obtain ⟨g', cap', rfl⟩ := ownsRow_succ hown5; have HOWN5 := Lib.hid hown5; have HG5 := Lib.hid hgrow5; clear hown5 hgrow5)
      refine ⟨⟨k + 1, xs ++ [(acc : Int)], congrArg _ (by have := HE.out; omega), by have := HK.out; omega, by simpa using HOWN5.out, HR', Lib.hid ?_⟩, by simp [RowKit.intOf] <;> omega⟩
      refine (HBW'.out.alloc (by have := HBW'.out.size; omega) _).grown HG5.out (by have := HBW'.out.size; simp; omega) fun j ej => ?_
      rcases HO.out.2 with ⟨rfl, _⟩ | ⟨g, cap, cur, rfl, hb, _, _⟩
      ·cases (show (none : Option Nat) = some j from ej)
      ·obtain rfl : g = j := Option.some.inj (show some g = some j from ej)
       exact hb
   ·obtain ⟨hkl, hf⟩ := own_forms hown
    have hk0 : 0 < k := by have := HPOS.out; omega
    rcases hf with ⟨_, h0⟩ | ⟨b, cap, rfl, hbase, hcap, hmax, hc⟩
    ·exact absurd (by rw [hkl, h0]; rfl) (Nat.pos_iff_ne_zero.1 hk0)
    obtain ⟨Z, hZ⟩ : ∃ Z : Int, (t.length : Int) - 6 * (k : Int) = Z := ⟨_, rfl⟩
    have hZ0 : ¬ 0 < Z := by omega
    rw [hZ]
    have HV := Lib.hid (HR.out.done (by omega))
    have HRng := Lib.hid HR.out.rng
    have HC := Lib.hid hc
    have hl1 : xs.length <= 100 := by omega
    subst hkl
    clear hZ hk hk6 hown hc hk0 HR
    unfold maxLen at hmax
    have hbwr := Lib.hid (HB2.out.trans (HBw.out.mono HB2.out.size))
    have hsg : w.heap.size < w2.heap.size := by have := HB2.out.size; simp at this; omega
    have hcc : wr.cell? ⟨w.heap.size, 0, none⟩ = some (.slice none 0 0) /\ wr.cell? ⟨w.heap.size, 1, none⟩ = some (.bool false) := ⟨cell_on hbwr.out (cell_in _ _ _ 0 rfl), cell_on hbwr.out (cell_in _ _ _ 1 rfl)⟩
    go_wp2_with fail
    go_loop [5] (fun d => ∃ j : Nat, j <= xs.length /\ d = .slice (some ⟨b, 0, none⟩) j cap /\ Hid (val (xs.take j) = val xs)) (fun d => match d with | .slice _ n _ => n | _ => 0)
    case atStart => exact ⟨xs.length, Nat.le_refl _, rfl, Lib.hid (by simp)⟩
    case round =>
     obtain ⟨j, hj, rfl, hv⟩ := hrel
     have fin : Hid ((j = 0 \/ rd xs (j - 1) ≠ 0) -> RI wr (.slice (some ⟨b, 0, none⟩) j cap) (dig n)) := Lib.hid fun hz => by
      have e : (val xs).toNat = n := by rw [HV.out, HD.out]; exact Int.toNat_natCast n
      rw [<- e]
      exact strip_RI HRng.out HC.out hj (by omega) hv.out hz
     have fin2 : Hid (∀ v W', WH W' v (if neg then -(n : Int) else n) -> WH W' v z) := Lib.hid fun v W' h => by
      have e : (if neg then -(n : Int) else n) = z := by
       rw [<- HN.out, <- HNEG.out]; by_cases h0 : z < 0
       ·simp [h0]; omega
       ·simp [h0]; omega
      rwa [e] at h
     rcases Nat.eq_zero_or_pos j with rfl | hj0
     ·have FIN := Lib.hid (fin.out (.inl rfl))
      clear fin
      go_wp2_with fail
      rw [HL.out]
      refine (signed_calls _ n neg _ FIN.out).mono ?_
      rintro e w5 ⟨v, rfl, hW, hb5, bb, rfl⟩
      have HW := Lib.hid (fin2.out _ _ hW)
      have hbe := Lib.hid (below_then hbwr.out hb5)
      have d0 := cell_on hb5 hcc.1
      have d1 := cell_on hb5 hcc.2
      have hff : ∀ j, w5.frozen? ⟨w.heap.size, j, none⟩ = false := fun j => (hbe.out.frozen (p := ⟨w.heap.size, j, none⟩) (by simp)).trans (frozen_in _ _ _ j)
      have f0 := hff 0; have f1 := hff 1
      clear hW hb5 hff hcc fin2
      go_wp2_with fail
      refine bodyPost_ret (v := .tuple #[.agg #[.slice (some ⟨b, 0, none⟩) 0 cap, .bool bb], .bool true]) (by simp [results, Tryz.results204, go_sem, d0, d1]) rfl ?_
      obtain ⟨sv, hsv, hRI⟩ := HW.out
      cases hsv
      refine ⟨_, rfl, ⟨_, rfl, (hRI.store (B := w2.heap.size) _ (fun a n c h => by cases h; exact hbase) hsg).store (B := w2.heap.size) _ (fun a n c h => by cases h; exact hbase) hsg⟩, ((below_then (HB.out _) hbe.out).setCell (p := ⟨w.heap.size, 0, none⟩) (Nat.le_refl _) _).setCell (p := ⟨w.heap.size, 1, none⟩) (Nat.le_refl _) _⟩
     ·obtain ⟨m, rfl⟩ : ∃ m, j = m + 1 := ⟨j - 1, by omega⟩
      have hcm := HC.out m (by omega)
      by_cases hz : rd xs m = 0
      ·have hz' : (rd xs m == 0) = true := by simp [hz]
       have HZ := Lib.hid hz
       clear hz
       go_wp2_with fail
       go_round
       case rel => exact ⟨m, by omega, rfl, Lib.hid (by rw [<- hv.out, List.take_succ_eq_append_getElem (show m < xs.length by omega), val_append]; have := HZ.out; rw [rd_lt (by omega)] at this; rw [this]; simp [val])⟩
       case measure => simp
      ·have hz' : (rd xs m == 0) = false := by simp [hz]
       have FIN := Lib.hid (fin.out (.inr hz))
       clear hz fin
       go_wp2_with fail
       rw [HL.out]
       refine (signed_calls _ n neg _ FIN.out).mono ?_
       rintro e w5 ⟨v, rfl, hW, hb5, bb, rfl⟩
       have HW := Lib.hid (fin2.out _ _ hW)
       have hbe := Lib.hid (below_then hbwr.out hb5)
       have d0 := cell_on hb5 hcc.1
       have d1 := cell_on hb5 hcc.2
       have hff : ∀ j, w5.frozen? ⟨w.heap.size, j, none⟩ = false := fun j => (hbe.out.frozen (p := ⟨w.heap.size, j, none⟩) (by simp)).trans (frozen_in _ _ _ j)
       have f0 := hff 0; have f1 := hff 1
       clear hW hb5 hff hcc fin2
       go_wp2_with fail
       refine bodyPost_ret (v := .tuple #[.agg #[.slice (some ⟨b, 0, none⟩) (m + 1) cap, .bool bb], .bool true]) (by simp [results, Tryz.results204, go_sem, d0, d1]) rfl ?_
       obtain ⟨sv, hsv, hRI⟩ := HW.out
       cases hsv
       refine ⟨_, rfl, ⟨_, rfl, (hRI.store (B := w2.heap.size) _ (fun a n c h => by cases h; exact hbase) hsg).store (B := w2.heap.size) _ (fun a n c h => by cases h; exact hbase) hsg⟩, ((below_then (HB.out _) hbe.out).setCell (p := ⟨w.heap.size, 0, none⟩) (Nat.le_refl _) _).setCell (p := ⟨w.heap.size, 1, none⟩) (Nat.le_refl _) _⟩
end Go.Proofs.YtplpnfjccemdnaaGreatDoor.Bg
namespace Go.Proofs.YtplpnfjccemdnaaGreatDoor.Bg
open Go.RowKit Go.Shelf Go.Lib
def vE (k n : Int) (t : List UInt8) : Value := .agg #[.int .i64 k, .int .i64 n, .string ⟨t.toArray⟩]
def NoInt (W : World) (g : Nat) : Prop := ∀ j x, W.cell? ⟨g, j, none⟩ ≠ some (.int .i64 x)
structure ResW (W : World) (g : Nat) : Prop where
 c0 : W.cell? ⟨g, 0, none⟩ = some (.slice none 0 0)
 c1 : W.cell? ⟨g, 1, none⟩ = some (.bool false)
 f0 : W.frozen? ⟨g, 0, none⟩ = false
 f1 : W.frozen? ⟨g, 1, none⟩ = false
 ni : NoInt W g
 lt : g < W.heap.size
theorem ResW.below {W W' : World} {g : Nat} (h : ResW W g) (hb : Below W.heap.size W W') : ResW W' g :=
 ⟨cell_on hb h.c0, cell_on hb h.c1, (hb.frozen (p := ⟨g, 0, none⟩) h.lt).trans h.f0, (hb.frozen (p := ⟨g, 1, none⟩) h.lt).trans h.f1, fun j x => by rw [hb.cell (p := ⟨g, j, none⟩) h.lt]; exact h.ni j x, Nat.lt_of_lt_of_le h.lt hb.size⟩
theorem resW_new (W : World) (t : TypeId) : ResW (W.alloc (.cells #[.slice none 0 0, .bool false] t)) W.heap.size := by
 refine ⟨cell_in _ _ _ 0 rfl, cell_in _ _ _ 1 rfl, frozen_in _ _ _ 0, frozen_in _ _ _ 1, fun j x => ?_, by simp⟩
 have hnew := World.alloc_heap_new W (.cells #[.slice none 0 0, .bool false] t)
 simp only [World.cell?]
 rw [hnew]
 simp only [Option.isSome_none, Bool.false_eq_true, if_false]
 match j with
 | 0 => simp
 | 1 => simp
 | j + 2 => simp
theorem RI.put {W : World} {v : Value} {zs : List Int} (h : RI W v zs) {g : Nat} (hg : NoInt W g) (u u' : Value) : RI ((W.setCell ⟨g, 0, none⟩ u).setCell ⟨g, 1, none⟩ u') v zs := by
 obtain ⟨a, cap, rfl, hl, hc⟩ := h
 refine ⟨a, cap, rfl, hl, fun hz => ?_⟩
 obtain ⟨b, off, rfl, hc'⟩ := hc hz
 refine ⟨b, off, rfl, fun i hi => ?_⟩
 have hne : b ≠ g := fun e => hg _ _ (e ▸ hc' i hi)
 rw [World.cell?_setCell_other _ _ _ _ (fun e => hne (congrArg Addr.block e).symm), World.cell?_setCell_other _ _ _ _ (fun e => hne (congrArg Addr.block e).symm)]
 exact hc' i hi
theorem WH.put {W : World} {v : Value} {z : Int} (h : WH W v z) {g : Nat} (hg : NoInt W g) (u u' : Value) : WH ((W.setCell ⟨g, 0, none⟩ u).setCell ⟨g, 1, none⟩ u') v z := by
 obtain ⟨sv, e, hr⟩ := h; exact ⟨sv, e, hr.put hg u u'⟩
theorem below_put {B : Nat} {w W : World} (h : Below B w W) {g : Nat} (hg : B <= g) (u u' : Value) : Below B w ((W.setCell ⟨g, 0, none⟩ u).setCell ⟨g, 1, none⟩ u') :=
 (h.setCell (p := ⟨g, 0, none⟩) hg _).setCell (p := ⟨g, 1, none⟩) hg _
theorem itoa64_calls (z : Int) (hz : -9223372036854775808 <= z /\ z <= 9223372036854775807) (w : World) (hE : Env w) :
  Calls Tryz.prog 205 #[.int .i64 z] w fun e w' => e = .returned (.string ⟨(itoa z).toArray⟩) /\ Below w.heap.size w w' := by
 refine (Tryz.strconv_Itoa z (by omega) (by omega) w hE.tab).mono ?_
 rintro e w' ⟨rfl, k, os, rfl⟩
 exact ⟨rfl, below_grow _ w (Nat.le_refl _) k os⟩
theorem nd_small {z : Int} (hz : -9223372036854775808 <= z /\ z <= 9223372036854775807) : nDigits z.natAbs <= 19 := nDigits_le (k := 18) (by omega)
set_option maxRecDepth 100000 in
set_option maxHeartbeats 2000000 in
theorem number_small (z : Int) (hz : -9223372036854775808 <= z /\ z <= 9223372036854775807) (w : World) (hE : Env w) :
  Calls Tryz.prog 154 #[.agg #[.int .i64 1, .int .i64 z, .string ⟨#[]⟩]] w fun e w' => ∃ v, e = .returned (.tuple #[v, .bool true]) /\ WH w' v z /\ Below w.heap.size w w' := by
 have HZ := Lib.hid hz
 have HE := Lib.hid hE
 have hb : ∀ o o', Below w.heap.size w ((w.alloc o).alloc o') := fun o o' => ((Below.refl _ w).alloc (Nat.le_refl _) o).alloc (by simp) o'
 have HB := Lib.hid hb
 clear hz hE hb
 go_enter Tryz.func154, Tryz.ntmps154
 go_wp2_with fail
 refine (itoa64_calls z HZ.out _ (HE.out.below (HB.out _ _))).mono ?_
 rintro e w2 ⟨rfl, hb2⟩
 have hbb := Lib.hid (below_then (HB.out _ _) hb2)
 go_wp2_with fail
 refine (read_some (itoa z) ?_ _ z ?_).mono ?_
 ·rw [itoa_length]; have := nd_small HZ.out; split <;> omega
 ·exact readZ_itoa z (by have := nd_small HZ.out; omega)
 rintro e w3 ⟨v, rfl, hW, hb3⟩
 have HW := Lib.hid hW
 obtain ⟨sv, rfl, hRI⟩ := hW
 obtain ⟨a, ca, rfl, _⟩ := hRI
 have hbe := Lib.hid (below_then (below_then (HB.out _ _) hb2) hb3)
 have hr2 := ((by simpa using resW_new (w.alloc (.cells #[.int .i64 1, .int .i64 z, .string ⟨#[]⟩] 29)) 248 : ResW _ (w.heap.size + 1)).below hb2).below hb3
 have d0 := hr2.c0; have d1 := hr2.c1; have f0 := hr2.f0; have f1 := hr2.f1
 have hlt := hr2.lt
 have HR2 := Lib.hid hr2
 clear hb2 hb3 hr2
 go_wp2_with fail
 refine bodyPost_ret (v := .tuple #[.agg #[.slice a (dig z.natAbs).length ca, .bool (decide (z < 0))], .bool true]) (by simp [results, Tryz.results154, go_sem, *]) rfl ?_
 have hpb := below_put hbe.out (g := w.heap.size + 1) (by omega)
 exact ⟨_, rfl, (HW.out.put HR2.out.ni _ _).below ((Below.refl _ _).alloc (Nat.le_refl _) _), (hpb _ _).alloc (hpb _ _).size _⟩
def Small64 (z : Int) : Prop := -9223372036854775808 <= z /\ z <= 9223372036854775807
instance (z : Int) : Decidable (Small64 z) := inferInstanceAs (Decidable (_ /\ _))
set_option maxRecDepth 100000 in
set_option maxHeartbeats 2000000 in
theorem number_text (t : List UInt8) (ht : t.length <= 100000) (z : Int) (hz : readZ t = some z) (w : World) (hE : Env w) :
  Calls Tryz.prog 154 #[.agg #[.int .i64 2, .int .i64 0, .string ⟨t.toArray⟩]] w fun e w' => ∃ v, e = .returned (.tuple #[v, .bool (!decide (Small64 z))]) /\ WH w' v z /\ Below w.heap.size w w' := by
 have HZ := Lib.hid hz
 have HE := Lib.hid hE
 have hb : ∀ o o', Below w.heap.size w ((w.alloc o).alloc o') := fun o o' => ((Below.refl _ w).alloc (Nat.le_refl _) o).alloc (by simp) o'
 have HB := Lib.hid hb
 have HT := Lib.hid ht
 clear hz hE hb ht
 go_enter Tryz.func154, Tryz.ntmps154
 go_wp2_with fail
 refine (read_some t HT.out _ z HZ.out).mono ?_
 rintro e w3 ⟨v, rfl, hW, hb3⟩
 have HW := Lib.hid hW
 obtain ⟨sv, rfl, hRI⟩ := hW
 obtain ⟨a, ca, rfl, _⟩ := hRI
 have hbe := Lib.hid (below_then (HB.out _ _) hb3)
 have hr2 := (by simpa using resW_new (w.alloc (.cells #[.int .i64 2, .int .i64 0, .string ⟨t.toArray⟩] 29)) 248 : ResW _ (w.heap.size + 1)).below hb3
 have d0 := hr2.c0; have d1 := hr2.c1; have f0 := hr2.f0; have f1 := hr2.f1
 have hlt := hr2.lt
 have HR2 := Lib.hid hr2
 have b0 : w3.cell? ⟨w.heap.size, 0, none⟩ = some (.int .i64 2) := cell_on hb3 (by go_simp)
 have b1 : w3.cell? ⟨w.heap.size, 1, none⟩ = some (.int .i64 0) := cell_on hb3 (by go_simp)
 have b2 : w3.cell? ⟨w.heap.size, 2, none⟩ = some (.string ⟨t.toArray⟩) := cell_on hb3 (by go_simp)
 clear hb3 hr2
 go_wp2_with fail
 have hbW : Below w3.heap.size w3 (w3.alloc (.cells #[.slice a (dig z.natAbs).length ca, .bool (decide (z < 0))] 248)) := (Below.refl _ _).alloc (Nat.le_refl _) _
 have x0 : (w3.alloc (.cells #[.slice a (dig z.natAbs).length ca, .bool (decide (z < 0))] 248)).cell? ⟨w3.heap.size, 0, none⟩ = some (.slice a (dig z.natAbs).length ca) := cell_in _ _ _ 0 rfl
 have x1 : (w3.alloc (.cells #[.slice a (dig z.natAbs).length ca, .bool (decide (z < 0))] 248)).cell? ⟨w3.heap.size, 1, none⟩ = some (.bool (decide (z < 0))) := cell_in _ _ _ 1 rfl
 have HW2 := Lib.hid (HW.out.below hbW)
 have hbe2 := Lib.hid (below_then hbe.out hbW)
 have HR3 := Lib.hid (HR2.out.below hbW)
 replace b0 := cell_on hbW b0
 replace b1 := cell_on hbW b1
 replace b2 := cell_on hbW b2
 replace d0 := cell_on hbW d0
 replace d1 := cell_on hbW d1
 replace f0 := HR3.out.f0
 replace f1 := HR3.out.f1
 clear HW hbe HR2
 generalize w3.alloc (.cells #[.slice a (dig z.natAbs).length ca, .bool (decide (z < 0))] 248) = W at *
 clear hbW
 obtain ⟨hzt, hnd⟩ := readZ_some HZ.out
 have HND := Lib.hid hnd
 have HEW := Lib.hid (HE.out.below hbe2.out)
 clear hnd
 have hne1 : ¬ w3.heap.size = w.heap.size + 1 := by omega
 have hne2 : ¬ w.heap.size + 1 = w3.heap.size := by omega
 have DR := Lib.hid ((Below.refl W.heap.size W).drew)
 have hcase : (vv z = .agg #[.int .i64 1, .int .i64 z, .string ⟨#[]⟩] /\ (!decide (Small64 z)) = false) \/ (vv z = .agg #[.int .i64 2, .int .i64 0, .string ⟨t.toArray⟩] /\ (!decide (Small64 z)) = true) := by
  by_cases hs : Small64 z
  ·exact .inl ⟨if_pos hs, by simp [hs]⟩
  ·exact .inr ⟨by rw [hzt]; exact if_neg hs, by simp [hs]⟩
 clear hzt
 rcases hcase with ⟨hv, hs⟩ | ⟨hv, hs⟩
 ·have HS := Lib.hid hs
  have HV := Lib.hid hv
  clear hv hs
  go_region_held3 (fun w' => w'.cell? ⟨w3.heap.size, 0, none⟩ = some (.slice a (dig z.natAbs).length ca) /\ w'.cell? ⟨w3.heap.size, 1, none⟩ = some (.bool (decide (z < 0))) /\ w'.cell? ⟨w.heap.size, 0, none⟩ = some (.int .i64 2) /\ w'.cell? ⟨w.heap.size, 1, none⟩ = some (.int .i64 0) /\ w'.cell? ⟨w.heap.size, 2, none⟩ = some (.string ⟨t.toArray⟩))
   (first | go_keep | (go_split_ands; exact ⟨cell_on hb5 x0, cell_on hb5 x1, cell_on hb5 b0, cell_on hb5 b1, cell_on hb5 b2⟩) | (trace_state; fail))
   (first | (go_at_call 206; refine (val_ok _ z _ (HW2.out.below DR.out) (HEW.out.below DR.out) HND.out).mono ?_; rw [HV.out]; rintro e w5 ⟨rfl, hb5'⟩; have hb5 := below_then DR.out hb5'; clear hb5'; have y0 := cell_on hb5 d0; have y1 := cell_on hb5 d1; have y2 := (HR3.out.below hb5).f0; have y3 := (HR3.out.below hb5).f1))
  have HB5 := Lib.hid hb5
  have hlt5 : w.heap.size + 1 < w5.heap.size := by have := hb5.size; have := HR3.out.lt; omega
  clear hb5
  go_wp2_with fail
  refine bodyPost_ret (v := .tuple #[.agg #[.slice a (dig z.natAbs).length ca, .bool (decide (z < 0))], .bool false]) (by simp [results, Tryz.results154, go_sem, *]) rfl ?_
  exact ⟨_, by rw [HS.out], (HW2.out.below HB5.out).put (HR3.out.below HB5.out).ni _ _, below_put (below_then hbe2.out HB5.out) (by omega) _ _⟩
 ·have HS := Lib.hid hs
  have HV := Lib.hid hv
  clear hv hs
  go_region_held3 (fun w' => w'.cell? ⟨w3.heap.size, 0, none⟩ = some (.slice a (dig z.natAbs).length ca) /\ w'.cell? ⟨w3.heap.size, 1, none⟩ = some (.bool (decide (z < 0))) /\ w'.cell? ⟨w.heap.size, 0, none⟩ = some (.int .i64 2) /\ w'.cell? ⟨w.heap.size, 1, none⟩ = some (.int .i64 0) /\ w'.cell? ⟨w.heap.size, 2, none⟩ = some (.string ⟨t.toArray⟩))
   (first | go_keep | (go_split_ands; exact ⟨cell_on hb5 x0, cell_on hb5 x1, cell_on hb5 b0, cell_on hb5 b1, cell_on hb5 b2⟩) | (trace_state; fail))
   (first | (go_at_call 206; refine (val_ok _ z _ (HW2.out.below DR.out) (HEW.out.below DR.out) HND.out).mono ?_; rw [HV.out]; rintro e w5 ⟨rfl, hb5'⟩; have hb5 := below_then DR.out hb5'; clear hb5'; have y0 := cell_on hb5 d0; have y1 := cell_on hb5 d1; have y2 := (HR3.out.below hb5).f0; have y3 := (HR3.out.below hb5).f1))
  have HB5 := Lib.hid hb5
  have hlt5 : w.heap.size + 1 < w5.heap.size := by have := hb5.size; have := HR3.out.lt; omega
  clear hb5
  go_wp2_with fail
  refine bodyPost_ret (v := .tuple #[.agg #[.slice a (dig z.natAbs).length ca, .bool (decide (z < 0))], .bool true]) (by simp [results, Tryz.results154, go_sem, *]) rfl ?_
  exact ⟨_, by rw [HS.out], (HW2.out.below HB5.out).put (HR3.out.below HB5.out).ni _ _, below_put (below_then hbe2.out HB5.out) (by omega) _ _⟩
def numZ (k n : Int) (t : List UInt8) : Option Int :=
 if k = 1 /\ t = [] then some n else if k = 2 /\ n = 0 then (match readZ t with | some z => if Small64 z then none else some z | none => none) else none
set_option maxRecDepth 100000 in
set_option maxHeartbeats 2000000 in
theorem number_not (k n : Int) (t : List UInt8) (ht : t.length <= 100000) (w : World) (h1 : ¬ (k = 1 /\ t = [])) (h2 : (k = 2 /\ n = 0) -> readZ t = none) :
  Calls Tryz.prog 154 #[.agg #[.int .i64 k, .int .i64 n, .string ⟨t.toArray⟩]] w fun e w' => e = .returned (.tuple #[.agg #[.slice none 0 0, .bool false], .bool false]) /\ Below w.heap.size w w' := by
 have hb : ∀ o o', Below w.heap.size w ((w.alloc o).alloc o') := fun o o' => ((Below.refl _ w).alloc (Nat.le_refl _) o).alloc (by simp) o'
 have HB := Lib.hid hb
 have HT := Lib.hid ht
 have H2 := Lib.hid h2
 clear hb ht
 have e1 : (decide (k = 1) && decide (t = [])) = false := by simpa using h1
 by_cases h3 : k = 2 /\ n = 0
 ·obtain ⟨rfl, rfl⟩ := h3
  have hz := Lib.hid (h2 ⟨rfl, rfl⟩)
  clear h1 h2 e1
  go_enter Tryz.func154, Tryz.ntmps154
  go_wp2_with fail
  refine (read_none t HT.out _ hz.out).mono ?_
  rintro e w3 ⟨rfl, hb3⟩
  have hbe := Lib.hid (below_then (HB.out _ _) hb3)
  have hr2 := (by simpa using resW_new (w.alloc (.cells #[.int .i64 2, .int .i64 0, .string ⟨t.toArray⟩] 29)) 248 : ResW _ (w.heap.size + 1)).below hb3
  have d0 := hr2.c0; have d1 := hr2.c1; have f0 := hr2.f0; have f1 := hr2.f1
  have hlt := hr2.lt
  clear hb3
  go_wp2_with fail
  go_region
  all_goals
   go_wp2_with fail
   refine bodyPost_ret (v := .tuple #[.agg #[.slice none 0 0, .bool false], .bool false]) (by simp [results, Tryz.results154, go_sem, *]) rfl ?_
   exact ⟨rfl, (below_put hbe.out (g := w.heap.size + 1) (by omega) _ _).alloc (by have := hbe.out.size; simpa using this) _ |>.drew⟩
 ·have hc : (k = 1 /\ (t == []) = false /\ (t != []) = true) \/ (k = 2 /\ (n == 0) = false /\ (n != 0) = true) \/ ((k == 1) = false /\ (k == 2) = false /\ (k != 2) = true) := by
   by_cases a : k = 1
   ·left; refine ⟨a, ?_⟩; have : t ≠ [] := fun e => h1 ⟨a, e⟩; simp [this]
   ·by_cases b : k = 2
    ·right; left; refine ⟨b, ?_⟩; have : n ≠ 0 := fun e => h3 ⟨b, e⟩; simp [this]
    ·right; right; simp [a, b]
  clear h1 h2 h3 e1
  rcases hc with ⟨rfl, h1, h2⟩ | ⟨rfl, h1, h2⟩ | ⟨h0, h1, h2⟩
  all_goals
   go_enter Tryz.func154, Tryz.ntmps154
   go_wp2_with fail
   refine bodyPost_ret (v := .tuple #[.agg #[.slice none 0 0, .bool false], .bool false]) (by simp [results, Tryz.results154, go_sem, *]) rfl ?_
   exact ⟨rfl, HB.out _ _⟩
def FormW (v : Value) : Prop := ∃ a n c b, v = .agg #[.slice a n c, .bool b]
theorem WH.form {W : World} {v : Value} {z : Int} (h : WH W v z) : FormW v := by
 obtain ⟨sv, rfl, a, ca, rfl, _⟩ := h; exact ⟨_, _, _, _, rfl⟩
theorem number_calls (k n : Int) (t : List UInt8) (hn : Small64 n) (ht : t.length <= 100000) (w : World) (hE : Env w) :
  Calls Tryz.prog 154 #[vE k n t] w fun e w' => ∃ v, e = .returned (.tuple #[v, .bool (numZ k n t).isSome]) /\ FormW v /\ (∀ z, numZ k n t = some z -> WH w' v z) /\ Below w.heap.size w w' := by
 by_cases h1 : k = 1 /\ t = []
 ·have e : numZ k n t = some n := if_pos h1
  rw [e]
  obtain ⟨rfl, rfl⟩ := h1
  refine (number_small n hn w hE).mono ?_
  rintro e w' ⟨v, rfl, h, hb⟩
  exact ⟨v, rfl, h.form, (fun z hz => by cases hz; exact h), hb⟩
 ·by_cases h2 : k = 2 /\ n = 0
  ·have e : numZ k n t = (match readZ t with | some z => if Small64 z then none else some z | none => none) := by unfold numZ; rw [if_neg h1, if_pos h2]
   cases hr : readZ t with
   | none =>
    rw [hr] at e; rw [e]
    refine (number_not k n t ht w h1 (fun _ => hr)).mono ?_
    rintro e w' ⟨rfl, hb⟩
    exact ⟨_, rfl, ⟨_, _, _, _, rfl⟩, (by intro z hz; simp at hz), hb⟩
   | some z =>
    rw [hr] at e
    obtain ⟨rfl, rfl⟩ := h2
    refine (number_text t ht z hr w hE).mono ?_
    rintro e2 w' ⟨v, rfl, h, hb⟩
    refine ⟨v, ?_, h.form, fun z' hz => ?_, hb⟩
    ·rw [e]; by_cases hs : Small64 z <;> simp [hs]
    ·rw [e] at hz; by_cases hs : Small64 z
     ·simp [hs] at hz
     ·simp [hs] at hz; subst hz; exact h
  ·have e : numZ k n t = none := by unfold numZ; rw [if_neg h1, if_neg h2]
   rw [e]
   refine (number_not k n t ht w h1 (fun h => absurd h h2)).mono ?_
   rintro e w' ⟨rfl, hb⟩
   exact ⟨_, rfl, ⟨_, _, _, _, rfl⟩, (by intro z hz; simp at hz), hb⟩
end Go.Proofs.YtplpnfjccemdnaaGreatDoor.Bg
