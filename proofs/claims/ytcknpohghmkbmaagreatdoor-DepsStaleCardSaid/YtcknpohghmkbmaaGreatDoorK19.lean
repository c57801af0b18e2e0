import Derived.Test.YtcknpohghmkbmaaGreatDoorK18
import Derived.Lib.AppendIntMem
import Derived.WalkSmall
import Derived.WalkLawsBesides
import Derived.WalkSpells
set_option linter.unusedVariables false
set_option linter.unusedSimpArgs false
/- The texts A12 A13 A14 of the proof, laid one behind the other. -/
namespace Go.Proofs.YtcknpohghmkbmaaGreatDoor.Bg
open Go.RowKit Go.Shelf Go.Lib
structure Env (W : World) : Prop where
 tab : Lib.TabIs Tryz.prog W "internal/strconv.uint64pow10" .u64 Lib.pow10Tab
 rng : ∃ tp p, W.var? Tryz.prog "strconv.ErrRange" = some #[.iface tp p]
theorem Env.below {W W' : World} (h : Env W) (hb : Below W.heap.size W W') : Env W' :=
 ⟨(tabBelow_of_tabIs h.tab) W' hb, by
  obtain ⟨tp, p, hv⟩ := h.rng
  refine ⟨tp, p, ?_⟩
  cases hg : Tryz.prog.globalNamed "strconv.ErrRange" with
  | none => simp only [World.var?, hg, Option.bind_none] at hv; cases hv
  | some g =>
   have hlt : g < W.heap.size := by
    simp only [World.var?, hg, Option.bind_some] at hv
    by_cases hh : g < W.heap.size
    ·exact hh
    ·rw [Array.getElem?_eq_none (by omega)] at hv; cases hv
   exact var?_below hb hg hlt hv⟩
def WH (W : World) (v : Value) (z : Int) : Prop := ∃ sv, v = .agg #[sv, .bool (decide (z < 0))] /\ RI W sv (dig z.natAbs)
theorem WH.below {W W' : World} {v : Value} {z : Int} (h : WH W v z) (hb : Below W.heap.size W W') : WH W' v z := by
 obtain ⟨sv, e, hr⟩ := h; exact ⟨sv, e, hr.below hb⟩
theorem signed_calls (sv : Value) (n : Nat) (neg : Bool) (w : World) (h : RI w sv (dig n)) :
  Calls Tryz.prog 221 #[sv, .bool neg] w fun e w' => ∃ v, e = .returned v /\ WH w' v (if neg then -(n : Int) else n) /\ Below w.heap.size w w' /\ ∃ b, v = .agg #[sv, .bool b] := by
 have H := Lib.hid h
 obtain ⟨a, ca, rfl, _⟩ := h
 have hb : ∀ o, Below w.heap.size w (w.alloc o) := fun o => (Below.refl _ w).alloc (Nat.le_refl _) o
 have HB := Lib.hid hb
 clear hb
 have hwh : ∀ (W : World) (b : Bool) (z : Int), Below w.heap.size w W -> b = decide (z < 0) -> z.natAbs = n -> WH W (.agg #[.slice a (dig n).length ca, .bool b]) z := fun W b z h1 h2 h3 => by subst h2; exact ⟨.slice a (dig n).length ca, rfl, by rw [h3]; exact H.out.below h1⟩
 have HW := Lib.hid hwh
 clear hwh
 cases neg
 ·go_enter Tryz.func221, Tryz.ntmps221
  go_wp2_with fail
  refine bodyPost_ret (v := .agg #[.slice a (dig n).length ca, .bool false]) (by simp [results, Tryz.results221, go_sem]) rfl ?_
  exact ⟨_, rfl, HW.out _ _ _ (HB.out _) (by simp) (by simp), HB.out _, by simp⟩
 ·have hd : Hid ((decide (dig n = [])) = decide (n = 0)) := Lib.hid (by rw [decide_eq_decide]; exact dig_eq_nil)
  by_cases hn : n = 0
  ·have hn' := Lib.hid hn
   clear hn
   go_enter Tryz.func221, Tryz.ntmps221
   go_wp2_with (go_at_call 249; refine (none_calls _ _ _ (H.out.below (HB.out _))).mono ?_; rw [hd.out, decide_eq_true hn'.out]; rintro e w' ⟨rfl, rfl⟩)
   refine bodyPost_ret (v := .agg #[.slice a (dig n).length ca, .bool false]) (by simp [results, Tryz.results221, go_sem]) rfl ?_
   exact ⟨_, rfl, HW.out _ _ _ (HB.out _) (by have := hn'.out; simp; omega) (by have := hn'.out; simp), HB.out _, by simp⟩
  ·have hn' := Lib.hid hn
   clear hn
   go_enter Tryz.func221, Tryz.ntmps221
   go_wp2_with (go_at_call 249; refine (none_calls _ _ _ (H.out.below (HB.out _))).mono ?_; rw [hd.out, decide_eq_false hn'.out]; rintro e w' ⟨rfl, rfl⟩)
   refine bodyPost_ret (v := .agg #[.slice a (dig n).length ca, .bool true]) (by simp [results, Tryz.results221, go_sem]) rfl ?_
   exact ⟨_, rfl, HW.out _ _ _ (HB.out _) (by have := hn'.out; simp; omega) (by simp), HB.out _, by simp⟩
theorem IsBuilder.on {T e : TypeId} {B b : Nat} {bs : List Value} {w w' : World} (h : Lib.IsBuilder T e B b bs w) (hb : Below w.heap.size w w') : Lib.IsBuilder T e B b bs w' := by
 have key : ∀ p, Lib.BuilderAt T e B b p bs w -> Lib.BuilderAt T e B b p bs w' := fun p hp => by
  obtain ⟨h1, v, h2, h3, h4⟩ := hp
  have hlt := (Array.getElem?_eq_some_iff.1 h2).1
  exact ⟨h1, v, (hb.block b hlt).trans h2, h3.kept (row := none) ⟨hb.os, hb.tape, hb.output, hb.size, fun k hk _ => hb.block k hk⟩ (by cases v.ownBlock <;> simp), h4⟩
 rcases h with h | h
 ·exact .inl (key _ h)
 ·exact .inr (key _ h)
theorem strCells_list (l : List UInt8) : Lib.strCells ⟨l.toArray⟩ = Lib.byteCells l := by simp [Lib.strCells, Lib.byteCells]
theorem byteCells_app (a b : List UInt8) : Lib.byteCells (a ++ b) = Lib.byteCells a ++ Lib.byteCells b := by simp [Lib.byteCells]
theorem itoa_calls (n : Nat) (hn : n < 1000000) (w : World) (hE : Env w) :
  Calls Tryz.prog 192 #[.int .i64 (n : Int)] w fun e w' => e = .returned (.string ⟨(decDigits n).toArray⟩) /\ Below w.heap.size w w' := by
 refine (Tryz.strconv_Itoa (n : Int) (by omega) (by omega) w hE.tab).mono ?_
 rintro e w' ⟨rfl, k, os, rfl⟩
 refine ⟨?_, below_grow _ w (Nat.le_refl _) k os⟩
 unfold itoa; rw [if_neg (by omega)]; rfl
theorem padE {x : Nat} (h : x < 1000000) : ((⟨Array.replicate (6 - (decDigits x).length) 48⟩ : ByteArray) ++ ⟨(decDigits x).toArray⟩) = ⟨(pad 6 x).toArray⟩ := by
 apply ByteArray.ext
 rw [ByteArray.data_append]
 apply Array.ext'
 have := nDigits_le (d := x) (k := 5) h
 rw [pad_small 6 x (by omega), decDigits_length]
 simp
structure TS (W0 : World) (bs : List UInt8) (W : World) : Prop where
 bld : Lib.IsBuilder 298 5 W0.heap.size W0.heap.size (Lib.byteCells bs) W
 bel : Below W0.heap.size W0 W
theorem TS.on {W0 W W' : World} {bs : List UInt8} (h : TS W0 bs W) (hb : Below W.heap.size W W') : TS W0 bs W' := ⟨IsBuilder.on h.bld hb, h.bel.trans (hb.mono h.bel.size)⟩
theorem TS.itoa {W0 W : World} {bs : List UInt8} (h : TS W0 bs W) (hE : Env W0) (n : Nat) (hn : n < 1000000) :
  Calls Tryz.prog 192 #[.int .i64 (n : Int)] W fun e w' => e = .returned (.string ⟨(decDigits n).toArray⟩) /\ TS W0 bs w' := by
 refine (itoa_calls n hn W (hE.below h.bel)).mono ?_
 rintro e w' ⟨rfl, hb⟩
 exact ⟨rfl, h.on hb⟩
theorem TS.write {W0 W : World} {bs : List UInt8} (h : TS W0 bs W) (l : List UInt8) (hlen : bs.length + l.length <= 10000000) :
  Calls Tryz.prog 236 #[.pointer (some ⟨W0.heap.size, 0, none⟩), .string ⟨l.toArray⟩] W fun e w' => (∃ k : Int, e = .returned (.tuple #[.int .i64 k, .nilIface])) /\ TS W0 (bs ++ l) w' := by
 refine (Tryz.Builder_WriteString W0.heap.size W0.heap.size _ ⟨l.toArray⟩ W h.bld (by rw [Lib.byteCells_length]; simp [ByteArray.size]; omega) h.bel.size).mono ?_
 rintro e w' ⟨rfl, hb, hl⟩
 exact ⟨⟨_, rfl⟩, .inr (by rw [byteCells_app, <- strCells_list l]; exact hb), h.bel.trans hl⟩
theorem TS.minus {W0 W : World} {bs : List UInt8} (h : TS W0 bs W) (hlen : bs.length <= 10000000) :
  Calls Tryz.prog 251 #[.pointer (some ⟨W0.heap.size, 0, none⟩), .int .u8 45] W fun e w' => e = .returned .nilIface /\ TS W0 (bs ++ [45]) w' := by
 refine (Tryz.Builder_WriteByte W0.heap.size W0.heap.size _ 45 W h.bld (by rw [Lib.byteCells_length]; omega) h.bel.size).mono ?_
 rintro e w' ⟨rfl, hb, hl⟩
 exact ⟨rfl, .inr (by rw [byteCells_app]; exact hb), h.bel.trans hl⟩
theorem repeatL_one (c : Nat) : Lib.repeatL [48] c = List.replicate c 48 := by
 induction c with
 | zero => rfl
 | succ c ih => simp [Lib.repeatL, ih, List.replicate_succ]
theorem TS.rep {W0 W : World} {bs : List UInt8} (h : TS W0 bs W) (c : Nat) (hc : c <= 1000) :
  Calls Tryz.prog 198 #[.string ⟨#[48]⟩, .int .i64 (c : Int)] W fun e w' => e = .returned (.string ⟨(List.replicate c 48).toArray⟩) /\ TS W0 bs w' := by
 refine (Tryz.strings_Repeat ⟨#[48]⟩ c W (by omega) (by simp [ByteArray.size]; omega)).mono ?_
 rintro e w' ⟨rfl, hb⟩
 exact ⟨by rw [<- repeatL_one], h.on hb⟩
theorem TS.string {W0 W : World} {bs : List UInt8} (h : TS W0 bs W) (hne : bs ≠ []) :
  Calls Tryz.prog 238 #[.pointer (some ⟨W0.heap.size, 0, none⟩)] W fun e w' => e = .returned (.string ⟨bs.toArray⟩) /\ Below W0.heap.size W0 w' := by
 refine (Tryz.Builder_String W0.heap.size W0.heap.size bs W h.bld hne).mono ?_
 rintro e w' ⟨rfl, hb⟩
 exact ⟨rfl, h.bel.trans hb⟩
set_option maxHeartbeats 4000001 in
set_option maxRecDepth 100000 in
theorem text_calls (v : Value) (z : Int) (w : World) (h : WH w v z) (hE : Env w) (hl : (dig z.natAbs).length <= 1000) :
  Calls Tryz.prog 224 #[v] w fun e w' => e = .returned (.string ⟨(itoa z).toArray⟩) /\ Below w.heap.size w w' := by
 obtain ⟨sv, rfl, hr⟩ := h
 obtain ⟨n, hn⟩ : ∃ n, z.natAbs = n := ⟨_, rfl⟩
 rw [hn] at hr hl
 have hz : Hid (z = if z < 0 then -(n : Int) else n) := Lib.hid (by split <;> omega)
 have HR := Lib.hid hr
 have HE := Lib.hid hE
 obtain ⟨R, hR⟩ : ∃ R, itoa z = R := ⟨_, rfl⟩
 rw [hR]
 obtain ⟨a, ca, rfl, _, hc⟩ := hr
 have HC := Lib.hid hc
 obtain ⟨neg, hneg⟩ : ∃ neg, decide (z < 0) = neg := ⟨_, rfl⟩
 rw [hneg]
 have hbx : Below w.heap.size w (w.alloc (.cells #[.slice a (dig n).length ca, .bool neg] 219)) := (Below.refl _ w).alloc (Nat.le_refl _) _
 have HBX := Lib.hid hbx
 have hd : Hid ((decide (dig n = [])) = decide (n = 0)) := Lib.hid (by rw [decide_eq_decide]; exact dig_eq_nil)
 have HRR := Lib.hid hR
 have HNEG := Lib.hid hneg
 have HN := Lib.hid hn
 clear hc hbx hE hR hneg hn
 by_cases h0 : n = 0
 ·have h0' := Lib.hid h0
  clear h0
  go_enter Tryz.func224, Tryz.ntmps224
  go_wp2_with (go_at_call 249; refine (none_calls _ _ _ (HR.out.below HBX.out)).mono ?_; rw [hd.out, decide_eq_true h0'.out]; rintro e w' ⟨rfl, rfl⟩)
  go_ret
  refine ⟨?_, HBX.out⟩
  have : z = 0 := by have := HN.out; have := h0'.out; omega
  rw [<- HRR.out, this, show itoa 0 = [48] by unfold itoa; rw [if_neg (by decide)]; exact decDigits_one (by decide)]; rfl
 ·have hlen : 0 < (dig n).length := List.length_pos_iff.2 (fun e => h0 (dig_eq_nil.1 e))
  obtain ⟨m, hm⟩ : ∃ m, (dig n).length = m + 1 := ⟨(dig n).length - 1, by omega⟩
  have h0' := Lib.hid h0
  have hm' := Lib.hid hm
  obtain ⟨b, off, rfl, hcs⟩ := HC.out (fun e => h0 (dig_eq_nil.1 e))
  rw [hm] at HBX hl ⊢
  have HCS := Lib.hid hcs
  clear h0 hm hcs hlen
  have hcell : ∀ W, Below w.heap.size w W -> ∀ k, k < m + 1 -> W.cell? ⟨b, off + k, none⟩ = some (.int .i64 (lim n k : Int)) := fun W hW k hk => by
   have := HCS.out k (by rw [hm'.out]; exact hk)
   rw [(rd_dig (by rw [hm'.out]; exact hk)).1] at this
   exact cell_on hW this
  have HCELL := Lib.hid hcell
  obtain ⟨W0, hW0⟩ : ∃ W0, w.alloc (.cells #[.slice (some ⟨b, off, none⟩) (m + 1) ca, .bool neg] 219) = W0 := ⟨_, rfl⟩
  have hx0 : W0.cell? ⟨w.heap.size, 0, none⟩ = some (.slice (some ⟨b, off, none⟩) (m + 1) ca) /\ W0.cell? ⟨w.heap.size, 1, none⟩ = some (.bool neg) := by
   have := World.alloc_heap_new w (.cells #[.slice (some ⟨b, off, none⟩) (m + 1) ca, .bool neg] 219)
   rw [hW0] at this
   simp [World.cell?, this]
  have hs0 : W0.heap.size = w.heap.size + 1 := by rw [<- hW0]; simp
  have HX := Lib.hid hx0
  have HS0 := Lib.hid hs0
  rw [hW0] at HBX
  have hts : TS W0 [] (W0.alloc (.cells #[.pointer none, .slice none 0 0] 298)) := ⟨Lib.fresh_isBuilder 298 5 W0, (Below.refl _ W0).alloc (Nat.le_refl _) _⟩
  have HTS := Lib.hid hts
  clear hcell hx0 hs0 hts
  have hd2 : Hid (decide (dig n = []) = false) := Lib.hid (by rw [hd.out, decide_eq_false h0'.out])
  have HRW := Lib.hid (hm'.out ▸ HR.out.below HBX.out : RI W0 (.slice (some ⟨b, off, none⟩) (m + 1) ca) (dig n))
  have hsz : Hid (w.heap.size < W0.heap.size) := Lib.hid (by rw [HS0.out]; omega)
  have hbx : ∀ W bs, TS W0 bs W -> W.cell? ⟨w.heap.size, 0, none⟩ = some (.slice (some ⟨b, off, none⟩) (m + 1) ca) /\ W.cell? ⟨w.heap.size, 1, none⟩ = some (.bool neg) := fun W bs h => ⟨(h.bel.cell (p := ⟨w.heap.size, 0, none⟩) hsz.out).trans HX.out.1, (h.bel.cell (p := ⟨w.heap.size, 1, none⟩) hsz.out).trans HX.out.2⟩
  have HBXC := Lib.hid hbx
  have hlm : ∀ W bs, TS W0 bs W -> ∀ k, k < m + 1 -> W.cell? ⟨b, off + k, none⟩ = some (.int .i64 (lim n k : Int)) := fun W bs h k hk => HCELL.out W (HBX.out.trans (h.bel.mono HBX.out.size)) k hk
  have HLM := Lib.hid hlm
  clear hbx hlm
  have HXc0 := HX.out.1
  have hmb : (m : Int) <= 1000 := by omega
  have hE0 : Hid (Env W0) := Lib.hid (HE.out.below HBX.out)
  have hln : ∀ k, (decDigits (lim n k)).length <= 6 := fun k => by rw [decDigits_length]; exact nDigits_le (k := 5) (lim_lt n k)
  have HLN := Lib.hid hln
  have hup : ∀ k, k <= m -> decDigits (upTo n k) = decDigits (upTo n k) := fun _ _ => rfl
  have hnl : Hid (∀ k, (decDigits (upTo n k)).length <= 7000) := Lib.hid fun k => by
   rw [decDigits_length]
   have h1 : upTo n k <= n := Nat.div_le_self _ _
   have h2 := dig_lt n
   rw [hm'.out, pow_six] at h2
   exact Nat.le_trans (nDigits_le (k := 6 * (m + 1) - 1) (by rw [show 6 * (m + 1) - 1 + 1 = 6 * (m + 1) by omega]; omega)) (by omega)
  clear hln hup
  cases neg
  ·as_aux_lemma =>
   have hfin : Hid (R = ([] : List UInt8) ++ decDigits n) := Lib.hid (by
    rw [<- HRR.out]; unfold itoa; have h1 := HNEG.out; have h2 := HN.out
    simp only [decide_eq_false_iff_not] at h1
    rw [if_neg h1, show z.toNat = n by omega]; rfl)
   have HXc1 := HX.out.2
   go_enter Tryz.func224, Tryz.ntmps224
   go_wp2_with fail
   clear hW0
   refine (none_calls _ _ W0 HRW.out).mono ?_
   rw [hd2.out]
   rintro e w' ⟨rfl, rfl⟩
   have hA1 := (HBXC.out _ _ HTS.out).1
   have hA2 := (HBXC.out _ _ HTS.out).2
   have hAm := HLM.out _ _ HTS.out m (by omega)
   go_wp2_with fail
   refine (HTS.out.itoa hE0.out (lim n m) (lim_lt n m)).mono ?_
   rintro e w3 ⟨rfl, h3⟩
   have H3 := Lib.hid h3
   clear h3
   go_wp2_with fail
   refine (H3.out.write _ (by have := HLN.out m; simp; omega)).mono ?_
   rintro e w4 ⟨⟨_, rfl⟩, h4⟩
   have H4 := Lib.hid h4
   clear h4
   go_wp2_with fail
   go_loopw [5] (fun t wr => ∃ k : Nat, t = .int .i64 ((k : Int) - 1) /\ k <= m /\ Hid (TS W0 (([] : List UInt8) ++ decDigits (upTo n k)) wr)) (fun t _ => (RowKit.intOf t + 1).toNat)
   case atStart => exact ⟨m, by first | rfl | simp, Nat.le_refl _, by rw [lim_top hm'.out]; simpa using H4⟩
   case round =>
    obtain ⟨k, rfl, hk, hT⟩ := hrel
    rcases Nat.eq_zero_or_pos k with rfl | hk0
    ·rw [show ((0 : Nat) : Int) - 1 = -1 from rfl]
     go_wp2_with fail
     refine (hT.out.string (by simp [digits_ne_nil])).mono ?_
     rintro e w5 ⟨rfl, hb5⟩
     have H5 := Lib.hid hb5
     clear hb5
     go_wp2_with fail
     go_ret
     exact ⟨by rw [hfin.out, upTo_zero]; rfl, HBX.out.trans (H5.out.mono HBX.out.size)⟩
    ·obtain ⟨k, rfl⟩ : ∃ j, k = j + 1 := ⟨k - 1, by omega⟩
     rw [show ((k + 1 : Nat) : Int) - 1 = (k : Int) by omega]
     have hc0 := (HBXC.out _ _ hT.out).1
     have hck := HLM.out _ _ hT.out k (by omega)
     go_wp2_with fail
     refine (hT.out.itoa hE0.out (lim n k) (lim_lt n k)).mono ?_
     rintro e w5 ⟨rfl, h5⟩
     have H5 := Lib.hid h5
     clear h5
     have hlk := HLN.out k
     go_wp2_with fail
     rw [show (6 - ((decDigits (lim n k)).length : Int)) = ((6 - (decDigits (lim n k)).length : Nat) : Int) by omega]
     refine (H5.out.rep _ (by omega)).mono ?_
     rintro e w6 ⟨rfl, h6⟩
     have H6 := Lib.hid h6
     clear h6
     go_wp2_with fail
     rw [padE (lim_lt n k)]
     refine (H6.out.write _ (by have := hnl.out (k + 1); simp [pad_len]; omega)).mono ?_
     rintro e w7 ⟨⟨_, rfl⟩, h7⟩
     have H7 := Lib.hid h7
     clear h7
     go_wp2_with fail
     exact ⟨⟨k, rfl, by omega, by rw [upTo_succ, decDigits_pad 6 _ _ (upTo_pos hm'.out (by omega)) (lim_lt n k), <- List.append_assoc]; exact H7⟩, by simp [RowKit.intOf] <;> omega⟩
  ·as_aux_lemma =>
   have hfin : Hid (R = ([45] : List UInt8) ++ decDigits n) := Lib.hid (by
    rw [<- HRR.out]; unfold itoa; have h1 := HNEG.out; have h2 := HN.out
    simp only [decide_eq_true_eq] at h1
    rw [if_pos h1, h2]; rfl)
   have HXc1 := HX.out.2
   go_enter Tryz.func224, Tryz.ntmps224
   go_wp2_with fail
   clear hW0
   refine (none_calls _ _ W0 HRW.out).mono ?_
   rw [hd2.out]
   rintro e w' ⟨rfl, rfl⟩
   have hA1 := (HBXC.out _ _ HTS.out).1
   have hA2 := (HBXC.out _ _ HTS.out).2
   have hAm := HLM.out _ _ HTS.out m (by omega)
   go_wp2_with fail
   refine (HTS.out.minus (by simp)).mono ?_
   rintro e w2 ⟨rfl, h2⟩
   have H2 := Lib.hid h2
   have hA3 := (HBXC.out _ _ h2).1
   have hAm2 := HLM.out _ _ h2 m (by omega)
   clear h2 hA1 hA2 hAm
   go_wp2_with fail
   refine (H2.out.itoa hE0.out (lim n m) (lim_lt n m)).mono ?_
   rintro e w3 ⟨rfl, h3⟩
   have H3 := Lib.hid h3
   clear h3
   go_wp2_with fail
   refine (H3.out.write _ (by have := HLN.out m; simp; omega)).mono ?_
   rintro e w4 ⟨⟨_, rfl⟩, h4⟩
   have H4 := Lib.hid h4
   clear h4
   go_wp2_with fail
   go_loopw [5] (fun t wr => ∃ k : Nat, t = .int .i64 ((k : Int) - 1) /\ k <= m /\ Hid (TS W0 (([45] : List UInt8) ++ decDigits (upTo n k)) wr)) (fun t _ => (RowKit.intOf t + 1).toNat)
   case atStart => exact ⟨m, by first | rfl | simp, Nat.le_refl _, by rw [lim_top hm'.out]; simpa using H4⟩
   case round =>
    obtain ⟨k, rfl, hk, hT⟩ := hrel
    rcases Nat.eq_zero_or_pos k with rfl | hk0
    ·rw [show ((0 : Nat) : Int) - 1 = -1 from rfl]
     go_wp2_with fail
     refine (hT.out.string (by simp [digits_ne_nil])).mono ?_
     rintro e w5 ⟨rfl, hb5⟩
     have H5 := Lib.hid hb5
     clear hb5
     go_wp2_with fail
     go_ret
     exact ⟨by rw [hfin.out, upTo_zero]; rfl, HBX.out.trans (H5.out.mono HBX.out.size)⟩
    ·obtain ⟨k, rfl⟩ : ∃ j, k = j + 1 := ⟨k - 1, by omega⟩
     rw [show ((k + 1 : Nat) : Int) - 1 = (k : Int) by omega]
     have hc0 := (HBXC.out _ _ hT.out).1
     have hck := HLM.out _ _ hT.out k (by omega)
     go_wp2_with fail
     refine (hT.out.itoa hE0.out (lim n k) (lim_lt n k)).mono ?_
     rintro e w5 ⟨rfl, h5⟩
     have H5 := Lib.hid h5
     clear h5
     have hlk := HLN.out k
     go_wp2_with fail
     rw [show (6 - ((decDigits (lim n k)).length : Int)) = ((6 - (decDigits (lim n k)).length : Nat) : Int) by omega]
     refine (H5.out.rep _ (by omega)).mono ?_
     rintro e w6 ⟨rfl, h6⟩
     have H6 := Lib.hid h6
     clear h6
     go_wp2_with fail
     rw [padE (lim_lt n k)]
     refine (H6.out.write _ (by have := hnl.out (k + 1); simp [pad_len]; omega)).mono ?_
     rintro e w7 ⟨⟨_, rfl⟩, h7⟩
     have H7 := Lib.hid h7
     clear h7
     go_wp2_with fail
     exact ⟨⟨k, rfl, by omega, by rw [upTo_succ, decDigits_pad 6 _ _ (upTo_pos hm'.out (by omega)) (lim_lt n k), <- List.append_assoc]; exact H7⟩, by simp [RowKit.intOf] <;> omega⟩
end Go.Proofs.YtcknpohghmkbmaaGreatDoor.Bg
namespace Go.Proofs.YtcknpohghmkbmaaGreatDoor.Bg
open Go.RowKit Go.Shelf Go.Lib
theorem cell_in (w : World) (cs : Array Value) (t : TypeId) (j : Nat) {v : Value} (h : cs[j]? = some v) : (w.alloc (.cells cs t)).cell? ⟨w.heap.size, j, none⟩ = some v := by
 have := World.alloc_heap_new w (.cells cs t)
 simp only [World.cell?, this]; simpa using h
theorem frozen_in (w : World) (cs : Array Value) (t : TypeId) (j : Nat) : (w.alloc (.cells cs t)).frozen? ⟨w.heap.size, j, none⟩ = false := by
 have := World.alloc_heap_new w (.cells cs t)
 simp only [World.frozen?, this]; simp
theorem cell_in2 (w : World) (o : Obj) (cs : Array Value) (t : TypeId) (j : Nat) {v : Value} (h : cs[j]? = some v) : ((w.alloc o).alloc (.cells cs t)).cell? ⟨w.heap.size + 1, j, none⟩ = some v := by
 have := cell_in (w.alloc o) cs t j h; rwa [World.size_alloc] at this
theorem frozen_in2 (w : World) (o : Obj) (cs : Array Value) (t : TypeId) (j : Nat) : ((w.alloc o).alloc (.cells cs t)).frozen? ⟨w.heap.size + 1, j, none⟩ = false := by
 have := frozen_in (w.alloc o) cs t j; rwa [World.size_alloc] at this
theorem dig_len_nd {n k : Nat} (h : nDigits n <= k) : 6 * (dig n).length <= k + 6 := by
 have := sizeD_dig n
 unfold sizeD at this
 split at this
 ·rename_i e; rw [e]; simp
 ·omega
def vv (z : Int) : Value := if -9223372036854775808 <= z /\ z <= 9223372036854775807 then .agg #[.int .i64 1, .int .i64 z, .string ⟨#[]⟩] else .agg #[.int .i64 2, .int .i64 0, .string ⟨(itoa z).toArray⟩]
set_option maxHeartbeats 1000000 in
theorem val_ok (v : Value) (z : Int) (w : World) (h : WH w v z) (hE : Env w) (hd : nDigits z.natAbs <= 400) :
  Calls Tryz.prog 193 #[v] w fun e w' => e = .returned (vv z) /\ Below w.heap.size w w' := by
 have HW := Lib.hid h
 obtain ⟨sv, rfl, hr⟩ := h
 have HR := Lib.hid hr
 obtain ⟨a, ca, rfl, _⟩ := hr
 obtain ⟨neg, hneg⟩ : ∃ neg, decide (z < 0) = neg := ⟨_, rfl⟩
 rw [hneg] at HW ⊢
 have hsz : Hid (sizeD (dig z.natAbs) = nDigits z.natAbs) := Lib.hid (sizeD_dig _)
 have hdl : Hid ((dig z.natAbs).length <= 1000) := Lib.hid (by have := dig_len_nd hd; omega)
 have hil : Hid ((itoa z).length <= 401) := Lib.hid (by rw [itoa_length]; split <;> omega)
 obtain ⟨k, hk⟩ : ∃ k, nDigits z.natAbs = k := ⟨_, rfl⟩
 rw [hk] at hsz hd
 have hd' : (k : Int) <= 400 := by omega
 have hb : ∀ o o', Below w.heap.size w ((w.alloc o).alloc o') := fun o o' => ((Below.refl _ w).alloc (Nat.le_refl _) o).alloc (by simp) o'
 have HB := Lib.hid hb
 have HE := Lib.hid hE
 clear hneg hk hb hd hE
 obtain ⟨R, hR⟩ : ∃ R, vv z = R := ⟨_, rfl⟩
 have HRR := Lib.hid hR
 rw [hR]
 clear hR
 go_enter Tryz.func193, Tryz.ntmps193
 go_wp2_with fail
 refine (size_calls _ _ _ (HR.out.below (HB.out _ _)) (dig_inR _)).mono ?_
 rw [hsz.out]
 rintro e w' ⟨rfl, rfl⟩
 go_wp2_with fail
 refine (text_calls _ z _ (HW.out.below (HB.out _ _)) (HE.out.below (HB.out _ _)) hdl.out).mono ?_
 rintro e w2 ⟨rfl, hb2⟩
 have hb2' := Lib.hid hb2
 have hcc : ∀ W', Below w2.heap.size w2 W' -> W'.cell? ⟨w.heap.size + 1, 0, none⟩ = some (.int .i64 0) /\ W'.cell? ⟨w.heap.size + 1, 1, none⟩ = some (.int .i64 0) /\ W'.cell? ⟨w.heap.size + 1, 2, none⟩ = some (.string ⟨#[]⟩) /\ (∀ j, W'.frozen? ⟨w.heap.size + 1, j, none⟩ = false) := fun W' hW => by
  have hb := below_then hb2 hW
  exact ⟨cell_on hb (cell_in2 _ _ _ _ 0 rfl), cell_on hb (cell_in2 _ _ _ _ 1 rfl), cell_on hb (cell_in2 _ _ _ _ 2 rfl), fun j => (hb.frozen (p := ⟨w.heap.size + 1, j, none⟩) (by simp)).trans (frozen_in2 _ _ _ _ j)⟩
 have HCC := Lib.hid hcc
 have hbb : Hid (Below w.heap.size w w2) := Lib.hid (below_then (HB.out _ _) hb2)
 clear hcc
 clear hb2
 by_cases hi : -9223372036854775808 <= z /\ z <= 9223372036854775807
 ·have hp : Hid (Lib.parseIntB 64 (itoa z) = .ok z) := Lib.hid (by rw [parseInt_itoa, if_pos hi])
  have hi' := Lib.hid hi
  clear hi
  go_wp2_with fail
  refine (Tryz.strconv_ParseInt_10_at64_ok ⟨(itoa z).toArray⟩ (by have := hil.out; simp [ByteArray.size]; omega) z (by simpa using hp.out) w2).mono ?_
  rintro e w3 ⟨rfl, hw3⟩
  have hb3 : Below w2.heap.size w2 w3 := by
   rcases hw3 with rfl | ⟨t, rfl⟩
   ·exact Below.refl _ _
   ·exact bytesWorld_below _ _ _
  clear hw3
  obtain ⟨c0, c1, c2, cf⟩ := HCC.out w3 hb3
  have f0 := cf 0; have f1 := cf 1; have f2 := cf 2
  have hb3' := Lib.hid (below_then hbb.out hb3)
  clear hb3 cf
  go_wp2_with fail
  refine bodyPost_ret (v := .agg #[.int .i64 1, .int .i64 z, .string ⟨#[]⟩]) (by simp [results, Tryz.results193, go_sem, c0, c1, c2]) rfl ?_
  exact ⟨by rw [<- HRR.out]; unfold vv; rw [if_pos hi'.out], ((hb3'.out.setCell (p := ⟨w.heap.size + 1, 0, none⟩) (by simp) _).setCell (p := ⟨w.heap.size + 1, 1, none⟩) (by simp) _).setCell (p := ⟨w.heap.size + 1, 2, none⟩) (by simp) _⟩
 ·have hp : Hid (Lib.parseIntB 64 (itoa z) = .range) := Lib.hid (by rw [parseInt_itoa, if_neg hi])
  have hi' := Lib.hid hi
  clear hi
  obtain ⟨tp, pv, hv⟩ := (HE.out.below hbb.out).rng
  have HV := Lib.hid hv
  clear hv
  go_wp2_with fail
  refine (Tryz.strconv_ParseInt_10_at64_range_var ⟨(itoa z).toArray⟩ (by have := hil.out; simp [ByteArray.size]; omega) (by simpa using hp.out) tp pv w2 HV.out).mono ?_
  rintro e w3 ⟨N, rfl, hN1, hN2, hb3⟩
  obtain ⟨c0, c1, c2, cf⟩ := HCC.out w3 hb3
  have f0 := cf 0; have f1 := cf 1; have f2 := cf 2
  have hb3' := Lib.hid (below_then hbb.out hb3)
  clear hb3 cf hN1 hN2
  go_wp2_with fail
  refine bodyPost_ret (v := .agg #[.int .i64 2, .int .i64 0, .string ⟨(itoa z).toArray⟩]) (by simp [results, Tryz.results193, go_sem, c0, c1, c2]) rfl ?_
  exact ⟨by rw [<- HRR.out]; unfold vv; rw [if_neg hi'.out], ((hb3'.out.setCell (p := ⟨w.heap.size + 1, 0, none⟩) (by simp) _).setCell (p := ⟨w.heap.size + 1, 1, none⟩) (by simp) _).setCell (p := ⟨w.heap.size + 1, 2, none⟩) (by simp) _⟩
end Go.Proofs.YtcknpohghmkbmaaGreatDoor.Bg
namespace Go.Proofs.YtcknpohghmkbmaaGreatDoor.Bg
open Go.RowKit Go.Shelf Go.Lib
theorem trimPrefix_unsign (l : List UInt8) : Lib.trimPrefix l [45] = unsign l := by
 unfold Lib.trimPrefix Lib.hasPrefix unsign
 cases l with
 | nil => rfl
 | cons c l =>
  by_cases hc : c = 45
  ·subst hc; rfl
  ·have : ([45] : List UInt8).isPrefixOf (c :: l) = false := by simp [List.isPrefixOf]; exact fun h => hc h.symm
   rw [this]
   split
   ·rename_i h; cases h
   ·split
    ·rename_i heq; exact absurd (List.cons.inj heq).1 hc
    ·rfl
theorem trimS_nil {l : List UInt8} : Lib.trimS l [48, 49, 50, 51, 52, 53, 54, 55, 56, 57] = [] ↔ AllD l := by
 have hmem : ∀ c : UInt8, ([48, 49, 50, 51, 52, 53, 54, 55, 56, 57] : List UInt8).contains c = true ↔ 48 <= c.toNat /\ c.toNat <= 57 := by
  intro c
  have : ∀ n : Fin 256, ([48, 49, 50, 51, 52, 53, 54, 55, 56, 57] : List UInt8).contains (UInt8.ofNat n.val) = true ↔ 48 <= n.val /\ n.val <= 57 := by decide +kernel
  have := this ⟨c.toNat, c.toNat_lt⟩
  simpa using this
 have hdw : ∀ m : List UInt8, m.dropWhile (([48, 49, 50, 51, 52, 53, 54, 55, 56, 57] : List UInt8).contains ·) = [] ↔ AllD m := by
  intro m
  induction m with
  | nil => simp [AllD]
  | cons c m ih =>
   rw [List.dropWhile_cons]
   by_cases hc : ([48, 49, 50, 51, 52, 53, 54, 55, 56, 57] : List UInt8).contains c = true
   ·rw [if_pos hc, ih]
    constructor
    ·intro h x hx
     rcases List.mem_cons.1 hx with rfl | hx
     ·exact (hmem _).1 hc
     ·exact h x hx
    ·intro h x hx; exact h x (by simp [hx])
   ·rw [if_neg hc]
    constructor
    ·intro h; cases h
    ·intro h; exact absurd ((hmem c).2 (h c (by simp))) hc
 unfold Lib.trimS Lib.trimLeftS Lib.trimRightS
 rw [hdw]
 constructor
 ·intro h
  have hsplit : l.reverse.takeWhile (([48, 49, 50, 51, 52, 53, 54, 55, 56, 57] : List UInt8).contains ·) ++ l.reverse.dropWhile (([48, 49, 50, 51, 52, 53, 54, 55, 56, 57] : List UInt8).contains ·) = l.reverse := List.takeWhile_append_dropWhile
  intro x hx
  have hx' : x ∈ l.reverse := by simpa using hx
  rw [<- hsplit] at hx'
  rcases List.mem_append.1 hx' with hx' | hx'
  ·exact (hmem x).1 (by
    have := List.all_takeWhile (p := (([48, 49, 50, 51, 52, 53, 54, 55, 56, 57] : List UInt8).contains ·)) (l := l.reverse)
    rw [List.all_eq_true] at this
    exact this x hx')
  ·exact h x (by simpa using hx')
 ·intro h x hx
  have hx' : x ∈ l.reverse.dropWhile (([48, 49, 50, 51, 52, 53, 54, 55, 56, 57] : List UInt8).contains ·) := by simpa using hx
  exact h x (by have := (List.dropWhile_sublist _).subset hx'; simpa using this)
theorem trim_calls (t : List UInt8) (ht : t.length <= 1000000) (w : World) :
  Calls Tryz.prog 219 #[.string ⟨t.toArray⟩, .string ⟨#[48, 49, 50, 51, 52, 53, 54, 55, 56, 57]⟩] w fun e w' => (∃ l, e = .returned (.string ⟨l.toArray⟩) /\ (l = [] ↔ AllD t)) /\ Below w.heap.size w w' := by
 refine (Any.strings_Trim_laid Tryz.lays160 (by kernel_rfl) ⟨t.toArray⟩ ⟨#[48, 49, 50, 51, 52, 53, 54, 55, 56, 57]⟩ w (by simp [ByteArray.size]; omega) (by decide) (ascii_of_all (by decide))).mono ?_
 rintro e w' ⟨rfl, hb⟩
 exact ⟨⟨_, rfl, trimS_nil⟩, hb⟩
theorem minus_trim (l : List UInt8) (w : World) :
  Calls Tryz.prog 218 #[.string ⟨l.toArray⟩, .string ⟨#[45]⟩] w fun e w' => e = .returned (.string ⟨(unsign l).toArray⟩) /\ w = w' := by
 refine (Tryz.strings_TrimPrefix ⟨l.toArray⟩ ⟨#[45]⟩ w).mono ?_
 rintro e w' ⟨rfl, rfl⟩
 exact ⟨by rw [<- trimPrefix_unsign], rfl⟩
theorem own_forms {w : World} {base n : Nat} {v : Value} {xs : List Int} (h : w.ownsRow base 3 1 v n (xs.map (Value.int .i64))) :
  n = xs.length /\ ((v = .slice none 0 0 /\ xs = []) \/ ∃ g cap, v = .slice (some ⟨g, 0, none⟩) n cap /\ base <= g /\ n <= cap /\ cap <= maxLen /\ ∀ j, j < n -> w.cell? ⟨g, j, none⟩ = some (.int .i64 (rd xs j))) := by
 have hl : xs.length = n := by have := h.1; simpa using this
 refine ⟨hl.symm, ?_⟩
 rcases h.2 with ⟨rfl, h0⟩ | ⟨g, cap, cur, rfl, hb, _, h1, h2, _⟩
 ·left; subst h0; exact ⟨rfl, List.eq_nil_of_length_eq_zero hl⟩
 ·right
  refine ⟨g, cap, rfl, hb, h1, h2, fun j hj => ?_⟩
  have := h.cells (g := g) rfl j (.int .i64 (rd xs j)) (by simp [rd, List.getElem?_eq_getElem (show j < xs.length by omega)])
  have e : (⟨g, 0, none⟩ : Addr).add j = ⟨g, j, none⟩ := by unfold Addr.add; split <;> simp_all
  rwa [e] at this
def FrB (B : Nat) (v : Value) : Prop := ∀ a n c, v = .slice (some a) n c -> B <= a.block
theorem RI.store {W : World} {v : Value} {zs : List Int} (h : RI W v zs) {B g j : Nat} (u : Value) (hf : FrB B v) (hg : g < B) : RI (W.setCell ⟨g, j, none⟩ u) v zs := by
 obtain ⟨a, cap, rfl, hl, hc⟩ := h
 refine ⟨a, cap, rfl, hl, fun hz => ?_⟩
 obtain ⟨b, off, rfl, hc'⟩ := hc hz
 have hb := hf _ _ _ rfl
 refine ⟨b, off, rfl, fun i hi => ?_⟩
 rw [World.cell?_setCell_other _ _ _ _ (by intro e; cases e; simp at hb; omega)]
 exact hc' i hi
theorem infoInt : (Tryz.prog.info? 3).map (fun i => (i.zero, i.size, i.bytes)) = some (some (.int .i64 0), 1, 8) := by kernel_rfl
set_option maxRecDepth 100000 in
set_option maxHeartbeats 4000000 in
theorem read_none (l : List UInt8) (hl : l.length <= 100000) (w : World) (h : readZ l = none) :
  Calls Tryz.prog 191 #[.string ⟨l.toArray⟩] w fun e w' => e = .returned (.tuple #[.agg #[.slice none 0 0, .bool false], .bool false]) /\ Below w.heap.size w w' := by
 obtain ⟨t, ht⟩ : ∃ t, unsign l = t := ⟨_, rfl⟩
 have HT := Lib.hid ht
 have hul := unsign_len l
 rw [ht] at hul
 have H := Lib.hid h
 have hb : ∀ o, Below w.heap.size w (w.alloc o) := fun o => (Below.refl _ w).alloc (Nat.le_refl _) o
 have HB := Lib.hid hb
 clear ht h hb
 by_cases c1 : t = []
 ·subst c1
  go_enter Tryz.func191, Tryz.ntmps191
  go_wp2_with fail
  refine (minus_trim l _).mono ?_
  rw [HT.out]
  rintro e w' ⟨rfl, rfl⟩
  go_wp2_with fail
  refine bodyPost_ret (v := .tuple #[.agg #[.slice none 0 0, .bool false], .bool false]) (by simp [results, Tryz.results191, go_sem]) rfl ?_
  exact ⟨rfl, HB.out _⟩
 ·obtain ⟨c, r, rfl⟩ : ∃ c r, t = c :: r := by cases t with | nil => exact absurd rfl c1 | cons c r => exact ⟨c, r, rfl⟩
  clear c1
  by_cases c2 : 400 < (c :: r).length
  ·have c2' : (400 : Int) < (r.length : Int) + 1 := by simp at c2; omega
   go_enter Tryz.func191, Tryz.ntmps191
   go_wp2_with fail
   refine (minus_trim l _).mono ?_
   rw [HT.out]
   rintro e w' ⟨rfl, rfl⟩
   go_wp2_with fail
   refine bodyPost_ret (v := .tuple #[.agg #[.slice none 0 0, .bool false], .bool false]) (by simp [results, Tryz.results191, go_sem]) rfl ?_
   exact ⟨rfl, HB.out _⟩
  ·have c2' : (r.length : Int) + 1 <= 400 := by simp at c2; omega
   have c2d : decide ((400 : Int) < (r.length : Int) + 1) = false := by simp; omega
   have hb0 : ((⟨(c :: r).toArray⟩ : ByteArray)[0]'(by simp [ByteArray.size])) = c := rfl
   by_cases c3 : c = 48 /\ l ≠ [48]
   ·obtain ⟨rfl, c3⟩ := c3
    have e1 : (l == [48]) = false := by simp [c3]
    have e2 : (l != [48]) = true := by simp [c3]
    clear c3
    go_enter Tryz.func191, Tryz.ntmps191
    go_wp2_with fail
    refine (minus_trim l _).mono ?_
    rw [HT.out]
    rintro e w' ⟨rfl, rfl⟩
    go_wp2_with fail
    refine bodyPost_ret (v := .tuple #[.agg #[.slice none 0 0, .bool false], .bool false]) (by simp [results, Tryz.results191, go_sem]) rfl ?_
    exact ⟨rfl, HB.out _⟩
   ·have c4 : ¬ AllD (c :: r) := fun hA => by
     have := H.out; unfold readZ at this; rw [HT.out] at this
     rw [if_neg] at this
     ·cases this
     ·rintro (h1 | h1 | h1 | h1)
      ·cases h1
      ·exact c2 h1
      ·simp at h1; exact c3 ⟨h1.1, by simpa using h1.2⟩
      ·exact h1 hA
    have C4 := Lib.hid c4
    have e0 : Hid (c = 48 -> l = [48]) := Lib.hid (fun h => Classical.byContradiction fun h2 => c3 ⟨h, h2⟩)
    clear c4 c3
    by_cases c5 : c = 48
    ·have := e0.out c5
     subst this; subst c5
     exact absurd (show AllD ([48] : List UInt8) by decide) (by have h1 := HT.out; have h2 : unsign [48] = [48] := rfl; rw [h2] at h1; rw [h1]; exact C4.out)
    ·have e1 : ((c.toNat : Int) == 48) = false := by
      have : c.toNat ≠ 48 := fun h => c5 (UInt8.toNat_inj.1 h)
      simp; omega
     clear c5
     go_enter Tryz.func191, Tryz.ntmps191
     go_wp2_with fail
     refine (minus_trim l _).mono ?_
     rw [HT.out]
     rintro e w' ⟨rfl, rfl⟩
     go_wp2_with fail
     refine (trim_calls (c :: r) (by simp; omega) _).mono ?_
     rintro e w2 ⟨⟨m, rfl, hm⟩, hb2⟩
     have hm' : m ≠ [] := fun h => C4.out (hm.1 h)
     obtain ⟨c6, m, rfl⟩ : ∃ c r, m = c :: r := by cases m with | nil => exact absurd rfl hm' | cons c r => exact ⟨c, r, rfl⟩
     have hcc : w2.cell? ⟨w.heap.size, 0, none⟩ = some (.slice none 0 0) /\ w2.cell? ⟨w.heap.size, 1, none⟩ = some (.bool false) := ⟨cell_on hb2 (cell_in _ _ _ 0 rfl), cell_on hb2 (cell_in _ _ _ 1 rfl)⟩
     have hff : ∀ j, w2.frozen? ⟨w.heap.size, j, none⟩ = false := fun j => (hb2.frozen (p := ⟨w.heap.size, j, none⟩) (by simp)).trans (frozen_in _ _ _ j)
     have f0 := hff 0; have f1 := hff 1
     obtain ⟨k0, k1⟩ := hcc
     have HB2 := Lib.hid (below_then (HB.out _) hb2)
     clear hm hm' hff hb2
     go_wp2_with fail
     refine bodyPost_ret (v := .tuple #[.agg #[.slice none 0 0, .bool false], .bool false]) (by simp [results, Tryz.results191, go_sem, k0, k1]) rfl ?_
     exact ⟨rfl, (HB2.out.setCell (p := ⟨w.heap.size, 0, none⟩) (Nat.le_refl _) _).setCell (p := ⟨w.heap.size, 1, none⟩) (Nat.le_refl _) _⟩
theorem strip_RI {W : World} {b cap : Nat} {xs : List Int} (hx : InR xs) (hc : ∀ j, j < xs.length -> W.cell? ⟨b, j, none⟩ = some (.int .i64 (rd xs j))) {k : Nat} (hk : k <= xs.length) (hlen : xs.length <= 1000000) (hv : val (xs.take k) = val xs) (hz : k = 0 \/ rd xs (k - 1) ≠ 0) :
  RI W (.slice (some ⟨b, 0, none⟩) k cap) (dig (val xs).toNat) := by
 have e : xs.take k = dig (val xs).toNat := by
  rw [<- hv]
  refine dig_val (InR.take hx k) ?_
  rcases hz with rfl | hz
  ·left; simp
  ·right
   rcases Nat.eq_zero_or_pos k with rfl | h0
   ·simp
   ·have : (xs.take k).getLast? = some (rd xs (k - 1)) := by
     rw [List.getLast?_eq_getElem?]
     simp [rd, List.length_take, Nat.min_eq_left hk, List.getElem?_take, show k - 1 < k by omega, List.getElem?_eq_getElem (show k - 1 < xs.length by omega)]
    rw [this]; simpa using hz
 rw [<- e]
 refine ⟨_, cap, by simp [Nat.min_eq_left hk], by simp; omega, fun _ => ⟨b, 0, rfl, fun j hj => ?_⟩⟩
 have hj' : j < k := by simpa [Nat.min_eq_left hk] using hj
 have := hc j (by omega)
 simp only [Nat.zero_add]
 rw [this]; simp [rd, List.getElem?_take, hj']
structure Rd (t : List UInt8) (k : Nat) (xs : List Int) : Prop where
 len : xs.length = k
 rng : InR xs
 v : val xs = dv (t.drop (t.length - 6 * k))
 more : k = 0 \/ 6 * (k - 1) < t.length
def chunk (t : List UInt8) (k : Nat) : List UInt8 := (t.drop (t.length - 6 * (k + 1))).take (t.length - 6 * k - (t.length - 6 * (k + 1)))
theorem chunk_len {t : List UInt8} {k : Nat} (h : 6 * k < t.length) : (chunk t k).length <= 6 := by
 unfold chunk; rw [List.length_take, List.length_drop]; omega
theorem Rd.step {t : List UInt8} {k : Nat} {xs : List Int} (h : Rd t k xs) (hA : AllD t) (hk : 6 * k < t.length) : Rd t (k + 1) (xs ++ [(dv (chunk t k) : Int)]) := by
 have hAc : AllD (chunk t k) := fun c hc => hA c ((List.drop_subset _ _) ((List.take_subset _ _) hc))
 have hlt : dv (chunk t k) < 1000000 := Nat.lt_of_lt_of_le (dv_lt hAc) (Nat.le_trans (Nat.pow_le_pow_right (by decide) (chunk_len hk)) (by decide))
 refine ⟨by simp [h.len], fun x hx => ?_, ?_, .inr (by omega)⟩
 ·rcases List.mem_append.1 hx with hx | hx
  ·exact h.rng x hx
  ·rw [List.mem_singleton] at hx; subst hx; omega
 ·have e : t.drop (t.length - 6 * (k + 1)) = chunk t k ++ t.drop (t.length - 6 * k) := by
   unfold chunk
   rw [show t.drop (t.length - 6 * k) = (t.drop (t.length - 6 * (k + 1))).drop (t.length - 6 * k - (t.length - 6 * (k + 1))) by rw [List.drop_drop]; congr 1; omega, List.take_append_drop]
  rw [e, dv_append, val_append, h.v, h.len, List.length_drop, show t.length - (t.length - 6 * k) = 6 * k by omega]
  simp only [val]
  have : ((dv (chunk t k) * 10 ^ (6 * k) : Nat) : Int) = (dv (chunk t k) : Int) * 1000000 ^ k := by
   rw [<- pow_six]; simp
  rw [Int.mul_zero, Int.add_zero, Int.mul_comm, <- this]; omega
theorem Rd.done {t : List UInt8} {k : Nat} {xs : List Int} (h : Rd t k xs) (hk : t.length <= 6 * k) : val xs = dv t := by
 have := h.v; rwa [show t.length - 6 * k = 0 by omega, List.drop_zero] at this
theorem dv_take_succ {l : List UInt8} {p : Nat} (h : p < l.length) : dv (l.take (p + 1)) = dv (l.take p) * 10 + (l[p].toNat - 48) := by
 rw [List.take_succ_eq_append_getElem h, dv_append]; simp [dv]
theorem extract_list (t : List UInt8) (a b : Nat) : (⟨t.toArray⟩ : ByteArray).extract a b = ⟨((t.drop a).take (b - a)).toArray⟩ := by
 apply ByteArray.ext
 rw [ByteArray.data_extract]
 simp
set_option maxRecDepth 100000 in
set_option maxHeartbeats 2000000 in
theorem read_some (l : List UInt8) (hl : l.length <= 100000) (w : World) (z : Int) (h : readZ l = some z) :
  Calls Tryz.prog 191 #[.string ⟨l.toArray⟩] w fun e w' => ∃ v, e = .returned (.tuple #[v, .bool true]) /\ WH w' v z /\ Below w.heap.size w w' := by
 obtain ⟨t, ht⟩ : ∃ t, unsign l = t := ⟨_, rfl⟩
 have hul := unsign_len l
 have hfacts : t ≠ [] /\ t.length <= 400 /\ (t.head? = some 48 -> l = [48]) /\ AllD t /\ dv t = z.natAbs /\ (decide (t.length < l.length) = decide (z < 0)) := by
  have h2 := h
  unfold readZ at h2; rw [ht] at h2
  split at h2
  ·cases h2
  ·rename_i hc
   have hA : AllD t := Classical.byContradiction fun e => hc (.inr (.inr (.inr e)))
   have hz := Option.some.inj h2
   refine ⟨fun e => hc (.inl e), by rcases Nat.lt_or_ge 400 t.length with e | e; exact absurd (.inr (.inl e)) hc; exact e, fun e => Classical.byContradiction fun e2 => hc (.inr (.inr (.inl ⟨e, e2⟩))), hA, ?_, ?_⟩
   ·rw [<- hz]; split <;> simp
   ·obtain ⟨hs, _⟩ := readZ_some h
    rw [decide_eq_decide]
    have e1 : unsign (itoa z) = decDigits z.natAbs := by
     unfold itoa; by_cases h0 : z < 0
     ·rw [if_pos h0]; rfl
     ·rw [if_neg h0, unsign_of_not (digit_not_minus _), show z.toNat = z.natAbs by omega]
    rw [hs] at ht ⊢
    rw [<- ht, e1, itoa_length, decDigits_length]
    by_cases h0 : z < 0
    ·simp [h0]
    ·simp [h0]
 rw [ht] at hul
 obtain ⟨h1, h2, h3, h4, h5, h6⟩ := hfacts
 obtain ⟨n, hn⟩ : ∃ n, z.natAbs = n := ⟨_, rfl⟩
 obtain ⟨neg, hneg⟩ : ∃ neg, decide (z < 0) = neg := ⟨_, rfl⟩
 have HT := Lib.hid ht; have HN := Lib.hid hn; have HNEG := Lib.hid hneg; have HA := Lib.hid h4; have HH := Lib.hid h3
 have HD := Lib.hid (h5.trans hn)
 have HL := Lib.hid (h6.trans hneg)
 have hb : ∀ o, Below w.heap.size w (w.alloc o) := fun o => (Below.refl _ w).alloc (Nat.le_refl _) o
 have HB := Lib.hid hb
 clear hb h h3 h4 h5 h6 ht hn hneg
 obtain ⟨c, r, rfl⟩ : ∃ c r, t = c :: r := by cases t with | nil => exact absurd rfl h1 | cons c r => exact ⟨c, r, rfl⟩
 clear h1
 have c2' : (r.length : Int) + 1 <= 400 := by simp at h2; omega
 have c2d : decide ((400 : Int) < (r.length : Int) + 1) = false := by simp; omega
 have hb0 : ((⟨(c :: r).toArray⟩ : ByteArray)[0]'(by simp [ByteArray.size])) = c := rfl
 obtain ⟨i0, hi, hz0, hz1, hz2⟩ := info_parts infoInt
 have hcase : (((c.toNat : Int) == 48) = true /\ (l == [48]) = true /\ (l != [48]) = false) \/ (((c.toNat : Int) == 48) = false) := by
  by_cases e : c = 48
  ·left; subst e; have := HH.out rfl; subst this; exact ⟨rfl, rfl, rfl⟩
  ·right; have : c.toNat ≠ 48 := fun h => e (UInt8.toNat_inj.1 h)
   simp; omega
 rcases hcase with ⟨e1, e2, e3⟩ | e1
 all_goals
  go_enter Tryz.func191, Tryz.ntmps191
  go_wp2_with fail
  refine (minus_trim l _).mono ?_
  rw [HT.out]
  rintro e w' ⟨rfl, rfl⟩
  go_wp2_with fail
  refine (trim_calls (c :: r) (by simp; omega) _).mono ?_
  rintro e w2 ⟨⟨m, rfl, hm⟩, hb2⟩
  obtain rfl : m = [] := hm.2 HA.out
  have HB2 := Lib.hid hb2
  clear hm hb2
  go_wp2_with fail
  have HPOS := Lib.hid (show 0 < (c :: r).length by simp)
  clear hb0 c2d HH
  generalize hct : c :: r = t at *
  have e0 : ((r.length : Int) + 1) = ((t.length : Nat) : Int) := by rw [<- hct]; simp
  rw [e0]
  clear e0 c2' e1 hct
  go_loopw [5, 6] (fun v t6 wr => ∃ (k : Nat) (xs : List Int), t6 = .int .i64 ((t.length : Int) - 6 * (k : Int)) /\ 6 * k < t.length + 6 /\ wr.ownsRow w2.heap.size 3 1 v k (xs.map (Value.int .i64)) /\ Hid (Rd t k xs) /\ Hid (Below w2.heap.size w2 wr)) (fun _ t6 _ => (RowKit.intOf t6).toNat)
  case atStart => exact ⟨0, [], by simp, by omega, World.ownsRow_nil _ _ _ _, Lib.hid ⟨rfl, by simp [InR], by simp [val, dv], .inl rfl⟩, Lib.hid (Below.refl _ _)⟩
  case round =>
   obtain ⟨k, xs, rfl, hk6, hown, HR, HBw⟩ := hrel
   by_cases hk : 6 * k < t.length
   ·obtain ⟨E, hE⟩ : ∃ E : Nat, E = t.length - 6 * k := ⟨_, rfl⟩
    have e1 : ((t.length : Int) - 6 * (k : Int)) = (E : Int) := by omega
    rw [e1]
    have hE0 : (0 : Int) < (E : Int) := by omega
    have hE1 : (E : Int) <= 400 := by omega
    have HE := Lib.hid hE
    have HO := Lib.hid hown
    have HK := Lib.hid hk
    have HLL := Lib.hid h2
    have HK6 := Lib.hid hk6
    clear hE e1 hown hk hk6 h2
    go_wp2_with fail
    refine (greatest_calls 0 ((E : Int) - 6) _).mono ?_
    rintro e w3 ⟨rfl, rfl⟩
    obtain ⟨S, hS⟩ : ∃ S : Nat, S = E - 6 := ⟨_, rfl⟩
    have e2 : (if (0 : Int) < (E : Int) - 6 then (E : Int) - 6 else 0) = (S : Int) := by split <;> omega
    rw [e2]
    have hS1 : (S : Int) <= (E : Int) := by omega
    have hS2 : (E : Int) <= (t.length : Int) := by have := HE.out; omega
    have HS := Lib.hid hS
    clear e2 hS
    go_wp2_with fail
    have hs : (⟨t.toArray⟩ : ByteArray).extract S E = ⟨(chunk t k).toArray⟩ := by
     rw [extract_list]; unfold chunk; rw [HS.out, HE.out]
     rw [show t.length - 6 * k - 6 = t.length - 6 * (k + 1) by omega]
    rw [hs]
    have hcl := chunk_len HK.out
    have hAc : AllD (chunk t k) := fun c hc => HA.out c ((List.drop_subset _ _) ((List.take_subset _ _) hc))
    have HR' := Lib.hid (HR.out.step HA.out HK.out)
    clear hs hS1 hS2
    generalize chunk t k = C at *
    have HAc := Lib.hid hAc; have HCL := Lib.hid hcl
    clear hAc hcl
    go_loopw [7] (fun nv w' => ∃ pos acc : Nat, w' = wr.iter ⟨C.toArray⟩ pos /\ nv = .int .i64 (acc : Int) /\ Hid (pos <= C.length) /\ Hid (acc = dv (C.take pos))) (fun _ w' => C.length - w'.iterPos wr.heap.size)
    case atStart => exact ⟨0, 0, rfl, rfl, Lib.hid (by omega), Lib.hid (by simp [dv])⟩
    case round =>
     obtain ⟨pos, acc, rfl, rfl, HP, HAcc⟩ := hrel
     by_cases hp : pos < C.length
     ·have hd := HAc.out C[pos] (List.getElem_mem _)
      have hnx : ∀ ty, (Instr.next (.pointer (some ⟨wr.heap.size, 0, none⟩)) true ty).run Tryz.prog (wr.iter ⟨C.toArray⟩ pos) = .ok (.tuple #[.bool true, .int .i64 pos, .int .i32 (C[pos].toNat : Int)]) (wr.iter ⟨C.toArray⟩ (pos + 1)) := fun ty => run_next_ascii wr ⟨C.toArray⟩ pos ty (by simpa [ByteArray.size] using hp) (by show C[pos].toNat < 128; omega)
      have hnext : Hid (acc * 10 + (C[pos].toNat - 48) = dv (C.take (pos + 1))) := Lib.hid (by rw [dv_take_succ hp, HAcc.out])
      have hacc : (acc : Int) <= 1000000 := by
       have h1 := dv_lt (l := C.take pos) (fun c hc => HAc.out c ((List.take_subset _ _) hc))
       have h2 := HCL.out
       have h3 : 10 ^ (C.take pos).length <= 10 ^ 6 := Nat.pow_le_pow_right (by decide) (by rw [List.length_take]; omega)
       have := HAcc.out
       omega
      have HPp := Lib.hid hp
      generalize C[pos].toNat = d at *
      have hd1 : (48 : Int) <= (d : Int) := by omega
      have hd2 : (d : Int) <= 57 := by omega
      clear hd hp
      go_wp2_with fail
      exact ⟨⟨pos + 1, acc * 10 + (d - 48), rfl, congrArg _ (by clear hnx hnext; omega), Lib.hid HPp.out, hnext⟩, by simp; have := HPp.out; omega⟩
     ·have hnx : ∀ ty, (Instr.next (.pointer (some ⟨wr.heap.size, 0, none⟩)) true ty).run Tryz.prog (wr.iter ⟨C.toArray⟩ pos) = .ok (.tuple #[.bool false]) (wr.iter ⟨C.toArray⟩ pos) := fun ty => run_next_end wr ⟨C.toArray⟩ pos ty (by simpa [ByteArray.size] using hp)
      have hfin : (dv C : Int) = (acc : Int) := by have := HAcc.out; rw [List.take_of_length_le (by omega)] at this; rw [this]
      rw [hfin] at HR'
      clear hfin hp
      have hsz := HBw.out.size
      have hown' : (wr.iter ⟨C.toArray⟩ pos).ownsRow w2.heap.size 3 1 u5 k (xs.map (Value.int .i64)) := HO.out.alloc _
      have hkb : k <= 100 := by have := HK.out; have := HLL.out; omega
      have hbw' : Below w2.heap.size w2 (wr.iter ⟨C.toArray⟩ pos) := HBw.out.alloc hsz _
      have HBW' := Lib.hid hbw'
      have HOWN := Lib.hid hown'
      clear hown' hbw'
      generalize hWW : wr.iter ⟨C.toArray⟩ pos = WW at *
      go_wp2_with (at_builtin; refine wpList_append_own _ rfl _ _ 217 rfl w2.heap.size 3 i0 (.int .i64 0) 1 8 Tryz.underlying217 hi hz0 hz1 hz2 rfl (by decide) _ _ _ rfl (HOWN.out.alloc _) ⟨WW.heap.size, 0, none⟩ 1 1 [.int .i64 acc] rfl rfl (cell_one_new _ _ _) (by simp [Value.oneCell']) (by unfold maxLen; omega) (by omega) (by have := HBW'.out.size; simp; omega) ?_; intro v' w5 hown5 hgrow5 _; obtain ⟨g', cap', rfl⟩ := ownsRow_succ hown5; have HOWN5 := Lib.hid hown5; have HG5 := Lib.hid hgrow5; clear hown5 hgrow5)
      refine ⟨⟨k + 1, xs ++ [(acc : Int)], congrArg _ (by have := HE.out; omega), by have := HK.out; omega, by simpa using HOWN5.out, HR', Lib.hid ?_⟩, by simp [RowKit.intOf] <;> omega⟩
      refine (HBW'.out.alloc (by have := HBW'.out.size; omega) _).grown HG5.out (by have := HBW'.out.size; simp; omega) fun j ej => ?_
      rcases HO.out.2 with ⟨rfl, _⟩ | ⟨g, cap, cur, rfl, hb, _, _⟩
      ·cases (show (none : Option Nat) = some j from ej)
      ·obtain rfl : g = j := Option.some.inj (show some g = some j from ej)
       exact hb
   ·obtain ⟨hkl, hf⟩ := own_forms hown
    have hk0 : 0 < k := by have := HPOS.out; omega
    rcases hf with ⟨_, h0⟩ | ⟨b, cap, rfl, hbase, hcap, hmax, hc⟩
    ·exact absurd (by rw [hkl, h0]; rfl) (Nat.pos_iff_ne_zero.1 hk0)
    obtain ⟨Z, hZ⟩ : ∃ Z : Int, (t.length : Int) - 6 * (k : Int) = Z := ⟨_, rfl⟩
    have hZ0 : ¬ 0 < Z := by omega
    rw [hZ]
    have HV := Lib.hid (HR.out.done (by omega))
    have HRng := Lib.hid HR.out.rng
    have HC := Lib.hid hc
    have hl1 : xs.length <= 100 := by omega
    subst hkl
    clear hZ hk hk6 hown hc hk0 HR
    unfold maxLen at hmax
    have hbwr := Lib.hid (HB2.out.trans (HBw.out.mono HB2.out.size))
    have hsg : w.heap.size < w2.heap.size := by have := HB2.out.size; simp at this; omega
    have hcc : wr.cell? ⟨w.heap.size, 0, none⟩ = some (.slice none 0 0) /\ wr.cell? ⟨w.heap.size, 1, none⟩ = some (.bool false) := ⟨cell_on hbwr.out (cell_in _ _ _ 0 rfl), cell_on hbwr.out (cell_in _ _ _ 1 rfl)⟩
    go_wp2_with fail
    go_loop [5] (fun d => ∃ j : Nat, j <= xs.length /\ d = .slice (some ⟨b, 0, none⟩) j cap /\ Hid (val (xs.take j) = val xs)) (fun d => match d with | .slice _ n _ => n | _ => 0)
    case atStart => exact ⟨xs.length, Nat.le_refl _, rfl, Lib.hid (by simp)⟩
    case round =>
     obtain ⟨j, hj, rfl, hv⟩ := hrel
     have fin : Hid ((j = 0 \/ rd xs (j - 1) ≠ 0) -> RI wr (.slice (some ⟨b, 0, none⟩) j cap) (dig n)) := Lib.hid fun hz => by
      have e : (val xs).toNat = n := by rw [HV.out, HD.out]; exact Int.toNat_natCast n
      rw [<- e]
      exact strip_RI HRng.out HC.out hj (by omega) hv.out hz
     have fin2 : Hid (∀ v W', WH W' v (if neg then -(n : Int) else n) -> WH W' v z) := Lib.hid fun v W' h => by
      have e : (if neg then -(n : Int) else n) = z := by
       rw [<- HN.out, <- HNEG.out]; by_cases h0 : z < 0
       ·simp [h0]; omega
       ·simp [h0]; omega
      rwa [e] at h
     rcases Nat.eq_zero_or_pos j with rfl | hj0
     ·have FIN := Lib.hid (fin.out (.inl rfl))
      clear fin
      go_wp2_with fail
      rw [HL.out]
      refine (signed_calls _ n neg _ FIN.out).mono ?_
      rintro e w5 ⟨v, rfl, hW, hb5, bb, rfl⟩
      have HW := Lib.hid (fin2.out _ _ hW)
      have hbe := Lib.hid (below_then hbwr.out hb5)
      have d0 := cell_on hb5 hcc.1
      have d1 := cell_on hb5 hcc.2
      have hff : ∀ j, w5.frozen? ⟨w.heap.size, j, none⟩ = false := fun j => (hbe.out.frozen (p := ⟨w.heap.size, j, none⟩) (by simp)).trans (frozen_in _ _ _ j)
      have f0 := hff 0; have f1 := hff 1
      clear hW hb5 hff hcc fin2
      go_wp2_with fail
      refine bodyPost_ret (v := .tuple #[.agg #[.slice (some ⟨b, 0, none⟩) 0 cap, .bool bb], .bool true]) (by simp [results, Tryz.results191, go_sem, d0, d1]) rfl ?_
      obtain ⟨sv, hsv, hRI⟩ := HW.out
      cases hsv
      refine ⟨_, rfl, ⟨_, rfl, (hRI.store (B := w2.heap.size) _ (fun a n c h => by cases h; exact hbase) hsg).store (B := w2.heap.size) _ (fun a n c h => by cases h; exact hbase) hsg⟩, ((below_then (HB.out _) hbe.out).setCell (p := ⟨w.heap.size, 0, none⟩) (Nat.le_refl _) _).setCell (p := ⟨w.heap.size, 1, none⟩) (Nat.le_refl _) _⟩
     ·obtain ⟨m, rfl⟩ : ∃ m, j = m + 1 := ⟨j - 1, by omega⟩
      have hcm := HC.out m (by omega)
      by_cases hz : rd xs m = 0
      ·have hz' : (rd xs m == 0) = true := by simp [hz]
       have HZ := Lib.hid hz
       clear hz
       go_wp2_with fail
       go_round
       case rel => exact ⟨m, by omega, rfl, Lib.hid (by rw [<- hv.out, List.take_succ_eq_append_getElem (show m < xs.length by omega), val_append]; have := HZ.out; rw [rd_lt (by omega)] at this; rw [this]; simp [val])⟩
       case measure => simp
      ·have hz' : (rd xs m == 0) = false := by simp [hz]
       have FIN := Lib.hid (fin.out (.inr hz))
       clear hz fin
       go_wp2_with fail
       rw [HL.out]
       refine (signed_calls _ n neg _ FIN.out).mono ?_
       rintro e w5 ⟨v, rfl, hW, hb5, bb, rfl⟩
       have HW := Lib.hid (fin2.out _ _ hW)
       have hbe := Lib.hid (below_then hbwr.out hb5)
       have d0 := cell_on hb5 hcc.1
       have d1 := cell_on hb5 hcc.2
       have hff : ∀ j, w5.frozen? ⟨w.heap.size, j, none⟩ = false := fun j => (hbe.out.frozen (p := ⟨w.heap.size, j, none⟩) (by simp)).trans (frozen_in _ _ _ j)
       have f0 := hff 0; have f1 := hff 1
       clear hW hb5 hff hcc fin2
       go_wp2_with fail
       refine bodyPost_ret (v := .tuple #[.agg #[.slice (some ⟨b, 0, none⟩) (m + 1) cap, .bool bb], .bool true]) (by simp [results, Tryz.results191, go_sem, d0, d1]) rfl ?_
       obtain ⟨sv, hsv, hRI⟩ := HW.out
       cases hsv
       refine ⟨_, rfl, ⟨_, rfl, (hRI.store (B := w2.heap.size) _ (fun a n c h => by cases h; exact hbase) hsg).store (B := w2.heap.size) _ (fun a n c h => by cases h; exact hbase) hsg⟩, ((below_then (HB.out _) hbe.out).setCell (p := ⟨w.heap.size, 0, none⟩) (Nat.le_refl _) _).setCell (p := ⟨w.heap.size, 1, none⟩) (Nat.le_refl _) _⟩
end Go.Proofs.YtcknpohghmkbmaaGreatDoor.Bg
