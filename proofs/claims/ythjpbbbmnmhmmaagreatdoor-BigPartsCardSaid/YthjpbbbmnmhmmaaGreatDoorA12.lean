import Derived.Test.YthjpbbbmnmhmmaaGreatDoorA11
import Derived.Test.YthjpbbbmnmhmmaaGreatDoorM5
import Derived.Test.YthjpbbbmnmhmmaaGreatDoorSh2
import Derived.Lib.AppendIntMem
import Derived.WalkSmall
set_option linter.unusedVariables false
set_option linter.unusedSimpArgs false
namespace Go.Proofs.YthjpbbbmnmhmmaaGreatDoor
open Go.RowKit Go.Shelf Go.Lib

/-- What the library's variables hold, as the program's text lays them. -/
structure Env (W : World) : Prop where
  tab : Lib.TabIs Tryz.prog W "internal/strconv.uint64pow10" .u64 Lib.pow10Tab
  rng : ∃ tp p, W.var? Tryz.prog "strconv.ErrRange" = some #[.iface tp p]

theorem Env.below {W W' : World} (h : Env W) (hb : Below W.heap.size W W') : Env W' :=
  ⟨(tabBelow_of_tabIs h.tab) W' hb, by
    obtain ⟨tp, p, hv⟩ := h.rng
    refine ⟨tp, p, ?_⟩
    cases hg : Tryz.prog.globalNamed "strconv.ErrRange" with
    | none => simp only [World.var?, hg, Option.bind_none] at hv; cases hv
    | some g =>
      have hlt : g < W.heap.size := by
        simp only [World.var?, hg, Option.bind_some] at hv
        by_cases hh : g < W.heap.size
        · exact hh
        · rw [Array.getElem?_eq_none (by omega)] at hv; cases hv
      exact var?_below hb hg hlt hv⟩

/-- A whole number as a value: its digits, its sign; 0 has none. -/
def WH (W : World) (v : Value) (z : Int) : Prop := ∃ sv, v = .agg #[sv, .bool (decide (z < 0))] ∧ RI W sv (dig z.natAbs)
theorem WH.below {W W' : World} {v : Value} {z : Int} (h : WH W v z) (hb : Below W.heap.size W W') : WH W' v z := by
  obtain ⟨sv, e, hr⟩ := h; exact ⟨sv, e, hr.below hb⟩

theorem signed_calls (sv : Value) (n : Nat) (neg : Bool) (w : World) (h : RI w sv (dig n)) :
    Calls Tryz.prog 52 #[sv, .bool neg] w fun e w' => ∃ v, e = .returned v ∧ WH w' v (if neg then -(n : Int) else n) ∧ Below w.heap.size w w' ∧ ∃ b, v = .agg #[sv, .bool b] := by
  have H := Lib.hid h
  obtain ⟨a, ca, rfl, _⟩ := h
  have hb : ∀ o, Below w.heap.size w (w.alloc o) := fun o => (Below.refl _ w).alloc (Nat.le_refl _) o
  have HB := Lib.hid hb
  clear hb
  have hwh : ∀ (W : World) (b : Bool) (z : Int), Below w.heap.size w W → b = decide (z < 0) → z.natAbs = n → WH W (.agg #[.slice a (dig n).length ca, .bool b]) z := fun W b z h1 h2 h3 => by subst h2; exact ⟨.slice a (dig n).length ca, rfl, by rw [h3]; exact H.out.below h1⟩
  have HW := Lib.hid hwh
  clear hwh
  cases neg
  · go_enter Tryz.func52, Tryz.ntmps52
    go_wp2_with fail
    refine bodyPost_ret (v := .agg #[.slice a (dig n).length ca, .bool false]) (by simp [results, Tryz.results52, go_sem]) rfl ?_
    exact ⟨_, rfl, HW.out _ _ _ (HB.out _) (by simp) (by simp), HB.out _, by simp⟩
  · have hd : Hid ((decide (dig n = [])) = decide (n = 0)) := Lib.hid (by rw [decide_eq_decide]; exact dig_eq_nil)
    by_cases hn : n = 0
    · have hn' := Lib.hid hn
      clear hn
      go_enter Tryz.func52, Tryz.ntmps52
      go_wp2_with (go_at_call 78; refine (none_calls _ _ _ (H.out.below (HB.out _))).mono ?_; rw [hd.out, decide_eq_true hn'.out]; rintro e w' ⟨rfl, rfl⟩)
      refine bodyPost_ret (v := .agg #[.slice a (dig n).length ca, .bool false]) (by simp [results, Tryz.results52, go_sem]) rfl ?_
      exact ⟨_, rfl, HW.out _ _ _ (HB.out _) (by have := hn'.out; simp; omega) (by have := hn'.out; simp), HB.out _, by simp⟩
    · have hn' := Lib.hid hn
      clear hn
      go_enter Tryz.func52, Tryz.ntmps52
      go_wp2_with (go_at_call 78; refine (none_calls _ _ _ (H.out.below (HB.out _))).mono ?_; rw [hd.out, decide_eq_false hn'.out]; rintro e w' ⟨rfl, rfl⟩)
      refine bodyPost_ret (v := .agg #[.slice a (dig n).length ca, .bool true]) (by simp [results, Tryz.results52, go_sem]) rfl ?_
      exact ⟨_, rfl, HW.out _ _ _ (HB.out _) (by have := hn'.out; simp; omega) (by simp), HB.out _, by simp⟩

theorem IsBuilder.on {T e : TypeId} {B b : Nat} {bs : List Value} {w w' : World} (h : Lib.IsBuilder T e B b bs w) (hb : Below w.heap.size w w') : Lib.IsBuilder T e B b bs w' := by
  have key : ∀ p, Lib.BuilderAt T e B b p bs w → Lib.BuilderAt T e B b p bs w' := fun p hp => by
    obtain ⟨h1, v, h2, h3, h4⟩ := hp
    have hlt := (Array.getElem?_eq_some_iff.1 h2).1
    exact ⟨h1, v, (hb.block b hlt).trans h2, h3.kept (row := none) ⟨hb.os, hb.tape, hb.output, hb.size, fun k hk _ => hb.block k hk⟩ (by cases v.ownBlock <;> simp), h4⟩
  rcases h with h | h
  · exact .inl (key _ h)
  · exact .inr (key _ h)

theorem strCells_list (l : List UInt8) : Lib.strCells ⟨l.toArray⟩ = Lib.byteCells l := by simp [Lib.strCells, Lib.byteCells]
theorem byteCells_app (a b : List UInt8) : Lib.byteCells (a ++ b) = Lib.byteCells a ++ Lib.byteCells b := by simp [Lib.byteCells]

theorem itoa_calls (n : Nat) (hn : n < 1000000) (w : World) (hE : Env w) :
    Calls Tryz.prog 92 #[.int .i64 (n : Int)] w fun e w' => e = .returned (.string ⟨(decDigits n).toArray⟩) ∧ Below w.heap.size w w' := by
  refine (Tryz.strconv_Itoa (n : Int) (by omega) (by omega) w hE.tab).mono ?_
  rintro e w' ⟨rfl, k, os, rfl⟩
  refine ⟨?_, below_grow _ w (Nat.le_refl _) k os⟩
  unfold itoa; rw [if_neg (by omega)]; rfl

theorem padE {x : Nat} (h : x < 1000000) : ((⟨Array.replicate (6 - (decDigits x).length) 48⟩ : ByteArray) ++ ⟨(decDigits x).toArray⟩) = ⟨(pad 6 x).toArray⟩ := by
  apply ByteArray.ext
  rw [ByteArray.data_append]
  apply Array.ext'
  have := nDigits_le (d := x) (k := 5) h
  rw [pad_small 6 x (by omega), decDigits_length]
  simp

/-- A builder at the head of what W0 lacks holds bs; whatever W0 holds stands. -/
structure TS (W0 : World) (bs : List UInt8) (W : World) : Prop where
  bld : Lib.IsBuilder 115 5 W0.heap.size W0.heap.size (Lib.byteCells bs) W
  bel : Below W0.heap.size W0 W

theorem TS.on {W0 W W' : World} {bs : List UInt8} (h : TS W0 bs W) (hb : Below W.heap.size W W') : TS W0 bs W' := ⟨IsBuilder.on h.bld hb, h.bel.trans (hb.mono h.bel.size)⟩

theorem TS.itoa {W0 W : World} {bs : List UInt8} (h : TS W0 bs W) (hE : Env W0) (n : Nat) (hn : n < 1000000) :
    Calls Tryz.prog 92 #[.int .i64 (n : Int)] W fun e w' => e = .returned (.string ⟨(decDigits n).toArray⟩) ∧ TS W0 bs w' := by
  refine (itoa_calls n hn W (hE.below h.bel)).mono ?_
  rintro e w' ⟨rfl, hb⟩
  exact ⟨rfl, h.on hb⟩

theorem TS.write {W0 W : World} {bs : List UInt8} (h : TS W0 bs W) (l : List UInt8) (hlen : bs.length + l.length ≤ 10000000) :
    Calls Tryz.prog 94 #[.pointer (some ⟨W0.heap.size, 0, none⟩), .string ⟨l.toArray⟩] W fun e w' => (∃ k : Int, e = .returned (.tuple #[.int .i64 k, .nilIface])) ∧ TS W0 (bs ++ l) w' := by
  refine (Tryz.Builder_WriteString W0.heap.size W0.heap.size _ ⟨l.toArray⟩ W h.bld (by rw [Lib.byteCells_length]; simp [ByteArray.size]; omega) h.bel.size).mono ?_
  rintro e w' ⟨rfl, hb, hl⟩
  exact ⟨⟨_, rfl⟩, .inr (by rw [byteCells_app, ← strCells_list l]; exact hb), h.bel.trans hl⟩

theorem TS.minus {W0 W : World} {bs : List UInt8} (h : TS W0 bs W) (hlen : bs.length ≤ 10000000) :
    Calls Tryz.prog 93 #[.pointer (some ⟨W0.heap.size, 0, none⟩), .int .u8 45] W fun e w' => e = .returned .nilIface ∧ TS W0 (bs ++ [45]) w' := by
  refine (Tryz.Builder_WriteByte W0.heap.size W0.heap.size _ 45 W h.bld (by rw [Lib.byteCells_length]; omega) h.bel.size).mono ?_
  rintro e w' ⟨rfl, hb, hl⟩
  exact ⟨rfl, .inr (by rw [byteCells_app]; exact hb), h.bel.trans hl⟩

theorem repeatL_one (c : Nat) : Lib.repeatL [48] c = List.replicate c 48 := by
  induction c with
  | zero => rfl
  | succ c ih => simp [Lib.repeatL, ih, List.replicate_succ]

theorem TS.rep {W0 W : World} {bs : List UInt8} (h : TS W0 bs W) (c : Nat) (hc : c ≤ 1000) :
    Calls Tryz.prog 95 #[.string ⟨#[48]⟩, .int .i64 (c : Int)] W fun e w' => e = .returned (.string ⟨(List.replicate c 48).toArray⟩) ∧ TS W0 bs w' := by
  refine (Tryz.strings_Repeat ⟨#[48]⟩ c W (by omega) (by simp [ByteArray.size]; omega)).mono ?_
  rintro e w' ⟨rfl, hb⟩
  exact ⟨by rw [← repeatL_one], h.on hb⟩

theorem TS.string {W0 W : World} {bs : List UInt8} (h : TS W0 bs W) (hne : bs ≠ []) :
    Calls Tryz.prog 96 #[.pointer (some ⟨W0.heap.size, 0, none⟩)] W fun e w' => e = .returned (.string ⟨bs.toArray⟩) ∧ Below W0.heap.size W0 w' := by
  refine (Tryz.Builder_String W0.heap.size W0.heap.size bs W h.bld hne).mono ?_
  rintro e w' ⟨rfl, hb⟩
  exact ⟨rfl, h.bel.trans hb⟩

set_option maxHeartbeats 4000001 in
set_option maxRecDepth 100000 in
theorem text_calls (v : Value) (z : Int) (w : World) (h : WH w v z) (hE : Env w) (hl : (dig z.natAbs).length ≤ 1000) :
    Calls Tryz.prog 69 #[v] w fun e w' => e = .returned (.string ⟨(itoa z).toArray⟩) ∧ Below w.heap.size w w' := by
  obtain ⟨sv, rfl, hr⟩ := h
  obtain ⟨n, hn⟩ : ∃ n, z.natAbs = n := ⟨_, rfl⟩
  rw [hn] at hr hl
  have hz : Hid (z = if z < 0 then -(n : Int) else n) := Lib.hid (by split <;> omega)
  have HR := Lib.hid hr
  have HE := Lib.hid hE
  obtain ⟨R, hR⟩ : ∃ R, itoa z = R := ⟨_, rfl⟩
  rw [hR]
  obtain ⟨a, ca, rfl, _, hc⟩ := hr
  have HC := Lib.hid hc
  obtain ⟨neg, hneg⟩ : ∃ neg, decide (z < 0) = neg := ⟨_, rfl⟩
  rw [hneg]
  have hbx : Below w.heap.size w (w.alloc (.cells #[.slice a (dig n).length ca, .bool neg] 62)) := (Below.refl _ w).alloc (Nat.le_refl _) _
  have HBX := Lib.hid hbx
  have hd : Hid ((decide (dig n = [])) = decide (n = 0)) := Lib.hid (by rw [decide_eq_decide]; exact dig_eq_nil)
  have HRR := Lib.hid hR
  have HNEG := Lib.hid hneg
  have HN := Lib.hid hn
  clear hc hbx hE hR hneg hn
  by_cases h0 : n = 0
  · have h0' := Lib.hid h0
    clear h0
    go_enter Tryz.func69, Tryz.ntmps69
    go_wp2_with (go_at_call 78; refine (none_calls _ _ _ (HR.out.below HBX.out)).mono ?_; rw [hd.out, decide_eq_true h0'.out]; rintro e w' ⟨rfl, rfl⟩)
    go_ret
    refine ⟨?_, HBX.out⟩
    have : z = 0 := by have := HN.out; have := h0'.out; omega
    rw [← HRR.out, this, show itoa 0 = [48] by unfold itoa; rw [if_neg (by decide)]; exact decDigits_one (by decide)]; rfl
  · have hlen : 0 < (dig n).length := List.length_pos_iff.2 (fun e => h0 (dig_eq_nil.1 e))
    obtain ⟨m, hm⟩ : ∃ m, (dig n).length = m + 1 := ⟨(dig n).length - 1, by omega⟩
    have h0' := Lib.hid h0
    have hm' := Lib.hid hm
    obtain ⟨b, off, rfl, hcs⟩ := HC.out (fun e => h0 (dig_eq_nil.1 e))
    rw [hm] at HBX hl ⊢
    have HCS := Lib.hid hcs
    clear h0 hm hcs hlen
    have hcell : ∀ W, Below w.heap.size w W → ∀ k, k < m + 1 → W.cell? ⟨b, off + k, none⟩ = some (.int .i64 (lim n k : Int)) := fun W hW k hk => by
      have := HCS.out k (by rw [hm'.out]; exact hk)
      rw [(rd_dig (by rw [hm'.out]; exact hk)).1] at this
      exact cell_on hW this
    have HCELL := Lib.hid hcell
    obtain ⟨W0, hW0⟩ : ∃ W0, w.alloc (.cells #[.slice (some ⟨b, off, none⟩) (m + 1) ca, .bool neg] 62) = W0 := ⟨_, rfl⟩
    have hx0 : W0.cell? ⟨w.heap.size, 0, none⟩ = some (.slice (some ⟨b, off, none⟩) (m + 1) ca) ∧ W0.cell? ⟨w.heap.size, 1, none⟩ = some (.bool neg) := by
      have := World.alloc_heap_new w (.cells #[.slice (some ⟨b, off, none⟩) (m + 1) ca, .bool neg] 62)
      rw [hW0] at this
      simp [World.cell?, this]
    have hs0 : W0.heap.size = w.heap.size + 1 := by rw [← hW0]; simp
    have HX := Lib.hid hx0
    have HS0 := Lib.hid hs0
    rw [hW0] at HBX
    have hts : TS W0 [] (W0.alloc (.cells #[.pointer none, .slice none 0 0] 115)) := ⟨Lib.fresh_isBuilder 115 5 W0, (Below.refl _ W0).alloc (Nat.le_refl _) _⟩
    have HTS := Lib.hid hts
    clear hcell hx0 hs0 hts
    have hd2 : Hid (decide (dig n = []) = false) := Lib.hid (by rw [hd.out, decide_eq_false h0'.out])
    have HRW := Lib.hid (hm'.out ▸ HR.out.below HBX.out : RI W0 (.slice (some ⟨b, off, none⟩) (m + 1) ca) (dig n))
    have hsz : Hid (w.heap.size < W0.heap.size) := Lib.hid (by rw [HS0.out]; omega)
    have hbx : ∀ W bs, TS W0 bs W → W.cell? ⟨w.heap.size, 0, none⟩ = some (.slice (some ⟨b, off, none⟩) (m + 1) ca) ∧ W.cell? ⟨w.heap.size, 1, none⟩ = some (.bool neg) := fun W bs h => ⟨(h.bel.cell (p := ⟨w.heap.size, 0, none⟩) hsz.out).trans HX.out.1, (h.bel.cell (p := ⟨w.heap.size, 1, none⟩) hsz.out).trans HX.out.2⟩
    have HBXC := Lib.hid hbx
    have hlm : ∀ W bs, TS W0 bs W → ∀ k, k < m + 1 → W.cell? ⟨b, off + k, none⟩ = some (.int .i64 (lim n k : Int)) := fun W bs h k hk => HCELL.out W (HBX.out.trans (h.bel.mono HBX.out.size)) k hk
    have HLM := Lib.hid hlm
    clear hbx hlm
    have HXc0 := HX.out.1
    have hmb : (m : Int) ≤ 1000 := by omega
    have hE0 : Hid (Env W0) := Lib.hid (HE.out.below HBX.out)
    have hln : ∀ k, (decDigits (lim n k)).length ≤ 6 := fun k => by rw [decDigits_length]; exact nDigits_le (k := 5) (lim_lt n k)
    have HLN := Lib.hid hln
    have hup : ∀ k, k ≤ m → decDigits (upTo n k) = decDigits (upTo n k) := fun _ _ => rfl
    have hnl : Hid (∀ k, (decDigits (upTo n k)).length ≤ 7000) := Lib.hid fun k => by
      rw [decDigits_length]
      have h1 : upTo n k ≤ n := Nat.div_le_self _ _
      have h2 := dig_lt n
      rw [hm'.out, pow_six] at h2
      exact Nat.le_trans (nDigits_le (k := 6 * (m + 1) - 1) (by rw [show 6 * (m + 1) - 1 + 1 = 6 * (m + 1) by omega]; omega)) (by omega)
    clear hln hup
    cases neg
    · as_aux_lemma =>
      have hfin : Hid (R = ([] : List UInt8) ++ decDigits n) := Lib.hid (by
        rw [← HRR.out]; unfold itoa; have h1 := HNEG.out; have h2 := HN.out
        simp only [decide_eq_false_iff_not] at h1
        rw [if_neg h1, show z.toNat = n by omega]; rfl)
      have HXc1 := HX.out.2
      go_enter Tryz.func69, Tryz.ntmps69
      go_wp2_with fail
      clear hW0
      refine (none_calls _ _ W0 HRW.out).mono ?_
      rw [hd2.out]
      rintro e w' ⟨rfl, rfl⟩
      have hA1 := (HBXC.out _ _ HTS.out).1
      have hA2 := (HBXC.out _ _ HTS.out).2
      have hAm := HLM.out _ _ HTS.out m (by omega)
      go_wp2_with fail
      refine (HTS.out.itoa hE0.out (lim n m) (lim_lt n m)).mono ?_
      rintro e w3 ⟨rfl, h3⟩
      have H3 := Lib.hid h3
      clear h3
      go_wp2_with fail
      refine (H3.out.write _ (by have := HLN.out m; simp; omega)).mono ?_
      rintro e w4 ⟨⟨_, rfl⟩, h4⟩
      have H4 := Lib.hid h4
      clear h4
      go_wp2_with fail
      go_loopw [5] (fun t wr => ∃ k : Nat, t = .int .i64 ((k : Int) - 1) ∧ k ≤ m ∧ Hid (TS W0 (([] : List UInt8) ++ decDigits (upTo n k)) wr)) (fun t _ => (RowKit.intOf t + 1).toNat)
      case atStart => exact ⟨m, by first | rfl | simp, Nat.le_refl _, by rw [lim_top hm'.out]; simpa using H4⟩
      case round =>
        obtain ⟨k, rfl, hk, hT⟩ := hrel
        rcases Nat.eq_zero_or_pos k with rfl | hk0
        · rw [show ((0 : Nat) : Int) - 1 = -1 from rfl]
          go_wp2_with fail
          refine (hT.out.string (by simp [digits_ne_nil])).mono ?_
          rintro e w5 ⟨rfl, hb5⟩
          have H5 := Lib.hid hb5
          clear hb5
          go_wp2_with fail
          go_ret
          exact ⟨by rw [hfin.out, upTo_zero]; rfl, HBX.out.trans (H5.out.mono HBX.out.size)⟩
        · obtain ⟨k, rfl⟩ : ∃ j, k = j + 1 := ⟨k - 1, by omega⟩
          rw [show ((k + 1 : Nat) : Int) - 1 = (k : Int) by omega]
          have hc0 := (HBXC.out _ _ hT.out).1
          have hck := HLM.out _ _ hT.out k (by omega)
          go_wp2_with fail
          refine (hT.out.itoa hE0.out (lim n k) (lim_lt n k)).mono ?_
          rintro e w5 ⟨rfl, h5⟩
          have H5 := Lib.hid h5
          clear h5
          have hlk := HLN.out k
          go_wp2_with fail
          rw [show (6 - ((decDigits (lim n k)).length : Int)) = ((6 - (decDigits (lim n k)).length : Nat) : Int) by omega]
          refine (H5.out.rep _ (by omega)).mono ?_
          rintro e w6 ⟨rfl, h6⟩
          have H6 := Lib.hid h6
          clear h6
          go_wp2_with fail
          rw [padE (lim_lt n k)]
          refine (H6.out.write _ (by have := hnl.out (k + 1); simp [pad_len]; omega)).mono ?_
          rintro e w7 ⟨⟨_, rfl⟩, h7⟩
          have H7 := Lib.hid h7
          clear h7
          go_wp2_with fail
          exact ⟨⟨k, rfl, by omega, by rw [upTo_succ, decDigits_pad 6 _ _ (upTo_pos hm'.out (by omega)) (lim_lt n k), ← List.append_assoc]; exact H7⟩, by simp [RowKit.intOf] <;> omega⟩
    · as_aux_lemma =>
      have hfin : Hid (R = ([45] : List UInt8) ++ decDigits n) := Lib.hid (by
        rw [← HRR.out]; unfold itoa; have h1 := HNEG.out; have h2 := HN.out
        simp only [decide_eq_true_eq] at h1
        rw [if_pos h1, h2]; rfl)
      have HXc1 := HX.out.2
      go_enter Tryz.func69, Tryz.ntmps69
      go_wp2_with fail
      clear hW0
      refine (none_calls _ _ W0 HRW.out).mono ?_
      rw [hd2.out]
      rintro e w' ⟨rfl, rfl⟩
      have hA1 := (HBXC.out _ _ HTS.out).1
      have hA2 := (HBXC.out _ _ HTS.out).2
      have hAm := HLM.out _ _ HTS.out m (by omega)
      go_wp2_with fail
      refine (HTS.out.minus (by simp)).mono ?_
      rintro e w2 ⟨rfl, h2⟩
      have H2 := Lib.hid h2
      have hA3 := (HBXC.out _ _ h2).1
      have hAm2 := HLM.out _ _ h2 m (by omega)
      clear h2 hA1 hA2 hAm
      go_wp2_with fail
      refine (H2.out.itoa hE0.out (lim n m) (lim_lt n m)).mono ?_
      rintro e w3 ⟨rfl, h3⟩
      have H3 := Lib.hid h3
      clear h3
      go_wp2_with fail
      refine (H3.out.write _ (by have := HLN.out m; simp; omega)).mono ?_
      rintro e w4 ⟨⟨_, rfl⟩, h4⟩
      have H4 := Lib.hid h4
      clear h4
      go_wp2_with fail
      go_loopw [5] (fun t wr => ∃ k : Nat, t = .int .i64 ((k : Int) - 1) ∧ k ≤ m ∧ Hid (TS W0 (([45] : List UInt8) ++ decDigits (upTo n k)) wr)) (fun t _ => (RowKit.intOf t + 1).toNat)
      case atStart => exact ⟨m, by first | rfl | simp, Nat.le_refl _, by rw [lim_top hm'.out]; simpa using H4⟩
      case round =>
        obtain ⟨k, rfl, hk, hT⟩ := hrel
        rcases Nat.eq_zero_or_pos k with rfl | hk0
        · rw [show ((0 : Nat) : Int) - 1 = -1 from rfl]
          go_wp2_with fail
          refine (hT.out.string (by simp [digits_ne_nil])).mono ?_
          rintro e w5 ⟨rfl, hb5⟩
          have H5 := Lib.hid hb5
          clear hb5
          go_wp2_with fail
          go_ret
          exact ⟨by rw [hfin.out, upTo_zero]; rfl, HBX.out.trans (H5.out.mono HBX.out.size)⟩
        · obtain ⟨k, rfl⟩ : ∃ j, k = j + 1 := ⟨k - 1, by omega⟩
          rw [show ((k + 1 : Nat) : Int) - 1 = (k : Int) by omega]
          have hc0 := (HBXC.out _ _ hT.out).1
          have hck := HLM.out _ _ hT.out k (by omega)
          go_wp2_with fail
          refine (hT.out.itoa hE0.out (lim n k) (lim_lt n k)).mono ?_
          rintro e w5 ⟨rfl, h5⟩
          have H5 := Lib.hid h5
          clear h5
          have hlk := HLN.out k
          go_wp2_with fail
          rw [show (6 - ((decDigits (lim n k)).length : Int)) = ((6 - (decDigits (lim n k)).length : Nat) : Int) by omega]
          refine (H5.out.rep _ (by omega)).mono ?_
          rintro e w6 ⟨rfl, h6⟩
          have H6 := Lib.hid h6
          clear h6
          go_wp2_with fail
          rw [padE (lim_lt n k)]
          refine (H6.out.write _ (by have := hnl.out (k + 1); simp [pad_len]; omega)).mono ?_
          rintro e w7 ⟨⟨_, rfl⟩, h7⟩
          have H7 := Lib.hid h7
          clear h7
          go_wp2_with fail
          exact ⟨⟨k, rfl, by omega, by rw [upTo_succ, decDigits_pad 6 _ _ (upTo_pos hm'.out (by omega)) (lim_lt n k), ← List.append_assoc]; exact H7⟩, by simp [RowKit.intOf] <;> omega⟩
end Go.Proofs.YthjpbbbmnmhmmaaGreatDoor
