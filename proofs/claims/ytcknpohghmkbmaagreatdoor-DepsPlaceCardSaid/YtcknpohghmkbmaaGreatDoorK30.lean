import Derived.Test.YtcknpohghmkbmaaGreatDoorK28
import Derived.Test.YtcknpohghmkbmaaGreatDoorK29
set_option linter.unusedVariables false
set_option linter.unusedSimpArgs false
/- The texts H1 D33 H2 H3 H4 of the proof, laid one behind the other. -/
namespace Go.Proofs.YtcknpohghmkbmaaGreatDoor
open Go.RowKit
theorem incr_sorted : ∀ (l : List Int) (k m : Int), incr k l = some m -> (∀ x ∈ l, k < x /\ x <= m) /\ l.Pairwise (· < ·) /\ k <= m
 | [], k, m, h => by
  unfold incr at h; cases h
  exact ⟨fun x hx => by simp at hx, List.Pairwise.nil, Int.le_refl _⟩
 | n :: l, k, m, h => by
  unfold incr at h
  split at h
  ·cases h
  ·rename_i hn
   obtain ⟨h1, h2, h3⟩ := incr_sorted l n m h
   refine ⟨fun x hx => ?_, List.pairwise_cons.2 ⟨fun x hx => (h1 x hx).1, h2⟩, by omega⟩
   rcases List.mem_cons.1 hx with rfl | hx
   ·omega
   ·have := h1 x hx; omega
theorem bsch_split (c : Int -> Int) (len : Int) (hl : len <= 1000000000) (mono : ∀ a b, 0 <= a -> a <= b -> b < len -> c b < 0 -> c a < 0) : ∀ (n : Nat) (i j : Int), (j - i).toNat <= n -> 0 <= i -> i <= j -> j <= len ->
  (∀ k, 0 <= k -> k < i -> c k < 0) -> (∀ k, j <= k -> k < len -> ¬ c k < 0) -> (∀ k, 0 <= k -> k < bsch c n i j -> c k < 0) /\ ∀ k, bsch c n i j <= k -> k < len -> ¬ c k < 0
 | 0, i, j, hn, h0, hij, hj, ha, hb => by
  have : i = j := by omega
  subst this
  exact ⟨ha, hb⟩
 | n + 1, i, j, hn, h0, hij, hj, ha, hb => by
  unfold bsch
  split
  ·rename_i hlt
   obtain ⟨h1, h2⟩ := half_at h0 hlt (by omega)
   split
   ·rename_i hc
    exact bsch_split c len hl mono n (half i j + 1) j (by omega) (by omega) (by omega) hj (fun k hk hk2 => mono k (half i j) hk (by omega) (by omega) hc) hb
   ·rename_i hc
    exact bsch_split c len hl mono n i (half i j) (by omega) h0 h1 (by omega) ha (fun k hk hk2 h => hc (mono (half i j) k (by omega) hk hk2 h))
  ·exact ⟨ha, fun k hk => hb k (by omega)⟩
def Sorted (w : Wd) : Prop := (w.objs.map (·.oid)).Pairwise (· < ·) /\ w.objs.length <= 1000000000
theorem valid_sorted {w : Wd} (hw : w.Ok) (h : wcheckW w = 0) : Sorted w /\ ∀ o ∈ w.objs, 0 < o.oid /\ o.oid < w.nO := by
 unfold wcheckW at h
 have hv : validW w = true := by
  cases hx : validW w with
  | true => rfl
  | false => rw [hx] at h; exact absurd h (by decide)
 unfold validW at hv
 cases h1 : decide ((w.objs.length : Int) > 3000) with
 | true => rw [h1] at hv; cases hv
 | false =>
 rw [h1, cond_false] at hv
 cases h2 : decide ((w.acts.length : Int) > 4000) with
 | true => rw [h2] at hv; cases hv
 | false =>
 rw [h2, cond_false] at hv
 cases h3 : numbB (w.objs.map (·.oid)) w.nO with
 | false => rw [h3] at hv; cases hv
 | true =>
 unfold numbB at h3
 split at h3
 ·rename_i m hm
  obtain ⟨q1, q2, q3⟩ := incr_sorted _ _ _ hm
  simp only [Bool.and_eq_true, decide_eq_true_eq] at h3
  exact ⟨⟨q2, hw.nobjs⟩, fun o ho => by have := q1 o.oid (List.mem_map.2 ⟨o, ho, rfl⟩); omega⟩
 ·cases h3
theorem sorted_lt {l : List Ob} (h : (l.map (·.oid)).Pairwise (· < ·)) {a b : Nat} (hab : a < b) (hb : b < l.length) : (l.getD a default).oid < (l.getD b default).oid := by
 rw [List.pairwise_map, List.pairwise_iff_getElem] at h
 have := h a b (by omega) hb hab
 rw [List.getD_eq_getElem?_getD, List.getD_eq_getElem?_getD, List.getElem?_eq_getElem (by omega), List.getElem?_eq_getElem hb]
 exact this
theorem cmpF_neg {x y : Int} : cmpF x y < 0 ↔ x < y := by unfold cmpF; split <;> (try split) <;> omega
theorem cmpF_zero {x y : Int} : cmpF x y = 0 ↔ x = y := by unfold cmpF; split <;> (try split) <;> omega
theorem objI_split {w : Wd} (h : Sorted w) (n : Int) : (∀ k : Int, 0 <= k -> k < objI w n -> (w.objs.getD k.toNat default).oid < n) /\ ∀ k : Int, objI w n <= k -> k < w.objs.length -> n <= (w.objs.getD k.toNat default).oid := by
 have hh := bsch_split (fun h => haObF (w.objs.getD h.toNat default) n) w.objs.length (by have := h.2; omega) (fun a b ha hab hb hc => by
  simp only [haObF] at hc ⊢
  rw [cmpF_neg] at hc ⊢
  by_cases e : a = b
  ·rw [e]; exact hc
  ·have := sorted_lt h.1 (a := a.toNat) (b := b.toNat) (by omega) (by omega); omega) w.objs.length 0 w.objs.length (by omega) (by omega) (by omega) (by omega) (fun k h1 h2 => by omega) (fun k h1 h2 => by omega)
 refine ⟨fun k h1 h2 => ?_, fun k h1 h2 => ?_⟩
 ·have := hh.1 k h1 h2
  simp only [haObF, cmpF_neg] at this; exact this
 ·have := hh.2 k h1 h2
  simp only [haObF, cmpF_neg] at this; omega
theorem objT_true {w : Wd} {n : Int} (hl : w.objs.length <= 1000000000) (h : objF w n = true) : (objT w n).1 ∈ w.objs /\ (objT w n).1.oid = n /\ (objT w n).2 = true := by
 have h0 := (objI_in w n hl).1
 unfold objT
 rw [h, cond_true]
 unfold objF at h
 simp only [Bool.and_eq_true, decide_eq_true_eq, beq_iff_eq] at h
 refine ⟨getD_mem (by omega), ?_, rfl⟩
 have := h.2
 unfold haObF at this
 exact cmpF_zero.1 this
theorem objF_of {w : Wd} (h : Sorted w) {o : Ob} (ho : o ∈ w.objs) : objF w o.oid = true /\ (objT w o.oid).1 = o := by
 obtain ⟨i, hi, he⟩ := List.mem_iff_getElem.1 ho
 obtain ⟨h1, h2⟩ := objI_split h o.oid
 have hin := objI_in w o.oid h.2
 have hgi : w.objs.getD i default = o := by rw [List.getD_eq_getElem?_getD, List.getElem?_eq_getElem hi]; exact he
 have e : objI w o.oid = i := by
  rcases Int.lt_trichotomy (objI w o.oid) i with hlt | heq | hgt
  ·have a1 := h2 (objI w o.oid) (Int.le_refl _) (by omega)
   have a2 := sorted_lt h.1 (a := (objI w o.oid).toNat) (b := i) (by omega) hi
   rw [hgi] at a2; omega
  ·exact heq
  ·have a1 := h1 i (by omega) hgt
   rw [show (i : Int).toNat = i by omega, hgi] at a1; omega
 have hf : objF w o.oid = true := by
  unfold objF
  rw [e]
  simp only [Bool.and_eq_true, decide_eq_true_eq, beq_iff_eq]
  refine ⟨by omega, ?_⟩
  rw [show (i : Int).toNat = i by omega, hgi]
  unfold haObF
  exact cmpF_zero.2 rfl
 refine ⟨hf, ?_⟩
 unfold objT
 rw [hf, cond_true, e, show (i : Int).toNat = i by omega]
 exact hgi
theorem objT_mem_of {w : Wd} (h : Sorted w) {o : Ob} (ho : o ∈ w.objs) : objT w o.oid = (o, true) := by
 obtain ⟨h1, h2⟩ := objF_of h ho
 exact Prod.ext h2 (objT_true h.2 h1).2.2
theorem objT_none {w : Wd} (hl : w.objs.length <= 1000000000) {n : Int} (h : ∀ o ∈ w.objs, o.oid ≠ n) : objT w n = (⟨0, 0, [], [], 0, 0⟩, false) := by
 cases hf : objF w n with
 | true => exact absurd (objT_true hl hf).2.1 (h _ (objT_true hl hf).1)
 | false => unfold objT; rw [hf]; rfl
theorem objT_same {w v : Wd} (hw : Sorted w) (hv : Sorted v) {n : Int} (h : ∀ o : Ob, o.oid = n -> (o ∈ w.objs ↔ o ∈ v.objs)) : objT v n = objT w n := by
 by_cases he : ∃ o ∈ w.objs, o.oid = n
 ·obtain ⟨o, ho, rfl⟩ := he
  rw [objT_mem_of hw ho, objT_mem_of hv ((h o rfl).1 ho)]
 ·rw [objT_none hw.2 fun o ho e => he ⟨o, ho, e⟩, objT_none hv.2 fun o ho e => he ⟨o, (h o e).2 ho, e⟩]
theorem objI_at {w : Wd} (h : Sorted w) {n : Int} (hf : objF w n = true) : (w.objs.getD (objI w n).toNat default).oid = n /\ (objI w n).toNat < w.objs.length := by
 have h0 := (objI_in w n h.2).1
 unfold objF at hf
 simp only [Bool.and_eq_true, decide_eq_true_eq, beq_iff_eq] at hf
 exact ⟨cmpF_zero.1 hf.2, by omega⟩
theorem set_mem {l : List Ob} (h : (l.map (·.oid)).Pairwise (· < ·)) {i : Nat} (hi : i < l.length) {x o : Ob} (hx : x.oid = (l.getD i default).oid) (ho : o.oid ≠ x.oid) : o ∈ l ↔ o ∈ l.set i x := by
 constructor
 ·intro hm
  obtain ⟨j, hj, he⟩ := List.mem_iff_getElem.1 hm
  have hne : i ≠ j := fun e => by
   subst e
   apply ho
   rw [hx, List.getD_eq_getElem?_getD, List.getElem?_eq_getElem hi, <- he]; rfl
  exact List.mem_iff_getElem.2 ⟨j, by rw [List.length_set]; exact hj, by rw [List.getElem_set_ne hne]; exact he⟩
 ·intro hm
  rcases List.mem_or_eq_of_mem_set hm with hm | hm
  ·exact hm
  ·exact absurd (by rw [hm]) ho
theorem appliedX (w : Wd) (hw : w.Ok) (ch : Ch) (hk : kindsP (.i ch.kind) = []) : Spec Tryz.prog 32 [.agg w.pv, .agg ch.pv] (.tup [.agg wZ.pv, I 110]) := by
 refine Spec.startD (by kernel_rfl) Tryz.func32 rfl rfl fun w0 L hst hd0 hro hmk hgh => ?_
 refine M.cl kinds_spec ?_
 refine M.look (.tup [.agg [.v .nilFunc, .v .nilFunc], .sb false]) kindsRel (I ch.kind) 130 true [] (by kernel_rfl) trivial (by kernel_rfl) (fun β L W u v h hv => by
  have h2 := kinds_look (k := ch.kind) h hv (zs := [.nilFunc, .nilFunc]) (by kernel_rfl)
  rw [hk] at h2
  exact h2) ?_
 refine M.yes (b := !false) rfl (by kernel_rfl) ?_
 exact M.retw [] (.tup [.agg nilW, I 110]) (by kernel_rfl) trivial fun L W u h => wz_nil h
def appW (w : Wd) (ch : Ch) : Wd × Int := bif ch.kind == 1 then app1 w ch else bif ch.kind == 2 then app2 w ch else bif ch.kind == 3 then app3 w ch else bif ch.kind == 4 then app4 w ch else bif ch.kind == 5 then app5 w ch else (wZ, 110)
theorem applied_spec (w : Wd) (hw : w.Ok) (hn : In64 w.nO) (ch : Ch) (hch : In64 ch.slot.v.n) : Spec Tryz.prog 32 [.agg w.pv, .agg ch.pv] (.tup [.agg (appW w ch).1.pv, I (appW w ch).2]) := by
 unfold appW
 by_cases h1 : ch.kind = 1
 ·rw [show (ch.kind == 1) = true by simp [h1]]; exact applied1 w hw ch h1 hch
 rw [show (ch.kind == 1) = false by simp [h1]]
 by_cases h2 : ch.kind = 2
 ·rw [show (ch.kind == 2) = true by simp [h2]]; exact applied2 w hw ch h2 hch
 rw [show (ch.kind == 2) = false by simp [h2]]
 by_cases h3 : ch.kind = 3
 ·rw [show (ch.kind == 3) = true by simp [h3]]; exact applied3 w hw ch h3 hch
 rw [show (ch.kind == 3) = false by simp [h3]]
 by_cases h4 : ch.kind = 4
 ·rw [show (ch.kind == 4) = true by simp [h4]]; exact applied4 w hw ch h4 hch
 rw [show (ch.kind == 4) = false by simp [h4]]
 by_cases h5 : ch.kind = 5
 ·rw [show (ch.kind == 5) = true by simp [h5]]; exact applied5 w hw hn ch h5 hch
 rw [show (ch.kind == 5) = false by simp [h5]]
 refine appliedX w hw ch ?_
 have e : ∀ n : Int, ch.kind ≠ n -> Atom.i ch.kind ≠ .i n := fun n h h' => h (by injection h')
 unfold kindsP
 rw [if_neg (e 5 h5), if_neg (e 4 h4), if_neg (e 3 h3), if_neg (e 2 h2), if_neg (e 1 h1)]
theorem finT_ok {w : Wd} (h : (finT w).2 = 0) : wcheckW w = 0 /\ finT w = (w, 0) := by
 unfold finT at h ⊢
 cases hc : wcheckW w == 0 with
 | true => exact ⟨by simpa using hc, rfl⟩
 | false => rw [hc] at h; exact absurd (show (110 : Int) = 0 from h) (by decide)
structure Appd (w v : Wd) (ch : Ch) : Prop where
 ok : v.Ok
 valid : wcheckW v = 0
 acts : v.acts = w.acts
 cds : v.cds = w.cds
 nA : v.nA = w.nA
 nms : ∀ o ∈ v.objs, ∀ s ∈ o.sl, (∃ x ∈ w.objs, ∃ t ∈ x.sl, s.nm = t.nm) \/ s.nm = ch.slot.nm
 objs : (∃ o : Ob, objF w ch.oid = true /\ o.oid = ch.oid /\ o.kd = (chO w ch).kd /\ o.el = (chO w ch).el /\ o.code = (chO w ch).code /\ o.up = (chO w ch).up /\ v = setW w (chI w ch) o) \/ (ch.oid = w.nO /\ v = mkW w ch.oid)
theorem set_appd {w : Wd} (hs : Sorted w) (hw : w.Ok) {ch : Ch} (hf : objF w ch.oid = true) {sl : List Sl} (hsl : ∀ s ∈ sl, In64 s.v.n) (hnm : ∀ s ∈ sl, (∃ t ∈ (chO w ch).sl, s.nm = t.nm) \/ s.nm = ch.slot.nm) (hn : sl.length <= 1000000) (h : (finT (setW w (chI w ch) { chO w ch with sl := sl })).2 = 0) :
  Appd w (finT (setW w (chI w ch) { chO w ch with sl := sl })).1 ch := by
 obtain ⟨h1, h2⟩ := finT_ok h
 have hok := hw.objs _ (getD_mem (p := chI w ch) (chI_lt hw hf))
 rw [h2]
 exact ⟨setW_ok hw _ ⟨hsl, hok.el, hn, hok.nel⟩, h1, rfl, rfl, rfl, fun o ho s hs => by
  rcases List.mem_or_eq_of_mem_set ho with h | h
  ·exact .inl ⟨o, h, s, hs, rfl⟩
  ·rw [h] at hs
   rcases hnm s hs with ⟨t, h1, h2⟩ | h1
   ·exact .inl ⟨chO w ch, getD_mem (p := chI w ch) (chI_lt hw hf), t, h1, h2⟩
   ·exact .inr h1, .inl ⟨{ chO w ch with sl := sl }, hf, (objI_at hs hf).1, rfl, rfl, rfl, rfl, rfl⟩⟩
theorem app_ok {w : Wd} (hw : w.Ok) (hs : Sorted w) {ch : Ch} (hch : In64 ch.slot.v.n) (h : (appW w ch).2 = 0) : Appd w (appW w ch).1 ch := by
 have no : ∀ {n : Int}, n ≠ 0 -> ((wZ, n) : Wd × Int).2 = 0 -> Appd w wZ ch := fun h1 h2 => absurd h2 h1
 have hok : objF w ch.oid = true -> (chO w ch).Ok := fun hf => hw.objs _ (getD_mem (p := chI w ch) (chI_lt hw hf))
 revert h
 unfold appW
 cases ch.kind == 1
 case true =>
  simp only [cond_true]
  unfold app1
  cases form1 ch
  case false => exact no (by decide)
  cases hf : objF w ch.oid
  case false => exact no (by decide)
  cases h1 : decide (((chO w ch).sl.length : Int) < 40)
  case false => exact no (by decide)
  cases decide (atF (chO w ch).sl ch.slot.nm < 0)
  case false => exact no (by decide)
  simp only [cond_true]
  refine set_appd hs hw hf (fun s hs => ?_) (fun s hs => by
   rcases List.mem_append.1 hs with h | h
   ·exact .inl ⟨s, h, rfl⟩
   ·exact .inr (by rw [List.mem_singleton.1 h])) (by have := of_decide_eq_true h1; simp only [List.length_append, List.length_cons, List.length_nil]; omega)
  rcases List.mem_append.1 hs with h | h
  ·exact (hok hf).sl s h
  ·rw [List.mem_singleton.1 h]; exact hch
 simp only [cond_false]
 cases ch.kind == 2
 case true =>
  simp only [cond_true]
  unfold app2
  cases form2 ch
  case false => exact no (by decide)
  cases hf : objF w ch.oid
  case false => exact no (by decide)
  cases decide (atF (chO w ch).sl ch.name >= 0)
  case false => exact no (by decide)
  simp only [cond_true]
  exact set_appd hs hw hf (fun s hs => (hok hf).sl s (List.mem_filter.1 hs).1) (fun s hs => .inl ⟨s, (List.mem_filter.1 hs).1, rfl⟩) (Nat.le_trans (List.length_filter_le _ _) (hok hf).nsl)
 simp only [cond_false]
 cases ch.kind == 3
 case true =>
  simp only [cond_true]
  unfold app3
  cases form3 ch
  case false => exact no (by decide)
  cases hf : objF w ch.oid
  case false => exact no (by decide)
  cases ha : decide (atF (chO w ch).sl ch.name >= 0)
  case false => exact no (by decide)
  simp only [cond_true]
  refine set_appd hs hw hf (fun s hs => ?_) (fun s hs => by
   rcases List.mem_or_eq_of_mem_set hs with h | h
   ·exact .inl ⟨s, h, rfl⟩
   ·have hat := of_decide_eq_true ha
    have hlt := fstI_lt (nmEq ch.name) (chO w ch).sl
    have hq : (atF (chO w ch).sl ch.name).toNat < (chO w ch).sl.length := by unfold atF at hat ⊢; omega
    exact .inl ⟨_, getD_mem hq, by rw [h]⟩) (by rw [List.length_set]; exact (hok hf).nsl)
  rcases List.mem_or_eq_of_mem_set hs with h | h
  ·exact (hok hf).sl s h
  ·rw [h]; exact hch
 simp only [cond_false]
 cases ch.kind == 4
 case true =>
  simp only [cond_true]
  unfold app4
  cases form4 ch
  case false => exact no (by decide)
  cases hf : objF w ch.oid
  case false => exact no (by decide)
  cases ha : decide (atF (chO w ch).sl ch.name >= 0)
  case false => exact no (by decide)
  simp only [cond_true]
  refine set_appd hs hw hf (fun s hs => ?_) (fun s hs => by
   rcases List.mem_or_eq_of_mem_set hs with h | h
   ·exact .inl ⟨s, h, rfl⟩
   ·have hat := of_decide_eq_true ha
    have hlt := fstI_lt (nmEq ch.name) (chO w ch).sl
    have hq : (atF (chO w ch).sl ch.name).toNat < (chO w ch).sl.length := by unfold atF at hat ⊢; omega
    exact .inl ⟨_, getD_mem hq, by rw [h]⟩) (by rw [List.length_set]; exact (hok hf).nsl)
  rcases List.mem_or_eq_of_mem_set hs with h | h
  ·exact (hok hf).sl s h
  ·rw [h]
   have hat := of_decide_eq_true ha
   have hlt := fstI_lt (nmEq ch.name) (chO w ch).sl
   have hq : (atF (chO w ch).sl ch.name).toNat < (chO w ch).sl.length := by unfold atF at hat ⊢; omega
   exact (hok hf).sl ((chO w ch).sl.getD (atF (chO w ch).sl ch.name).toNat default) (getD_mem hq)
 simp only [cond_false]
 cases ch.kind == 5
 case true =>
  simp only [cond_true]
  unfold app5
  cases form5 ch
  case false => exact no (by decide)
  cases h1 : decide ((w.objs.length : Int) < 3000)
  case false => exact no (by decide)
  cases decide (w.nO < 1099511627776)
  case false => exact no (by decide)
  cases h2 : ch.oid == w.nO
  case false => exact no (by decide)
  simp only [cond_true]
  intro h
  obtain ⟨q1, q2⟩ := finT_ok h
  rw [q2]
  exact ⟨mkW_ok hw _ (by have := of_decide_eq_true h1; omega), q1, rfl, rfl, rfl, (fun o ho s hs => by
   rcases List.mem_append.1 ho with h | h
   ·exact .inl ⟨o, h, s, hs, rfl⟩
   ·rw [List.mem_singleton.1 h] at hs; cases hs), .inr ⟨by simpa using h2, rfl⟩⟩
 exact no (by decide)
theorem Appd.mem {w v : Wd} {ch : Ch} (h : Appd w v ch) (hs : Sorted w) {o : Ob} (ho : o.oid ≠ ch.oid) : o ∈ w.objs ↔ o ∈ v.objs := by
 rcases h.objs with ⟨x, hf, hx, -, -, -, -, rfl⟩ | ⟨hn, rfl⟩
 ·exact set_mem hs.1 (objI_at hs hf).2 (by rw [hx]; exact ((objI_at hs hf).1).symm) (by rw [hx]; exact ho)
 ·show o ∈ w.objs ↔ o ∈ w.objs ++ [newO ch.oid]
  rw [List.mem_append]
  constructor
  ·exact .inl
  ·rintro (h | h)
   ·exact h
   ·rw [List.mem_singleton.1 h] at ho; exact absurd rfl ho
theorem Appd.objT {w v : Wd} {ch : Ch} (h : Appd w v ch) (hs : Sorted w) {n : Int} (hn : n ≠ ch.oid) : objT v n = objT w n :=
 objT_same hs (valid_sorted h.ok h.valid).1 fun o ho => h.mem hs (by rw [ho]; exact hn)
theorem Appd.holds {w v : Wd} {ch : Ch} (h : Appd w v ch) (hs : Sorted w) {x : Dp} (hn : x.oid ≠ ch.oid) : holdsT v x = holdsT w x := by
 unfold holdsT; rw [h.objT hs hn]
def applyW (w : Wd) (ch : Ch) : Wd × Int := bif wcheckW w != 0 then (wZ, wcheckW w) else appW w ch
theorem applyW_spec (w : Wd) (hw : w.Ok) (hn : In64 w.nO) (ch : Ch) (hch : In64 ch.slot.v.n) : Spec Tryz.prog 15 [.agg w.pv, .agg ch.pv] (.tup [.agg (applyW w ch).1.pv, I (applyW w ch).2]) :=
 Apply_spec w hw ch (appW w ch) (applied_spec w hw hn ch hch)
theorem applyW_ok {w : Wd} (hw : w.Ok) {ch : Ch} (hch : In64 ch.slot.v.n) (h : (applyW w ch).2 = 0) : wcheckW w = 0 /\ Appd w (applyW w ch).1 ch := by
 unfold applyW at h ⊢
 cases hc : wcheckW w != 0 with
 | true => rw [hc] at h; simp only [cond_true] at h; rw [h] at hc; cases hc
 | false =>
  rw [hc] at h
  have h0 : wcheckW w = 0 := by simpa using hc
  exact ⟨h0, app_ok hw (valid_sorted hw h0).1 hch h⟩
theorem mpEq_iff {a b : Mp} : mpEq a b = true ↔ a = b := by
 obtain ⟨k, l⟩ := a; obtain ⟨k', l'⟩ := b
 simp [mpEq, eqFrom_iff slEq_iff]
theorem atN_mem (l : List Ob) (n : Int) : ∀ i, i <= l.length -> (atN l i (.i n)).isSome = true -> ∃ o ∈ l, o.oid = n
 | 0, _, h => by cases h
 | i + 1, hi, h => by
  unfold atN at h
  split at h
  ·rename_i e
   exact ⟨_, getD_mem (p := (i : Int).toNat) (by omega), by injection e with e; exact e.symm⟩
  ·exact atN_mem l n i (by omega) h
def Has (w : Wd) (n : Int) : Prop := ∃ o ∈ w.objs, o.oid = n
theorem objAt_has {w : Wd} {n : Int} (h : (objAt w n).isSome = true) : Has w n := by
 refine atN_mem w.objs n w.objs.length (Nat.le_refl _) ?_
 unfold objAt at h
 split at h
 ·rename_i i hi; rw [hi]; rfl
 ·cases h
theorem Has.objT {w : Wd} (hs : Sorted w) {n : Int} (h : Has w n) : (objT w n).2 = true /\ (objT w n).1 ∈ w.objs /\ (objT w n).1.oid = n := by
 obtain ⟨o, ho, rfl⟩ := h
 rw [objT_mem_of hs ho]
 exact ⟨rfl, ho, rfl⟩
theorem has_of_objT {w : Wd} (hl : w.objs.length <= 1000000000) {n : Int} (h : (objT w n).2 = true) : Has w n := by
 cases hf : objF w n with
 | true => exact ⟨_, (objT_true hl hf).1, (objT_true hl hf).2.1⟩
 | false => unfold objT at h; rw [hf] at h; cases h
theorem bif_and {a b : Bool} (h : (bif a then b else false) = true) : a = true /\ b = true := by cases a <;> simp_all
theorem bif_nor {a b : Bool} (h : (bif a then false else b) = true) : a = false /\ b = true := by cases a <;> simp_all
structure Parts (w : Wd) : Prop where
 roots : rootsW w 10 1 = true
 objs : ∀ o ∈ w.objs, objectW w o = true
theorem valid_parts {w : Wd} (h : wcheckW w = 0) : Parts w := by
 unfold wcheckW at h
 have hv : validW w = true := by
  cases hx : validW w with
  | true => rfl
  | false => rw [hx] at h; exact absurd h (by decide)
 unfold validW at hv
 have h1 := (bif_nor (bif_nor (bif_nor (bif_nor (bif_nor hv).2).2).2).2).2
 have h2 := bif_nor h1
 have h3 := (bif_nor (bif_nor h2.2).2).2
 refine ⟨by simpa using h2.1, fun o ho => ?_⟩
 have h4 : w.objs.any (nobjectW w) = false := by simpa using h3
 rw [List.any_eq_false] at h4
 have h5 := h4 o ho
 unfold nobjectW at h5
 simpa using h5
theorem slotsW_all {w : Wd} {o : Ob} : ∀ (l : List Sl) (i : Nat), slotsW w o l i = true -> ∀ s ∈ l, slotW w o s = true
 | [], _, _, s, hs => by cases hs
 | x :: t, i, h, s, hs => by
  unfold slotsW at h
  have h1 := bif_nor h
  have h2 := bif_nor h1.2
  rcases List.mem_cons.1 hs with rfl | hs
  ·simpa using h1.1
  ·exact slotsW_all t _ h2.2 s hs
theorem root_has {w : Wd} (h : Parts w) : Has w 5 /\ Has w 6 := by
 have step : ∀ (n : Nat) (k : Int), rootsW w (n + 1) k = true -> (objAt w k).isSome = true /\ rootsW w n (k + 1) = true := fun n k h => by
  unfold rootsW at h
  have := bif_nor h
  exact ⟨by simpa using this.1, this.2⟩
 have h2 := (step _ _ h.roots).2
 have h3 := (step _ _ h2).2
 have h4 := (step _ _ h3).2
 have h5 := (step _ _ h4).2
 exact ⟨objAt_has (step _ _ h5).1, objAt_has (step _ _ (step _ _ h5).2).1⟩
theorem start_has {w : Wd} (h : Parts w) {v : Vl} (hv : v.k = 4 -> Has w v.n) : Has w (startF v) := by
 unfold startF
 split
 ·rename_i e; exact hv e
 ·split
  ·exact (root_has h).2
  ·exact (root_has h).1
theorem object_slots {w : Wd} {o : Ob} (h : objectW w o = true) : ∀ s ∈ o.sl, slotW w o s = true := by
 unfold objectW at h
 exact slotsW_all _ _ (bif_nor (bif_nor (bif_nor (bif_nor h).2).2).2).2
theorem slot_meth {w : Wd} {o : Ob} {s : Sl} (h : slotW w o s = true) (hk : s.v.k = 5) : s.kd = 1 := by
 unfold slotW at h
 rw [show (s.v.k != 5) = false by simp [hk], cond_false] at h
 simpa using (bif_nor h).1
theorem slot_ref {w : Wd} {o : Ob} {s : Sl} (h : slotW w o s = true) (hk : s.v.k = 4) : Has w s.v.n := by
 unfold slotW at h
 rw [show (s.v.k != 5) = true by simp [hk], cond_true] at h
 have h1 := (bif_and (bif_and (bif_and h).2).2).2
 unfold hasW at h1
 have h2 := (bif_nor h1).2
 rw [show (s.v.k != 4) = false by simp [hk], cond_false] at h2
 exact objAt_has h2
theorem par_has {w : Wd} (h : Parts w) {o : Ob} (ho : o ∈ w.objs) {v : Vl} (hv : v ∈ parL o.sl) : Has w (startF v) := by
 obtain ⟨s, hs, -, rfl⟩ := par_mem hv
 exact start_has h fun hk => slot_ref (object_slots (h.objs o ho) s hs) hk
theorem ofF_map {s t : Sl} (hs : s.v.k = 5 -> s.kd = 1) (ht : t.v.k = 5 -> t.kd = 1) (h : mslot s = mslot t) (x : Fo) : ofF s x = ofF t x := by
 have e1 : ∀ q : Sl, (mslot q).nm = q.nm := fun q => by unfold mslot; split <;> rfl
 have e2 : ∀ q : Sl, (mslot q).kd = q.kd := fun q => by unfold mslot; split <;> rfl
 have hnm : s.nm = t.nm /\ s.kd = t.kd := ⟨by rw [<- e1 s, h, e1], by rw [<- e2 s, h, e2]⟩
 unfold mslot at h
 unfold ofF
 have ha : assignB s = assignB t := by unfold assignB; rw [hnm.2]
 rw [<- ha]
 cases hx : assignB s with
 | true =>
  have nk : ∀ q : Sl, assignB q = true -> (q.v.k = 5 -> q.kd = 1) -> (q.v.k == 5) = false := fun q h1 h2 => by
   rw [beq_eq_false_iff_ne]
   intro e
   have := h2 e
   unfold assignB at h1
   rw [this] at h1; cases h1
  rw [nk s hx hs, nk t (by rw [<- ha]; exact hx) ht]
  rfl
 | false =>
  rw [<- ha, hx] at h
  simp only [Bool.false_eq_true, if_false] at h
  rw [h]
theorem map_nm {l m : List Sl} (h : l.map mslot = m.map mslot) : l.map (fun s => (s.nm, s.kd)) = m.map (fun s => (s.nm, s.kd)) := by
 have e : ∀ s : Sl, ((mslot s).nm, (mslot s).kd) = (s.nm, s.kd) := fun s => by unfold mslot; split <;> rfl
 have h2 := congrArg (List.map fun s : Sl => (s.nm, s.kd)) h
 simpa [List.map_map, Function.comp_def, e] using h2
theorem fstI_map {α β : Type} (f : α -> β) (p : β -> Bool) (l : List α) : fstI (fun x => p (f x)) l = fstI p (l.map f) := by
 unfold fstI
 rw [List.findIdx?_map]; rfl
theorem match_map {l m : List Sl} (h : l.map mslot = m.map mslot) (sel : List UInt8) : matchF l sel = matchF m sel := by
 have h := map_nm h
 have e1 : ∀ l : List Sl, fstI (fun x => matchA x sel) l = fstI (fun q : List UInt8 × Int => q.1 == sel) (l.map fun s => (s.nm, s.kd)) := fun l => by
  rw [<- fstI_map]; rfl
 have e2 : ∀ l : List Sl, fstI (fun x => matchB x sel) l = fstI (fun q : List UInt8 × Int => bif (q.2 == 2 || q.2 == 4) then q.1 ++ [58] == sel else false) (l.map fun s => (s.nm, s.kd)) := fun l => by
  rw [<- fstI_map]; rfl
 unfold matchF
 rw [e1 l, e1 m, e2 l, e2 m, h]
theorem contL_at (o : Ob) : ∀ (l : List Sl) (i j : Nat) (s : Sl), l[j]? = some s -> s.kd = 4 -> (⟨o.oid, false, ⟨0, []⟩, (i + j : Nat), s.v⟩ : Dp) ∈ contL o l i
 | [], i, j, s, h, _ => by simp at h
 | x :: t, i, j, s, h, hk => by
  unfold contL
  cases j with
  | zero =>
   simp at h; subst h
   rw [show (x.kd == 4) = true by simp [hk], cond_true]
   exact List.mem_cons_self ..
  | succ j =>
   have := contL_at o t (i + 1) j s (by simpa using h) hk
   rw [show i + 1 + j = i + (j + 1) by omega] at this
   cases x.kd == 4 with
   | true => exact List.mem_cons_of_mem _ this
   | false => exact this
theorem contL_of (o : Ob) : ∀ (l : List Sl) (i : Nat) (d : Dp), d ∈ contL o l i -> ∃ j s, l[j]? = some s /\ s.kd = 4 /\ d = ⟨o.oid, false, ⟨0, []⟩, (i + j : Nat), s.v⟩
 | [], i, d, h => by cases h
 | x :: t, i, d, h => by
  unfold contL at h
  have tl : d ∈ contL o t (i + 1) -> ∃ j s, (x :: t)[j]? = some s /\ s.kd = 4 /\ d = ⟨o.oid, false, ⟨0, []⟩, (i + j : Nat), s.v⟩ := fun h => by
   obtain ⟨j, s, h1, h2, h3⟩ := contL_of o t (i + 1) d h
   exact ⟨j + 1, s, by simpa using h1, h2, by rw [h3, show i + 1 + j = i + (j + 1) by omega]⟩
  cases hk : x.kd == 4 with
  | true =>
   rw [hk, cond_true] at h
   rcases List.mem_cons.1 h with h | h
   ·exact ⟨0, x, rfl, by simpa using hk, h⟩
   ·exact tl h
  | false => rw [hk, cond_false] at h; exact tl h
theorem slots_same {o o' : Ob} (hid : o'.oid = o.oid) : ∀ (l l' : List Sl) (i : Nat), l'.map mslot = l.map mslot -> (∀ (j : Nat) (s s' : Sl), l[j]? = some s -> l'[j]? = some s' -> s.kd = 4 -> s'.v = s.v) -> parL l' = parL l /\ contL o' l' i = contL o l i
 | [], [], i, _, _ => ⟨rfl, rfl⟩
 | [], x :: t, i, h, _ => by cases h
 | x :: t, [], i, h, _ => by cases h
 | x :: t, x' :: t', i, h, hc => by
  simp only [List.map_cons, List.cons.injEq] at h
  obtain ⟨ih1, ih2⟩ := slots_same hid t t' (i + 1) h.2 fun j s s' h1 h2 hk => hc (j + 1) s s' (by simpa using h1) (by simpa using h2) hk
  have hkd : x'.kd = x.kd := by
   have := congrArg Sl.kd h.1
   have e : ∀ s : Sl, (mslot s).kd = s.kd := fun s => by unfold mslot; split <;> rfl
   rwa [e, e] at this
  have hv : isPar x = true -> x'.v = x.v := fun hp => by
   by_cases h4 : x.kd = 4
   ·exact hc 0 x x' rfl rfl h4
   ·have h3 : x.kd = 3 := by unfold isPar at hp; simpa [h4] using hp
    have hm := h.1
    unfold mslot at hm
    have na : ∀ q : Sl, q.kd = 3 -> assignB q = false := fun q hq => by unfold assignB; rw [hq]; rfl
    rw [na x h3, na x' (by rw [hkd]; exact h3)] at hm
    simp only [Bool.false_eq_true, if_false] at hm
    rw [hm]
  have hpar : isPar x' = isPar x := by unfold isPar; rw [hkd]
  refine ⟨?_, ?_⟩
  ·unfold parL at ih1 ⊢
   rw [List.filter_cons, List.filter_cons, hpar]
   cases hp : isPar x with
   | true => simp only [if_true, List.map_cons, hv hp, ih1]
   | false => simpa using ih1
  ·unfold contL
   rw [hkd, ih2]
   cases h4 : x.kd == 4 with
   | true =>
    rw [cond_true, cond_true, hid, hv (by unfold isPar; rw [h4]; simp)]
   | false => rfl
theorem holdsT_whole {w : Wd} {o : Ob} : holdsT w (wholeD o) = true ↔ (objT w o.oid).2 = true /\ mapOfF (objT w o.oid).1 = mapOfF o := by
 unfold holdsT wholeD
 cases (objT w o.oid).2 with
 | false => simp
 | true => simp [mpEq_iff]
theorem holdsT_cont {w : Wd} {n : Int} {j : Nat} {v : Vl} : holdsT w ⟨n, false, ⟨0, []⟩, (0 + j : Nat), v⟩ = true ↔ (objT w n).2 = true /\ ∃ s, (objT w n).1.sl[j]? = some s /\ s.v = v := by
 unfold holdsT
 simp only [Nat.zero_add]
 cases (objT w n).2 with
 | false => simp
 | true =>
  simp only [Bool.not_true, cond_false, true_and]
  rw [show decide ((j : Int) >= 0) = true by simp, cond_true]
  by_cases hj : j < (objT w n).1.sl.length
  ·rw [show decide ((j : Int) < ((objT w n).1.sl.length : Int)) = true by simpa using hj, cond_true, List.getElem?_eq_getElem hj, vlEq_iff, List.getD_eq_getElem?_getD, Int.toNat_natCast, List.getElem?_eq_getElem hj]
   simp
  ·rw [show decide ((j : Int) < ((objT w n).1.sl.length : Int)) = false by simpa using hj, cond_false, List.getElem?_eq_none (by omega)]
   simp
theorem holds_self {w : Wd} (hs : Sorted w) {n : Int} (h : Has w n) : holdsT w (wholeD (objT w n).1) = true := by
 obtain ⟨h1, h2, h3⟩ := h.objT hs
 rw [holdsT_whole, h3]
 exact ⟨h1, rfl⟩
theorem holds_cont {w : Wd} (hs : Sorted w) {n : Int} (h : Has w n) {d : Dp} (hd : d ∈ contL (objT w n).1 (objT w n).1.sl 0) : holdsT w d = true := by
 obtain ⟨h1, h2, h3⟩ := h.objT hs
 obtain ⟨j, s, q1, q2, rfl⟩ := contL_of _ _ _ _ hd
 rw [h3, holdsT_cont]
 exact ⟨h1, s, q1, rfl⟩
section
variable {w u : Wd} {sel : List UInt8}
theorem upT_pre {f : Nat} {d : Dp} (hv : ∀ s n, d ∈ s.2.1 -> d ∈ (visT w sel f s n).2.1) : ∀ (l : List Vl) (s : St), d ∈ s.2.1 -> d ∈ (upT w sel f l s).2.1
 | [], s, h => h
 | v :: l, s, h => upT_pre hv l _ (hv s _ h)
theorem visT_pre {d : Dp} : ∀ (f : Nat) (s : St) (n : Int), d ∈ s.2.1 -> d ∈ (visT w sel f s n).2.1
 | 0, s, n, h => h
 | f + 1, s, n, h => by
  unfold visT
  cases (s.1 (.i n)).getD false with
  | true => exact h
  | false =>
   cases decide ((matchF (objT w n).1.sl sel).1 >= 0) with
   | true => exact List.mem_append_left _ h
   | false => exact upT_pre (visT_pre f) _ _ (List.mem_append_left _ (List.mem_append_left _ h))
theorem upT_keep {P : St -> Prop} {f : Nat} (hp : Parts w) (hv : ∀ s n, Has w n -> P s -> P (visT w sel f s n)) : ∀ (l : List Vl) (s : St), (∀ v ∈ l, Has w (startF v)) -> P s -> P (upT w sel f l s)
 | [], s, _, h => h
 | v :: l, s, hl, h => upT_keep hp hv l _ (fun x hx => hl x (List.mem_cons_of_mem _ hx)) (hv s _ (hl v (List.mem_cons_self ..)) h)
abbrev HoldsAll (u : Wd) (s : St) : Prop := ∀ d ∈ s.2.1, holdsT u d = true
theorem visT_holds (hs : Sorted w) (hp : Parts w) : ∀ (f : Nat) (s : St) (n : Int), Has w n -> HoldsAll w s -> HoldsAll w (visT w sel f s n)
 | 0, s, n, _, h => h
 | f + 1, s, n, hn, h => by
  have h1 : ∀ d ∈ s.2.1 ++ [wholeD (objT w n).1], holdsT w d = true := fun d hd => by
   rcases List.mem_append.1 hd with hd | hd
   ·exact h d hd
   ·rw [List.mem_singleton.1 hd]; exact holds_self hs hn
  unfold visT
  cases (s.1 (.i n)).getD false with
  | true => exact h
  | false =>
   cases decide ((matchF (objT w n).1.sl sel).1 >= 0) with
   | true => exact h1
   | false =>
    refine upT_keep hp (visT_holds hs hp f) _ _ (fun v hv => par_has hp (hn.objT hs).2.1 hv) fun d hd => ?_
    rcases List.mem_append.1 hd with hd | hd
    ·exact h1 d hd
    ·exact holds_cont hs hn hd
def OutD (w : Wd) (s : St) : Prop := ∀ x ∈ s.2.2, Has w x.holder /\ wholeD (objT w x.holder).1 ∈ s.2.1
theorem visT_outd (hs : Sorted w) (hp : Parts w) : ∀ (f : Nat) (s : St) (n : Int), Has w n -> OutD w s -> OutD w (visT w sel f s n)
 | 0, s, n, _, h => h
 | f + 1, s, n, hn, h => by
  unfold visT
  cases (s.1 (.i n)).getD false with
  | true => exact h
  | false =>
   cases decide ((matchF (objT w n).1.sl sel).1 >= 0) with
   | true =>
    intro x hx
    rcases List.mem_append.1 hx with hx | hx
    ·exact ⟨(h x hx).1, List.mem_append_left _ (h x hx).2⟩
    ·rw [List.mem_singleton.1 hx]
     exact ⟨hn, List.mem_append_right _ (List.mem_singleton.2 rfl)⟩
   | false => exact upT_keep hp (visT_outd hs hp f) _ _ (fun v hv => par_has hp (hn.objT hs).2.1 hv) fun x hx => ⟨(h x hx).1, List.mem_append_left _ (List.mem_append_left _ (h x hx).2)⟩
theorem upT_same {f : Nat} (hv : ∀ s n, Has w n -> HoldsAll u (visT w sel f s n) -> visT u sel f s n = visT w sel f s n) : ∀ (l : List Vl) (s : St), (∀ v ∈ l, Has w (startF v)) -> HoldsAll u (upT w sel f l s) -> upT u sel f l s = upT w sel f l s
 | [], s, _, _ => rfl
 | v :: l, s, hl, h => by
  have h1 : visT u sel f s (startF v) = visT w sel f s (startF v) := hv s _ (hl v (List.mem_cons_self ..)) fun d hd => h d (upT_pre (fun s n => visT_pre f s n) l _ hd)
  show upT u sel f l (visT u sel f s (startF v)) = upT w sel f l (visT w sel f s (startF v))
  rw [h1]
  exact upT_same hv l _ (fun x hx => hl x (List.mem_cons_of_mem _ hx)) h
theorem whole_same (hs : Sorted w) (hu : Sorted u) {n : Int} (hn : Has w n) (h : holdsT u (wholeD (objT w n).1) = true) : Has u n /\ (objT u n).1.oid = n /\ (objT w n).1.oid = n /\ mapOfF (objT u n).1 = mapOfF (objT w n).1 := by
 obtain ⟨h1, h2, h3⟩ := hn.objT hs
 rw [holdsT_whole, h3] at h
 have hh := has_of_objT hu.2 h.1
 exact ⟨hh, (hh.objT hu).2.2, h3, h.2⟩
theorem visT_same (hs : Sorted w) (hu : Sorted u) (hp : Parts w) : ∀ (f : Nat) (s : St) (n : Int), Has w n -> HoldsAll u (visT w sel f s n) -> visT u sel f s n = visT w sel f s n
 | 0, s, n, _, _ => rfl
 | f + 1, s, n, hn, h => by
  unfold visT at h ⊢
  cases hse : (s.1 (.i n)).getD false with
  | true => rfl
  | false =>
   rw [hse, cond_false] at h
   rw [cond_false, cond_false]
   have hw0 : holdsT u (wholeD (objT w n).1) = true := by
    cases hm : decide ((matchF (objT w n).1.sl sel).1 >= 0) with
    | true => rw [hm] at h; exact h _ (List.mem_append_right _ (List.mem_singleton.2 rfl))
    | false => rw [hm] at h; exact h _ (upT_pre (fun s n => visT_pre f s n) _ _ (List.mem_append_left _ (List.mem_append_right _ (List.mem_singleton.2 rfl))))
   obtain ⟨hun, e1, e2, e3⟩ := whole_same hs hu hn hw0
   have e4 : (objT u n).1.sl.map mslot = (objT w n).1.sl.map mslot := congrArg Mp.sl e3
   have e5 : wholeD (objT u n).1 = wholeD (objT w n).1 := by unfold wholeD; rw [e1, e2, e3]
   rw [match_map e4 sel, e5]
   cases hm : decide ((matchF (objT w n).1.sl sel).1 >= 0) with
   | true => rfl
   | false =>
    rw [hm, cond_false] at h
    rw [cond_false, cond_false]
    obtain ⟨q1, q2⟩ := slots_same (o := (objT w n).1) (o' := (objT u n).1) (by rw [e1, e2]) (objT w n).1.sl (objT u n).1.sl 0 e4 fun j s1 s2 h1 h2 hk => by
     have hd := contL_at (objT w n).1 _ 0 j s1 h1 hk
     have hh := h _ (upT_pre (fun s n => visT_pre f s n) _ _ (List.mem_append_right _ hd))
     rw [e2, holdsT_cont] at hh
     obtain ⟨-, s3, h3, h4⟩ := hh
     rw [h2] at h3; cases h3
     exact h4
    rw [q1, q2]
    exact upT_same (visT_same hs hu hp f) _ _ (fun v hv => par_has hp (hn.objT hs).2.1 hv) h
theorem getD_map {l m : List Sl} (h : l.map mslot = m.map mslot) (k : Nat) : mslot (l.getD k default) = mslot (m.getD k default) := by
 have e : ∀ l : List Sl, mslot (l.getD k default) = (l.map mslot).getD k default := fun l => by
  simp only [List.getD_eq_getElem?_getD, List.getElem?_map]
  cases l[k]? with
  | none => rfl
  | some x => rfl
 rw [e l, e m, h]
theorem getD_meth {w : Wd} (hp : Parts w) {n : Int} (hs : Sorted w) (h : Has w n) (k : Nat) : ((objT w n).1.sl.getD k default).v.k = 5 -> ((objT w n).1.sl.getD k default).kd = 1 := by
 intro hk
 by_cases hl : k < (objT w n).1.sl.length
 ·exact slot_meth (object_slots (hp.objs _ (h.objT hs).2.1) _ (getD_mem hl)) hk
 ·rw [List.getD_eq_getElem?_getD, List.getElem?_eq_none (by omega)] at hk
  exact absurd (show (0 : Int) = 5 from hk) (by decide)
theorem targT_same (hs : Sorted w) (hu : Sorted u) (hp : Parts w) (hpu : Parts u) {s : St} (ho : OutD w s) (h : HoldsAll u s) : targT u s.2.2 = targT w s.2.2 := by
 obtain ⟨sf, D, O⟩ := s
 match O, ho with
 | [], _ => rfl
 | [x], ho =>
  obtain ⟨h1, h2⟩ := ho x (List.mem_singleton.2 rfl)
  obtain ⟨hun, e1, e2, e3⟩ := whole_same hs hu h1 (h _ h2)
  exact ofF_map (getD_meth hpu hu hun _) (getD_meth hp hs h1 _) (getD_map (congrArg Mp.sl e3) _) x
 | x :: y :: l, _ => rfl
theorem fromT_same (hs : Sorted w) (hu : Sorted u) (hp : Parts w) (hpu : Parts u) {f : Nat} {n : Int} (hn : Has w n) (h : HoldsAll u (visT w sel f (sf0, [], []) n)) : fromT u sel f sf0 [] n = fromT w sel f sf0 [] n /\ visT u sel f (sf0, [], []) n = visT w sel f (sf0, [], []) n := by
 have e := visT_same (sel := sel) hs hu hp f (sf0, [], []) n hn h
 refine ⟨?_, e⟩
 unfold fromT
 rw [e]
 exact targT_same hs hu hp hpu (visT_outd hs hp f _ n hn fun x hx => by cases hx) h
structure Begins (w : Wd) (maps : List Mp) (y : Ty) : Prop where
 st : y.k = 1 -> Has w (startF y.v)
 mp : y.k = 2 -> ∀ v ∈ parL (maps.getD y.n.toNat default).sl, Has w (startF v)
theorem runT_same (hs : Sorted w) (hu : Sorted u) (hp : Parts w) (hpu : Parts u) {f : Nat} {maps : List Mp} {y : Ty} (hb : Begins w maps y) (h : ∀ d ∈ (runT w f maps y sel).2, holdsT u d = true) : runT u f maps y sel = runT w f maps y sel := by
 unfold runT at h ⊢
 cases h0 : y.k == 0 with
 | true => rfl
 | false =>
 rw [h0, cond_false] at h
 rw [cond_false, cond_false]
 cases h1 : y.k == 1 with
 | true =>
  rw [h1, cond_true] at h
  rw [cond_true, cond_true]
  obtain ⟨e1, e2⟩ := fromT_same hs hu hp hpu (hb.st (by simpa using h1)) h
  rw [e1, e2]
 | false =>
 rw [h1, cond_false] at h
 rw [cond_false, cond_false]
 cases h2 : y.k == 2 with
 | true =>
  rw [h2, cond_true] at h
  rw [cond_true, cond_true]
  have hm := hb.mp (by simpa using h2)
  generalize maps.getD y.n.toNat default = m at h hm
  unfold shapT at h ⊢
  cases h3 : decide ((matchF m.sl sel).1 >= 0) with
  | true => rfl
  | false =>
   rw [h3, cond_false] at h
   rw [cond_false, cond_false]
   cases h4 : m.sl.any shapA with
   | true => rfl
   | false =>
    rw [h4, cond_false] at h
    rw [cond_false, cond_false]
    have h : HoldsAll u (upT w sel f (parL m.sl) (sf0, [], [])) := h
    have e := upT_same (u := u) (visT_same (sel := sel) hs hu hp f) (parL m.sl) (sf0, [], []) hm h
    rw [e, targT_same hs hu hp hpu (upT_keep hp (visT_outd hs hp f) _ _ hm fun x hx => by cases hx) h]
 | false =>
 rw [h2, cond_false] at h
 rw [cond_false, cond_false]
 cases h3 : y.k == 3 with
 | true =>
  rw [h3, cond_true] at h
  rw [cond_true, cond_true]
  obtain ⟨e1, e2⟩ := fromT_same hs hu hp hpu (root_has hp).1 h
  rw [e1, e2]
 | false =>
 rw [h3, cond_false] at h
 rw [cond_false, cond_false]
 obtain ⟨e1, e2⟩ := fromT_same hs hu hp hpu (root_has hp).2 h
 rw [e1, e2]
theorem runT_holds (hs : Sorted w) (hp : Parts w) {f : Nat} {maps : List Mp} {y : Ty} (hb : Begins w maps y) : ∀ d ∈ (runT w f maps y sel).2, holdsT w d = true := by
 unfold runT
 have none : HoldsAll w (sf0, [], []) := fun d hd => by cases hd
 cases y.k == 0 with
 | true => exact fun d hd => by cases hd
 | false =>
 cases h1 : y.k == 1 with
 | true => exact visT_holds hs hp f _ _ (hb.st (by simpa using h1)) none
 | false =>
 cases h2 : y.k == 2 with
 | true =>
  have hm := hb.mp (by simpa using h2)
  simp only [cond_false, cond_true]
  generalize maps.getD y.n.toNat default = m at hm
  unfold shapT
  cases decide ((matchF m.sl sel).1 >= 0) with
  | true => exact fun d hd => by cases hd
  | false =>
   cases m.sl.any shapA with
   | true => exact fun d hd => by cases hd
   | false => exact upT_keep hp (visT_holds hs hp f) _ _ hm none
 | false =>
 cases y.k == 3 with
 | true => exact visT_holds hs hp f _ _ (root_has hp).1 none
 | false => exact visT_holds hs hp f _ _ (root_has hp).2 none
end
theorem Appd.has {w v : Wd} {ch : Ch} (h : Appd w v ch) (hs : Sorted w) {n : Int} (hn : Has w n) : Has v n := by
 obtain ⟨o, ho, rfl⟩ := hn
 by_cases e : o.oid = ch.oid
 ·rcases h.objs with ⟨x, hf, hx, -, -, -, -, rfl⟩ | ⟨hn, rfl⟩
  ·refine ⟨x, ?_, by rw [hx, e]⟩
   have hi := (objI_at hs hf).2
   exact List.mem_iff_getElem.2 ⟨chI w ch, by show chI w ch < (w.objs.set (chI w ch) x).length; rw [List.length_set]; exact hi, by show (w.objs.set (chI w ch) x)[chI w ch]'_ = x; rw [List.getElem_set_self]⟩
  ·exact ⟨o, List.mem_append_left _ ho, rfl⟩
 ·exact ⟨o, (h.mem hs e).1 ho, rfl⟩
section
variable {w v : Wd} {d s : PV}
structure Grows (w v : Wd) : Prop where
 has : ∀ n, (objT w n).2 = true -> (objT v n).2 = true
 cds : v.cds = w.cds
theorem Appd.grows {ch : Ch} (h : Appd w v ch) (hs : Sorted w) : Grows w v :=
 ⟨fun n hn => ((h.has hs (has_of_objT hs.2 hn)).objT (valid_sorted h.ok h.valid).1).1, h.cds⟩
theorem Grows.hasT (h : Grows w v) {x : Vl} (hx : hasT w d s x = true) : hasT v d s x = true := by
 unfold Go.Proofs.YtcknpohghmkbmaaGreatDoor.hasT at hx ⊢
 have h1 := bif_nor hx
 rw [h1.1, cond_false]
 cases hk : x.k != 4 with
 | true => rfl
 | false =>
  have h2 := h1.2
  rw [hk, cond_false] at h2
  exact h.has _ h2
theorem Grows.slotT (h : Grows w v) {x : Sl} (hx : slotT w d s x = true) : slotT v d s x = true := by
 unfold Go.Proofs.YtcknpohghmkbmaaGreatDoor.slotT at hx ⊢
 rw [h.cds]
 have h1 := bif_nor hx
 have h2 := bif_nor h1.2
 rw [h1.1, cond_false, h2.1, cond_false]
 have h3 := h2.2
 cases ha : assignB x with
 | true => rw [ha] at h3; exact h3
 | false =>
  rw [ha, cond_false] at h3
  rw [cond_false]
  cases hk : x.v.k != 5 with
  | true =>
   rw [hk, cond_true] at h3
   have h4 := bif_and h3
   rw [cond_true, h.hasT h4.1]; exact h4.2
  | false => rw [hk] at h3; exact h3
theorem Grows.slotsT (h : Grows w v) {m : Mp} : ∀ (l : List Sl) (i : Nat), slotsT w d s m l i = true -> slotsT v d s m l i = true
 | [], _, _ => rfl
 | x :: t, i, hx => by
  unfold Go.Proofs.YtcknpohghmkbmaaGreatDoor.slotsT at hx ⊢
  have h1 := bif_nor hx
  have h2 := bif_nor h1.2
  rw [h.slotT (x := x) (by simpa using h1.1), h2.1]
  exact h.slotsT t _ h2.2
theorem Grows.mapT (h : Grows w v) {m : Mp} (hx : mapT w d s m = true) : mapT v d s m = true := by
 unfold Go.Proofs.YtcknpohghmkbmaaGreatDoor.mapT at hx ⊢
 have h1 := bif_nor hx
 have h2 := bif_nor h1.2
 have h3 := bif_nor h2.2
 rw [h1.1, h2.1, h3.1]
 exact h.slotsT _ _ h3.2
theorem Grows.mapsT (h : Grows w v) {maps : List Mp} : ∀ (l : List Mp) (i : Nat), mapsT w d s maps l i = true -> mapsT v d s maps l i = true
 | [], _, _ => rfl
 | x :: t, i, hx => by
  unfold Go.Proofs.YtcknpohghmkbmaaGreatDoor.mapsT at hx ⊢
  have h1 := bif_nor hx
  have h2 := bif_nor h1.2
  rw [h.mapT (m := x) (by simpa using h1.1), h2.1]
  exact h.mapsT t _ h2.2
theorem Grows.typeT (h : Grows w v) {y : Ty} {n : Int} (hx : typeT w d s y n = true) : typeT v d s y n = true := by
 unfold Go.Proofs.YtcknpohghmkbmaaGreatDoor.typeT at hx ⊢
 cases h1 : y.k == 1 with
 | true =>
  rw [h1, cond_true] at hx
  have h2 := bif_and hx
  rw [cond_true, h2.1, cond_true]; exact h.hasT h2.2
 | false => rw [h1] at hx; exact hx
theorem Grows.factsT (h : Grows w v) {maps : List Mp} {types : List Ty} (hx : factsT w d s maps types = true) : factsT v d s maps types = true := by
 unfold Go.Proofs.YtcknpohghmkbmaaGreatDoor.factsT at hx ⊢
 have h1 := bif_nor hx
 have h2 := bif_nor h1.2
 rw [h1.1, h.mapsT maps 0 (by simpa using h2.1)]
 have h3 := h2.2
 simp only [Bool.not_true, cond_false, Bool.not_eq_true', List.any_eq_false, ntypeT] at h3 ⊢
 intro y hy
 have := h3 y hy
 rw [h.typeT (by simpa using this)]
 simp
theorem mapsT_all {maps : List Mp} : ∀ (l : List Mp) (i : Nat), mapsT w d s maps l i = true -> ∀ m ∈ l, mapT w d s m = true
 | [], _, _, m, hm => by cases hm
 | x :: t, i, hx, m, hm => by
  unfold mapsT at hx
  have h1 := bif_nor hx
  rcases List.mem_cons.1 hm with rfl | hm
  ·simpa using h1.1
  ·exact mapsT_all t _ (bif_nor h1.2).2 m hm
theorem slotsT_all {m : Mp} : ∀ (l : List Sl) (i : Nat), slotsT w d s m l i = true -> ∀ x ∈ l, slotT w d s x = true
 | [], _, _, x, hx => by cases hx
 | y :: t, i, h, x, hx => by
  unfold slotsT at h
  have h1 := bif_nor h
  rcases List.mem_cons.1 hx with rfl | hx
  ·simpa using h1.1
  ·exact slotsT_all t _ (bif_nor h1.2).2 x hx
theorem hasT_ref (hl : w.objs.length <= 1000000000) {x : Vl} (h : hasT w d s x = true) (hk : x.k = 4) : Has w x.n := by
 unfold hasT at h
 have h1 := (bif_nor h).2
 rw [show (x.k != 4) = false by simp [hk], cond_false] at h1
 exact has_of_objT hl h1
theorem slotT_start (hp : Parts w) (hl : w.objs.length <= 1000000000) {x : Sl} (h : slotT w d s x = true) (hx : isPar x = true) : Has w (startF x.v) := by
 unfold slotT at h
 have h3 := (bif_nor (bif_nor h).2).2
 cases ha : assignB x with
 | true =>
  rw [ha, cond_true] at h3
  have h4 := (bif_and h3).1
  refine start_has hp fun hk => ?_
  rw [hk] at h4; cases h4
 | false =>
  rw [ha, cond_false] at h3
  cases hk : x.v.k != 5 with
  | true =>
   rw [hk, cond_true] at h3
   exact start_has hp fun e => hasT_ref hl (bif_and h3).1 e
  | false =>
   rw [hk, cond_false] at h3
   have h4 := (bif_and h3).1
   have h5 : x.kd = 1 := by simpa using h4
   unfold isPar at hx
   rw [h5] at hx; cases hx
theorem facts_begin (hp : Parts w) (hl : w.objs.length <= 1000000000) {maps : List Mp} {y : Ty} (h : factsT w d s maps [y] = true) : Begins w maps y := by
 unfold factsT at h
 have h1 := (bif_nor h).2
 have h2 := bif_nor h1
 have hm := mapsT_all maps 0 (by simpa using h2.1)
 have ht : typeT w d s y (maps.length : Int) = true := by simpa [ntypeT] using h2.2
 refine ⟨fun hk => start_has hp fun e => ?_, fun hk x hx => ?_⟩
 ·unfold typeT at ht
  rw [show (y.k == 1) = true by simp [hk], cond_true] at ht
  exact hasT_ref hl (bif_and ht).2 e
 ·unfold typeT at ht
  rw [show (y.k == 1) = false by simp [hk], cond_false, show (y.k == 2) = true by simp [hk], cond_true] at ht
  have h3 := bif_and (bif_and ht).2
  have q1 := of_decide_eq_true h3.1
  have q2 := of_decide_eq_true h3.2
  have hmm := hm _ (getD_mem (p := y.n.toNat) (l := maps) (by omega))
  unfold mapT at hmm
  have h5 := slotsT_all _ _ (bif_nor (bif_nor (bif_nor hmm).2).2).2
  obtain ⟨z, hz, hpz, rfl⟩ := par_mem hx
  exact slotT_start hp hl (h5 z hz) hpz
end
theorem flat_set (f : Ob -> List Int) : ∀ (l : List Ob) (i : Nat) (x : Ob), ((l.set i x).flatMap f).length <= (l.flatMap f).length + (f x).length
 | [], i, x => by simp
 | y :: t, 0, x => by simp only [List.set_cons_zero, List.flatMap_cons, List.length_append]; omega
 | y :: t, i + 1, x => by
  have := flat_set f t i x
  simp only [List.set_cons_succ, List.flatMap_cons, List.length_append]; omega
theorem Appd.objU_len {w v : Wd} {ch : Ch} (h : Appd w v ch) (hs : smallT w = true) : (objU v).length <= 1240 := by
 have h1 := Go.Proofs.YtcknpohghmkbmaaGreatDoor.objU_len hs
 rcases h.objs with ⟨x, hf, hx, -, -, -, -, e⟩ | ⟨hn, e⟩
 ·by_cases hm : x ∈ v.objs
  ·have h2 := (valid_parts h.valid).objs x hm
   unfold objectW at h2
   have h3 := of_decide_eq_false (bif_nor (bif_nor (bif_nor h2).2).2).1
   have h4 := parL_len x.sl
   have h5 := flat_set (fun o : Ob => (parL o.sl).map fun v => startF v) w.objs (chI w ch) x
   rw [List.length_map] at h5
   rw [e]
   unfold objU at h1 ⊢
   show ((w.objs.set (chI w ch) x).flatMap _).length <= _
   omega
  ·have : v.objs = w.objs := by
    rw [e]
    show w.objs.set (chI w ch) x = w.objs
    rcases Nat.lt_or_ge (chI w ch) w.objs.length with hlt | hge
    ·refine absurd ?_ hm
     rw [e]
     exact List.mem_iff_getElem.2 ⟨chI w ch, by show _ < (w.objs.set (chI w ch) x).length; rw [List.length_set]; exact hlt, by show (w.objs.set (chI w ch) x)[chI w ch]'_ = x; rw [List.getElem_set_self]⟩
    ·exact List.set_eq_of_length_le hge
   unfold objU at h1 ⊢
   rw [this]; omega
 ·rw [e]
  unfold objU at h1 ⊢
  show ((w.objs ++ [newO ch.oid]).flatMap _).length <= _
  rw [List.flatMap_append, List.length_append]
  show (w.objs.flatMap fun o => (parL o.sl).map fun v => startF v).length + 0 <= 1240
  omega
theorem Appd.more_len {w v : Wd} {ch : Ch} (h : Appd w v ch) {maps : List Mp} (y : Ty) (hs : smallT w = true) (h2 : fewT maps = true) : (moreU v maps y).length < 4000 := by
 have := h.objU_len hs; have := mapU_len h2
 simp only [moreU, List.length_cons, List.length_append]; omega
theorem Appd.more_ok {w v : Wd} {ch : Ch} (ha : Appd w v ch) {maps : List Mp} (y : Ty) (h : smallT w = true) (h2 : fewT maps = true) (hn : ∀ o ∈ w.objs, ∀ s ∈ o.sl, s.nm.length <= 140737488355328) (hc : ch.slot.nm.length <= 140737488355328) (hm : ∀ m ∈ maps, ∀ s ∈ m.sl, s.nm.length <= 140737488355328) : LkOk v maps y (moreU v maps y) where
 clo := {
  clo := fun n _ x hx => by
   obtain ⟨s, hs, hp, rfl⟩ := par_mem hx
   refine objT_mem (w := v) (n := n) (P := fun s => isPar s = true -> startF s.v ∈ moreU v maps y) (fun o ho s hs hp => ?_) s hs hp
   refine List.mem_cons_of_mem _ (List.mem_cons_of_mem _ (List.mem_cons_of_mem _ (List.mem_append_left _ ?_)))
   exact List.mem_flatMap.2 ⟨o, ho, List.mem_map.2 ⟨s.v, List.mem_map.2 ⟨s, List.mem_filter.2 ⟨hs, hp⟩, rfl⟩, rfl⟩⟩
  nm := fun n _ s hs => objT_mem (P := fun s => s.nm.length <= 140737488355328) (fun o ho s hs => by
   rcases ha.nms o ho s hs with ⟨x, hx, t, ht, e⟩ | e
   ·rw [e]; exact hn x hx t ht
   ·rw [e]; exact hc) s hs
  many := by have := ha.more_len y h h2; omega }
 i5 := List.mem_cons_self ..
 i6 := List.mem_cons_of_mem _ (List.mem_cons_self ..)
 st := List.mem_cons_of_mem _ (List.mem_cons_of_mem _ (List.mem_cons_self ..))
 mp := fun m hmm => by
  obtain ⟨q1, q2, -⟩ := (Go.Proofs.YtcknpohghmkbmaaGreatDoor.more_ok y h h2 hn hm).mp m hmm
  refine ⟨q1, q2, fun x hx => ?_⟩
  refine List.mem_cons_of_mem _ (List.mem_cons_of_mem _ (List.mem_cons_of_mem _ (List.mem_append_right _ ?_)))
  exact List.mem_flatMap.2 ⟨m, hmm, List.mem_map.2 ⟨x, hx, rfl⟩⟩
end Go.Proofs.YtcknpohghmkbmaaGreatDoor
