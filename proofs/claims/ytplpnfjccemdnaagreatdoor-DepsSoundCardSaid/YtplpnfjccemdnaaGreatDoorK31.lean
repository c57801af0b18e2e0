import Derived.Test.YtplpnfjccemdnaaGreatDoorK30
set_option linter.unusedVariables false
set_option linter.unusedSimpArgs false
/- The texts S10 of the proof, laid one behind the other. -/
namespace Go.Proofs.YtplpnfjccemdnaaGreatDoor
open Go.RowKit
theorem allHoldG (w : Wd) (hw : w.Ok) (l : List Dp) (h0 : wcheckW w = 0) : Spec Tryz.prog 10 [.agg w.pv, row 8 Dp.pv l] (.sb (l.all (holdsT w))) := by
 refine Spec.fact (by kernel_rfl) 1 rfl fun hf => ?_
 have hl : l.length <= 9223372036854775807 := hf.1
 refine Spec.startL (by kernel_rfl) Tryz.func10 rfl rfl fun w0 L hst => ?_
 refine M.loopL (ι := {i : Nat // i <= l.length /\ l.all (holdsT w) = (l.drop i).all (holdsT w)}) (fun i => [(1, row 8 Dp.pv l), (2, .ref 0 0), (5, I i.1)]) (fun _ => [w.pv]) (fun i => l.length - i.1) ⟨0, Nat.zero_le _, rfl⟩ [] (by kernel_rfl) trivial (by kernel_rfl) (by kernel_rfl) fun ⟨i, hi, hq⟩ L ih => ?_
 refine M.test (decide ((i : Int) < (l.length : Int))) (by kernel_rfl) (fun h1 => ?_) (fun h1 => ?_)
 ·have hlt : i < l.length := by simpa using h1
  rw [List.drop_eq_getElem_cons hlt, List.all_cons] at hq
  have hg : l.getD (i : Int).toNat default = l[i] := getD_nat hlt
  refine M.clp [0 <= (i : Int) /\ (i : Int) < (l.length : Int)] ⟨by omega, trivial⟩ (Holds_spec w hw (l.getD (i : Int).toNat default)) ?_
  have e : HoldsW w (l.getD (i : Int).toNat default) = (holdsT w l[i], 0) := by
   unfold HoldsW; rw [h0, hg]; rfl
  rw [e]
  refine M.no (b := (0 : Int) != 0) rfl (by kernel_rfl) ?_
  refine M.test (!holdsT w l[i]) (by kernel_rfl) (fun h2 => M.retb false (by kernel_rfl) (by rw [hq, show holdsT w l[i] = false by simpa using h2]; rfl)) (fun h2 => ?_)
  refine M.ren [In64 ((i : Int) + 1)] [0] hst (by kernel_rfl) ⟨⟨by omega, by omega⟩, trivial⟩ (by kernel_rfl) (by kernel_rfl) rfl fun L' => ?_
  exact M.back [] (ih ⟨i + 1, hlt, by rw [hq, show holdsT w l[i] = true by simpa using h2]; rfl⟩ L' (by show l.length - (i + 1) < l.length - i; omega)) (by kernel_rfl) trivial (by kernel_rfl) (by kernel_rfl) (by kernel_rfl) (by kernel_rfl)
 ·have hd : l.drop i = [] := List.drop_eq_nil_of_le (by have := of_decide_eq_false h1; omega)
  rw [hd] at hq
  exact M.retb true (by kernel_rfl) (by rw [hq]; rfl)
theorem isC_parts {u : Wd} {maps : List Mp} {y : Ty} {v : Vl} (h : (isC u maps y v).2 = 0) : wcheckW u = 0 /\ factsT u nilS noSeen maps [y] = true /\ hasT u nilS noSeen v = true /\ (isC u maps y v).1 = isA u maps y v := by
 unfold isC at h ⊢
 rcases knownE_or u maps [y] with ⟨h0, h1, h2⟩ | h1
 ·rw [show (knownE u maps [y] != 0) = false by rw [h0]; rfl, cond_false] at h ⊢
  cases h3 : hasT u nilS noSeen v with
  | false => rw [h3] at h; exact absurd (show (1 : Int) = 0 from h) (by decide)
  | true => exact ⟨h1, h2, rfl, rfl⟩
 ·rw [show (knownE u maps [y] != 0) = true by simp [h1], cond_true] at h
  exact absurd h h1
theorem hasT_parts {u : Wd} {v : Vl} (h : hasT u nilS noSeen v = true) : valueC v = 0 /\ (v.k = 4 -> (objT u v.n).2 = true) /\ (gstW u v).2 = true := by
 unfold hasT at h
 have h1 := (bif_nor h).1
 have h2 := (bif_nor h).2
 have hv : valueC v = 0 := by simpa using h1
 refine ⟨hv, fun hk => ?_, ?_⟩
 ·rw [show (v.k != 4) = false by simp [hk], cond_false] at h2; exact h2
 ·unfold gstW
  rw [h1, cond_false]
  by_cases hk : v.k = 4
  ·rw [show (v.k == 4) = true by simp [hk], cond_true]
   rw [show (v.k != 4) = false by simp [hk], cond_false] at h2; exact h2
  ·rw [show (v.k == 4) = false by simp [hk], cond_false]
   cases v.k == 3 <;> rfl
theorem has_of {u : Wd} (hl : u.objs.length <= 1000000000) {n : Int} (h : (objT u n).2 = true) : Has u n := by
 cases hf : objF u n with
 | true => exact ⟨_, (objT_true hl hf).1, (objT_true hl hf).2.1⟩
 | false => unfold objT at h; rw [hf] at h; cases h
theorem isT_of {u : Wd} (hl : u.objs.length <= 1000000000) {maps : List Mp} {y : Ty} {v : Vl} (h : hasT u nilS noSeen v = true) (h2 : isA u maps y v = true) : IsT u maps y v := by
 obtain ⟨a1, a2, -⟩ := hasT_parts h
 unfold isA at h2
 refine ⟨fun k => ?_, fun k => ?_, fun k => ?_, fun k => ?_⟩
 ·rw [k] at h2
  exact vlEq_iff.1 h2
 ·rw [k] at h2
  have h2 : (bif v.k == 4 then mpEq (mapOfF (objT u v.n).1) (maps.getD y.n.toNat default) else false) = true := h2
  have h3 := bif_and h2
  have hk : v.k = 4 := by simpa using h3.1
  exact ⟨hk, has_of hl (a2 hk), (mpEq_iff.1 h3.2).symm⟩
 ·rw [k] at h2
  have h2 : (v.k == 1) = true := h2
  simpa using h2
 ·rw [k] at h2
  have h2 : (v.k == 3) = true := h2
  simpa using h2
theorem vis_outs (u : Wd) (sel : List UInt8) (f : Nat) (n : Int) : (visL u sel f s0L n).2.2 = (visT u sel f (sf0, [], []) n).2.2 := (visL_sim f s0L (sf0, [], []) n ⟨fun _ => rfl, rfl⟩).outs
theorem more_v {u : Wd} (v : Vl) (h : smallT u = true) (hn : ∀ o ∈ u.objs, ∀ s ∈ o.sl, s.nm.length <= 140737488355328) : Clo u (moreU u [] ⟨1, 0, v⟩) /\ startF v ∈ moreU u [] ⟨1, 0, v⟩ /\ (moreU u [] ⟨1, 0, v⟩).length + 1 < 4000 := by
 have hk := more_ok (w := u) (maps := []) ⟨1, 0, v⟩ h rfl hn (fun m hm => by cases hm)
 refine ⟨hk.clo, hk.st, ?_⟩
 have := objU_len h
 have e : mapU [] = [] := rfl
 simp only [moreU, e, List.length_cons, List.length_append, List.length_nil]
 omega
theorem DepsSound_spec (w u : Wd) (maps : List Mp) (t : Ty) (sel : List UInt8) (v : Vl) (hbw : Bulk w) (hbu : Bulk u) (hww : smallT w = true -> w.Ok) (hwu : smallT u = true -> u.Ok) (hm1 : maps.length <= 140737488355328) (hm2 : ∀ m ∈ maps, m.sl.length <= 140737488355328) (hf : FactsOk maps [t])
  (hnw : ∀ o ∈ w.objs, ∀ s ∈ o.sl, s.nm.length <= 140737488355328) (hnu : ∀ o ∈ u.objs, ∀ s ∈ o.sl, s.nm.length <= 140737488355328) (hm : ∀ m ∈ maps, ∀ s ∈ m.sl, s.nm.length <= 140737488355328) (hv : In64 v.n) :
  Spec Tryz.prog 3 [.agg w.pv, .agg u.pv, row 2 Mp.pv maps, .agg t.pv, S sel, .agg v.pv] (.sb true) := by
 refine Spec.startL (by kernel_rfl) Tryz.func3 rfl rfl fun w0 L hst => ?_
 refine M.cl awake_spec ?_
 refine M.cl (small_spec w hbw) ?_
 refine M.test (!smallT w) (by kernel_rfl) (fun hs => M.ret (.sb true) (by kernel_rfl) rfl) (fun hs => ?_)
 have hsw : smallT w = true := by simpa using hs
 have hok := hww hsw
 refine M.cl (small_spec u hbu) ?_
 refine M.test (!smallT u) (by kernel_rfl) (fun hs => M.ret (.sb true) (by kernel_rfl) rfl) (fun hs => ?_)
 have hsu : smallT u = true := by simpa using hs
 have huk := hwu hsu
 refine M.cl (few_spec maps hm1 hm2) ?_
 refine M.test (!fewT maps) (by kernel_rfl) (fun hs2 => M.ret (.sb true) (by kernel_rfl) rfl) (fun hs2 => ?_)
 have hs2 : fewT maps = true := by simpa using hs2
 refine M.test (decide ((sel.length : Int) > 300)) (by kernel_rfl) (fun hs3 => M.ret (.sb true) (by kernel_rfl) rfl) (fun hs3 => ?_)
 have hsel : sel.length <= 1000000000 := by have := of_decide_eq_false hs3; omega
 refine M.cl (Look_spec hok maps t sel hf 4000 fun _ _ => ⟨more_ok t hsw hs2 hnw hm, moreU_len t hsw hs2⟩) ?_
 refine M.cl (Is_spec huk maps t v hf hv) ?_
 have hlp := look_parts (w := w) (f := 4000) (maps := maps) (y := t) (sel := sel)
 have hip := isC_parts (u := u) (maps := maps) (y := t) (v := v)
 generalize lookD w 4000 maps t sel = A at hlp ⊢
 generalize isC u maps t v = B at hip ⊢
 refine M.test (A.2 != 0) (by kernel_rfl) (fun h1 => M.ret (.sb true) (by kernel_rfl) rfl) (fun h1 => ?_)
 refine M.test (B.2 != 0) (by kernel_rfl) (fun h2 => M.ret (.sb true) (by kernel_rfl) rfl) (fun h2 => ?_)
 refine M.test (!B.1) (by kernel_rfl) (fun h3 => M.ret (.sb true) (by kernel_rfl) rfl) (fun h3 => ?_)
 refine M.test (A.1.1.kind == 0) (by kernel_rfl) (fun h4 => M.ret (.sb true) (by kernel_rfl) rfl) (fun h4 => ?_)
 obtain ⟨q1, q2, q3, q4⟩ := hlp (by simpa using h1)
 obtain ⟨p1, p2, p3, p4⟩ := hip (by simpa using h2)
 refine M.cl (allHoldG u huk A.1.2 p1) ?_
 refine M.test (!A.1.2.all (holdsT u)) (by kernel_rfl) (fun h5 => M.ret (.sb true) (by kernel_rfl) rfl) (fun h5 => ?_)
 have hall : ∀ d ∈ A.1.2, holdsT u d = true := by
  have : A.1.2.all (holdsT u) = true := by simpa using h5
  exact fun d hd => List.all_eq_true.1 this d hd
 have hso := (valid_sorted hok q1).1
 have hsu' := (valid_sorted huk p1).1
 have hpa := valid_parts q1
 have hpu := valid_parts p1
 have hbe := facts_begin hpa hok.nobjs q2
 obtain ⟨c1, c2, c3⟩ := more_v v hsu hnu
 obtain ⟨g1, g2, g3⟩ := hasT_parts p3
 have hkd : t.k = 0 \/ t.k = 1 \/ t.k = 2 \/ t.k = 3 \/ t.k = 4 := by
  rcases kinds_of q2 with k | k | k | k | k
  ·exact .inl k
  ·exact .inr (.inl k)
  ·exact .inr (.inr (.inl k.1))
  ·exact .inr (.inr (.inr (.inl k)))
  ·exact .inr (.inr (.inr (.inr k)))
 have hA : A.1 = runT w 4000 maps t sel := by rw [q4]
 have hsound := sound hso hsu' hpa hpu huk c1 c3 (sel := sel) (maps := maps) (y := t) hkd hbe (isT_of huk.nobjs p3 (by rw [<- p4]; simpa using h3)) c2 (by rw [<- hA]; simpa using h4) (by rw [<- hA]; exact hall)
 rw [<- hA, <- vis_outs] at hsound
 refine M.cl (llook_spec huk p1 v sel hv hsel g3 g1 q3 c1 c2 4000 (by omega) (by omega)) ?_
 refine M.yes (b := true) rfl (by kernel_rfl) ?_
 refine M.yes (b := (0 : Int) == 0) rfl (by kernel_rfl) ?_
 refine M.cl (fits_spec u huk p1 A.1.1 _ v hsound) ?_
 exact M.ret (.sb true) (by kernel_rfl) rfl
end Go.Proofs.YtplpnfjccemdnaaGreatDoor
