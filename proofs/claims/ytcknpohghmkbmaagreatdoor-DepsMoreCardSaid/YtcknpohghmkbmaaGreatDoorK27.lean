import Derived.Test.YtcknpohghmkbmaaGreatDoorK26
import Derived.Test.YtcknpohghmkbmaaGreatDoorK13
set_option linter.unusedVariables false
set_option linter.unusedSimpArgs false
/- The texts D9 D10 V32 of the proof, laid one behind the other. -/
namespace Go.Proofs.YtcknpohghmkbmaaGreatDoor
open Go.RowKit
/-- What was found is there. -/
def OutOk (w : Wd) (O : List Fo) : Prop := ∀ x ∈ O, 0 ≤ x.slot ∧ x.slot < ((objT w x.holder).1.sl.length : Int)
theorem fstI_lt {α : Type} (p : α → Bool) (l : List α) : fstI p l < (l.length : Int) := by
  unfold fstI
  split
  · rename_i i hi
    have := (List.findIdx?_eq_some_iff_findIdx_eq.1 hi).1
    omega
  · omega
theorem matchF_lt (l : List Sl) (sel : List UInt8) : (matchF l sel).1 < (l.length : Int) := by
  unfold matchF
  cases decide (fstI (fun x => matchA x sel) l ≥ 0) <;> exact fstI_lt _ _
theorem upT_out {w : Wd} {sel : List UInt8} {f : Nat} (hv : ∀ s n, OutOk w s.2.2 → OutOk w (visT w sel f s n).2.2) : ∀ (l : List Vl) (s : St), OutOk w s.2.2 → OutOk w (upT w sel f l s).2.2
  | [], s, h => h
  | v :: l, s, h => upT_out hv l _ (hv s _ h)
theorem visT_out {w : Wd} {sel : List UInt8} : ∀ (f : Nat) (s : St) (n : Int), OutOk w s.2.2 → OutOk w (visT w sel f s n).2.2
  | 0, s, n, h => h
  | f + 1, s, n, h => by
    unfold visT
    cases hs : (s.1 (.i n)).getD false with
    | true => exact h
    | false =>
      rw [cond_false]
      cases hd : decide ((matchF (objT w n).1.sl sel).1 ≥ 0) with
      | true =>
        intro x hx
        rcases List.mem_append.1 hx with hx | hx
        · exact h x hx
        · rw [List.mem_singleton] at hx
          subst hx
          exact ⟨of_decide_eq_true hd, matchF_lt _ _⟩
      | false => exact upT_out (visT_out f) _ _ h
def targT (w : Wd) : List Fo → Tg
  | [] => ⟨1, 0, 0, false, 0, ⟨0, 0, []⟩⟩
  | [x] => ofF ((objT w x.holder).1.sl.getD x.slot.toNat default) x
  | _ => ⟨2, 0, 0, false, 0, ⟨0, 0, []⟩⟩
theorem target_spec {w : Wd} (hw : w.Ok) (s : St) (ho : OutOk w s.2.2) : SpecM Tryz.prog 52 4 (trO w s) [.ref 0 0, .os 157 3 3 s.2.2.length] (trO w s) (.agg (targT w s.2.2).pv) := by
  obtain ⟨sf, D, O⟩ := s
  simp only at ho
  refine SpecM.start (by kernel_rfl) Tryz.func52 rfl rfl (Nat.le_of_ble_eq_true rfl) fun w0 L hst => ?_
  cases O with
  | nil =>
    refine M.yes (b := decide ((([] : List Fo).length : Int) = 0)) rfl (by kernel_rfl) ?_
    exact M.retm [] [0, 1, 2, 3] hst rfl (by kernel_rfl) trivial rfl rfl
  | cons x O =>
    refine M.no (b := decide (((x :: O).length : Int) = 0)) (by simp; omega) (by kernel_rfl) ?_
    cases O with
    | nil =>
      refine M.yes (b := decide ((([x] : List Fo).length : Int) = 1)) rfl (by kernel_rfl) ?_
      refine M.callmp [(0 : Int) ≤ 0 ∧ (0 : Int) < (([x] : List Fo).length : Int), (0 : Int).toNat < ([x] : List Fo).length] [0, 1, 2] (tobjM w sf D x.holder hw.nobjs) (by kernel_rfl) ⟨by simp, by simp, trivial⟩ ?_
      refine M.clp [(0 : Int) ≤ 0 ∧ (0 : Int) < (([x] : List Fo).length : Int), (0 : Int).toNat < ([x] : List Fo).length, 0 ≤ x.slot ∧ x.slot < ((objT w x.holder).1.sl.length : Int), (0 : Int) ≤ 0 ∧ (0 : Int) < (([x] : List Fo).length : Int), (0 : Int).toNat < ([x] : List Fo).length] ⟨by simp, by simp, ho x (List.mem_singleton.2 rfl), by simp, by simp, trivial⟩ (of_spec ((objT w x.holder).1.sl.getD x.slot.toNat default) x) ?_
      exact M.retm [] [0, 1, 2, 3] hst rfl (by kernel_rfl) trivial rfl rfl
    | cons y O =>
      refine M.no (b := decide (((x :: y :: O).length : Int) = 1)) (by simp; omega) (by kernel_rfl) ?_
      exact M.retm [] [0, 1, 2, 3] hst rfl (by kernel_rfl) trivial rfl rfl
/-- A lookup begins. -/
theorem visN {w : Wd} (hw : w.Ok) {sel : List UInt8} {U : List Int} (hU : Clo w U) (f : Nat) (sf : Atom → Option Bool) (D : List Dp) (n : Int) (hn : n ∈ U) (hf : unseen U sf < f) (hr : Room U (sf, D, [])) :
    SpecM Tryz.prog 53 2 (trM w sf D) [.ref 0 0, I n, S sel, nilS] (trO w (visT w sel f (sf, D, []) n)) (.os 157 3 3 (visT w sel f (sf, D, []) n).2.2.length) :=
  SpecM.nil (k := 3) (el := fun j => Fo.pv (([] : List Fo).getD j default)) (σ := trM w sf D) (visC hw hU f (sf, D, []) n hn hf hr) (Nat.le_of_ble_eq_true rfl) fun β L W vs hb h => by
    obtain ⟨u0, us, rfl, q0, h⟩ := h.uncons
    obtain ⟨u1, us, rfl, q1, h⟩ := h.uncons
    obtain ⟨u2, us, rfl, q2, h⟩ := h.uncons
    obtain ⟨u3, us, rfl, q3, h⟩ := h.uncons
    exact .cons q0 (.cons q1 (.cons q2 (.cons (nil_os rfl hb _ _ q3) h)))
theorem upN {w : Wd} (hw : w.Ok) {sel : List UInt8} {U : List Int} (hU : Clo w U) (f : Nat) (sf : Atom → Option Bool) (D : List Dp) (l : List Sl) (hl : l.length ≤ 1000000) (hlU : ∀ v ∈ parL l, startF v ∈ U) (hf : unseen U sf < f) (hr : Room U (sf, D, [])) :
    SpecM Tryz.prog 88 2 (trM w sf D) [.ref 0 0, row 5 Sl.pv l, S sel, nilS] (trO w (upT w sel f (parL l) (sf, D, []))) (.os 157 3 3 (upT w sel f (parL l) (sf, D, [])).2.2.length) :=
  SpecM.nil (k := 3) (el := fun j => Fo.pv (([] : List Fo).getD j default)) (σ := trM w sf D) (upC hw hU f (sf, D, []) l hl hlU hf hr) (Nat.le_of_ble_eq_true rfl) fun β L W vs hb h => by
    obtain ⟨u0, us, rfl, q0, h⟩ := h.uncons
    obtain ⟨u1, us, rfl, q1, h⟩ := h.uncons
    obtain ⟨u2, us, rfl, q2, h⟩ := h.uncons
    obtain ⟨u3, us, rfl, q3, h⟩ := h.uncons
    exact .cons q0 (.cons q1 (.cons q2 (.cons (nil_os rfl hb _ _ q3) h)))
end Go.Proofs.YtcknpohghmkbmaaGreatDoor
namespace Go.Proofs.YtcknpohghmkbmaaGreatDoor
open Go.RowKit
abbrev tgZ : Tg := ⟨0, 0, 0, false, 0, ⟨0, 0, []⟩⟩
theorem from_spec (n : Int) : Spec Tryz.prog 57 [I n] (.agg [.fn 91 [.ptr [I n]]]) := by
  refine Spec.start (by kernel_rfl) Tryz.func57 rfl rfl fun w0 L => ?_
  exact M.ret (.agg [.fn 91 [.ptr [I n]]]) (by kernel_rfl) rfl
abbrev predPV : List PV := [.fn 50 [], .fn 51 [], .fn 55 [], .fn 91 [.ptr [I 5]], .fn 91 [.ptr [I 6]]]
theorem predictions_spec : Spec Tryz.prog 30 [] (.agg predPV) := by
  refine Spec.start (by kernel_rfl) Tryz.func30 rfl rfl fun w0 L => ?_
  refine M.cl (from_spec 5) ?_
  refine M.cl (from_spec 6) ?_
  exact M.ret (.agg predPV) (by kernel_rfl) rfl
/-- What is found from an object. -/
def fromT (w : Wd) (sel : List UInt8) (f : Nat) (sf : Atom → Option Bool) (D : List Dp) (n : Int) : Tg := targT w (visT w sel f (sf, D, []) n).2.2
theorem fromR_spec {w : Wd} (hw : w.Ok) {sel : List UInt8} {U : List Int} (hU : Clo w U) (f : Nat) (sf : Atom → Option Bool) (D : List Dp) (maps : List Mp) (y : Ty) (n : Int) (hn : n ∈ U) (hf : unseen U sf < f) (hr : Room U (sf, D, [])) :
    SpecM Tryz.prog 91 2 (trM w sf D) [.ref 0 0, row 2 Mp.pv maps, .agg y.pv, S sel, .ptr [I n]] (trM w (visT w sel f (sf, D, []) n).1 (visT w sel f (sf, D, []) n).2.1) (.agg (fromT w sel f sf D n).pv) := by
  refine SpecM.start (by kernel_rfl) Tryz.func91 rfl rfl (Nat.le_of_ble_eq_true rfl) fun w0 L hst => ?_
  refine M.callm [0, 1, 2] (visN (sel := sel) hw hU f sf D n hn hf hr) (by kernel_rfl) ?_
  refine M.callm [0, 1, 5, 6] (target_spec hw (visT w sel f (sf, D, []) n) (visT_out f (sf, D, []) n (fun x hx => by cases hx))) (by kernel_rfl) ?_
  exact M.retm [] [0, 1, 5] hst rfl (by kernel_rfl) trivial rfl rfl
theorem pred1_spec {w : Wd} (sel : List UInt8) (sf : Atom → Option Bool) (D : List Dp) (maps : List Mp) (y : Ty) :
    SpecM Tryz.prog 50 2 (trM w sf D) [.ref 0 0, row 2 Mp.pv maps, .agg y.pv, S sel] (trM w sf D) (.agg tgZ.pv) := by
  refine SpecM.start (by kernel_rfl) Tryz.func50 rfl rfl (Nat.le_of_ble_eq_true rfl) fun w0 L hst => ?_
  exact M.retm [] [0, 1, 2] hst rfl (by kernel_rfl) trivial rfl rfl
/-- .. for one value. -/
def isT (g : Tg) (v : Vl) : Tg := ⟨g.kind, g.holder, g.slot, bif decide (g.kind ≥ 3) then (bif v.k == 4 then g.holder == v.n else false) else false, g.code, g.v⟩
theorem pred2_spec {w : Wd} (hw : w.Ok) {sel : List UInt8} {U : List Int} (hU : Clo w U) (f : Nat) (sf : Atom → Option Bool) (D : List Dp) (maps : List Mp) (y : Ty) (hn : startF y.v ∈ U) (hf : unseen U sf < f) (hr : Room U (sf, D, [])) :
    SpecM Tryz.prog 51 2 (trM w sf D) [.ref 0 0, row 2 Mp.pv maps, .agg y.pv, S sel] (trM w (visT w sel f (sf, D, []) (startF y.v)).1 (visT w sel f (sf, D, []) (startF y.v)).2.1) (.agg (isT (fromT w sel f sf D (startF y.v)) y.v).pv) := by
  refine SpecM.start (by kernel_rfl) Tryz.func51 rfl rfl (Nat.le_of_ble_eq_true rfl) fun w0 L hst => ?_
  refine M.cl (start_spec y.v) ?_
  refine M.callm [0, 1, 2] (visN (sel := sel) hw hU f sf D (startF y.v) hn hf hr) (by kernel_rfl) ?_
  refine M.callm [0, 1, 5, 6] (target_spec hw (visT w sel f (sf, D, []) (startF y.v)) (visT_out f (sf, D, []) (startF y.v) (fun x hx => by cases hx))) (by kernel_rfl) ?_
  unfold isT
  refine M.test (decide ((fromT w sel f sf D (startF y.v)).kind ≥ 3)) (by kernel_rfl) (fun h1 => ?_) (fun h1 => ?_)
  · rw [h1, cond_true]
    refine M.test (y.v.k == 4) (by kernel_rfl) (fun h2 => ?_) (fun h2 => ?_)
    · rw [h2, cond_true]
      exact M.retm [] [0, 1, 5] hst rfl (by kernel_rfl) trivial rfl rfl
    · rw [h2, cond_false]
      exact M.retm [] [0, 1, 5] hst rfl (by kernel_rfl) trivial rfl rfl
  · rw [h1, cond_false]
    exact M.retm [] [0, 1, 5] hst rfl (by kernel_rfl) trivial rfl rfl
/-- The target for objects with a map, and the tracer then. -/
def shapT (w : Wd) (sel : List UInt8) (f : Nat) (sf : Atom → Option Bool) (D : List Dp) (m : Mp) : Tg × St :=
  bif decide ((matchF m.sl sel).1 ≥ 0) then
    (⟨(ofF (m.sl.getD (matchF m.sl sel).1.toNat default) ⟨0, (matchF m.sl sel).1, (matchF m.sl sel).2⟩).kind, (ofF (m.sl.getD (matchF m.sl sel).1.toNat default) ⟨0, (matchF m.sl sel).1, (matchF m.sl sel).2⟩).holder, (ofF (m.sl.getD (matchF m.sl sel).1.toNat default) ⟨0, (matchF m.sl sel).1, (matchF m.sl sel).2⟩).slot, true, (ofF (m.sl.getD (matchF m.sl sel).1.toNat default) ⟨0, (matchF m.sl sel).1, (matchF m.sl sel).2⟩).code, (ofF (m.sl.getD (matchF m.sl sel).1.toNat default) ⟨0, (matchF m.sl sel).1, (matchF m.sl sel).2⟩).v⟩, (sf, D, []))
  else bif m.sl.any shapA then (tgZ, (sf, D, []))
  else (targT w (upT w sel f (parL m.sl) (sf, D, [])).2.2, upT w sel f (parL m.sl) (sf, D, []))
theorem shap_spec {w : Wd} (hw : w.Ok) {sel : List UInt8} {U : List Int} (hU : Clo w U) (f : Nat) (sf : Atom → Option Bool) (D : List Dp) (m : Mp) (hm : m.sl.length ≤ 1000000) (hnm : ∀ s ∈ m.sl, s.nm.length ≤ 140737488355328) (hmU : ∀ v ∈ parL m.sl, startF v ∈ U) (hf : unseen U sf < f) (hr : Room U (sf, D, [])) :
    SpecM Tryz.prog 56 2 (trM w sf D) [.ref 0 0, .agg m.pv, S sel] (trM w (shapT w sel f sf D m).2.1 (shapT w sel f sf D m).2.2.1) (.agg (shapT w sel f sf D m).1.pv) := by
  unfold shapT
  refine SpecM.start (by kernel_rfl) Tryz.func56 rfl rfl (Nat.le_of_ble_eq_true rfl) fun w0 L hst => ?_
  refine M.cl (match_spec m.sl sel hnm) ?_
  refine M.test (decide ((matchF m.sl sel).1 ≥ 0)) (by kernel_rfl) (fun h1 => ?_) (fun h1 => ?_)
  · rw [h1, cond_true]
    refine M.clp [0 ≤ (matchF m.sl sel).1 ∧ (matchF m.sl sel).1 < (m.sl.length : Int)] ⟨⟨of_decide_eq_true h1, matchF_lt _ _⟩, trivial⟩ (of_spec (m.sl.getD (matchF m.sl sel).1.toNat default) ⟨0, (matchF m.sl sel).1, (matchF m.sl sel).2⟩) ?_
    exact M.retm [] [0, 1, 2] hst rfl (by kernel_rfl) trivial rfl rfl
  · rw [h1, cond_false]
    refine M.cl (has_Slot_0 m.sl 90 shapA fun x _ => shapA_spec x) ?_
    refine M.test (m.sl.any shapA) (by kernel_rfl) (fun h2 => ?_) (fun h2 => ?_)
    · rw [h2, cond_true]
      exact M.retm [] [0, 1, 2] hst rfl (by kernel_rfl) trivial rfl rfl
    · rw [h2, cond_false]
      refine M.callm [0, 1, 2] (upN (sel := sel) hw hU f sf D m.sl hm hmU hf hr) (by kernel_rfl) ?_
      refine M.callm [0, 1, 5, 6] (target_spec hw (upT w sel f (parL m.sl) (sf, D, [])) (upT_out (visT_out f) (parL m.sl) (sf, D, []) (fun x hx => by cases hx))) (by kernel_rfl) ?_
      exact M.retm [] [0, 1, 5] hst rfl (by kernel_rfl) trivial rfl rfl
theorem pred3_spec {w : Wd} (hw : w.Ok) {sel : List UInt8} {U : List Int} (hU : Clo w U) (f : Nat) (sf : Atom → Option Bool) (D : List Dp) (maps : List Mp) (y : Ty) (hy : 0 ≤ y.n ∧ y.n < (maps.length : Int)) (hm : (maps.getD y.n.toNat default).sl.length ≤ 1000000) (hnm : ∀ s ∈ (maps.getD y.n.toNat default).sl, s.nm.length ≤ 140737488355328) (hmU : ∀ v ∈ parL (maps.getD y.n.toNat default).sl, startF v ∈ U) (hf : unseen U sf < f) (hr : Room U (sf, D, [])) :
    SpecM Tryz.prog 55 2 (trM w sf D) [.ref 0 0, row 2 Mp.pv maps, .agg y.pv, S sel] (trM w (shapT w sel f sf D (maps.getD y.n.toNat default)).2.1 (shapT w sel f sf D (maps.getD y.n.toNat default)).2.2.1) (.agg (shapT w sel f sf D (maps.getD y.n.toNat default)).1.pv) := by
  refine SpecM.start (by kernel_rfl) Tryz.func55 rfl rfl (Nat.le_of_ble_eq_true rfl) fun w0 L hst => ?_
  refine M.callmp [0 ≤ y.n ∧ y.n < (maps.length : Int)] [0, 1, 2] (shap_spec (sel := sel) hw hU f sf D (maps.getD y.n.toNat default) hm hnm hmU hf hr) (by kernel_rfl) ⟨hy, trivial⟩ ?_
  exact M.retm [] [0, 1, 5] hst rfl (by kernel_rfl) trivial rfl rfl
end Go.Proofs.YtcknpohghmkbmaaGreatDoor
namespace Go.Proofs.YtcknpohghmkbmaaGreatDoor
open Go.RowKit
section
variable {w0 : W0} {W : World} {L : List Nat} {β : List (Option Nat)} {N : Nat} {P : Program} {all : Array Oper} {ss : List (Nat × List Nat)} {ds : List (Nat × Option Nat)} {E0 E : Env} {σ0 σ : Sig} {Q : Exit → Act → World → Prop} {a : Act}
theorem drawn_fl {ro : Option Nat} {nn n : Nat} (fl : Nat → Bool) (lo : Nat → Option Bool) (hlo : ∀ k b, lo k = some b → fl k = true) (hn : n ≤ all.size) (hcut : n = all.size ∨ cutOk all n = true) (hnd : noDef all = true) (hok : okD all = true) (hS : okS all ss ds = true) {sg0 : Nat → Sig} (gi0 : sg0 n = σ) (gc00 : ∀ j, j < n → (∀ tl, (j, tl) ∉ ss) → sg0 (j + 1) = sg0 j) (gt0 : ∀ j tl, (j, tl) ∈ ss → ∀ x, x ∉ tl → (sg0 (j + 1))[x]? = (sg0 j)[x]?) (hss00 : ∀ q ∈ ss, q.1 < n)
    (hE0 : ∀ t, (∀ k, k < n → dstOf all k ≠ some t) → eqR (lk E0 t) (lk E t))
    (hdata0 : ∀ j, j < n → fl j = false → ∃ o Ej p k, all[j]? = some o ∧ fitsD N o.dst = true ∧ Did P all o Ej (sg0 j) (sg0 (j + 1)) p k ∧ (∀ tl, k = .wr tl → (j, tl) ∈ ss) ∧ (∀ x, k = .rd x → (j, x) ∈ ds) ∧ (∀ tl, (j, tl) ∈ ss → k = .wr tl) ∧
      (∀ t, (∀ k, j ≤ k → k < n → dstOf all k ≠ some t) → eqR (lk Ej t) (lk E t)) ∧
      (∀ t, (∀ k, k < j → dstOf all k ≠ some t) → eqR (lk E0 t) (lk Ej t)) ∧
      (∀ t, o.dst = some t → eqR p (lk E t)))
    (hQ : n = all.size → (∀ k b, lo k = some b → k < n → b = true) → ∀ β a W, Inv w0 L β σ N E a W → Q .normal a W) (hP : n < all.size → ∀ (fuel : Nat) (l : Array Bool) β a W, l.size = all.size → ((List.range all.size).filter fun k => !l.getD k true).length ≤ fuel → (∀ (j : Nat) (o : Oper), all[j]? = some o → l.getD j false = true → ∀ e ∈ o.after, Region.binds .any e = true → l.getD e.on false = true) → (∀ k, k < n → l.getD k false = true) → (∀ k, n ≤ k → l.getD k false = false) → (∀ k b, lo k = some b → l.getD k false = b) → Inv w0 L β σ N E a W → wpAnyIn (Fr ro) nn P .any all Q fuel l a W)
    (hFl : ∀ j o, all[j]? = some o → fl j = true → j < n → ∀ (fuel : Nat) (l : Array Bool) (β : List (Option Nat)) (a : Act) (W : World), l.size = all.size → l.getD j false = false → (∀ k b, lo k = some b → l.getD k false = b) →
      ((List.range all.size).filter fun k => !(l.setIfInBounds j true).getD k true).length ≤ fuel → (∀ (k : Nat) (ok : Oper), all[k]? = some ok → (l.setIfInBounds j true).getD k false = true → ∀ e ∈ ok.after, Region.binds .any e = true → (l.setIfInBounds j true).getD e.on false = true) → (∀ k, n ≤ k → (l.setIfInBounds j true).getD k false = false) →
      Inv w0 L β (sg0 (min (top (si ss) l all.size) n)) N (maskE all E0 E l all.size) a W → wpOpIn (Fr ro) nn P all Q j (fun a' W' => wpAnyIn (Fr ro) nn P .any all Q fuel (l.setIfInBounds j true) a' W') a W) : ∀ (fuel : Nat) (l : Array Bool), l.size = all.size → ((List.range all.size).filter fun k => !l.getD k true).length ≤ fuel →
      (∀ (j : Nat) (o : Oper), all[j]? = some o → l.getD j false = true → ∀ e ∈ o.after, Region.binds .any e = true → l.getD e.on false = true) → (∀ k, n ≤ k → l.getD k false = false) → (∀ k b, lo k = some b → l.getD k false = b) →
      ∀ β a W, Inv w0 L β (sg0 (min (top (si ss) l all.size) n)) N (maskE all E0 E l all.size) a W → wpAnyIn (Fr ro) nn P .any all Q fuel l a W := by
  obtain ⟨sg, hsg⟩ : ∃ sg : Nat → Sig, ∀ x, sg x = sg0 (min x n) := ⟨_, fun _ => rfl⟩
  simp only [← hsg] at hFl ⊢
  have gi : sg all.size = σ := by rw [hsg, Nat.min_eq_right hn, gi0]
  have gc0 : ∀ j, j < all.size → (∀ tl, (j, tl) ∉ ss) → sg (j + 1) = sg j := fun j hj h => by
    rw [hsg, hsg]
    by_cases hjn : j < n
    · rw [Nat.min_eq_left (by omega), Nat.min_eq_left (by omega)]; exact gc00 j hjn h
    · rw [Nat.min_eq_right (by omega), Nat.min_eq_right (by omega)]
  have gt : ∀ j tl, (j, tl) ∈ ss → ∀ x, x ∉ tl → (sg (j + 1))[x]? = (sg j)[x]? := fun j tl h x hx => by
    have hj : j < n := hss00 _ h
    rw [hsg, hsg, Nat.min_eq_left (by omega), Nat.min_eq_left (by omega)]; exact gt0 j tl h x hx
  have hss0 : ∀ q ∈ ss, q.1 < all.size := fun q hq => Nat.lt_of_lt_of_le (hss00 q hq) hn
  have hdata : ∀ j, j < n → fl j = false → ∃ o Ej p k, all[j]? = some o ∧ fitsD N o.dst = true ∧ Did P all o Ej (sg j) (sg (j + 1)) p k ∧ (∀ tl, k = .wr tl → (j, tl) ∈ ss) ∧ (∀ x, k = .rd x → (j, x) ∈ ds) ∧ (∀ tl, (j, tl) ∈ ss → k = .wr tl) ∧
      (∀ t, (∀ k, j ≤ k → k < n → dstOf all k ≠ some t) → eqR (lk Ej t) (lk E t)) ∧
      (∀ t, (∀ k, k < j → dstOf all k ≠ some t) → eqR (lk E0 t) (lk Ej t)) ∧
      (∀ t, o.dst = some t → eqR p (lk E t)) := fun j hj hf => by
    rw [hsg, hsg, Nat.min_eq_left (by omega), Nat.min_eq_left (by omega)]; exact hdata0 j hj hf
  have gc : ∀ j, j < all.size → j ∉ si ss → sg (j + 1) = sg j := fun j hj hn => gc0 j hj fun tl h => hn (mem_si.2 ⟨tl, h⟩)
  have hss : ∀ j ∈ si ss, j < all.size := fun j hj => by obtain ⟨tl, h⟩ := mem_si.1 hj; exact hss0 _ h
  have hdst : ∀ j k t, dstOf all j = some t → dstOf all k = some t → j = k := fun j k t hj hk => by
    cases hoj : all[j]? with
    | none => simp [dstOf, hoj] at hj
    | some o =>
      cases hok' : all[k]? with
      | none => simp [dstOf, hok'] at hk
      | some o' =>
        have hlt : k < all.size := (Array.getElem?_eq_some_iff.1 hok').1
        have hp := (okD_at hok hoj).2 k hlt
        unfold pairOk at hp
        rw [hk] at hp
        simp only [Bool.and_eq_true, Bool.or_eq_true, beq_iff_eq, bne_iff_ne, ne_eq] at hp
        rcases hp.1 with h | h
        · exact h.symm
        · exact absurd (by simpa [dstOf, hoj] using hj) h
  have getDs : ∀ (l : Array Bool) (k : Nat), l.size = all.size → k < all.size → l.getD k true = l.getD k false := fun l k hl hk => by
    simp [Array.getD_eq_getD_getElem?, hl, hk]
  have allListed : ∀ l : Array Bool, l.size = all.size → Region.ready .any all l = [] → ∀ j, j < all.size → l.getD j false = true := fun l hl hr j => by
    induction j using Nat.strongRecOn with
    | _ j ih =>
      intro hj
      cases hlj : l.getD j false with
      | true => rfl
      | false =>
        have hoj : all[j]? = some all[j] := Array.getElem?_eq_getElem hj
        have hm : j ∈ Region.ready .any all l := mem_ready.2 ⟨by rw [getDs l j hl hj]; exact hlj, all[j], hoj, fun e he hb => by
          have := (okD_at hok hoj).1 e he hb
          exact ih e.on this (by omega)⟩
        rw [hr] at hm; cases hm
  have doneI : ∀ (l : Array Bool) (β : List (Option Nat)) (a : Act) (W : World), l.size = all.size → (∀ j, j < n → l.getD j false = true) → (∀ k, n ≤ k → l.getD k false = false) →
      Inv w0 L β (sg (top (si ss) l all.size)) N (maskE all E0 E l all.size) a W → Inv w0 L β σ N E a W := fun l β a W hl hall hnl hI => by
    have h1 : sg (top (si ss) l all.size) = σ := by
      rw [← gi]
      refine (sg_const gc all.size (top_le _ _ _) (Nat.le_refl _) fun t h1 h2 h3 => ?_).symm
      have := top_none h1 h2 h3
      have h4 : t < n := by obtain ⟨tl, h⟩ := mem_si.1 h3; exact hss00 _ h
      rw [hall t h4] at this; cases this
    rw [h1] at hI
    exact hI.to fun t u hu => by
      by_cases hex : ∃ k, n ≤ k ∧ k < all.size ∧ dstOf all k = some t
      · obtain ⟨k, hnk, hk, hkt⟩ := hex
        rw [(lk_mask hdst t all.size).2 k hk hkt (hnl k hnk)] at hu
        exact (hE0 t (fun k' hk' hk't => by have := hdst k' k t hk't hkt; omega) β L W u).1 hu
      · rw [(lk_mask hdst t all.size).1 fun k hk hkt => hall k (Nat.lt_of_not_le fun h => hex ⟨k, h, hk, hkt⟩)] at hu; exact hu
  intro fuel
  induction fuel with
  | zero =>
    intro l hl hf hcl hnl hll β a W hI
    have hall : ∀ j, j < all.size → l.getD j false = true := fun j hj => by
      have h0 := List.eq_nil_of_length_eq_zero (Nat.le_zero.1 hf)
      have : j ∉ (List.range all.size).filter fun k => !l.getD k true := by rw [h0]; simp
      rw [List.mem_filter] at this
      rw [← getDs l j hl hj]
      cases hb : l.getD j true with
      | true => rfl
      | false => exact absurd ⟨by simpa using hj, by simp [hb]⟩ this
    have hsz : n = all.size := by
      rcases Nat.lt_or_ge n all.size with h | h
      · have := hall n h; rw [hnl n (Nat.le_refl _)] at this; cases this
      · omega
    refine ⟨?_, hQ hsz (fun k b hk hkn => by rw [← hll k b hk]; exact hall k (by omega)) β a W (doneI l β a W hl (fun j hj => hall j (by omega)) hnl hI)⟩
    apply List.eq_nil_iff_forall_not_mem.2
    intro j hj
    obtain ⟨hun, o, ho, _⟩ := mem_ready.1 hj
    have hlt : j < all.size := (Array.getElem?_eq_some_iff.1 ho).1
    rw [getDs l j hl hlt, hall j hlt] at hun; cases hun
  | succ fuel ih =>
    intro l hl hf hcl hnl hll β a W hI
    by_cases hfull : n < all.size ∧ ∀ k, k < n → l.getD k false = true
    · exact hP hfull.1 (fuel + 1) l β a W hl hf hcl hfull.2 hnl hll (doneI l β a W hl hfull.2 hnl hI)
    refine ⟨fun hr => ?_, fun j hj => ?_⟩
    · have hall := allListed l hl hr
      have hsz : n = all.size := by
        rcases Nat.lt_or_ge n all.size with h | h
        · have := hall n h; rw [hnl n (Nat.le_refl _)] at this; cases this
        · omega
      exact hQ hsz (fun k b hk hkn => by rw [← hll k b hk]; exact hall k (by omega)) β a W (doneI l β a W hl (fun j hj => hall j (by omega)) hnl hI)
    obtain ⟨hun, o, ho, hpre⟩ := mem_ready.1 hj
    have hlt : j < all.size := (Array.getElem?_eq_some_iff.1 ho).1
    rw [getDs l j hl hlt] at hun
    by_cases hjn : j < n
    case neg =>
      have hc := hcut.resolve_left (by omega)
      unfold cutOk at hc
      simp only [Bool.and_eq_true, List.all_eq_true, List.mem_range, Bool.or_eq_true, Bool.not_eq_true', decide_eq_false_iff_not] at hc
      exfalso
      rcases Nat.lt_or_ge n j with h | h
      · have hr := (hc.2 j hlt).resolve_left (fun h' => h' h)
        have := reach_done hcl 12 j n hr fun o2 ho2 e he hb => by
          rw [ho] at ho2; cases ho2
          exact hpre e he hb
        rw [hnl n (Nat.le_refl _)] at this; cases this
      · have hj : j = n := by omega
        subst hj
        exact hfull ⟨hlt, fun k hk => reach_done hcl 12 j k (hc.1 k hk) fun o2 ho2 e he hb => by
          rw [ho] at ho2; cases ho2
          exact hpre e he hb⟩
    have hback0 := (okD_at hok ho).1
    -- what stands behind
    have hl' : (l.setIfInBounds j true).size = all.size := by simp [hl]
    have hset : ∀ k, k < all.size → (l.setIfInBounds j true).getD k false = if j = k then true else l.getD k false := fun k hk => by
      rw [Array.getD_eq_getD_getElem?, Array.getElem?_setIfInBounds]
      by_cases e : j = k
      · subst e; simp [hl, hlt]
      · rw [if_neg e, if_neg e, Array.getD_eq_getD_getElem?]
    have hf' : ((List.range all.size).filter fun k => !(l.setIfInBounds j true).getD k true).length ≤ fuel := by
      have hsub : ((List.range all.size).filter fun k => !(l.setIfInBounds j true).getD k true) = ((List.range all.size).filter fun k => !l.getD k true).filter fun k => k != j := by
        rw [List.filter_filter]
        apply List.filter_congr
        intro k hk
        have hk' : k < all.size := by simpa using hk
        rw [getDs _ k hl' hk', hset k hk', getDs l k hl hk']
        by_cases e : j = k
        · subst e; simp
        · have : (k != j) = true := by simpa using fun h => e h.symm
          simp [e, this]
      rw [hsub]
      have hmem : j ∈ (List.range all.size).filter fun k => !l.getD k true := by
        rw [List.mem_filter]; exact ⟨by simpa using hlt, by rw [getDs l j hl hlt, hun]; rfl⟩
      have hlt' : (((List.range all.size).filter fun k => !l.getD k true).filter fun k => k != j).length < ((List.range all.size).filter fun k => !l.getD k true).length := by
        refine Nat.lt_of_le_of_ne (List.length_filter_le _ _) fun he => ?_
        have := List.length_filter_eq_length_iff.1 he j hmem
        simp at this
      omega
    have hcl' : ∀ (k : Nat) (ok : Oper), all[k]? = some ok → (l.setIfInBounds j true).getD k false = true → ∀ e ∈ ok.after, Region.binds .any e = true → (l.setIfInBounds j true).getD e.on false = true := fun k ok hok2 hk e he hb => by
      have hkl : k < all.size := (Array.getElem?_eq_some_iff.1 hok2).1
      have hel := (okD_at hok hok2).1 e he hb
      rw [hset k hkl] at hk
      rw [hset e.on (by omega)]
      by_cases e1 : j = e.on
      · rw [if_pos e1]
      · rw [if_neg e1]
        by_cases e2 : j = k
        · subst e2
          have : ok = o := by rw [ho] at hok2; exact (Option.some.inj hok2).symm
          subst this
          exact hpre e he hb
        · rw [if_neg e2] at hk
          exact hcl k ok hok2 hk e he hb
    have hnl' : ∀ k, n ≤ k → (l.setIfInBounds j true).getD k false = false := fun k hk => by
      rcases Nat.lt_or_ge k all.size with h | h
      · rw [hset k h, if_neg (by omega)]; exact hnl k hk
      · simp [Array.getD_eq_getD_getElem?, hl, h]
    cases hfl : fl j with
    | true => exact hFl j o ho hfl hjn fuel l β a W hl hun hll hf' hcl' hnl' hI
    | false =>
    have hll' : ∀ k b, lo k = some b → (l.setIfInBounds j true).getD k false = b := fun k b hk => by
      have hkj : j ≠ k := fun h => by subst h; rw [hlo j b hk] at hfl; cases hfl
      rw [Array.getD_eq_getD_getElem?, Array.getElem?_setIfInBounds, if_neg hkj, ← Array.getD_eq_getD_getElem?]
      exact hll k b hk
    obtain ⟨o', Ej, p, kd, ho', hd, hk, hk2, hk1, hks, hA, hB, hC⟩ := hdata j hjn hfl
    have : o' = o := by rw [ho] at ho'; exact (Option.some.inj ho').symm
    subst this
    have hpairs := (okD_at hok ho).2
    have hback := (okD_at hok ho).1
    have hdj : dstOf all j = o'.dst := by simp [dstOf, ho]
    have dir_l : ∀ k, dirP all j k = true → k < j ∧ l.getD k false = true := fun k hk => by
      obtain ⟨e, he, hb, heq⟩ := dirP_at ho hk
      subst heq
      exact ⟨hback e he hb, hpre e he hb⟩
    have dir_r : ∀ k, dirP all k j = true → j < k ∧ l.getD k false = false := fun k hk => by
      cases hok2 : all[k]? with
      | none => simp [dirP, hok2] at hk
      | some ok =>
        obtain ⟨e, he, hb, heq⟩ := dirP_at hok2 hk
        have hlt2 := (okD_at hok hok2).1 e he hb
        refine ⟨by omega, ?_⟩
        cases hlk : l.getD k false with
        | false => rfl
        | true =>
          have := hcl k ok hok2 hlk e he hb
          rw [heq, hun] at this; cases this
    -- the slots that the operation looks at
    have hslot : ∀ t ∈ slotsOf all o', ∀ u, R β L W (lk (maskE all E0 E l all.size) t) u → R β L W (lk Ej t) u := fun t ht u hu => by
      by_cases hex : ∃ k, k < all.size ∧ dstOf all k = some t
      · obtain ⟨k, hk, hkt⟩ := hex
        have hp := hpairs k hk
        unfold pairOk at hp
        rw [hkt] at hp
        simp only [Bool.and_eq_true, Bool.or_eq_true, Bool.not_eq_true', decide_eq_true_eq] at hp
        have hc : (slotsOf all o').contains t = true := by simpa using ht
        rw [hc] at hp
        rcases hp.2 with (h | ⟨hkj, hdir⟩) | ⟨hjk, hdir⟩
        · cases h
        · rw [(lk_mask hdst t all.size).1 fun k' hk' hk't => by rw [hdst k' k t hk't hkt]; exact (dir_l k hdir).2] at hu
          exact (hA t (fun k' h1 h2 hk't => by have := hdst k' k t hk't hkt; omega) β L W u).2 hu
        · rw [(lk_mask hdst t all.size).2 k hk hkt (dir_r k hdir).2] at hu
          exact (hB t (fun k' h1 hk't => by have := hdst k' k t hk't hkt; omega) β L W u).1 hu
      · have hno : ∀ k, k < all.size → dstOf all k ≠ some t := fun k hk hkt => hex ⟨k, hk, hkt⟩
        rw [(lk_mask hdst t all.size).1 fun k' hk' hk't => absurd hk't (hno k' hk')] at hu
        exact (hA t (fun k' h1 h2 => hno k' (by omega)) β L W u).2 hu
    let Eop : Env := keepE (slotsOf all o') Ej ++ maskE all E0 E l all.size
    have hlkop : ∀ t, (t ∈ slotsOf all o' → lk Eop t = lk Ej t) ∧ (t ∉ slotsOf all o' → lk Eop t = lk (maskE all E0 E l all.size) t) := fun t => by
      show (t ∈ slotsOf all o' → lk (keepE (slotsOf all o') Ej ++ maskE all E0 E l all.size) t = lk Ej t) ∧ (t ∉ slotsOf all o' → lk (keepE (slotsOf all o') Ej ++ maskE all E0 E l all.size) t = _)
      generalize slotsOf all o' = ss
      induction ss with
      | nil => exact ⟨fun h => by simp at h, fun _ => rfl⟩
      | cons x ss ihs =>
        constructor
        · intro h
          show lk ((x, lk Ej x) :: (keepE ss Ej ++ maskE all E0 E l all.size)) t = lk Ej t
          simp only [lk]
          split
          · rename_i e; rw [e]
          · rename_i e
            rcases List.mem_cons.1 h with h | h
            · exact absurd h.symm e
            · exact ihs.1 h
        · intro h
          show lk ((x, lk Ej x) :: (keepE ss Ej ++ maskE all E0 E l all.size)) t = _
          simp only [lk]
          rw [if_neg (fun e => h (by rw [e]; exact List.mem_cons_self ..))]
          exact ihs.2 fun h' => h (List.mem_cons_of_mem _ h')
    have hIop : Inv w0 L β (sg (top (si ss) l all.size)) N Eop a W := hI.to fun t u hu => by
      by_cases ht : t ∈ slotsOf all o'
      · rw [(hlkop t).1 ht]; exact hslot t ht u hu
      · rw [(hlkop t).2 ht]; exact hu
    have hev : ∀ x ∈ o'.op.operands, evA Eop x = evA Ej x := evA_congr (all := all) fun t ht => (hlkop t).1 ht
    have hgc : guardP all Eop o' = guardP all Ej o' := guard_congr fun t ht => (hlkop t).1 ht
    have next : ∀ (γ : List (Option Nat)) (u : Value) (W' : World), Inv w0 L γ (sg (top (si ss) (l.setIfInBounds j true) all.size)) N (putE Eop o'.dst p) (a.put o'.dst u) W' → wpAnyIn (Fr ro) nn P .any all Q fuel (l.setIfInBounds j true) (a.put o'.dst u) W' := fun γ u W' hi => by
      refine ih _ hl' hf' hcl' hnl' hll' γ _ W' (hi.to fun t v hv => ?_)
      rw [lk_put] at hv
      by_cases e : o'.dst = some t
      · rw [if_pos e] at hv
        have hu := (hC t e γ L W' v).1 hv
        rw [(lk_mask hdst t all.size).1 fun k hk hkt => by
          have : k = j := hdst k j t hkt (by rw [hdj]; exact e)
          rw [this, hset j hlt, if_pos rfl]]
        exact hu
      · rw [if_neg e] at hv
        have hmid : R γ L W' (lk (maskE all E0 E l all.size) t) v ∨ (t ∈ slotsOf all o' ∧ R γ L W' (lk Ej t) v) := by
          by_cases ht : t ∈ slotsOf all o'
          · rw [(hlkop t).1 ht] at hv; exact .inr ⟨ht, hv⟩
          · rw [(hlkop t).2 ht] at hv; exact .inl hv
        have hmask : lk (maskE all E0 E (l.setIfInBounds j true) all.size) t = lk (maskE all E0 E l all.size) t := by
          by_cases hex : ∃ k, k < all.size ∧ dstOf all k = some t ∧ l.getD k false = false
          · obtain ⟨k, hk, hkt, hkl⟩ := hex
            have hkj : j ≠ k := fun h => by subst h; rw [hdj] at hkt; exact e hkt
            rw [(lk_mask hdst t all.size).2 k hk hkt hkl, (lk_mask hdst t all.size).2 k hk hkt (by rw [hset k hk, if_neg hkj]; exact hkl)]
          · have hno : ∀ k, k < all.size → dstOf all k = some t → l.getD k false = true := fun k hk hkt => by
              cases h : l.getD k false with
              | true => rfl
              | false => exact absurd ⟨k, hk, hkt, h⟩ hex
            rw [(lk_mask hdst t all.size).1 hno, (lk_mask hdst t all.size).1 fun k hk hkt => by rw [hset k hk]; split; rfl; exact hno k hk hkt]
        rw [hmask]
        rcases hmid with h | ⟨ht, h⟩
        · exact h
        · -- the slot was looked at: its two readings are the same
          have hc : (slotsOf all o').contains t = true := by simpa using ht
          by_cases hex : ∃ k, k < all.size ∧ dstOf all k = some t ∧ l.getD k false = false
          · obtain ⟨k, hk, hkt, hkl⟩ := hex
            rw [(lk_mask hdst t all.size).2 k hk hkt hkl]
            have hp := hpairs k hk
            unfold pairOk at hp
            rw [hkt] at hp
            simp only [Bool.and_eq_true, Bool.or_eq_true, Bool.not_eq_true', decide_eq_true_eq] at hp
            rw [hc] at hp
            rcases hp.2 with (h' | ⟨hkj, hdir⟩) | ⟨hjk, hdir⟩
            · cases h'
            · have := (dir_l k hdir).2; rw [hkl] at this; cases this
            · exact (hB t (fun k' h1 hk't => by have := hdst k' k t hk't hkt; omega) γ L W' v).2 h
          · have hno : ∀ k, k < all.size → dstOf all k = some t → l.getD k false = true := fun k hk hkt => by
              cases h : l.getD k false with
              | true => rfl
              | false => exact absurd ⟨k, hk, hkt, h⟩ hex
            rw [(lk_mask hdst t all.size).1 hno]
            refine (hA t (fun k' h1 h2 hk't => ?_) γ L W' v).1 h
            have hp := hpairs k' (by omega)
            unfold pairOk at hp
            rw [hk't] at hp
            simp only [Bool.and_eq_true, Bool.or_eq_true, Bool.not_eq_true', decide_eq_true_eq] at hp
            rw [hc] at hp
            rcases hp.2 with (h' | ⟨hkj, hdir⟩) | ⟨hjk, hdir⟩
            · cases h'
            · omega
            · have := (dir_r k' hdir).2; rw [hno k' (by omega) hk't] at this; cases this
    -- the blocks
    have same : j ∉ si ss → sg (top (si ss) (l.setIfInBounds j true) all.size) = sg (top (si ss) l all.size) := fun hj => by
      rw [top_congr (l' := l) fun t ht => by
        rw [hset t (hss t ht), if_neg (fun e => hj (by rw [e]; exact ht))]]
    have notS : (∀ tl, kd ≠ .wr tl) → j ∉ si ss := fun h hj => by
      obtain ⟨tl, h'⟩ := mem_si.1 hj
      exact h tl (hks tl h')
    -- what a direct or an indirect order tells
    have far : ∀ t, ordT all j t = true → (t < j → l.getD t false = true) ∧ (j < t → l.getD t false = false) := fun t h1 => by
      unfold ordT at h1
      simp only [Bool.or_eq_true] at h1
      rcases h1 with h1 | h1
      · have := reach_lt hok 8 j t h1
        refine ⟨fun _ => reach_done hcl 8 j t h1 fun o2 ho2 e he hb => ?_, fun h => by omega⟩
        rw [ho] at ho2; cases ho2
        exact hpre e he hb
      · have := reach_lt hok 8 t j h1
        refine ⟨fun h => by omega, fun _ => ?_⟩
        cases hlt' : l.getD t false with
        | false => rfl
        | true =>
          have hj' := reach_done hcl 8 t j h1 fun o2 ho2 => hcl t o2 ho2 hlt'
          rw [hun] at hj'; cases hj'
    have hS2 : ∀ q ∈ ss, (∀ q' ∈ ss, q'.1 = q.1 ∨ ordT all q'.1 q.1 = true) ∧ ∀ d ∈ ds, (∃ i, d.2 = some i ∧ i ∉ q.2) ∨ ordT all d.1 q.1 = true := fun q hq => by
      have h1 := List.all_eq_true.1 hS q hq
      simp only [Bool.and_eq_true] at h1
      refine ⟨fun q' hq' => ?_, fun d hd => ?_⟩
      · have h2 := List.all_eq_true.1 h1.1 q' hq'
        simpa using h2
      · have h2 := List.all_eq_true.1 h1.2 d hd
        simp only [Bool.or_eq_true] at h2
        rcases h2 with h2 | h2
        · split at h2
          · rename_i i hi; exact .inl ⟨i, hi, by simpa using h2⟩
          · cases h2
        · exact .inr h2
    have hord : ∀ t, t ∈ si ss → t ≠ j → (j ∈ si ss ∨ (j, none) ∈ ds) → (t < j → l.getD t false = true) ∧ (j < t → l.getD t false = false) := fun t ht hne hj => by
      obtain ⟨tl, ht⟩ := mem_si.1 ht
      obtain ⟨q1, q2⟩ := hS2 _ ht
      refine far t ?_
      rcases hj with hj | hj
      · obtain ⟨tl', hj⟩ := mem_si.1 hj
        exact (q1 _ hj).resolve_left (fun h => hne h.symm)
      · rcases q2 _ hj with ⟨i, h, _⟩ | h
        · cases h
        · exact h
    have ord : (j ∈ si ss ∨ (j, none) ∈ ds) → sg (top (si ss) l all.size) = sg j := fun hj => by
      have hle : top (si ss) l all.size ≤ j := by
        cases hm : top (si ss) l all.size with
        | zero => exact Nat.zero_le _
        | succ m =>
          obtain ⟨m1, m2, m3⟩ := top_done hm
          rcases Nat.lt_trichotomy m j with h | h | h
          · exact h
          · subst h; rw [hun] at m2; cases m2
          · have := (hord m m1 (by omega) hj).2 h; rw [m2] at this; cases this
      refine (sg_const gc j hle (by omega) fun t h1 h2 h3 => ?_).symm
      have h4 := top_none h1 (by omega) h3
      rw [(hord t h3 (by omega) hj).1 h2] at h4; cases h4
    have ordR : ∀ x, kd = .rd (some x) → (sg (top (si ss) l all.size))[x]? = (sg j)[x]? := fun x hx => by
      have hj := hk1 _ hx
      have hjn : j ∉ si ss := notS fun tl h => by rw [hx] at h; cases h
      have keep : ∀ t, t < all.size → (t < j → t ∈ si ss → l.getD t false = false) → (j < t → t ∈ si ss → l.getD t false = true) → (sg (t + 1))[x]? = (sg t)[x]? := fun t hts hn hy => by
        by_cases ht : t ∈ si ss
        · obtain ⟨tl, htl⟩ := mem_si.1 ht
          refine gt t tl htl x ?_
          rcases (hS2 _ htl).2 _ hj with ⟨i, h, h'⟩ | h
          · cases h; exact h'
          · exfalso
            have hf := far t h
            rcases Nat.lt_trichotomy t j with h | h | h
            · have := hf.1 h; rw [hn h ht] at this; cases this
            · subst h; exact hjn ht
            · have := hf.2 h; rw [hy h ht] at this; cases this
        · rw [gc t hts ht]
      rcases Nat.le_total (top (si ss) l all.size) j with h | h
      · exact (sg_at j h fun t h1 h2 => keep t (by omega) (fun _ ht => top_none h1 (by omega) ht) (fun h => by omega)).symm
      · refine sg_at _ h fun t h1 h2 => keep t (by have := top_le (si ss) l all.size; omega) (fun h _ => by omega) fun hjt hts => ?_
        cases hm : top (si ss) l all.size with
        | zero => omega
        | succ m =>
          obtain ⟨m1, m2, m3⟩ := top_done hm
          by_cases e : t = m
          · subst e; exact m2
          · obtain ⟨tl, htl⟩ := mem_si.1 hts
            obtain ⟨tm, hmm⟩ := mem_si.1 m1
            have ho := ((hS2 _ htl).1 _ hmm).resolve_left (fun h => e h.symm)
            unfold ordT at ho
            simp only [Bool.or_eq_true] at ho
            rcases ho with ho | ho
            · exact reach_done hcl 8 m t ho fun o2 ho2 => hcl m o2 ho2 m2
            · have := reach_lt hok 8 t m ho; omega
    have new2 : j ∈ si ss → sg (top (si ss) (l.setIfInBounds j true) all.size) = sg (j + 1) := fun hj => by
      rw [top_eq hj (by rw [hset j hlt, if_pos rfl]) (fun t ht hjt => by
        rw [hset t (hss t ht), if_neg (by omega)]
        exact (hord t ht (by omega) (.inl hj)).2 hjt) hlt]
    unfold wpOpIn
    simp only [ho]
    cases hk with
    | skip hg hp hσ =>
      have hw := guard_wanted hIop.ev (hgc.trans hg)
      rw [if_neg (by rw [hw]; simp)]
      refine ⟨fun _ _ => trivial, next β undef W ?_⟩
      rw [same (notS fun tl h => by cases h)]
      exact { hIop with ev := hIop.ev.put (by rw [hp, R]) hd, nod := hIop.nod.put _ _ }
    | q0 pre hg hq hp hi hσ =>
      have hw := guard_wanted hIop.ev (hgc.trans hg)
      rw [if_pos hw]
      refine op_in (noDef_at hnd ho) ?_
      have hq' : opQ P Eop (sg (top (si ss) l all.size)) o'.op = some (pre, p) := by
        rw [opQ_congr hev, opQ_sind (σ' := sg j) hi]; exact hq
      obtain ⟨u, hu, hr⟩ := opQ_run hIop.ev hIop.bx hq' hp
      unfold Oper.wp
      rw [hu]
      refine next β u W ?_
      rw [same (notS fun tl h => by cases h)]
      exact { hIop with ev := hIop.ev.put hr hd, nod := hIop.nod.put _ _ }
    | q1 pre hg hq hp x hx hσ =>
      have hw := guard_wanted hIop.ev (hgc.trans hg)
      rw [if_pos hw]
      refine op_in (noDef_at hnd ho) ?_
      have hq' : opQ P Eop (sg (top (si ss) l all.size)) o'.op = some (pre, p) := by
        rw [opQ_congr hev, hx _ (ordR x rfl)]; exact hq
      obtain ⟨u, hu, hr⟩ := opQ_run hIop.ev hIop.bx hq' hp
      unfold Oper.wp
      rw [hu]
      refine next β u W ?_
      rw [same (notS fun tl h => by cases h)]
      exact { hIop with ev := hIop.ev.put hr hd, nod := hIop.nod.put _ _ }
    | h x hg hx hσ =>
      have hw := guard_wanted hIop.ev (hgc.trans hg)
      rw [if_pos hw]
      refine op_in (noDef_at hnd ho) ?_
      obtain ⟨u, hu, hr⟩ := hx N β L W Eop _ a hev (ordR x rfl) hIop.ev hIop.bx
      unfold Oper.wp
      rw [hu]
      refine next β u W ?_
      rw [same (notS fun tl h => by cases h)]
      exact { hIop with ev := hIop.ev.put hr hd, nod := hIop.nod.put _ _ }
    | c0 g ps hg hc hp hspec hσ =>
      have hw := guard_wanted hIop.ev (hgc.trans hg)
      rw [if_pos hw]
      refine op_in (noDef_at hnd ho) ?_
      exact callOp (qs := ps) hIop hd ((opC_congr hev).trans hc) (.inl ⟨hp, rfl⟩) hspec _ _ fun u W' hi => next β u W' (by rw [same (notS fun tl h => by cases h)]; exact hi)
    | c1 g ps hg hc hf hspec hcc hσ =>
      have hw := guard_wanted hIop.ev (hgc.trans hg)
      rw [if_pos hw]
      refine op_in (noDef_at hnd ho) ?_
      exact callOp (qs := ps.map (fz 8 (sg j))) hIop hd ((opC_congr hev).trans hc) (.inr ⟨by rw [ord (.inr (hk1 _ rfl))], hf, by rw [ord (.inr (hk1 _ rfl))]; exact hcc⟩) hspec _ _ fun u W' hi => next β u W' (by rw [same (notS fun tl h => by cases h)]; exact hi)
    | b hg hb hσ =>
      have hw := guard_wanted hIop.ev (hgc.trans hg)
      rw [if_pos hw]
      refine op_in (noDef_at hnd ho) ?_
      exact opS_run hIop hd (opB_S ((opB_congr hev).trans hb)) trivial (.inr (opB_store hb)) _ _ fun γ u W' hi => next γ u W' (by rw [same (notS fun tl h => by cases h)]; exact hi)
    | s pre hg hss' hpre' hst tl htl =>
      have hw := guard_wanted hIop.ev (hgc.trans hg)
      rw [if_pos hw]
      refine op_in (noDef_at hnd ho) ?_
      have hj : j ∈ si ss := mem_si.2 ⟨tl, hk2 _ rfl⟩
      rw [ord (.inl hj)] at hIop
      exact opS_run hIop hd ((opS_congr hev).trans hss') hpre' hst _ _ fun γ u W' hi => next γ u W' (by rw [new2 hj]; exact hi)
    | m g ps is m σ0' σ1 qs r hg hc hs hρ h0 hq hp hσ tl htl =>
      have hw := guard_wanted hIop.ev (hgc.trans hg)
      rw [if_pos hw]
      refine op_in (noDef_at hnd ho) ?_
      have hj : j ∈ si ss := mem_si.2 ⟨tl, hk2 _ rfl⟩
      rw [ord (.inl hj)] at hIop
      exact callOpM hIop hd ((opC_congr hev).trans hc) hs hρ h0 hq _ _ fun γ u W' hi => next γ u W' (by rw [new2 hj, hσ, hp]; exact hi)
end
end Go.Proofs.YtcknpohghmkbmaaGreatDoor
