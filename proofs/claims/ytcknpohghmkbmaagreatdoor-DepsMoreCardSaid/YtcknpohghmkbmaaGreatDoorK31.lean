import Derived.Test.YtcknpohghmkbmaaGreatDoorK30
import Derived.ProofKit
import Derived.ChangeArms
import Derived.Deep.Slices
import Derived.SizedLaws
set_option linter.unusedVariables false
set_option linter.unusedSimpArgs false
/- The texts D27 R1 R2 of the proof, laid one behind the other. -/
namespace Go.Proofs.YtcknpohghmkbmaaGreatDoor
open Go.RowKit
theorem imp_iff (t u : Ty) : imp2F t u = true ↔ t = u ∨ u = kTy 0 ∨ t.k = 1 ∧ (u = kTy 3 ∧ t.v.k = 1 ∨ u = kTy 4 ∧ t.v.k = 3) := by
  have e : imp2F t u = (bif tyEq t u then true else bif tyEq u (kTy 0) then true else bif t.k == 1 then (bif tyEq u (kTy 3) then (bif t.v.k == 1 then true else bif tyEq u (kTy 4) then t.v.k == 3 else false) else bif tyEq u (kTy 4) then t.v.k == 3 else false) else false) := rfl
  rw [e, ← tyEq_iff (a := t), ← tyEq_iff (a := u) (b := kTy 0), ← tyEq_iff (a := u) (b := kTy 3), ← tyEq_iff (a := u) (b := kTy 4)]
  have h1 : (t.k == 1) = true ↔ t.k = 1 := by simp
  have h2 : (t.v.k == 1) = true ↔ t.v.k = 1 := by simp
  have h3 : (t.v.k == 3) = true ↔ t.v.k = 3 := by simp
  rw [← h1, ← h2, ← h3]
  cases tyEq t u <;> cases tyEq u (kTy 0) <;> cases t.k == 1 <;> cases tyEq u (kTy 3) <;> cases t.v.k == 1 <;> cases tyEq u (kTy 4) <;> cases t.v.k == 3 <;> simp
theorem imp_refl (t : Ty) : imp2F t t = true := (imp_iff t t).2 (.inl rfl)
theorem imp_any (t : Ty) : imp2F t (kTy 0) = true := (imp_iff _ _).2 (.inr (.inl rfl))
theorem kTy_inj {a b : Int} (h : kTy a = kTy b) : a = b := congrArg Ty.k h
theorem imp_trans {t u x : Ty} (h1 : imp2F t u = true) (h2 : imp2F u x = true) : imp2F t x = true := by
  rcases (imp_iff _ _).1 h1 with rfl | rfl | ⟨k, h⟩
  · exact h2
  · rcases (imp_iff _ _).1 h2 with rfl | rfl | ⟨k, _⟩
    · exact imp_any t
    · exact imp_any t
    · exact absurd k (by decide)
  · rcases (imp_iff _ _).1 h2 with rfl | rfl | ⟨k2, _⟩
    · exact h1
    · exact imp_any t
    · rcases h with ⟨rfl, _⟩ | ⟨rfl, _⟩
      · exact absurd k2 (by decide)
      · exact absurd k2 (by decide)
theorem imp_anti {t u : Ty} (h1 : imp2F t u = true) (h2 : imp2F u t = true) : t = u := by
  rcases (imp_iff _ _).1 h1 with rfl | rfl | ⟨k, h⟩
  · rfl
  · rcases (imp_iff _ _).1 h2 with h | h | ⟨k, _⟩
    · exact h.symm
    · exact h
    · exact absurd k (by decide)
  · rcases (imp_iff _ _).1 h2 with h' | rfl | ⟨k2, _⟩
    · exact h'.symm
    · exact absurd k (by decide)
    · rcases h with ⟨rfl, _⟩ | ⟨rfl, _⟩
      · exact absurd k2 (by decide)
      · exact absurd k2 (by decide)
theorem join_l (t u : Ty) : imp2F t (joinF t u) = true := by
  unfold joinF
  cases h1 : imp2F t u with
  | true => exact h1
  | false =>
    rw [cond_false]
    cases h2 : imp2F u t with
    | true => exact imp_refl t
    | false =>
      rw [cond_false]
      cases h3 : imp2F t (kTy 3) <;> cases h4 : imp2F u (kTy 3) <;> cases h5 : imp2F t (kTy 4) <;> cases h6 : imp2F u (kTy 4) <;> simp only [cond_true, cond_false] <;> first | exact h3 | exact h5 | exact imp_any t
theorem join_comm (t u : Ty) : joinF t u = joinF u t := by
  unfold joinF
  cases h1 : imp2F t u <;> cases h2 : imp2F u t
  · simp only [cond_false]
    cases h3 : imp2F t (kTy 3) <;> cases h4 : imp2F u (kTy 3) <;> cases h5 : imp2F t (kTy 4) <;> cases h6 : imp2F u (kTy 4) <;> rfl
  · rfl
  · rfl
  · exact (imp_anti h1 h2).symm
theorem join_r (t u : Ty) : imp2F u (joinF t u) = true := by rw [join_comm]; exact join_l u t
theorem join_least {t u x : Ty} (h1 : imp2F t x = true) (h2 : imp2F u x = true) (hx : x.k ≠ 2) : imp2F (joinF t u) x = true := by
  unfold joinF
  cases h3 : imp2F t u with
  | true => exact h2
  | false =>
    rw [cond_false]
    cases h4 : imp2F u t with
    | true => exact h1
    | false =>
      rw [cond_false]
      rcases (imp_iff _ _).1 h1 with rfl | rfl | ⟨k, ⟨rfl, kv⟩ | ⟨rfl, kv⟩⟩
      · rw [h2] at h4; cases h4
      · exact imp_any _
      · rw [h1, h2]; exact imp_refl _
      · have : imp2F t (kTy 3) = false := by
          rw [Bool.eq_false_iff]
          intro h
          rcases (imp_iff _ _).1 h with e | e | ⟨_, ⟨_, e⟩ | ⟨e, _⟩⟩
          · rw [e] at k; exact absurd k (by decide)
          · exact absurd (kTy_inj e) (by decide)
          · omega
          · exact absurd (kTy_inj e) (by decide)
        rw [this, h1, h2]; exact imp_refl _
/-- What a value of a type is. -/
theorem isA_imp {w : Wd} {maps : List Mp} {t u : Ty} {v : Vl} (h : imp2F t u = true) (ha : isA w maps t v = true) : isA w maps u v = true := by
  rcases (imp_iff _ _).1 h with rfl | rfl | ⟨k, ⟨rfl, kv⟩ | ⟨rfl, kv⟩⟩
  · exact ha
  · rfl
  · unfold isA at ha
    rw [show (t.k == 1) = true by simp [k], cond_true] at ha
    have := vlEq_iff.1 ha
    subst this
    show (t.v.k == 1) = true
    rw [kv]; rfl
  · unfold isA at ha
    rw [show (t.k == 1) = true by simp [k], cond_true] at ha
    have := vlEq_iff.1 ha
    subst this
    show (t.v.k == 3) = true
    rw [kv]; rfl
theorem known_part {w : Wd} {maps : List Mp} {l : List Ty} {y : Ty} (h : knownE w maps l = 0) (hy : y ∈ l) : knownE w maps [y] = 0 := by
  rcases knownE_or w maps l with ⟨_, h1, h2⟩ | h'
  · unfold knownE
    rw [h1]
    have : factsT w nilS noSeen maps [y] = true := by
      unfold factsT at h2 ⊢
      cases hd : decide ((maps.length : Int) > 400) with
      | true => rw [hd] at h2; cases h2
      | false =>
        rw [hd, cond_false] at h2
        rw [cond_false]
        cases hm : mapsT w nilS noSeen maps maps 0 with
        | false => rw [hm] at h2; cases h2
        | true =>
          rw [hm] at h2
          simp only [Bool.not_true, cond_false] at h2 ⊢
          have h3 : l.any (ntypeT w nilS noSeen maps) = false := by simpa using h2
          have := List.any_eq_false.1 h3 y hy
          simpa using this
    rw [this]; rfl
  · exact absurd h h'
theorem dcheck2 (w : Wd) (hw : w.Ok) (maps : List Mp) (t u : Ty) (hf : FactsOk maps [t, u]) : Spec Tryz.prog 19 [.agg w.pv, row 2 Mp.pv maps, lit2 5 t.pv u.pv] (I (knownE w maps [t, u])) :=
  (dcheck_spec w hw maps [t, u] hf).conv (fun L W vs h => by
    obtain ⟨u0, us, rfl, q0, h⟩ := h.uncons
    obtain ⟨u1, us, rfl, q1, h⟩ := h.uncons
    obtain ⟨u2, us, rfl, q2, h⟩ := h.uncons
    exact .cons q0 (.cons q1 (.cons (lit2_row (k := 5) (f := Ty.pv) t u rfl rfl q2) h))) fun _ _ _ h => h
theorem DepsOrder_spec (t u x : Ty) (w : Wd) (maps : List Mp) (v : Vl) (hb : Bulk w) (hw : smallT w = true → w.Ok) (hm1 : maps.length ≤ 140737488355328) (hm2 : ∀ m ∈ maps, m.sl.length ≤ 140737488355328) (hf : FactsOk maps [t, u]) (hv : In64 v.n) :
    Spec Tryz.prog 6 [.agg t.pv, .agg u.pv, .agg x.pv, .agg w.pv, row 2 Mp.pv maps, .agg v.pv] (.sb true) := by
  have hf1 : FactsOk maps [t] := ⟨hf.maps, fun y hy => hf.types y (by rw [List.mem_singleton] at hy; subst hy; simp)⟩
  have hf2 : FactsOk maps [u] := ⟨hf.maps, fun y hy => hf.types y (by rw [List.mem_singleton] at hy; subst hy; simp)⟩
  have hrr := imp_refl t
  have hjc : tyEq (joinF t u) (joinF u t) = true := tyEq_iff.2 (join_comm t u)
  have hjl := join_l t u
  have hjr := join_r t u
  refine Spec.startL (by kernel_rfl) Tryz.func6 rfl rfl fun w0 L hst => ?_
  refine M.cl awake_spec ?_
  refine M.cl (imp2_spec t u) ?_
  refine M.cl (imp2_spec u x) ?_
  refine M.cl (imp2_spec t x) ?_
  refine M.cl (Join_spec t u) ?_
  refine M.cl (imp2_spec t t) ?_
  refine M.no (b := !imp2F t t) (by rw [hrr]; rfl) (by kernel_rfl) ?_
  rcases Bool.eq_false_or_eq_true (imp2F t u) with htu | htu <;> rcases Bool.eq_false_or_eq_true (imp2F u x) with hux | hux <;> rcases Bool.eq_false_or_eq_true (imp2F t x) with htx | htx
  ·
    refine M.yes (b := imp2F t u) htu (by kernel_rfl) ?_
    refine M.yes (b := imp2F u x) hux (by kernel_rfl) ?_
    refine M.no (b := !imp2F t x) (by rw [htx]; rfl) (by kernel_rfl) ?_
    refine M.cl (Join_spec u t) ?_
    refine M.no (b := !tyEq (joinF t u) (joinF u t)) (by rw [hjc]; rfl) (by kernel_rfl) ?_
    refine M.cl (imp2_spec t (joinF t u)) ?_
    refine M.no (b := !imp2F t (joinF t u)) (by rw [hjl]; rfl) (by kernel_rfl) ?_
    refine M.cl (imp2_spec u (joinF t u)) ?_
    refine M.no (b := !imp2F u (joinF t u)) (by rw [hjr]; rfl) (by kernel_rfl) ?_
    refine M.yes (b := imp2F t x) htx (by kernel_rfl) ?_
    refine M.yes (b := imp2F u x) hux (by kernel_rfl) ?_
    refine M.test (x.k != 2) (by kernel_rfl) (fun hx => ?_) (fun hx => ?_)
    · have hxk : x.k ≠ 2 := by simpa using hx
      have hle := join_least htx hux hxk
      refine M.cl (imp2_spec (joinF t u) x) ?_
      refine M.no (b := !imp2F (joinF t u) x) (by rw [hle]; rfl) (by kernel_rfl) ?_
      refine M.cl (small_spec w hb) ?_
      refine M.test (!smallT w) (by kernel_rfl) (fun hs => M.ret (.sb true) (by kernel_rfl) rfl) (fun hs => ?_)
      have hok := hw (by simpa using hs)
      refine M.cl (few_spec maps hm1 hm2) ?_
      refine M.test (!fewT maps) (by kernel_rfl) (fun hs2 => M.ret (.sb true) (by kernel_rfl) rfl) (fun hs2 => ?_)
      refine M.no (b := !imp2F t u) (by rw [htu]; rfl) (by kernel_rfl) ?_
      refine M.cl (dcheck2 w hok maps t u hf) ?_
      refine M.test (knownE w maps [t, u] != 0) (by kernel_rfl) (fun hk => M.ret (.sb true) (by kernel_rfl) rfl) (fun hk => ?_)
      have hk' : knownE w maps [t, u] = 0 := by simpa using hk
      have hkt := known_part hk' (y := t) (by simp)
      have hku := known_part hk' (y := u) (by simp)
      refine M.cl (Is_spec hok maps t v hf1 hv) ?_
      refine M.cl (Is_spec hok maps u v hf2 hv) ?_
      have e1 : (isC w maps t v).2 = (isC w maps u v).2 := by
        unfold isC; rw [hkt, hku]; cases hasT w nilS noSeen v <;> rfl
      have e2 : (isC w maps t v).1 = true → (isC w maps u v).1 = true := by
        unfold isC; rw [hkt, hku]
        cases hasT w nilS noSeen v with
        | false => intro h; cases h
        | true => exact fun h => isA_imp htu h
      refine M.yes (b := true) rfl (by kernel_rfl) ?_
      refine M.yes (b := (isC w maps t v).2 == (isC w maps u v).2) (by rw [e1]; simp) (by kernel_rfl) ?_
      refine M.test (!(isC w maps t v).1) (by kernel_rfl) (fun ha => M.ret (.sb true) (by kernel_rfl) rfl) (fun ha => ?_)
      exact M.ret (.sb (isC w maps u v).1) (by kernel_rfl) (by rw [e2 (by simpa using ha)])
    · skip
      refine M.cl (small_spec w hb) ?_
      refine M.test (!smallT w) (by kernel_rfl) (fun hs => M.ret (.sb true) (by kernel_rfl) rfl) (fun hs => ?_)
      have hok := hw (by simpa using hs)
      refine M.cl (few_spec maps hm1 hm2) ?_
      refine M.test (!fewT maps) (by kernel_rfl) (fun hs2 => M.ret (.sb true) (by kernel_rfl) rfl) (fun hs2 => ?_)
      refine M.no (b := !imp2F t u) (by rw [htu]; rfl) (by kernel_rfl) ?_
      refine M.cl (dcheck2 w hok maps t u hf) ?_
      refine M.test (knownE w maps [t, u] != 0) (by kernel_rfl) (fun hk => M.ret (.sb true) (by kernel_rfl) rfl) (fun hk => ?_)
      have hk' : knownE w maps [t, u] = 0 := by simpa using hk
      have hkt := known_part hk' (y := t) (by simp)
      have hku := known_part hk' (y := u) (by simp)
      refine M.cl (Is_spec hok maps t v hf1 hv) ?_
      refine M.cl (Is_spec hok maps u v hf2 hv) ?_
      have e1 : (isC w maps t v).2 = (isC w maps u v).2 := by
        unfold isC; rw [hkt, hku]; cases hasT w nilS noSeen v <;> rfl
      have e2 : (isC w maps t v).1 = true → (isC w maps u v).1 = true := by
        unfold isC; rw [hkt, hku]
        cases hasT w nilS noSeen v with
        | false => intro h; cases h
        | true => exact fun h => isA_imp htu h
      refine M.yes (b := true) rfl (by kernel_rfl) ?_
      refine M.yes (b := (isC w maps t v).2 == (isC w maps u v).2) (by rw [e1]; simp) (by kernel_rfl) ?_
      refine M.test (!(isC w maps t v).1) (by kernel_rfl) (fun ha => M.ret (.sb true) (by kernel_rfl) rfl) (fun ha => ?_)
      exact M.ret (.sb (isC w maps u v).1) (by kernel_rfl) (by rw [e2 (by simpa using ha)])
  ·
    refine M.yes (b := imp2F t u) htu (by kernel_rfl) ?_
    refine M.yes (b := imp2F u x) hux (by kernel_rfl) ?_
    exact absurd (imp_trans htu hux) (by rw [htx]; decide)
  ·
    refine M.yes (b := imp2F t u) htu (by kernel_rfl) ?_
    refine M.no (b := imp2F u x) hux (by kernel_rfl) ?_
    refine M.cl (Join_spec u t) ?_
    refine M.no (b := !tyEq (joinF t u) (joinF u t)) (by rw [hjc]; rfl) (by kernel_rfl) ?_
    refine M.cl (imp2_spec t (joinF t u)) ?_
    refine M.no (b := !imp2F t (joinF t u)) (by rw [hjl]; rfl) (by kernel_rfl) ?_
    refine M.cl (imp2_spec u (joinF t u)) ?_
    refine M.no (b := !imp2F u (joinF t u)) (by rw [hjr]; rfl) (by kernel_rfl) ?_
    refine M.yes (b := imp2F t x) htx (by kernel_rfl) ?_
    refine M.no (b := imp2F u x) hux (by kernel_rfl) ?_
    refine M.cl (small_spec w hb) ?_
    refine M.test (!smallT w) (by kernel_rfl) (fun hs => M.ret (.sb true) (by kernel_rfl) rfl) (fun hs => ?_)
    have hok := hw (by simpa using hs)
    refine M.cl (few_spec maps hm1 hm2) ?_
    refine M.test (!fewT maps) (by kernel_rfl) (fun hs2 => M.ret (.sb true) (by kernel_rfl) rfl) (fun hs2 => ?_)
    refine M.no (b := !imp2F t u) (by rw [htu]; rfl) (by kernel_rfl) ?_
    refine M.cl (dcheck2 w hok maps t u hf) ?_
    refine M.test (knownE w maps [t, u] != 0) (by kernel_rfl) (fun hk => M.ret (.sb true) (by kernel_rfl) rfl) (fun hk => ?_)
    have hk' : knownE w maps [t, u] = 0 := by simpa using hk
    have hkt := known_part hk' (y := t) (by simp)
    have hku := known_part hk' (y := u) (by simp)
    refine M.cl (Is_spec hok maps t v hf1 hv) ?_
    refine M.cl (Is_spec hok maps u v hf2 hv) ?_
    have e1 : (isC w maps t v).2 = (isC w maps u v).2 := by
      unfold isC; rw [hkt, hku]; cases hasT w nilS noSeen v <;> rfl
    have e2 : (isC w maps t v).1 = true → (isC w maps u v).1 = true := by
      unfold isC; rw [hkt, hku]
      cases hasT w nilS noSeen v with
      | false => intro h; cases h
      | true => exact fun h => isA_imp htu h
    refine M.yes (b := true) rfl (by kernel_rfl) ?_
    refine M.yes (b := (isC w maps t v).2 == (isC w maps u v).2) (by rw [e1]; simp) (by kernel_rfl) ?_
    refine M.test (!(isC w maps t v).1) (by kernel_rfl) (fun ha => M.ret (.sb true) (by kernel_rfl) rfl) (fun ha => ?_)
    exact M.ret (.sb (isC w maps u v).1) (by kernel_rfl) (by rw [e2 (by simpa using ha)])
  ·
    refine M.yes (b := imp2F t u) htu (by kernel_rfl) ?_
    refine M.no (b := imp2F u x) hux (by kernel_rfl) ?_
    refine M.cl (Join_spec u t) ?_
    refine M.no (b := !tyEq (joinF t u) (joinF u t)) (by rw [hjc]; rfl) (by kernel_rfl) ?_
    refine M.cl (imp2_spec t (joinF t u)) ?_
    refine M.no (b := !imp2F t (joinF t u)) (by rw [hjl]; rfl) (by kernel_rfl) ?_
    refine M.cl (imp2_spec u (joinF t u)) ?_
    refine M.no (b := !imp2F u (joinF t u)) (by rw [hjr]; rfl) (by kernel_rfl) ?_
    refine M.no (b := imp2F t x) htx (by kernel_rfl) ?_
    refine M.cl (small_spec w hb) ?_
    refine M.test (!smallT w) (by kernel_rfl) (fun hs => M.ret (.sb true) (by kernel_rfl) rfl) (fun hs => ?_)
    have hok := hw (by simpa using hs)
    refine M.cl (few_spec maps hm1 hm2) ?_
    refine M.test (!fewT maps) (by kernel_rfl) (fun hs2 => M.ret (.sb true) (by kernel_rfl) rfl) (fun hs2 => ?_)
    refine M.no (b := !imp2F t u) (by rw [htu]; rfl) (by kernel_rfl) ?_
    refine M.cl (dcheck2 w hok maps t u hf) ?_
    refine M.test (knownE w maps [t, u] != 0) (by kernel_rfl) (fun hk => M.ret (.sb true) (by kernel_rfl) rfl) (fun hk => ?_)
    have hk' : knownE w maps [t, u] = 0 := by simpa using hk
    have hkt := known_part hk' (y := t) (by simp)
    have hku := known_part hk' (y := u) (by simp)
    refine M.cl (Is_spec hok maps t v hf1 hv) ?_
    refine M.cl (Is_spec hok maps u v hf2 hv) ?_
    have e1 : (isC w maps t v).2 = (isC w maps u v).2 := by
      unfold isC; rw [hkt, hku]; cases hasT w nilS noSeen v <;> rfl
    have e2 : (isC w maps t v).1 = true → (isC w maps u v).1 = true := by
      unfold isC; rw [hkt, hku]
      cases hasT w nilS noSeen v with
      | false => intro h; cases h
      | true => exact fun h => isA_imp htu h
    refine M.yes (b := true) rfl (by kernel_rfl) ?_
    refine M.yes (b := (isC w maps t v).2 == (isC w maps u v).2) (by rw [e1]; simp) (by kernel_rfl) ?_
    refine M.test (!(isC w maps t v).1) (by kernel_rfl) (fun ha => M.ret (.sb true) (by kernel_rfl) rfl) (fun ha => ?_)
    exact M.ret (.sb (isC w maps u v).1) (by kernel_rfl) (by rw [e2 (by simpa using ha)])
  ·
    refine M.no (b := imp2F t u) htu (by kernel_rfl) ?_
    refine M.cl (Join_spec u t) ?_
    refine M.no (b := !tyEq (joinF t u) (joinF u t)) (by rw [hjc]; rfl) (by kernel_rfl) ?_
    refine M.cl (imp2_spec t (joinF t u)) ?_
    refine M.no (b := !imp2F t (joinF t u)) (by rw [hjl]; rfl) (by kernel_rfl) ?_
    refine M.cl (imp2_spec u (joinF t u)) ?_
    refine M.no (b := !imp2F u (joinF t u)) (by rw [hjr]; rfl) (by kernel_rfl) ?_
    refine M.yes (b := imp2F t x) htx (by kernel_rfl) ?_
    refine M.yes (b := imp2F u x) hux (by kernel_rfl) ?_
    refine M.test (x.k != 2) (by kernel_rfl) (fun hx => ?_) (fun hx => ?_)
    · have hxk : x.k ≠ 2 := by simpa using hx
      have hle := join_least htx hux hxk
      refine M.cl (imp2_spec (joinF t u) x) ?_
      refine M.no (b := !imp2F (joinF t u) x) (by rw [hle]; rfl) (by kernel_rfl) ?_
      refine M.cl (small_spec w hb) ?_
      refine M.test (!smallT w) (by kernel_rfl) (fun hs => M.ret (.sb true) (by kernel_rfl) rfl) (fun hs => ?_)
      have hok := hw (by simpa using hs)
      refine M.cl (few_spec maps hm1 hm2) ?_
      refine M.test (!fewT maps) (by kernel_rfl) (fun hs2 => M.ret (.sb true) (by kernel_rfl) rfl) (fun hs2 => ?_)
      refine M.yes (b := !imp2F t u) (by rw [htu]; rfl) (by kernel_rfl) ?_
      exact M.ret (.sb true) (by kernel_rfl) rfl
    · skip
      refine M.cl (small_spec w hb) ?_
      refine M.test (!smallT w) (by kernel_rfl) (fun hs => M.ret (.sb true) (by kernel_rfl) rfl) (fun hs => ?_)
      have hok := hw (by simpa using hs)
      refine M.cl (few_spec maps hm1 hm2) ?_
      refine M.test (!fewT maps) (by kernel_rfl) (fun hs2 => M.ret (.sb true) (by kernel_rfl) rfl) (fun hs2 => ?_)
      refine M.yes (b := !imp2F t u) (by rw [htu]; rfl) (by kernel_rfl) ?_
      exact M.ret (.sb true) (by kernel_rfl) rfl
  ·
    refine M.no (b := imp2F t u) htu (by kernel_rfl) ?_
    refine M.cl (Join_spec u t) ?_
    refine M.no (b := !tyEq (joinF t u) (joinF u t)) (by rw [hjc]; rfl) (by kernel_rfl) ?_
    refine M.cl (imp2_spec t (joinF t u)) ?_
    refine M.no (b := !imp2F t (joinF t u)) (by rw [hjl]; rfl) (by kernel_rfl) ?_
    refine M.cl (imp2_spec u (joinF t u)) ?_
    refine M.no (b := !imp2F u (joinF t u)) (by rw [hjr]; rfl) (by kernel_rfl) ?_
    refine M.no (b := imp2F t x) htx (by kernel_rfl) ?_
    refine M.cl (small_spec w hb) ?_
    refine M.test (!smallT w) (by kernel_rfl) (fun hs => M.ret (.sb true) (by kernel_rfl) rfl) (fun hs => ?_)
    have hok := hw (by simpa using hs)
    refine M.cl (few_spec maps hm1 hm2) ?_
    refine M.test (!fewT maps) (by kernel_rfl) (fun hs2 => M.ret (.sb true) (by kernel_rfl) rfl) (fun hs2 => ?_)
    refine M.yes (b := !imp2F t u) (by rw [htu]; rfl) (by kernel_rfl) ?_
    exact M.ret (.sb true) (by kernel_rfl) rfl
  ·
    refine M.no (b := imp2F t u) htu (by kernel_rfl) ?_
    refine M.cl (Join_spec u t) ?_
    refine M.no (b := !tyEq (joinF t u) (joinF u t)) (by rw [hjc]; rfl) (by kernel_rfl) ?_
    refine M.cl (imp2_spec t (joinF t u)) ?_
    refine M.no (b := !imp2F t (joinF t u)) (by rw [hjl]; rfl) (by kernel_rfl) ?_
    refine M.cl (imp2_spec u (joinF t u)) ?_
    refine M.no (b := !imp2F u (joinF t u)) (by rw [hjr]; rfl) (by kernel_rfl) ?_
    refine M.yes (b := imp2F t x) htx (by kernel_rfl) ?_
    refine M.no (b := imp2F u x) hux (by kernel_rfl) ?_
    refine M.cl (small_spec w hb) ?_
    refine M.test (!smallT w) (by kernel_rfl) (fun hs => M.ret (.sb true) (by kernel_rfl) rfl) (fun hs => ?_)
    have hok := hw (by simpa using hs)
    refine M.cl (few_spec maps hm1 hm2) ?_
    refine M.test (!fewT maps) (by kernel_rfl) (fun hs2 => M.ret (.sb true) (by kernel_rfl) rfl) (fun hs2 => ?_)
    refine M.yes (b := !imp2F t u) (by rw [htu]; rfl) (by kernel_rfl) ?_
    exact M.ret (.sb true) (by kernel_rfl) rfl
  ·
    refine M.no (b := imp2F t u) htu (by kernel_rfl) ?_
    refine M.cl (Join_spec u t) ?_
    refine M.no (b := !tyEq (joinF t u) (joinF u t)) (by rw [hjc]; rfl) (by kernel_rfl) ?_
    refine M.cl (imp2_spec t (joinF t u)) ?_
    refine M.no (b := !imp2F t (joinF t u)) (by rw [hjl]; rfl) (by kernel_rfl) ?_
    refine M.cl (imp2_spec u (joinF t u)) ?_
    refine M.no (b := !imp2F u (joinF t u)) (by rw [hjr]; rfl) (by kernel_rfl) ?_
    refine M.no (b := imp2F t x) htx (by kernel_rfl) ?_
    refine M.cl (small_spec w hb) ?_
    refine M.test (!smallT w) (by kernel_rfl) (fun hs => M.ret (.sb true) (by kernel_rfl) rfl) (fun hs => ?_)
    have hok := hw (by simpa using hs)
    refine M.cl (few_spec maps hm1 hm2) ?_
    refine M.test (!fewT maps) (by kernel_rfl) (fun hs2 => M.ret (.sb true) (by kernel_rfl) rfl) (fun hs2 => ?_)
    refine M.yes (b := !imp2F t u) (by rw [htu]; rfl) (by kernel_rfl) ?_
    exact M.ret (.sb true) (by kernel_rfl) rfl
end Go.Proofs.YtcknpohghmkbmaaGreatDoor
namespace Go.Proofs.YtcknpohghmkbmaaGreatDoor
open Go.RowKit Go.ChangeShapes Go.WideShapes
/-- A type's cells read as abstract values; what is known of them. -/
def OpenT (P : Program) (T : TypeId) {α : Type} (k : Nat) (f : α → List PV) (B : α → Prop) : Prop :=
  P.cellsOf T = k ∧ ∀ (H : Type) (enc : TypeId × Value → H) (W : World) (sp : Nat → Bool) (held : Bool) (fuel : Nat) (cs : List Value) (x : DataW H × List MemPlace), DataW.trod enc P W 0 sp held fuel T cs = some x → (x.1.weights P T).all (· ≤ reachBytes) = true →
    ∃ a : α, cs.length = k ∧ (∀ c ∈ cs, c.oneCell' = true) ∧ Rs [] [] W (f a) cs ∧ B a
section
variable {P : Program}
theorem open_int' {T : TypeId} (ht : P.underlying T = some (.int .i64)) (hc : P.cellsOf T = 1) : OpenT P T 1 (fun n : Int => [I n]) In64 :=
  ⟨hc, fun H enc W sp held fuel cs x h hw => by
    obtain ⟨n, rfl, rfl, wf⟩ := DataW.trod_int ht h
    exact ⟨n, rfl, fun c hc => by rw [List.mem_singleton] at hc; subst hc; rfl, Rs.cons (by rw [R]) Rs.nil, by unfold In64; simpa [Lit.wf, IntKind.min, IntKind.max, IntKind.signed, IntKind.bits] using wf⟩⟩
theorem open_str' {T : TypeId} (ht : P.underlying T = some .string) (hc : P.cellsOf T = 1) : OpenT P T 1 (fun s : List UInt8 => [S s]) (fun s => s.length ≤ 140737488355328) :=
  ⟨hc, fun H enc W sp held fuel cs x h hw => by
    obtain ⟨s, rfl, rfl, _⟩ := DataW.trod_string ht h
    refine ⟨s.data.toList, rfl, fun c hc => by rw [List.mem_singleton] at hc; subst hc; rfl, Rs.cons (by rw [R]) Rs.nil, ?_⟩
    simp only [DataW.weights, List.all_cons, List.all_nil, Bool.and_true, decide_eq_true_eq] at hw
    exact Nat.le_trans hw (by decide)⟩
theorem open_bool' {T : TypeId} (ht : P.underlying T = some .bool) (hc : P.cellsOf T = 1) : OpenT P T 1 (fun b : Bool => [.sb b]) (fun _ => True) :=
  ⟨hc, fun H enc W sp held fuel cs x h hw => by
    obtain ⟨b, rfl, rfl⟩ := DataW.trod_bool ht h
    exact ⟨b, rfl, fun c hc => by rw [List.mem_singleton] at hc; subst hc; rfl, Rs.cons (by rw [R]) Rs.nil, trivial⟩⟩
theorem OpenT.map {T : TypeId} {α β : Type} {k : Nat} {f : α → List PV} {f' : β → List PV} {B : α → Prop} {B' : β → Prop} (h : OpenT P T k f B) (g : α → β) (hf : ∀ a, f' (g a) = f a) (hB : ∀ a, B a → B' (g a)) : OpenT P T k f' B' :=
  ⟨h.1, fun H enc W sp held fuel cs x hx hw => by
    obtain ⟨a, h1, h2, h3, h4⟩ := h.2 H enc W sp held fuel cs x hx hw
    exact ⟨g a, h1, h2, by rw [hf]; exact h3, hB a h4⟩⟩
/-- The fields of a struct from one place on. -/
def OpenFs (P : Program) (fs : List Field) (off : Nat) {α : Type} (k : Nat) (f : α → List PV) (B : α → Prop) : Prop :=
  ∀ (H : Type) (enc : TypeId × Value → H) (W : World) (sp : Nat → Bool) (held : Bool) (n : Nat) (cs : List Value) (xs : List (DataW H × List MemPlace)), xs.length = fs.length →
    (∀ (i : Nat) (fd : Field), fs[i]? = some fd → DataW.trod enc P W 0 sp held n fd.type ((cs.drop fd.offset).take (P.cellsOf fd.type)) = xs[i]?) → (DataW.weightsEach P (fs.map (·.type)) (xs.map (·.1))).all (· ≤ reachBytes) = true →
    ∃ a : α, ((cs.drop off).take k).length = k ∧ (∀ c ∈ (cs.drop off).take k, c.oneCell' = true) ∧ Rs [] [] W (f a) ((cs.drop off).take k) ∧ B a
theorem OpenFs.nil {off : Nat} : OpenFs P [] off 0 (fun _ : Unit => []) (fun _ => True) := fun H enc W sp held n cs xs _ _ _ => ⟨(), by simp, fun c hc => by simp at hc, by simpa using Rs.nil, trivial⟩
theorem OpenFs.cons {fd : Field} {fs : List Field} {off k1 k2 : Nat} {α β : Type} {f : α → List PV} {g : β → List PV} {B : α → Prop} {B2 : β → Prop} (hoff : fd.offset = off) (h1 : OpenT P fd.type k1 f B) (h2 : OpenFs P fs (off + k1) k2 g B2) :
    OpenFs P (fd :: fs) off (k1 + k2) (fun q : α × β => f q.1 ++ g q.2) (fun q => B q.1 ∧ B2 q.2) := fun H enc W sp held n cs xs hl hx hw => by
  cases xs with
  | nil => simp at hl
  | cons x xs =>
    have e0 := hx 0 fd rfl
    rw [List.getElem?_cons_zero, hoff, h1.1] at e0
    simp only [List.map_cons, DataW.weightsEach, List.all_append, Bool.and_eq_true] at hw
    obtain ⟨a, a1, a2, a3, a4⟩ := h1.2 H enc W sp held n _ x e0 hw.1
    obtain ⟨b, b1, b2, b3, b4⟩ := h2 H enc W sp held n cs xs (by simpa using hl) (fun i fd' h => by simpa using hx (i + 1) fd' (by simpa using h)) hw.2
    have e : (cs.drop off).take (k1 + k2) = (cs.drop off).take k1 ++ (cs.drop (off + k1)).take k2 := by rw [List.take_add, List.drop_drop]
    refine ⟨(a, b), by rw [e, List.length_append, a1, b1], fun c hc => ?_, by rw [e]; exact a3.append b3, a4, b4⟩
    rw [e] at hc
    rcases List.mem_append.1 hc with h | h
    · exact a2 c h
    · exact b2 c h
theorem open_struct' {T : TypeId} {fs : List Field} {α : Type} {k : Nat} {f : α → List PV} {B : α → Prop} (ht : P.underlying T = some (.struct fs.toArray)) (hc : P.cellsOf T = k) (h : OpenFs P fs 0 k f B) : OpenT P T k f B :=
  ⟨hc, fun H enc W sp held fuel cs x hx hw => by
    obtain ⟨xs, n, rfl, rfl, hlen, hxl, hf⟩ := DataW.trod_struct ht hx
    simp only [DataW.weights, ht] at hw
    obtain ⟨a, h1, h2, h3, h4⟩ := h H enc W sp held n cs xs (by simpa using hxl) (fun i fd hfd => hf i fd (by simpa using hfd)) (by simpa using hw)
    rw [List.drop_zero, List.take_of_length_le (by rw [hlen, hc]; exact Nat.le_refl _)] at h1 h2 h3
    exact ⟨a, h1, h2, h3, h4⟩⟩
theorem weightsAll_each {H : Type} {e : TypeId} : ∀ {ds : List (DataW H)}, (DataW.weightsAll P e ds).all (· ≤ reachBytes) = true → ∀ d ∈ ds, (d.weights P e).all (· ≤ reachBytes) = true
  | [], _, d, hd => by simp at hd
  | x :: ds, h, d, hd => by
    simp only [DataW.weightsAll, List.all_append, Bool.and_eq_true] at h
    rcases List.mem_cons.1 hd with rfl | hd
    · exact h.1
    · exact weightsAll_each h.2 d hd
theorem cells_get {w : World} {base n : Nat} {a : Addr} {cs : List Value} (h : w.cells? base a n = some cs) : cs.length = n ∧ ∀ i, i < n → w.cell? (a.add i) = cs[i]? := by
  unfold World.cells? at h
  split at h
  · refine ⟨by simpa using mapM_some_length h, fun i hi => by have := mapM_some_get h i i (by simp [hi]); simpa using this⟩
  · cases h
theorem plain_add (b off n : Nat) : (⟨b, off, none⟩ : Addr).add n = ⟨b, off + n, none⟩ := by
  unfold Addr.add
  split
  · rename_i h; subst h; rfl
  · rfl
theorem open_list' {T e : TypeId} {α : Type} [Inhabited α] {k : Nat} {f : α → List PV} {B : α → Prop} (ht : P.underlying T = some (.slice e)) (hc : P.cellsOf T = 1) (hk : 0 < k) (hb : 0 < P.bytesOf e) (h : OpenT P e k f B) :
    OpenT P T 1 (fun l : List α => [row k f l]) (fun l => l.length ≤ 140737488355328 ∧ ∀ a ∈ l, B a) :=
  ⟨hc, fun H enc W sp held fuel cs x hx hw => by
    rcases Go.Deep.open_slice ht hx with ⟨rfl, rfl⟩ | ⟨a, len, cap, m, n, D, Pl, rfl, hba, hle, hcm, hm, rfl, hel⟩
    · exact ⟨[], rfl, fun c hc => by rw [List.mem_singleton] at hc; subst hc; rfl, Rs.cons (nil_row k f (by rw [R])) Rs.nil, Nat.zero_le _, fun a h => by cases h⟩
    · simp only [DataW.weights, ht, List.all_cons, List.all_append, Bool.and_eq_true, decide_eq_true_eq] at hw
      obtain ⟨hw1, hw2, _⟩ := hw
      have hlm : len ≤ m := by rw [hm]; split <;> omega
      have hlen : len ≤ 140737488355328 := by
        have h1 : len ≤ reachBytes := by
          refine Nat.le_trans ?_ hw1
          refine Nat.le_trans ?_ (Nat.le_mul_of_pos_right _ hb)
          simp
        exact Nat.le_trans h1 (by decide)
      have hex : ∀ i, ∃ q : α, i < len → ∃ cs', W.cells? 0 (a.add (i * k)) k = some cs' ∧ cs'.length = k ∧ (∀ c ∈ cs', c.oneCell' = true) ∧ Rs [] [] W (f q) cs' ∧ B q := fun i => by
        by_cases hi : i < len
        · obtain ⟨cs', h1, h2⟩ := hel i (by omega)
          rw [h.1] at h1
          obtain ⟨q, q1, q2, q3, q4⟩ := h.2 H enc W sp held n cs' (D i, Pl i) h2 (weightsAll_each hw2 (D i) (List.mem_map.2 ⟨i, List.mem_range.2 hi, rfl⟩))
          exact ⟨q, fun _ => ⟨cs', h1, q1, q2, q3, q4⟩⟩
        · exact ⟨default, fun h => absurd h hi⟩
      have hg : ∀ i, i < len → ∃ cs', W.cells? 0 (a.add (i * k)) k = some cs' ∧ cs'.length = k ∧ (∀ c ∈ cs', c.oneCell' = true) ∧ Rs [] [] W (f (Classical.choose (hex i))) cs' ∧ B (Classical.choose (hex i)) := fun i => Classical.choose_spec (hex i)
      have hget : ∀ j, j < len → ((List.range len).map fun i => Classical.choose (hex i)).getD j default = Classical.choose (hex j) := fun j hj => by
        simp [List.getD_eq_getElem?_getD, hj]
      refine ⟨(List.range len).map fun i => Classical.choose (hex i), rfl, fun c hc => by rw [List.mem_singleton] at hc; subst hc; rfl, Rs.cons ?_ Rs.nil, by simpa using hlen, fun q hq => ?_⟩
      · rw [R]
        refine ⟨some a, cap, by simp, by simpa using hle, hcm, fun h0 => ?_⟩
        have h0 : 0 < len := by simpa using h0
        obtain ⟨cs0, c1, c2, _⟩ := hg 0 h0
        have hspot : a.spot = none := by
          have h2 := (cells_get c1).2 0 hk
          rw [List.getElem?_eq_getElem (by omega)] at h2
          unfold World.cell? at h2
          split at h2
          · split at h2
            · cases h2
            · rename_i hs
              simpa [Addr.add] using hs
          · cases h2
        have hblk : a.block < W.heap.size := by
          have h2 := (cells_get c1).2 0 hk
          rw [List.getElem?_eq_getElem (by omega)] at h2
          unfold World.cell? at h2
          split at h2
          · rename_i h3
            have := (Array.getElem?_eq_some_iff.1 h3).1
            simpa [Addr.add] using this
          · cases h2
        obtain ⟨b, off, spot⟩ := a
        simp only at hspot hblk
        subst hspot
        refine ⟨b, off, rfl, fun h => by rcases h with h | h <;> simp at h, hblk, fun j hj => ?_⟩
        have hj : j < len := by simpa using hj
        obtain ⟨cs', q1, q2, q3, q4, _⟩ := hg j hj
        refine ⟨cs', q2, q3, ?_, fun i x hi => ?_⟩
        · rw [hget j hj]; exact q4
        · have hik : i < k := by have := (List.getElem?_eq_some_iff.1 hi).1; omega
          have := (cells_get q1).2 i hik
          rw [hi, plain_add, plain_add] at this
          exact this
      · obtain ⟨i, hi, rfl⟩ := List.mem_map.1 hq
        exact (hg i (List.mem_range.1 hi)).choose_spec.2.2.2.2⟩
end
end Go.Proofs.YtcknpohghmkbmaaGreatDoor
namespace Go.Proofs.YtcknpohghmkbmaaGreatDoor
open Go.RowKit
abbrev Big47 : Nat := 140737488355328
abbrev intO : OpenT Tryz.prog 3 1 (fun n : Int => [I n]) In64 := open_int' Tryz.underlying3 (by kernel_rfl)
abbrev strO : OpenT Tryz.prog 9 1 (fun s : List UInt8 => [S s]) (fun s => s.length ≤ Big47) := open_str' Tryz.underlying9 (by kernel_rfl)
abbrev boolO : OpenT Tryz.prog 4 1 (fun b : Bool => [.sb b]) (fun _ => True) := open_bool' Tryz.underlying4 (by kernel_rfl)
theorem open_s2 {P : Program} {T : TypeId} {f1 f2 : Field} {k1 k2 : Nat} {α1 α2 : Type} {g1 : α1 → List PV} {B1 : α1 → Prop} {g2 : α2 → List PV} {B2 : α2 → Prop} (ht : P.underlying T = some (.struct #[f1, f2])) (hc : P.cellsOf T = (k1 + (k2 + 0))) (o1 : f1.offset = 0) (h1 : OpenT P f1.type k1 g1 B1) (o2 : f2.offset = 0 + k1) (h2 : OpenT P f2.type k2 g2 B2) : OpenT P T (k1 + (k2 + 0)) (fun q : α1 × α2 × Unit => g1 q.1 ++ (g2 q.2.1 ++ ([]))) (fun q => B1 q.1 ∧ B2 q.2.1 ∧ True) :=
  open_struct' ht hc (OpenFs.cons o1 h1 (OpenFs.cons o2 h2 OpenFs.nil))
theorem open_s3 {P : Program} {T : TypeId} {f1 f2 f3 : Field} {k1 k2 k3 : Nat} {α1 α2 α3 : Type} {g1 : α1 → List PV} {B1 : α1 → Prop} {g2 : α2 → List PV} {B2 : α2 → Prop} {g3 : α3 → List PV} {B3 : α3 → Prop} (ht : P.underlying T = some (.struct #[f1, f2, f3])) (hc : P.cellsOf T = (k1 + (k2 + (k3 + 0)))) (o1 : f1.offset = 0) (h1 : OpenT P f1.type k1 g1 B1) (o2 : f2.offset = 0 + k1) (h2 : OpenT P f2.type k2 g2 B2) (o3 : f3.offset = 0 + k1 + k2) (h3 : OpenT P f3.type k3 g3 B3) : OpenT P T (k1 + (k2 + (k3 + 0))) (fun q : α1 × α2 × α3 × Unit => g1 q.1 ++ (g2 q.2.1 ++ (g3 q.2.2.1 ++ ([])))) (fun q => B1 q.1 ∧ B2 q.2.1 ∧ B3 q.2.2.1 ∧ True) :=
  open_struct' ht hc (OpenFs.cons o1 h1 (OpenFs.cons o2 h2 (OpenFs.cons o3 h3 OpenFs.nil)))
theorem open_s4 {P : Program} {T : TypeId} {f1 f2 f3 f4 : Field} {k1 k2 k3 k4 : Nat} {α1 α2 α3 α4 : Type} {g1 : α1 → List PV} {B1 : α1 → Prop} {g2 : α2 → List PV} {B2 : α2 → Prop} {g3 : α3 → List PV} {B3 : α3 → Prop} {g4 : α4 → List PV} {B4 : α4 → Prop} (ht : P.underlying T = some (.struct #[f1, f2, f3, f4])) (hc : P.cellsOf T = (k1 + (k2 + (k3 + (k4 + 0))))) (o1 : f1.offset = 0) (h1 : OpenT P f1.type k1 g1 B1) (o2 : f2.offset = 0 + k1) (h2 : OpenT P f2.type k2 g2 B2) (o3 : f3.offset = 0 + k1 + k2) (h3 : OpenT P f3.type k3 g3 B3) (o4 : f4.offset = 0 + k1 + k2 + k3) (h4 : OpenT P f4.type k4 g4 B4) : OpenT P T (k1 + (k2 + (k3 + (k4 + 0)))) (fun q : α1 × α2 × α3 × α4 × Unit => g1 q.1 ++ (g2 q.2.1 ++ (g3 q.2.2.1 ++ (g4 q.2.2.2.1 ++ ([]))))) (fun q => B1 q.1 ∧ B2 q.2.1 ∧ B3 q.2.2.1 ∧ B4 q.2.2.2.1 ∧ True) :=
  open_struct' ht hc (OpenFs.cons o1 h1 (OpenFs.cons o2 h2 (OpenFs.cons o3 h3 (OpenFs.cons o4 h4 OpenFs.nil))))
theorem open_s5 {P : Program} {T : TypeId} {f1 f2 f3 f4 f5 : Field} {k1 k2 k3 k4 k5 : Nat} {α1 α2 α3 α4 α5 : Type} {g1 : α1 → List PV} {B1 : α1 → Prop} {g2 : α2 → List PV} {B2 : α2 → Prop} {g3 : α3 → List PV} {B3 : α3 → Prop} {g4 : α4 → List PV} {B4 : α4 → Prop} {g5 : α5 → List PV} {B5 : α5 → Prop} (ht : P.underlying T = some (.struct #[f1, f2, f3, f4, f5])) (hc : P.cellsOf T = (k1 + (k2 + (k3 + (k4 + (k5 + 0)))))) (o1 : f1.offset = 0) (h1 : OpenT P f1.type k1 g1 B1) (o2 : f2.offset = 0 + k1) (h2 : OpenT P f2.type k2 g2 B2) (o3 : f3.offset = 0 + k1 + k2) (h3 : OpenT P f3.type k3 g3 B3) (o4 : f4.offset = 0 + k1 + k2 + k3) (h4 : OpenT P f4.type k4 g4 B4) (o5 : f5.offset = 0 + k1 + k2 + k3 + k4) (h5 : OpenT P f5.type k5 g5 B5) : OpenT P T (k1 + (k2 + (k3 + (k4 + (k5 + 0))))) (fun q : α1 × α2 × α3 × α4 × α5 × Unit => g1 q.1 ++ (g2 q.2.1 ++ (g3 q.2.2.1 ++ (g4 q.2.2.2.1 ++ (g5 q.2.2.2.2.1 ++ ([])))))) (fun q => B1 q.1 ∧ B2 q.2.1 ∧ B3 q.2.2.1 ∧ B4 q.2.2.2.1 ∧ B5 q.2.2.2.2.1 ∧ True) :=
  open_struct' ht hc (OpenFs.cons o1 h1 (OpenFs.cons o2 h2 (OpenFs.cons o3 h3 (OpenFs.cons o4 h4 (OpenFs.cons o5 h5 OpenFs.nil)))))
theorem open_s6 {P : Program} {T : TypeId} {f1 f2 f3 f4 f5 f6 : Field} {k1 k2 k3 k4 k5 k6 : Nat} {α1 α2 α3 α4 α5 α6 : Type} {g1 : α1 → List PV} {B1 : α1 → Prop} {g2 : α2 → List PV} {B2 : α2 → Prop} {g3 : α3 → List PV} {B3 : α3 → Prop} {g4 : α4 → List PV} {B4 : α4 → Prop} {g5 : α5 → List PV} {B5 : α5 → Prop} {g6 : α6 → List PV} {B6 : α6 → Prop} (ht : P.underlying T = some (.struct #[f1, f2, f3, f4, f5, f6])) (hc : P.cellsOf T = (k1 + (k2 + (k3 + (k4 + (k5 + (k6 + 0))))))) (o1 : f1.offset = 0) (h1 : OpenT P f1.type k1 g1 B1) (o2 : f2.offset = 0 + k1) (h2 : OpenT P f2.type k2 g2 B2) (o3 : f3.offset = 0 + k1 + k2) (h3 : OpenT P f3.type k3 g3 B3) (o4 : f4.offset = 0 + k1 + k2 + k3) (h4 : OpenT P f4.type k4 g4 B4) (o5 : f5.offset = 0 + k1 + k2 + k3 + k4) (h5 : OpenT P f5.type k5 g5 B5) (o6 : f6.offset = 0 + k1 + k2 + k3 + k4 + k5) (h6 : OpenT P f6.type k6 g6 B6) : OpenT P T (k1 + (k2 + (k3 + (k4 + (k5 + (k6 + 0)))))) (fun q : α1 × α2 × α3 × α4 × α5 × α6 × Unit => g1 q.1 ++ (g2 q.2.1 ++ (g3 q.2.2.1 ++ (g4 q.2.2.2.1 ++ (g5 q.2.2.2.2.1 ++ (g6 q.2.2.2.2.2.1 ++ ([]))))))) (fun q => B1 q.1 ∧ B2 q.2.1 ∧ B3 q.2.2.1 ∧ B4 q.2.2.2.1 ∧ B5 q.2.2.2.2.1 ∧ B6 q.2.2.2.2.2.1 ∧ True) :=
  open_struct' ht hc (OpenFs.cons o1 h1 (OpenFs.cons o2 h2 (OpenFs.cons o3 h3 (OpenFs.cons o4 h4 (OpenFs.cons o5 h5 (OpenFs.cons o6 h6 OpenFs.nil))))))
theorem open_s7 {P : Program} {T : TypeId} {f1 f2 f3 f4 f5 f6 f7 : Field} {k1 k2 k3 k4 k5 k6 k7 : Nat} {α1 α2 α3 α4 α5 α6 α7 : Type} {g1 : α1 → List PV} {B1 : α1 → Prop} {g2 : α2 → List PV} {B2 : α2 → Prop} {g3 : α3 → List PV} {B3 : α3 → Prop} {g4 : α4 → List PV} {B4 : α4 → Prop} {g5 : α5 → List PV} {B5 : α5 → Prop} {g6 : α6 → List PV} {B6 : α6 → Prop} {g7 : α7 → List PV} {B7 : α7 → Prop} (ht : P.underlying T = some (.struct #[f1, f2, f3, f4, f5, f6, f7])) (hc : P.cellsOf T = (k1 + (k2 + (k3 + (k4 + (k5 + (k6 + (k7 + 0)))))))) (o1 : f1.offset = 0) (h1 : OpenT P f1.type k1 g1 B1) (o2 : f2.offset = 0 + k1) (h2 : OpenT P f2.type k2 g2 B2) (o3 : f3.offset = 0 + k1 + k2) (h3 : OpenT P f3.type k3 g3 B3) (o4 : f4.offset = 0 + k1 + k2 + k3) (h4 : OpenT P f4.type k4 g4 B4) (o5 : f5.offset = 0 + k1 + k2 + k3 + k4) (h5 : OpenT P f5.type k5 g5 B5) (o6 : f6.offset = 0 + k1 + k2 + k3 + k4 + k5) (h6 : OpenT P f6.type k6 g6 B6) (o7 : f7.offset = 0 + k1 + k2 + k3 + k4 + k5 + k6) (h7 : OpenT P f7.type k7 g7 B7) : OpenT P T (k1 + (k2 + (k3 + (k4 + (k5 + (k6 + (k7 + 0))))))) (fun q : α1 × α2 × α3 × α4 × α5 × α6 × α7 × Unit => g1 q.1 ++ (g2 q.2.1 ++ (g3 q.2.2.1 ++ (g4 q.2.2.2.1 ++ (g5 q.2.2.2.2.1 ++ (g6 q.2.2.2.2.2.1 ++ (g7 q.2.2.2.2.2.2.1 ++ ([])))))))) (fun q => B1 q.1 ∧ B2 q.2.1 ∧ B3 q.2.2.1 ∧ B4 q.2.2.2.1 ∧ B5 q.2.2.2.2.1 ∧ B6 q.2.2.2.2.2.1 ∧ B7 q.2.2.2.2.2.2.1 ∧ True) :=
  open_struct' ht hc (OpenFs.cons o1 h1 (OpenFs.cons o2 h2 (OpenFs.cons o3 h3 (OpenFs.cons o4 h4 (OpenFs.cons o5 h5 (OpenFs.cons o6 h6 (OpenFs.cons o7 h7 OpenFs.nil)))))))
theorem open_s9 {P : Program} {T : TypeId} {f1 f2 f3 f4 f5 f6 f7 f8 f9 : Field} {k1 k2 k3 k4 k5 k6 k7 k8 k9 : Nat} {α1 α2 α3 α4 α5 α6 α7 α8 α9 : Type} {g1 : α1 → List PV} {B1 : α1 → Prop} {g2 : α2 → List PV} {B2 : α2 → Prop} {g3 : α3 → List PV} {B3 : α3 → Prop} {g4 : α4 → List PV} {B4 : α4 → Prop} {g5 : α5 → List PV} {B5 : α5 → Prop} {g6 : α6 → List PV} {B6 : α6 → Prop} {g7 : α7 → List PV} {B7 : α7 → Prop} {g8 : α8 → List PV} {B8 : α8 → Prop} {g9 : α9 → List PV} {B9 : α9 → Prop} (ht : P.underlying T = some (.struct #[f1, f2, f3, f4, f5, f6, f7, f8, f9])) (hc : P.cellsOf T = (k1 + (k2 + (k3 + (k4 + (k5 + (k6 + (k7 + (k8 + (k9 + 0)))))))))) (o1 : f1.offset = 0) (h1 : OpenT P f1.type k1 g1 B1) (o2 : f2.offset = 0 + k1) (h2 : OpenT P f2.type k2 g2 B2) (o3 : f3.offset = 0 + k1 + k2) (h3 : OpenT P f3.type k3 g3 B3) (o4 : f4.offset = 0 + k1 + k2 + k3) (h4 : OpenT P f4.type k4 g4 B4) (o5 : f5.offset = 0 + k1 + k2 + k3 + k4) (h5 : OpenT P f5.type k5 g5 B5) (o6 : f6.offset = 0 + k1 + k2 + k3 + k4 + k5) (h6 : OpenT P f6.type k6 g6 B6) (o7 : f7.offset = 0 + k1 + k2 + k3 + k4 + k5 + k6) (h7 : OpenT P f7.type k7 g7 B7) (o8 : f8.offset = 0 + k1 + k2 + k3 + k4 + k5 + k6 + k7) (h8 : OpenT P f8.type k8 g8 B8) (o9 : f9.offset = 0 + k1 + k2 + k3 + k4 + k5 + k6 + k7 + k8) (h9 : OpenT P f9.type k9 g9 B9) : OpenT P T (k1 + (k2 + (k3 + (k4 + (k5 + (k6 + (k7 + (k8 + (k9 + 0))))))))) (fun q : α1 × α2 × α3 × α4 × α5 × α6 × α7 × α8 × α9 × Unit => g1 q.1 ++ (g2 q.2.1 ++ (g3 q.2.2.1 ++ (g4 q.2.2.2.1 ++ (g5 q.2.2.2.2.1 ++ (g6 q.2.2.2.2.2.1 ++ (g7 q.2.2.2.2.2.2.1 ++ (g8 q.2.2.2.2.2.2.2.1 ++ (g9 q.2.2.2.2.2.2.2.2.1 ++ ([])))))))))) (fun q => B1 q.1 ∧ B2 q.2.1 ∧ B3 q.2.2.1 ∧ B4 q.2.2.2.1 ∧ B5 q.2.2.2.2.1 ∧ B6 q.2.2.2.2.2.1 ∧ B7 q.2.2.2.2.2.2.1 ∧ B8 q.2.2.2.2.2.2.2.1 ∧ B9 q.2.2.2.2.2.2.2.2.1 ∧ True) :=
  open_struct' ht hc (OpenFs.cons o1 h1 (OpenFs.cons o2 h2 (OpenFs.cons o3 h3 (OpenFs.cons o4 h4 (OpenFs.cons o5 h5 (OpenFs.cons o6 h6 (OpenFs.cons o7 h7 (OpenFs.cons o8 h8 (OpenFs.cons o9 h9 OpenFs.nil)))))))))
theorem strsO : OpenT Tryz.prog 79 1 (fun l : List (List UInt8) => [row 1 (fun s => [S s]) l]) (fun l => l.length ≤ Big47 ∧ ∀ a ∈ l, a.length ≤ Big47) := open_list' Tryz.underlying79 (by kernel_rfl) (by decide) (of_decide_eq_true (by kernel_rfl)) strO
def Vl.B (x : Vl) : Prop := In64 x.k ∧ In64 x.n ∧ x.t.length ≤ Big47 ∧ True
set_option maxRecDepth 100000 in
theorem Vl.O : OpenT Tryz.prog 28 3 Vl.pv Vl.B :=
  (open_s3 Tryz.underlying28 (by kernel_rfl) rfl intO rfl intO rfl strO).map (fun (q : Int × Int × List UInt8 × Unit) => ⟨q.1, q.2.1, q.2.2.1⟩) (fun q => rfl) (fun q h => h)
theorem Vl.lO : OpenT Tryz.prog 74 1 (fun l : List Vl => [row 3 Vl.pv l]) (fun l => l.length ≤ Big47 ∧ ∀ a ∈ l, Vl.B a) := open_list' Tryz.underlying74 (by kernel_rfl) (by decide) (of_decide_eq_true (by kernel_rfl)) Vl.O
def Sl.B (x : Sl) : Prop := x.nm.length ≤ Big47 ∧ In64 x.kd ∧ Vl.B x.v ∧ True
set_option maxRecDepth 100000 in
theorem Sl.O : OpenT Tryz.prog 30 5 Sl.pv Sl.B :=
  (open_s3 Tryz.underlying30 (by kernel_rfl) rfl strO rfl intO rfl Vl.O).map (fun (q : List UInt8 × Int × Vl × Unit) => ⟨q.1, q.2.1, q.2.2.1⟩) (fun q => rfl) (fun q h => h)
theorem Sl.lO : OpenT Tryz.prog 33 1 (fun l : List Sl => [row 5 Sl.pv l]) (fun l => l.length ≤ Big47 ∧ ∀ a ∈ l, Sl.B a) := open_list' Tryz.underlying33 (by kernel_rfl) (by decide) (of_decide_eq_true (by kernel_rfl)) Sl.O
def Ob.B (x : Ob) : Prop := In64 x.oid ∧ In64 x.kd ∧ (x.sl.length ≤ Big47 ∧ ∀ y ∈ x.sl, Sl.B y) ∧ (x.el.length ≤ Big47 ∧ ∀ y ∈ x.el, Vl.B y) ∧ In64 x.code ∧ In64 x.up ∧ True
set_option maxRecDepth 100000 in
theorem Ob.O : OpenT Tryz.prog 76 6 Ob.pv Ob.B :=
  (open_s6 Tryz.underlying76 (by kernel_rfl) rfl intO rfl intO rfl Sl.lO rfl Vl.lO rfl intO rfl intO).map (fun (q : Int × Int × List Sl × List Vl × Int × Int × Unit) => ⟨q.1, q.2.1, q.2.2.1, q.2.2.2.1, q.2.2.2.2.1, q.2.2.2.2.2.1⟩) (fun q => rfl) (fun q h => h)
theorem Ob.lO : OpenT Tryz.prog 22 1 (fun l : List Ob => [row 6 Ob.pv l]) (fun l => l.length ≤ Big47 ∧ ∀ a ∈ l, Ob.B a) := open_list' Tryz.underlying22 (by kernel_rfl) (by decide) (of_decide_eq_true (by kernel_rfl)) Ob.O
def Ac.B (x : Ac) : Prop := In64 x.aid ∧ In64 x.code ∧ Vl.B x.self ∧ In64 x.holder ∧ In64 x.up ∧ (x.vars.length ≤ Big47 ∧ ∀ y ∈ x.vars, Vl.B y) ∧ True ∧ True
set_option maxRecDepth 100000 in
theorem Ac.O : OpenT Tryz.prog 78 9 Ac.pv Ac.B :=
  (open_s7 Tryz.underlying78 (by kernel_rfl) rfl intO rfl intO rfl Vl.O rfl intO rfl intO rfl Vl.lO rfl boolO).map (fun (q : Int × Int × Vl × Int × Int × List Vl × Bool × Unit) => ⟨q.1, q.2.1, q.2.2.1, q.2.2.2.1, q.2.2.2.2.1, q.2.2.2.2.2.1, q.2.2.2.2.2.2.1⟩) (fun q => rfl) (fun q h => h)
theorem Ac.lO : OpenT Tryz.prog 23 1 (fun l : List Ac => [row 9 Ac.pv l]) (fun l => l.length ≤ Big47 ∧ ∀ a ∈ l, Ac.B a) := open_list' Tryz.underlying23 (by kernel_rfl) (by decide) (of_decide_eq_true (by kernel_rfl)) Ac.O
def In.B (x : In) : Prop := In64 x.op ∧ In64 x.a ∧ In64 x.b ∧ In64 x.c ∧ True
set_option maxRecDepth 100000 in
theorem In.O : OpenT Tryz.prog 184 4 In.pv In.B :=
  (open_s4 Tryz.underlying184 (by kernel_rfl) rfl intO rfl intO rfl intO rfl intO).map (fun (q : Int × Int × Int × Int × Unit) => ⟨q.1, q.2.1, q.2.2.1, q.2.2.2.1⟩) (fun q => rfl) (fun q h => h)
theorem In.lO : OpenT Tryz.prog 80 1 (fun l : List In => [row 4 In.pv l]) (fun l => l.length ≤ Big47 ∧ ∀ a ∈ l, In.B a) := open_list' Tryz.underlying80 (by kernel_rfl) (by decide) (of_decide_eq_true (by kernel_rfl)) In.O
def Cd.B (x : Cd) : Prop := x.nm.length ≤ Big47 ∧ True ∧ In64 x.outer ∧ In64 x.args ∧ (x.names.length ≤ Big47 ∧ ∀ y ∈ x.names, y.length ≤ Big47) ∧ (x.init.length ≤ Big47 ∧ ∀ y ∈ x.init, Vl.B y) ∧ (x.lits.length ≤ Big47 ∧ ∀ y ∈ x.lits, Vl.B y) ∧ (x.sels.length ≤ Big47 ∧ ∀ y ∈ x.sels, y.length ≤ Big47) ∧ (x.ins.length ≤ Big47 ∧ ∀ y ∈ x.ins, In.B y) ∧ True
set_option maxRecDepth 100000 in
theorem Cd.O : OpenT Tryz.prog 82 9 Cd.pv Cd.B :=
  (open_s9 Tryz.underlying82 (by kernel_rfl) rfl strO rfl boolO rfl intO rfl intO rfl strsO rfl Vl.lO rfl Vl.lO rfl strsO rfl In.lO).map (fun (q : List UInt8 × Bool × Int × Int × List (List UInt8) × List Vl × List Vl × List (List UInt8) × List In × Unit) => ⟨q.1, q.2.1, q.2.2.1, q.2.2.2.1, q.2.2.2.2.1, q.2.2.2.2.2.1, q.2.2.2.2.2.2.1, q.2.2.2.2.2.2.2.1, q.2.2.2.2.2.2.2.2.1⟩) (fun q => rfl) (fun q h => h)
theorem Cd.lO : OpenT Tryz.prog 24 1 (fun l : List Cd => [row 9 Cd.pv l]) (fun l => l.length ≤ Big47 ∧ ∀ a ∈ l, Cd.B a) := open_list' Tryz.underlying24 (by kernel_rfl) (by decide) (of_decide_eq_true (by kernel_rfl)) Cd.O
def Wd.B (x : Wd) : Prop := (x.objs.length ≤ Big47 ∧ ∀ y ∈ x.objs, Ob.B y) ∧ (x.acts.length ≤ Big47 ∧ ∀ y ∈ x.acts, Ac.B y) ∧ (x.cds.length ≤ Big47 ∧ ∀ y ∈ x.cds, Cd.B y) ∧ In64 x.nO ∧ In64 x.nA ∧ True
set_option maxRecDepth 100000 in
theorem Wd.O : OpenT Tryz.prog 26 5 Wd.pv Wd.B :=
  (open_s5 Tryz.underlying26 (by kernel_rfl) rfl Ob.lO rfl Ac.lO rfl Cd.lO rfl intO rfl intO).map (fun (q : List Ob × List Ac × List Cd × Int × Int × Unit) => ⟨q.1, q.2.1, q.2.2.1, q.2.2.2.1, q.2.2.2.2.1⟩) (fun q => rfl) (fun q h => h)
def Mp.B (x : Mp) : Prop := In64 x.kd ∧ (x.sl.length ≤ Big47 ∧ ∀ y ∈ x.sl, Sl.B y) ∧ True
set_option maxRecDepth 100000 in
theorem Mp.O : OpenT Tryz.prog 35 2 Mp.pv Mp.B :=
  (open_s2 Tryz.underlying35 (by kernel_rfl) rfl intO rfl Sl.lO).map (fun (q : Int × List Sl × Unit) => ⟨q.1, q.2.1⟩) (fun q => rfl) (fun q h => h)
theorem Mp.lO : OpenT Tryz.prog 44 1 (fun l : List Mp => [row 2 Mp.pv l]) (fun l => l.length ≤ Big47 ∧ ∀ a ∈ l, Mp.B a) := open_list' Tryz.underlying44 (by kernel_rfl) (by decide) (of_decide_eq_true (by kernel_rfl)) Mp.O
def Ty.B (x : Ty) : Prop := In64 x.k ∧ In64 x.n ∧ Vl.B x.v ∧ True
set_option maxRecDepth 100000 in
theorem Ty.O : OpenT Tryz.prog 46 5 Ty.pv Ty.B :=
  (open_s3 Tryz.underlying46 (by kernel_rfl) rfl intO rfl intO rfl Vl.O).map (fun (q : Int × Int × Vl × Unit) => ⟨q.1, q.2.1, q.2.2.1⟩) (fun q => rfl) (fun q h => h)
def Dp.B (x : Dp) : Prop := In64 x.oid ∧ True ∧ Mp.B x.map ∧ In64 x.slot ∧ Vl.B x.v ∧ True
set_option maxRecDepth 100000 in
theorem Dp.O : OpenT Tryz.prog 37 8 Dp.pv Dp.B :=
  (open_s5 Tryz.underlying37 (by kernel_rfl) rfl intO rfl boolO rfl Mp.O rfl intO rfl Vl.O).map (fun (q : Int × Bool × Mp × Int × Vl × Unit) => ⟨q.1, q.2.1, q.2.2.1, q.2.2.2.1, q.2.2.2.2.1⟩) (fun q => rfl) (fun q h => h)
def Ch.B (x : Ch) : Prop := In64 x.kind ∧ In64 x.oid ∧ x.name.length ≤ Big47 ∧ Sl.B x.slot ∧ True
set_option maxRecDepth 100000 in
theorem Ch.O : OpenT Tryz.prog 32 8 Ch.pv Ch.B :=
  (open_s4 Tryz.underlying32 (by kernel_rfl) rfl intO rfl intO rfl strO rfl Sl.O).map (fun (q : Int × Int × List UInt8 × Sl × Unit) => ⟨q.1, q.2.1, q.2.2.1, q.2.2.2.1⟩) (fun q => rfl) (fun q h => h)
end Go.Proofs.YtcknpohghmkbmaaGreatDoor
