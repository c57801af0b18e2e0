import Derived.Test.YtcknpohghmkbmaaGreatDoorK32
set_option linter.unusedVariables false
set_option linter.unusedSimpArgs false
/- The look of a type, and the law DepsMore. -/

/- proteuslaw14.DepsMore: the plain law and the walk. -/
namespace Go.Proofs.YtcknpohghmkbmaaGreatDoor
open Go.RowKit
theorem imp_cases {t u : Ty} (h : imp2F t u = true) : t = u ∨ u = kTy 0 ∨ (t.k = 1 ∧ u = kTy 3 ∧ startF t.v = 5) ∨ (t.k = 1 ∧ u = kTy 4 ∧ startF t.v = 6) := by
  rcases (imp_iff t u).1 h with h | h | ⟨h1, h⟩
  · exact .inl h
  · exact .inr (.inl h)
  · rcases h with ⟨h2, h3⟩ | ⟨h2, h3⟩
    · exact .inr (.inr (.inl ⟨h1, h2, by simp [startF, h3]⟩))
    · exact .inr (.inr (.inr ⟨h1, h2, by simp [startF, h3]⟩))
/-- What a type foretells, the type that it implies foretells too, but for whose it is. -/
theorem run_imp {t u : Ty} (h : imp2F t u = true) (w : Wd) (f : Nat) (maps : List Mp) (sel : List UInt8) (hu : (runT w f maps u sel).1.kind ≠ 0) :
    ({ (runT w f maps t sel).1 with own := (runT w f maps u sel).1.own } : Tg) = (runT w f maps u sel).1 := by
  rcases imp_cases h with rfl | rfl | ⟨k, rfl, e⟩ | ⟨k, rfl, e⟩
  · rfl
  · exact absurd rfl hu
  · unfold runT
    rw [k, e]; rfl
  · unfold runT
    rw [k, e]; rfl
def objU (w : Wd) : List Int := w.objs.flatMap fun o => (parL o.sl).map fun v => startF v
def mapU (maps : List Mp) : List Int := maps.flatMap fun m => (parL m.sl).map fun v => startF v
def moreU (w : Wd) (maps : List Mp) (y : Ty) : List Int := 5 :: 6 :: startF y.v :: (objU w ++ mapU maps)
theorem parL_len (l : List Sl) : (parL l).length ≤ l.length := by unfold parL; rw [List.length_map]; exact List.length_filter_le _ _
theorem sumTo_sum {α : Type} {b : Int} {f : α → Int} (hf0 : ∀ x : α, 0 ≤ f x) : ∀ (l : List α) (n : Int), sumTo b f l n ≤ b → n + (l.map f).sum = sumTo b f l n
  | [], n, h => by simp [sumTo]
  | x :: t, n, h => by
    by_cases hn : n ≤ b
    · rw [sumTo, decide_eq_true hn, cond_true] at h ⊢
      have := sumTo_sum hf0 t _ h
      rw [← this, List.map_cons, List.sum_cons]; omega
    · rw [sumTo_stop hn] at h; omega
theorem sumTo_ge {α : Type} {b : Int} {f : α → Int} (hf0 : ∀ x : α, 0 ≤ f x) : ∀ (l : List α) (n : Int), n ≤ sumTo b f l n
  | [], n => Int.le_refl _
  | x :: t, n => by
    rw [sumTo]
    cases decide (n ≤ b)
    · exact Int.le_refl _
    · have := sumTo_ge (b := b) hf0 t (n + f x); have := hf0 x
      rw [cond_true]; omega
theorem flat_len {α : Type} (g : α → List Int) (f : α → Int) (h : ∀ x, ((g x).length : Int) ≤ f x) : ∀ l : List α, ((l.flatMap g).length : Int) ≤ (l.map f).sum
  | [] => by simp
  | x :: t => by
    have := flat_len g f h t; have := h x
    rw [List.flatMap_cons, List.length_append, List.map_cons, List.sum_cons]; omega
theorem objU_len {w : Wd} (h : smallT w = true) : (objU w).length ≤ 1200 := by
  have h := of_decide_eq_true h
  unfold smallN at h
  have a1 := sumTo_ge (b := 1200) (f := cdN) (fun c => by unfold cdN; omega) w.cds (sumTo 1200 acN w.acts (sumTo 1200 obN w.objs ((w.objs.length : Int) + (w.acts.length : Int))))
  have a2 := sumTo_ge (b := 1200) (f := acN) (fun c => by unfold acN; omega) w.acts (sumTo 1200 obN w.objs ((w.objs.length : Int) + (w.acts.length : Int)))
  have a3 := sumTo_sum (b := 1200) (f := obN) (fun c => by unfold obN; omega) w.objs ((w.objs.length : Int) + (w.acts.length : Int)) (by omega)
  have a4 := flat_len (fun o : Ob => (parL o.sl).map fun v => startF v) obN (fun o => by have := parL_len o.sl; rw [List.length_map]; unfold obN; omega) w.objs
  unfold objU; omega
theorem mapU_len {maps : List Mp} (h : fewT maps = true) : (mapU maps).length ≤ 1500 := by
  have h := of_decide_eq_true h
  have a3 := sumTo_sum (b := 1500) (f := mpN) (fun c => by unfold mpN; omega) maps (maps.length : Int) h
  have a4 := flat_len (fun o : Mp => (parL o.sl).map fun v => startF v) mpN (fun o => by have := parL_len o.sl; rw [List.length_map]; unfold mpN; omega) maps
  unfold mapU; omega
theorem moreU_len {w : Wd} {maps : List Mp} (y : Ty) (h : smallT w = true) (h2 : fewT maps = true) : (moreU w maps y).length < 4000 := by
  have := objU_len h; have := mapU_len h2
  simp only [moreU, List.length_cons, List.length_append]; omega
theorem objT_mem {w : Wd} {n : Int} {P : Sl → Prop} (h : ∀ o ∈ w.objs, ∀ s ∈ o.sl, P s) : ∀ s ∈ (objT w n).1.sl, P s := by
  unfold objT
  cases objF w n with
  | false => intro s hs; cases hs
  | true =>
    intro s hs
    rw [cond_true, List.getD_eq_getElem?_getD] at hs
    cases hg : w.objs[(objI w n).toNat]? with
    | none => rw [hg] at hs; cases hs
    | some o => rw [hg] at hs; exact h o (List.mem_of_getElem? hg) s hs
theorem par_mem {l : List Sl} {v : Vl} (h : v ∈ parL l) : ∃ s ∈ l, isPar s = true ∧ s.v = v := by
  unfold parL at h
  obtain ⟨s, hs, e⟩ := List.mem_map.1 h
  obtain ⟨h1, h2⟩ := List.mem_filter.1 hs
  exact ⟨s, h1, h2, e⟩
theorem more_ok {w : Wd} {maps : List Mp} (y : Ty) (h : smallT w = true) (h2 : fewT maps = true) (hn : ∀ o ∈ w.objs, ∀ s ∈ o.sl, s.nm.length ≤ 140737488355328) (hm : ∀ m ∈ maps, ∀ s ∈ m.sl, s.nm.length ≤ 140737488355328) : LkOk w maps y (moreU w maps y) where
  clo := {
    clo := fun n _ v hv => by
      obtain ⟨s, hs, hp, rfl⟩ := par_mem hv
      refine objT_mem (w := w) (n := n) (P := fun s => isPar s = true → startF s.v ∈ moreU w maps y) (fun o ho s hs hp => ?_) s hs hp
      refine List.mem_cons_of_mem _ (List.mem_cons_of_mem _ (List.mem_cons_of_mem _ (List.mem_append_left _ ?_)))
      exact List.mem_flatMap.2 ⟨o, ho, List.mem_map.2 ⟨s.v, List.mem_map.2 ⟨s, List.mem_filter.2 ⟨hs, hp⟩, rfl⟩, rfl⟩⟩
    nm := fun n _ s hs => objT_mem (P := fun s => s.nm.length ≤ 140737488355328) hn s hs
    many := by have := moreU_len y h h2; omega }
  i5 := List.mem_cons_self ..
  i6 := List.mem_cons_of_mem _ (List.mem_cons_self ..)
  st := List.mem_cons_of_mem _ (List.mem_cons_of_mem _ (List.mem_cons_self ..))
  mp := fun m hmm => ⟨by
      have h := of_decide_eq_true h2
      have a3 := sumTo_sum (b := 1500) (f := mpN) (fun c => by unfold mpN; omega) maps (maps.length : Int) h
      have a5 : mpN m ≤ (maps.map mpN).sum := by
        clear a3 h h2 hm
        induction maps with
        | nil => cases hmm
        | cons a l ih =>
          have h0 : ∀ l : List Mp, 0 ≤ (l.map mpN).sum := fun l => by
            induction l with
            | nil => simp
            | cons b l ih => rw [List.map_cons, List.sum_cons]; unfold mpN at *; omega
          rw [List.map_cons, List.sum_cons]
          rcases List.mem_cons.1 hmm with rfl | hmm
          · have := h0 l; omega
          · have := ih hmm
            have : 0 ≤ mpN a := by unfold mpN; omega
            omega
      have a6 : (m.sl.length : Int) = mpN m := rfl
      have h := of_decide_eq_true h2
      omega, hm m hmm, fun v hv => by
      refine List.mem_cons_of_mem _ (List.mem_cons_of_mem _ (List.mem_cons_of_mem _ (List.mem_append_right _ ?_)))
      exact List.mem_flatMap.2 ⟨m, hmm, List.mem_map.2 ⟨v, hv, rfl⟩⟩⟩
theorem look_ok {w : Wd} {f : Nat} {maps : List Mp} {y : Ty} {sel : List UInt8} (h : (lookD w f maps y sel).2 = 0) : (lookD w f maps y sel).1 = runT w f maps y sel := by
  unfold lookD at h ⊢
  by_cases h1 : knownE w maps [y] = 0
  · rw [show (knownE w maps [y] != 0) = false by rw [h1]; rfl, cond_false] at h ⊢
    cases h2 : decide (carityP sel < 0) with
    | true => rw [h2] at h; exact absurd (show (1 : Int) = 0 from h) (by decide)
    | false => rfl
  · rw [show (knownE w maps [y] != 0) = true by simp [h1], cond_true] at h
    exact absurd h h1
theorem DepsMore_spec (w : Wd) (maps : List Mp) (t u : Ty) (sel : List UInt8) (hb : Bulk w) (hw : smallT w = true → w.Ok) (hm1 : maps.length ≤ 140737488355328) (hm2 : ∀ m ∈ maps, m.sl.length ≤ 140737488355328) (hf1 : FactsOk maps [t]) (hf2 : FactsOk maps [u]) (hn : ∀ o ∈ w.objs, ∀ s ∈ o.sl, s.nm.length ≤ 140737488355328) (hm : ∀ m ∈ maps, ∀ s ∈ m.sl, s.nm.length ≤ 140737488355328) :
    Spec Tryz.prog 4 [.agg w.pv, row 2 Mp.pv maps, .agg t.pv, .agg u.pv, S sel] (.sb true) := by
  refine Spec.startL (by kernel_rfl) Tryz.func4 rfl rfl fun w0 L hst => ?_
  refine M.cl awake_spec ?_
  refine M.cl (small_spec w hb) ?_
  refine M.test (!smallT w) (by kernel_rfl) (fun hs => M.ret (.sb true) (by kernel_rfl) rfl) (fun hs => ?_)
  have hs : smallT w = true := by simpa using hs
  have hok := hw hs
  refine M.cl (few_spec maps hm1 hm2) ?_
  refine M.test (!fewT maps) (by kernel_rfl) (fun hs2 => M.ret (.sb true) (by kernel_rfl) rfl) (fun hs2 => ?_)
  have hs2 : fewT maps = true := by simpa using hs2
  refine M.test (decide ((sel.length : Int) > 300)) (by kernel_rfl) (fun hs3 => M.ret (.sb true) (by kernel_rfl) rfl) (fun hs3 => ?_)
  refine M.cl (imp2_spec t u) ?_
  refine M.test (!imp2F t u) (by kernel_rfl) (fun hi => M.ret (.sb true) (by kernel_rfl) rfl) (fun hi => ?_)
  have hi : imp2F t u = true := by simpa using hi
  refine M.cl (Look_spec hok maps t sel hf1 4000 fun _ _ => ⟨more_ok t hs hs2 hn hm, moreU_len t hs hs2⟩) ?_
  refine M.cl (Look_spec hok maps u sel hf2 4000 fun _ _ => ⟨more_ok u hs hs2 hn hm, moreU_len u hs hs2⟩) ?_
  generalize ha : lookD w 4000 maps t sel = A
  generalize hb2 : lookD w 4000 maps u sel = B
  refine M.test (A.2 != 0) (by kernel_rfl) (fun h1 => M.ret (.sb true) (by kernel_rfl) rfl) (fun h1 => ?_)
  refine M.test (B.2 != 0) (by kernel_rfl) (fun h2 => M.ret (.sb true) (by kernel_rfl) rfl) (fun h2 => ?_)
  refine M.test (B.1.1.kind == 0) (by kernel_rfl) (fun h3 => M.ret (.sb true) (by kernel_rfl) rfl) (fun h3 => ?_)
  have e1 := look_ok (w := w) (f := 4000) (maps := maps) (y := t) (sel := sel) (by rw [ha]; simpa using h1)
  have e2 := look_ok (w := w) (f := 4000) (maps := maps) (y := u) (sel := sel) (by rw [hb2]; simpa using h2)
  rw [ha] at e1; rw [hb2] at e2
  have hr := run_imp hi w 4000 maps sel (by rw [← e2]; simpa using h3)
  rw [← e1, ← e2] at hr
  have k1 : A.1.1.kind = B.1.1.kind := by have q := congrArg Tg.kind hr; exact q
  have k2 : A.1.1.holder = B.1.1.holder := by have q := congrArg Tg.holder hr; exact q
  have k3 : A.1.1.slot = B.1.1.slot := by have q := congrArg Tg.slot hr; exact q
  have k4 : A.1.1.code = B.1.1.code := by have q := congrArg Tg.code hr; exact q
  have k5 : A.1.1.v = B.1.1.v := by have q := congrArg Tg.v hr; exact q
  refine M.yes (b := true) rfl (by kernel_rfl) ?_
  exact M.ret (.sb (A.1.1.kind == B.1.1.kind && (A.1.1.holder == B.1.1.holder && (A.1.1.slot == B.1.1.slot && (B.1.1.own == B.1.1.own && (A.1.1.code == B.1.1.code && (vlEq A.1.1.v B.1.1.v && true))))))) (by kernel_rfl) (by
    have k6 : vlEq A.1.1.v B.1.1.v = true := vlEq_iff.2 k5
    simp [k1, k2, k3, k4, k6])
end Go.Proofs.YtcknpohghmkbmaaGreatDoor
