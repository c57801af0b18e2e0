import Derived.Test.YtcknpohghmkbmaaGreatDoorK9
set_option linter.unusedVariables false
set_option linter.unusedSimpArgs false
/- The texts V11 V16 V17 of the proof, laid one behind the other. -/
namespace Go.Proofs.YtcknpohghmkbmaaGreatDoor
open Go.RowKit
def envFrom : Nat → List PV → Env
  | _, [] => []
  | i, p :: ps => (i, p) :: envFrom (i + 1) ps
def startC (args : List PV) (c : Code) : Cfg := ⟨envFrom 0 args, [], [.code c], none⟩
def startM (args : List PV) (σ : Sig) (c : Code) : Cfg := ⟨envFrom 0 args, σ, [.code c], none⟩
/-- What is to be shown at a function's end. -/
def Qf (P : Program) (fn : Func) (w0 : W0) (r : PV) (e : Exit) (a : Act) (w : World) : Prop :=
  w0.dfs = [] → bodyPostM Fence.wide 0 P fn (fun e W' => ∃ u, e = .returned u ∧ R [] w0.lock W' r u ∧ Near w0 W') e a w
def roundC (P : Program) (fn : Func) (c : Cfg) (E : Env) (σ : Sig) : Cfg :=
  match (stop P fn.ntmps c).2.todo with
  | .lp body :: k => ⟨E, σ, .code body :: .lp body :: k, none⟩
  | t => ⟨E, σ, t, none⟩
section
variable {w0 : W0} {W : World} {L : List Nat} {β : List (Option Nat)} {N : Nat} {P : Program} {Q : Exit → Act → World → Prop} {fn : Func} {σ : Sig} {E : Env} {a : Act}
theorem lk_from : ∀ (ps : List PV) (i t : Nat), lk (envFrom i ps) t = if i ≤ t then (ps[t - i]?).getD .any else .any
  | [], i, t => by simp [envFrom, lk]
  | p :: ps, i, t => by
    simp only [envFrom, lk]
    by_cases e : i = t
    · subst e; simp
    · rw [if_neg e, lk_from ps (i + 1) t]
      by_cases h : i + 1 ≤ t
      · rw [if_pos h, if_pos (by omega)]
        have : t - i = (t - (i + 1)) + 1 := by omega
        rw [this]; simp
      · rw [if_neg h]
        by_cases h' : i ≤ t
        · omega
        · rw [if_neg h']
def startA (fn : Func) (vs : Array Value) : Act := { tmps := vs ++ Array.replicate (fn.ntmps - vs.size) undef, defers := [] }
/-- A block that is locked is turned: nothing that is read depends on it. -/
theorem Inv.turn (h : Inv w0 L β σ N E a W) {D : Nat} (hD : D ∈ L) (hs0 : w0.w.heap.size ≤ D) (o : Obj) {a' : Act} (ht : a'.tmps = a.tmps) (hn : Nod w0 L a' (W.putObj D o)) : Inv w0 L β σ N E a' (W.putObj D o) := by
  have hs : (W.putObj D o).heap.size = W.heap.size := World.putObj_size
  have ho : ∀ k, k ≠ D → (W.putObj D o).heap[k]? = W.heap[k]? := fun k hk => World.putObj_heap_other hk
  have hle : W.heap.size ≤ (W.putObj D o).heap.size := by omega
  have hk : ∀ k, ¬ Fb β L k → k < W.heap.size → (W.putObj D o).heap[k]? = W.heap[k]? := fun k hk _ => ho k (fun e => hk (.inr (by rw [e]; exact hD)))
  have hne : ∀ g, some g ∈ β → g ≠ D := fun g hg e => (h.old D hD).2 (by rw [← e]; exact hg)
  have hβ : ∀ (i : Nat) (x : Option Nat), β[i]? = some x → β[i]? = some x ∧ ∀ g, x = some g → (W.putObj D o).shape? g = W.shape? g := fun i x hx => ⟨hx, fun g e => shape_eq (ho g (hne g (by rw [← e]; exact List.mem_of_getElem? hx)))⟩
  refine ⟨⟨h.bel.os, h.bel.tape, h.bel.output, by rw [hs]; exact h.bel.size, fun k hk hko => (ho k (by omega)).trans (h.bel.block k hk hko), fun k hk => (shape_eq (ho k (by omega))).trans (h.bel.shape k hk)⟩, h.new, fun g hg => by rw [hs]; exact h.old g hg, h.inc, h.pre,
    ⟨h.bx.1, h.bx.2.1, fun g hg => by rw [hs]; exact h.bx.2.2.1 g hg, fun i cs hi => ?_⟩, ?_, hn, fun q hq => ⟨(h.gho q hq).1, R.move hle _ _ _ _ _ _ hk hβ (fun _ h => .inl h) (h.gho q hq).2⟩, h.lim, h.glo⟩
  · obtain ⟨x, hg, hh⟩ := h.bx.2.2.2 i cs hi
    exact ⟨x, hg, hh.move hle (fun g e => ho g (hne g (by rw [← e]; exact List.mem_of_getElem? hg))) hk hβ (fun _ h => .inl h)⟩
  · have h2 := h.ev.move hle hk hβ (fun _ h => .inl h)
    exact ⟨by rw [ht]; exact h2.1, fun t => by have := h2.2 t; unfold Act.eval at *; rw [ht]; exact this⟩
/-- The marks are taken in; what is shown behind them. -/
theorem leave_ok {R : Ending → World → Prop} (hd : w0.dfs = []) (hI : Inv w0 L β σ N E a W) (fin : ∀ a' W', a'.tmps = a.tmps → Inv w0 L β σ N E a' W' → ∃ v, (results fn a.tmps).run P W' = .ok v W' ∧ R (.returned v) W') :
    LeavesInM Fence.wide 0 P fn a.tmps R a.defers .returning W := by
  obtain ⟨Ds, e, -, nd, hD⟩ := hI.nod
  rw [hd, List.append_nil] at e
  have h0 : Inv w0 L β σ N E { a with defers := [] } W := { hI with ev := hI.ev, nod := Nod.nil hd.symm }
  rw [e]
  clear e hI
  revert h0
  induction Ds generalizing W with
  | nil => exact fun h0 => fin { a with defers := [] } W rfl h0
  | cons D Ds ih =>
    intro h0
    have hh := hD D (List.mem_cons_self ..)
    refine ⟨by simp, .inl ⟨D, W.putObj D (.deferred none), rfl, run_takeDeferred hh.2.2, ?_⟩⟩
    refine ih (List.nodup_cons.1 nd).2 (fun D' hD' => ?_) (h0.turn hh.1 hh.2.1 _ rfl (Nod.nil hd.symm))
    have h1 := hD D' (List.mem_cons_of_mem _ hD')
    exact ⟨h1.1, h1.2.1, (World.putObj_heap_other (fun e => (List.nodup_cons.1 nd).1 (by rw [← e]; exact hD'))).trans h1.2.2⟩
theorem args_Ev {args : List PV} {vs : List Value} (hn : args.length ≤ fn.ntmps) (hR : Rs β L W args vs) : Ev β L W fn.ntmps (envFrom 0 args) (startA fn vs.toArray) := by
  have hl : vs.length = args.length := hR.length
  refine ⟨by simp [startA, hl]; omega, fun t => ?_⟩
  rw [lk_from args 0 t, if_pos (Nat.zero_le _), Nat.sub_zero]
  cases ht : args[t]? with
  | none => simp only [Option.getD_none]; rw [R]; trivial
  | some p =>
    obtain ⟨u, hu, hr⟩ := hR.get ht
    simp only [Option.getD_some]
    have htl := (List.getElem?_eq_some_iff.1 hu).1
    have : (vs.toArray ++ Array.replicate (fn.ntmps - vs.toArray.size) undef).getD t undef = u := by
      rw [Array.getD_eq_getD_getElem?, Array.getElem?_append_left (by simpa using htl)]
      simp [hu]
    show R β L W p ((vs.toArray ++ Array.replicate (fn.ntmps - vs.toArray.size) undef).getD t undef)
    rw [this]; exact hr
theorem Spec.enter {f : FuncId} {args : List PV} {r : PV} {c : Code} (he : entersP P f = true) (hf : P.funcs[f]? = some fn) (hb : fn.body = some c) (hn : Nat.ble args.length fn.ntmps = true)
    (k : ∀ w0 L, w0.stay = 0 → OkF P fn w0 L (Qf P fn w0 r) (startC args c)) : Spec P f args r := by
  refine ⟨he, fun L W vs hL hG hR => ?_⟩
  refine (callsIn_wide.1 (callsIn_of_wp_marks (n := 0) (R := fun e W' => ∃ u, e = .returned u ∧ R [] L W' r u ∧ Near ⟨W, [], 0, L, [], none, ghosts, true⟩ W') hf hb trivial ?_ rfl)).mono fun e W' ⟨u, h1, h2, h3⟩ => ⟨u, h1, h2, h3.plain⟩
  have h := k ⟨W, [], 0, L, [], none, ghosts, true⟩ L rfl [] (startA fn vs.toArray) W ⟨Near.refl _ _ _ _ _ _ _ _, fun g hg => by simp at hg, fun g hg => ⟨hL g hg, by simp⟩, ⟨fun _ h => h, fun g hg => by simp at hg⟩, ⟨rfl, Nat.zero_le _⟩, ⟨rfl, fun i j g c d hi => by simp at hi, fun g hg => by simp at hg, fun i cs hi => by simp [startC] at hi⟩, args_Ev (Nat.le_of_ble_eq_true hn) hR, Nod.nil rfl, Gl.gho hG, fun g hg => .inl hg, fun q hq => hq⟩
  refine wpIn_mono h fun e a w hq => ?_
  have hq' : Qf P fn ⟨W, [], 0, L, [], none, ghosts, true⟩ r e a w := by unfold wpK at hq; exact hq
  exact hq' rfl
theorem nrm_R : ∀ (n : Nat) (p : PV) (u : Value), R β L W p u → R β L W (nrm n p) u
  | 0, p, u, h => by rw [nrm]; exact h
  | n + 1, p, u, h => by
    cases p with
    | v x =>
      cases x with
      | bool b => rw [R] at h; show R β L W (.sb b) u; rw [R]; exact h
      | _ => exact h
    | agg cs =>
      rw [nrm]
      rw [R] at h ⊢
      obtain ⟨us, e1, h1, h2⟩ := h
      exact ⟨us, e1, h1, Rs.map (fun p u => nrm_R n p u) h2⟩
    | tup cs =>
      rw [nrm]
      rw [R] at h ⊢
      obtain ⟨us, e1, h2⟩ := h
      exact ⟨us, e1, Rs.map (fun p u => nrm_R n p u) h2⟩
    | _ => rw [nrm]; exact h; all_goals simp
/-- How a result is read. -/
def resSem (tmps : Array Value) : ResultVar → Sem Value
  | .tmp t => pure (tmps.getD t undef)
  | .cell ad t => do loadVar t (← asAddr (tmps.getD ad undef))
theorem results_eq (fn : Func) (tmps : Array Value) : results fn tmps = (do let vs ← fn.results.mapM (resSem tmps); pure (if h : vs.size = 1 then vs[0] else .tuple vs)) := by
  unfold results
  congr 1
theorem asAddr_run (x : Addr) (W : World) : (asAddr (.pointer (some x))).run P W = .ok x W := rfl
theorem res_run (hE : Ev β L W N E a) (hB : Bx β L W σ) : ∀ (l : List ResultVar) (ps : List PV), resP P E σ l = some ps →
    ∃ vs : List Value, (l.mapM (resSem a.tmps) : Sem (List Value)).run P W = .ok vs W ∧ Rs β L W ps vs
  | [], ps, h => by simp [resP] at h; subst h; exact ⟨[], rfl, Rs.nil⟩
  | .tmp t :: l, ps, h => by
    unfold resP at h
    cases hl : resP P E σ l with
    | none => rw [hl] at h; cases h
    | some qs =>
      rw [hl] at h
      cases h
      obtain ⟨vs, hv, hr⟩ := res_run hE hB l qs hl
      exact ⟨_ :: vs, by simp only [List.mapM_cons, resSem, Sem.run_bind, Sem.run_pure, Result.andThen_ok, hv], Rs.cons (hE.2 t) hr⟩
  | .cell ad t :: l, ps, h => by
    unfold resP at h
    split at h
    · rename_i cs qs hb hl
      cases hp : loadP P t cs with
      | none => rw [hp] at h; cases h
      | some p =>
        rw [hp] at h
        cases h
        obtain ⟨vs, hv, hr⟩ := res_run hE hB l qs hl
        obtain ⟨b, off, us, e1, h1, h2, h3⟩ := behind_R hB hb (hE.2 ad)
        obtain ⟨u, hu, hru⟩ := load_run hp h1 h2 h3
        exact ⟨u :: vs, by simp only [List.mapM_cons, resSem, Sem.run_bind, Sem.run_pure, Result.andThen_ok, e1, asAddr_run, hu, hv], Rs.cons hru hr⟩
    · cases h
theorem ret_run {r : PV} (hI : Inv w0 L β σ N E a W) (h : retP P fn E σ = some r) (hcc : All (retC P fn E σ)) : ∃ v, (results fn a.tmps).run P W = .ok v W ∧ R [] w0.lock W r v := by
  suffices h : ∃ v, (results fn a.tmps).run P W = .ok v W ∧ R [] L W r v by
    obtain ⟨v, h1, h2⟩ := h
    exact ⟨v, h1, R.move (Nat.le_refl _) _ _ _ _ _ _ (fun _ _ _ => rfl) (fun _ _ h => by simp at h) (fun g hg => .inl (by rcases hg with h | h; simp at h; exact .inr (hI.inc.1 g h))) h2⟩
  have hdis := hI.dis
  have key : ∀ ps, resP P E σ fn.results.toList = some ps → ∃ vs : List Value, (fn.results.mapM (resSem a.tmps) : Sem (Array Value)).run P W = .ok vs.toArray W ∧ Rs β L W ps vs := fun ps hps => by
    obtain ⟨vs, hv, hr⟩ := res_run hI.ev hI.bx _ ps hps
    refine ⟨vs, ?_, hr⟩
    rw [Array.mapM_eq_mapM_toList, map_eq_pure_bind]
    simp only [Sem.run_bind, hv, Result.andThen_ok]; rfl
  unfold retP at h
  split at h
  · rename_i p hps
    cases h
    obtain ⟨vs, hv, hr⟩ := key _ hps
    have hcc' : All (fzC 8 σ p) := by simpa only [retC, hps] using hcc
    obtain ⟨u, us', rfl, hu, hn⟩ := hr.uncons
    rw [Rs] at hn; subst hn
    refine ⟨u, ?_, nrm_R 4 _ _ (fz_R hI.bx hdis 8 _ _ hcc' hu)⟩
    rw [results_eq]
    simp only [Sem.run_bind, hv]
    simp [Sem.run_pure]
  · rename_i ps hne hps
    cases h
    obtain ⟨vs, hv, hr⟩ := key _ hps
    refine ⟨.tuple vs.toArray, ?_, nrm_R 4 _ _ (fz_R hI.bx hdis 8 _ _ (by unfold retC at hcc; rw [hps] at hcc; split at hcc; (rename_i e; cases e; exact absurd rfl (hne _)); (rename_i e; cases e; exact hcc); (rename_i e; cases e)) (by rw [R]; exact ⟨vs, rfl, hr⟩))⟩
    rw [results_eq]
    simp only [Sem.run_bind, hv]
    simp only [Result.andThen_ok, Sem.run_pure]
    rw [dif_neg]
    intro h1
    have hl : ps.length = 1 := by rw [← hr.length]; simpa using h1
    match ps, hl with
    | [p], _ => exact hne p rfl
  · cases h
theorem wpK_ret {ro : Option Nat} : ∀ {k : List It} {a : Act} {w : World}, Q .ret a w → wpK P ro Q k .ret a w
  | [], _, _, h => h
  | .code _ :: k, _, _, h => by unfold wpK; exact wpK_ret h
  | .ops _ _ :: k, _, _, h => by unfold wpK; exact wpK_ret h
  | .blk _ :: k, _, _, h => by unfold wpK; exact wpK_ret h
  | .lp _ :: k, _, _, h => by unfold wpK; exact wpK_ret h
  | .sco :: k, _, _, h => by unfold wpK; exact wpK_ret h
theorem view_ret {c : Cfg} {r : PV} {ps : List Prop} (h : viewOf P fn c = .ret ps r) : (stop P fn.ntmps c).1 ++ retC P fn (stop P fn.ntmps c).2.E (stop P fn.ntmps c).2.σ = ps ∧ (stop P fn.ntmps c).2.dr = none ∧ retP P fn (stop P fn.ntmps c).2.E (stop P fn.ntmps c).2.σ = some r ∧ ((stop P fn.ntmps c).2.todo = [] ∨ ∃ k, (stop P fn.ntmps c).2.todo = .code .ret :: k) := by
  unfold viewOf at h
  simp only at h
  split at h
  · split at h
    · cases h
    · split at h <;> cases h
  · rename_i hdr
    split at h
    · rename_i ht
      split at h
      · rename_i r' hr; cases h; exact ⟨rfl, hdr, hr, .inl ht⟩
      · cases h
    · rename_i k ht
      split at h
      · rename_i r' hr; cases h; exact ⟨rfl, hdr, hr, .inr ⟨k, ht⟩⟩
      · cases h
    · cases h
    · split at h
      · cases h
      · split at h <;> cases h
/-- The end. -/
theorem Ok.retw {c : Cfg} {r r' : PV} {ps : List Prop} (h : viewOf P fn c = .ret ps r') (hp : All ps) (e : ∀ L W u, R [] L W r' u → R [] L W r u) : OkF P fn w0 L (Qf P fn w0 r) c := by
  obtain ⟨e1, hdr, hr, ht⟩ := view_ret h
  rw [← e1, All_app] at hp
  refine run_ok 3000 c hp.1 ?_
  have hcc := hp.2
  show OkF P fn w0 L _ (stop P fn.ntmps c).2
  unfold OkF Ok
  rw [hdr]
  intro β a W hI
  have fin : Qf P fn w0 r .ret a W := fun hd => leave_ok hd hI fun a' W' e1 hI' => by
    obtain ⟨v, hv, hR⟩ := ret_run (P := P) (fn := fn) hI' hr hcc
    rw [e1] at hv
    exact ⟨v, hv, v, rfl, e _ _ _ hR, hI'.bel⟩
  rcases ht with ht | ⟨k, ht⟩
  · rw [ht]
    exact fin
  · rw [ht]
    exact wpIn_ret (wpK_ret fin)
theorem Ok.ret {c : Cfg} {r r' : PV} {ps : List Prop} (h : viewOf P fn c = .ret ps r') (hp : All ps) (e : r' = r) : OkF P fn w0 L (Qf P fn w0 r) c := Ok.retw h hp fun _ _ _ h => by rw [← e]; exact h
theorem lk_keep (t : Nat) : ∀ (ks : List Nat), lk (keepE ks E) t = lk E t ∨ lk (keepE ks E) t = .any
  | [] => .inr rfl
  | k :: ks => by
    simp only [keepE, List.map_cons, lk]
    by_cases e : k = t
    · subst e; rw [if_pos rfl]; exact .inl rfl
    · rw [if_neg e]; exact lk_keep t ks
theorem Inv.keep (h : Inv w0 L β σ N E a W) (ks : List Nat) : Inv w0 L β σ N (keepE ks E) a W :=
  { h with ev := ⟨h.ev.1, fun t => by
      rcases lk_keep (E := E) t ks with e | e
      · rw [e]; exact h.ev.2 t
      · rw [e, R]; trivial⟩ }
theorem view_loop {c : Cfg} {ps : List Prop} (h : viewOf P fn c = .loop ps) : (stop P fn.ntmps c).1 = ps ∧ (stop P fn.ntmps c).2.dr = none ∧ ∃ body k, (stop P fn.ntmps c).2.todo = .lp body :: k := by
  unfold viewOf at h
  simp only at h
  split at h
  · split at h
    · cases h
    · split at h <;> cases h
  · rename_i hdr
    split at h
    · split at h <;> cases h
    · split at h <;> cases h
    · rename_i body k ht; cases h; exact ⟨rfl, hdr, body, k, ht⟩
    · split at h
      · cases h
      · split at h <;> cases h
/-- Back at a loop's head, in a state of which all is known. -/
theorem Ok.back {c : Cfg} {E' : Env} {S' : Sig} {T : List It} {ps : List Prop} (ih : OkF P fn w0 L Q ⟨E', S', T, none⟩) (h : (stop P fn.ntmps c).1 = ps) (hp : All ps)
    (hE : keepE (E'.map (·.1)) (stop P fn.ntmps c).2.E = E') (hS : (stop P fn.ntmps c).2.σ = S') (hT : (stop P fn.ntmps c).2.todo = T) (hdr : (stop P fn.ntmps c).2.dr = none) : OkF P fn w0 L Q c := by
  refine run_ok 3000 c (by rw [show (runC P fn.ntmps 3000 c).1 = ps from h]; exact hp) ?_
  show OkF P fn w0 L Q (stop P fn.ntmps c).2
  unfold OkF Ok
  rw [hdr]
  intro β a W hI
  have hk := hI.keep (E'.map (·.1))
  rw [hE, hS] at hk
  rw [hT]
  exact ih β a W hk
/-- A loop: its states, and a measure. -/
theorem Ok.loop {ι : Type} (E : ι → Env) (S : ι → Sig) (m : ι → Nat) (x0 : ι) {c : Cfg} {ps : List Prop} (h : viewOf P fn c = .loop ps) (hp : All ps)
    (hE : keepE ((E x0).map (·.1)) (stop P fn.ntmps c).2.E = E x0) (hS : (stop P fn.ntmps c).2.σ = S x0)
    (round : ∀ x, (∀ y, m y < m x → OkF P fn w0 L Q ⟨E y, S y, (stop P fn.ntmps c).2.todo, none⟩) → OkF P fn w0 L Q (roundC P fn c (E x) (S x))) : OkF P fn w0 L Q c := by
  obtain ⟨e1, hdr, body, k, ht⟩ := view_loop h
  refine Ok.back (T := .lp body :: k) ?_ e1 hp hE hS ht hdr
  have key : ∀ n x, m x = n → OkF P fn w0 L Q ⟨E x, S x, .lp body :: k, none⟩ := by
    intro n
    induction n using Nat.strongRecOn with
    | _ n ih =>
      intro x hx β a W hI
      have hr := round x (fun y hy => by rw [ht]; exact ih (m y) (hx ▸ hy) y rfl)
      unfold roundC at hr
      rw [ht] at hr
      refine LW.unroll (wpIn_mono (hr β a W hI) fun e a w h => wpK_lp h)
  exact key _ x0 rfl
end
/-- The same behind a wall, so that nobody looks into it. -/
structure M (P : Program) (fn : Func) (w0 : W0) (L : List Nat) (Q : Exit → Act → World → Prop) (c : Cfg) : Prop where mk :: (out : OkF P fn w0 L Q c)
section
variable {w0 : W0} {L : List Nat} {P : Program} {Q : Exit → Act → World → Prop} {fn : Func} {c : Cfg}
theorem Spec.start {f : FuncId} {args : List PV} {r : PV} {cd : Code} (he : entersP P f = true) (hf : P.funcs[f]? = some fn) (hb : fn.body = some cd) (hn : Nat.ble args.length fn.ntmps = true)
    (k : ∀ w0 L, M P fn w0 L (Qf P fn w0 r) (startC args cd)) : Spec P f args r := Spec.enter he hf hb hn fun w0 L _ => (k w0 L).out
theorem Spec.startL {f : FuncId} {args : List PV} {r : PV} {cd : Code} (he : entersP P f = true) (hf : P.funcs[f]? = some fn) (hb : fn.body = some cd) (hn : Nat.ble args.length fn.ntmps = true)
    (k : ∀ w0 L, w0.stay = 0 → M P fn w0 L (Qf P fn w0 r) (startC args cd)) : Spec P f args r := Spec.enter he hf hb hn fun w0 L h => (k w0 L h).out
theorem M.test (b : Bool) (h : viewOf P fn c = .test [] b) (h1 : b = true → M P fn w0 L Q (assumeC P fn c true)) (h2 : b = false → M P fn w0 L Q (assumeC P fn c false)) : M P fn w0 L Q c :=
  ⟨Ok.test b h trivial (fun e => (h1 e).out) (fun e => (h2 e).out)⟩
theorem M.testp (ps : List Prop) (b : Bool) (h : viewOf P fn c = .test ps b) (hp : All ps) (h1 : b = true → M P fn w0 L Q (assumeC P fn c true)) (h2 : b = false → M P fn w0 L Q (assumeC P fn c false)) : M P fn w0 L Q c :=
  ⟨Ok.test b h hp (fun e => (h1 e).out) (fun e => (h2 e).out)⟩
theorem M.yes {b : Bool} (hb : b = true) (h : viewOf P fn c = .test [] b) (h1 : M P fn w0 L Q (assumeC P fn c true)) : M P fn w0 L Q c :=
  ⟨Ok.test b h trivial (fun e => h1.out) (fun e => by rw [hb] at e; cases e)⟩
theorem M.no {b : Bool} (hb : b = false) (h : viewOf P fn c = .test [] b) (h1 : M P fn w0 L Q (assumeC P fn c false)) : M P fn w0 L Q c :=
  ⟨Ok.test b h trivial (fun e => by rw [hb] at e; cases e) (fun e => h1.out)⟩
theorem M.call {g : FuncId} {qs : List PV} {r : PV} (hs : Spec P g qs r) (h : viewOf P fn c = .call [] g qs) (hr : resOk P fn c r = true) (k : M P fn w0 L Q (afterC P fn c r)) : M P fn w0 L Q c :=
  ⟨Ok.call hs h trivial hr k.out⟩
theorem M.callp (ps : List Prop) {g : FuncId} {qs : List PV} {r : PV} (hs : Spec P g qs r) (h : viewOf P fn c = .call ps g qs) (hp : All ps) (hr : resOk P fn c r = true) (k : M P fn w0 L Q (afterC P fn c r)) : M P fn w0 L Q c :=
  ⟨Ok.call hs h hp hr k.out⟩
theorem M.ret {r : PV} (r' : PV) (h : viewOf P fn c = .ret [] r') (e : r' = r) : M P fn w0 L (Qf P fn w0 r) c := ⟨Ok.ret h trivial e⟩
theorem M.retp {r : PV} (ps : List Prop) (r' : PV) (h : viewOf P fn c = .ret ps r') (hp : All ps) (e : r' = r) : M P fn w0 L (Qf P fn w0 r) c := ⟨Ok.ret h hp e⟩
/-- A result that reads as another one, too. -/
theorem M.retw {r : PV} (ps : List Prop) (r' : PV) (h : viewOf P fn c = .ret ps r') (hp : All ps) (e : ∀ L W u, R [] L W r' u → R [] L W r u) : M P fn w0 L (Qf P fn w0 r) c := ⟨Ok.retw h hp e⟩
theorem M.retb {b : Bool} (b' : Bool) (h : viewOf P fn c = .ret [] (.sb b')) (e : b' = b) : M P fn w0 L (Qf P fn w0 (.sb b)) c := ⟨Ok.ret h trivial (by rw [e])⟩
theorem M.loop {ι : Type} (E : ι → Env) (S : ι → Sig) (m : ι → Nat) (x0 : ι) (ps : List Prop) (h : viewOf P fn c = .loop ps) (hp : All ps)
    (hE : keepE ((E x0).map (·.1)) (stop P fn.ntmps c).2.E = E x0) (hS : (stop P fn.ntmps c).2.σ = S x0)
    (round : ∀ x, (∀ y, m y < m x → M P fn w0 L Q ⟨E y, S y, (stop P fn.ntmps c).2.todo, none⟩) → M P fn w0 L Q (roundC P fn c (E x) (S x))) : M P fn w0 L Q c :=
  ⟨Ok.loop E S m x0 h hp hE hS fun x ih => (round x fun y hy => ⟨(ih y hy)⟩).out⟩
theorem M.back {E' : Env} {S' : Sig} {T : List It} (ps : List Prop) (ih : M P fn w0 L Q ⟨E', S', T, none⟩) (h : (stop P fn.ntmps c).1 = ps) (hp : All ps)
    (hE : keepE (E'.map (·.1)) (stop P fn.ntmps c).2.E = E') (hS : (stop P fn.ntmps c).2.σ = S') (hT : (stop P fn.ntmps c).2.todo = T) (hdr : (stop P fn.ntmps c).2.dr = none) : M P fn w0 L Q c :=
  ⟨Ok.back ih.out h hp hE hS hT hdr⟩
end
end Go.Proofs.YtcknpohghmkbmaaGreatDoor
namespace Go.Proofs.YtcknpohghmkbmaaGreatDoor
open Go.RowKit
def viewM (P : Program) (fn : Func) (c : Cfg) (is : List Nat) : Option (List Prop × FuncId × Sig × List PV) :=
  let s := stop P fn.ntmps c
  match callC P fn.ntmps s.2 with
  | some (g, ps) => if renOk s.2.σ is then some (s.1, g, renS is s.2.σ, ps.map (renP (invF is 0) 8)) else none
  | none => none
def afterM (P : Program) (fn : Func) (c : Cfg) (is : List Nat) (m : Nat) (σ1 : Sig) (r : PV) : Cfg :=
  let d := (stop P fn.ntmps c).2
  match d.dr with
  | some q =>
    match q.all[q.i]? with
    | some o => ⟨putE d.E o.dst (renP (outF is m d.σ.length) 8 r), mergeS is m d.σ σ1, d.todo, some { q with i := q.i + 1, ss := (q.i, touchM is m d.σ σ1) :: q.ss }⟩
    | none => d
  | none =>
  match d.todo with
  | .ops all (o :: l) :: k => ⟨putE d.E o.dst (renP (outF is m d.σ.length) 8 r), mergeS is m d.σ σ1, .ops all l :: k, none⟩
  | _ => d
def renC (P : Program) (fn : Func) (c : Cfg) (ρ : List Nat) : Cfg :=
  let d := (stop P fn.ntmps c).2
  ⟨renE ρ d.E, renS ρ d.σ, d.todo, none⟩
def resOne : List PV → PV
  | [p] => p
  | ps => .tup ps
def retMP (P : Program) (fn : Func) (ρ : List Nat) (E : Env) (σ : Sig) : Option (Sig × PV) :=
  if renOk σ ρ then (resP P E σ fn.results.toList).map fun ps => ((renS ρ σ).map (·.map (nrm 4)), nrm 4 (renP (invF ρ 0) 8 (resOne ps))) else none
def viewR (P : Program) (fn : Func) (c : Cfg) (ρ : List Nat) : Option (List Prop × Sig × PV) :=
  let s := stop P fn.ntmps c
  match s.2.dr with
  | some _ => none
  | none =>
    match s.2.todo with
    | [] => (retMP P fn ρ s.2.E s.2.σ).map fun q => (s.1, q)
    | .code .ret :: _ => (retMP P fn ρ s.2.E s.2.σ).map fun q => (s.1, q)
    | _ => none
section
variable {w0 : W0} {W : World} {L : List Nat} {β : List (Option Nat)} {N : Nat} {P : Program} {Q : Exit → Act → World → Prop} {fn : Func} {σ : Sig} {E : Env} {a : Act}
theorem Ok.callm {c : Cfg} {g : FuncId} {m : Nat} {σ0 σ1 : Sig} {qs : List PV} {r : PV} {ps : List Prop} (is : List Nat) (hs : SpecM P g m σ0 qs σ1 r) (h : viewM P fn c is = some (ps, g, σ0, qs)) (hp : All ps)
    (k : OkF P fn w0 L Q (afterM P fn c is m σ1 r)) : OkF P fn w0 L Q c := by
  unfold viewM at h
  simp only at h
  split at h
  · rename_i g' rs hc
    split at h
    · rename_i hρ
      simp only [Option.some.injEq, Prod.mk.injEq] at h
      obtain ⟨e1, rfl, e3, e4⟩ := h
      refine run_ok 3000 c (by rw [show (runC P fn.ntmps 3000 c).1 = ps from e1]; exact hp) ?_
      show OkF P fn w0 L Q (stop P fn.ntmps c).2
      unfold afterM at k
      generalize (stop P fn.ntmps c).2 = d at hc k hρ e3 e4
      obtain ⟨E, σ, todo, dr⟩ := d
      simp only at hc k hρ e3 e4
      unfold callC at hc
      simp only at hc
      cases dr with
      | some d =>
        simp only at hc k
        intro hnd hok hm hT β a W hI
        simp only at hT hI ⊢
        split at hc
        · rename_i o ho
          split at hc
          · rename_i hd
            split at hc
            · rename_i hg
              split at hc
              · rename_i g2 ps2 hcc
                cases hc
                simp only [ho] at k
                exact k hnd hok hm (.op hT ho hd (.m _ rs is m σ0 σ1 qs r hg hcc hs hρ e3 e4 rfl rfl _ merge_touch) rfl rfl) β a W hI
              · cases hc
            · cases hc
          · cases hc
        · cases hc
      | none =>
        simp only at hc k
        intro β a W hI
        simp only at hI ⊢
        split at hc
        · rename_i all o l k'
          split at hc
          · rename_i hd
            split at hc
            · rename_i hg
              have hw := guard_wanted hI.ev hg
              split at hc
              · exact list_wp (opC_nd hc) hw (callOpM hI hd hc hs hρ e3 e4 _ _ fun γ u W' hi => k γ _ W' hi)
              · cases hc
            · cases hc
          · cases hc
        · cases hc
    · cases h
  · cases h
theorem Ok.renum {c : Cfg} {ps : List Prop} (ρ : List Nat) (h : (stop P fn.ntmps c).1 = ps) (hp : All ps) (hdr : (stop P fn.ntmps c).2.dr = none) (hρ : renOk (stop P fn.ntmps c).2.σ ρ = true) (hm : ρ.take w0.stay = List.range w0.stay)
    (k : ∀ L', OkF P fn w0 L' Q (renC P fn c ρ)) : OkF P fn w0 L Q c := by
  refine run_ok 3000 c (by rw [show (runC P fn.ntmps 3000 c).1 = ps from h]; exact hp) ?_
  show OkF P fn w0 L Q (stop P fn.ntmps c).2
  unfold renC at k
  generalize (stop P fn.ntmps c).2 = d at hdr hρ k
  obtain ⟨E, σ, todo, dr⟩ := d
  simp only at hdr
  subst hdr
  intro β a W hI
  exact k _ _ a W (hI.ren hρ hm)
theorem nrm_H {g : Nat} {cs : List PV} (h : Hold β L W g cs) : Hold β L W g (cs.map (nrm 4)) := by
  cases h with
  | cells _ t us hh h1 h2 => exact .cells _ t us hh h1 (Rs.map (fun p u => nrm_R 4 p u) h2)
  | rws k n el t us hh h1 hl h2 => exact .rws _ _ _ t us hh h1 hl h2
  | mp has val es c hh h2 => exact .mp _ _ es c hh h2
  | dd => exact .dd
  | mps ks g es c hh h2 => exact .mps _ _ es c hh h2
  | rwf k n el j cs t us hh h1 hl h2 => exact .rwf _ _ _ _ _ t us hh h1 hl h2
theorem nrm_HO {x : Option Nat} {cs : List PV} (h : HoldO β L W x cs) : HoldO β L W x (cs.map (nrm 4)) := by
  cases x with
  | none =>
    rcases h with ⟨k, el, rfl⟩ | h
    · exact .inl ⟨k, el, rfl⟩
    · refine .inr ?_
      unfold isDd at h
      split at h
      · rfl
      · cases h
  | some g => exact nrm_H h
theorem nrm_dd (cs : List PV) : isDd (cs.map (nrm 4)) = isDd cs := by
  cases cs with
  | nil => rfl
  | cons p l =>
    cases p with
    | v x => cases x <;> rfl
    | _ => rfl
theorem Bx.nrm (h : Bx β L W σ) : Bx β L W (σ.map (·.map (nrm 4))) := by
  refine ⟨by simp [h.1], fun i j g c d hi hj hc hd lc ld => ?_, h.2.2.1, fun i cs hi => ?_⟩
  · rw [List.getElem?_map] at hc hd
    cases h1 : σ[i]? with
    | none => rw [h1] at hc; cases hc
    | some c' =>
      cases h2 : σ[j]? with
      | none => rw [h2] at hd; cases hd
      | some d' =>
        rw [h1] at hc; rw [h2] at hd
        cases hc; cases hd
        rw [nrm_dd] at lc ld
        exact h.2.1 i j g c' d' hi hj h1 h2 lc ld
  · rw [List.getElem?_map] at hi
    cases h1 : σ[i]? with
    | none => rw [h1] at hi; cases hi
    | some c' =>
      rw [h1] at hi; cases hi
      obtain ⟨g, hg, hh⟩ := h.2.2.2 i c' h1
      exact ⟨g, hg, nrm_HO hh⟩
theorem resM_run (hI : Inv w0 L β σ N E a W) {ps : List PV} (hps : resP P E σ fn.results.toList = some ps) : ∃ v, (results fn a.tmps).run P W = .ok v W ∧ R β L W (resOne ps) v := by
  have key : ∃ vs : List Value, (fn.results.mapM (resSem a.tmps) : Sem (Array Value)).run P W = .ok vs.toArray W ∧ Rs β L W ps vs := by
    obtain ⟨vs, hv, hr⟩ := res_run hI.ev hI.bx _ ps hps
    refine ⟨vs, ?_, hr⟩
    rw [Array.mapM_eq_mapM_toList, map_eq_pure_bind]
    simp only [Sem.run_bind, hv, Result.andThen_ok]; rfl
  obtain ⟨vs, hv, hr⟩ := key
  by_cases hl : ps.length = 1
  · match ps, hl with
    | [p], _ =>
      obtain ⟨u, us', rfl, hu, hn⟩ := hr.uncons
      rw [Rs] at hn; subst hn
      refine ⟨u, ?_, hu⟩
      rw [results_eq]
      simp only [Sem.run_bind, hv]
      simp [Sem.run_pure]
  · have e : resOne ps = .tup ps := by
      unfold resOne; split
      · rename_i p; simp at hl
      · rfl
    refine ⟨.tuple vs.toArray, ?_, by rw [e, R]; exact ⟨vs, rfl, hr⟩⟩
    rw [results_eq]
    simp only [Sem.run_bind, hv]
    simp only [Result.andThen_ok, Sem.run_pure]
    rw [dif_neg]
    intro h1
    have : vs.length = ps.length := hr.length
    simp at h1; omega
theorem Ok.retm {c : Cfg} {r : PV} {σ' : Sig} {ps : List Prop} (ρ : List Nat) (hm : ρ.take w0.stay = List.range w0.stay) (h : viewR P fn c ρ = some (ps, σ', r)) (hp : All ps) : OkF P fn w0 L (Qm P fn w0 σ' r) c := by
  unfold viewR at h
  simp only at h
  split at h
  · cases h
  · rename_i hdr
    have key : ∀ q, retMP P fn ρ (stop P fn.ntmps c).2.E (stop P fn.ntmps c).2.σ = some q → ((stop P fn.ntmps c).1, q) = (ps, σ', r) → ((stop P fn.ntmps c).2.todo = [] ∨ ∃ k, (stop P fn.ntmps c).2.todo = .code .ret :: k) → OkF P fn w0 L (Qm P fn w0 σ' r) c := fun q hq e ht => by
      simp only [Prod.mk.injEq] at e
      obtain ⟨e1, e2⟩ := e
      subst e2
      refine run_ok 3000 c (by rw [show (runC P fn.ntmps 3000 c).1 = ps from e1]; exact hp) ?_
      show OkF P fn w0 L _ (stop P fn.ntmps c).2
      generalize (stop P fn.ntmps c).2 = d at hdr hq ht
      obtain ⟨E, σ, todo, dr⟩ := d
      simp only at hdr hq ht
      subst hdr
      intro β a W hI
      unfold retMP at hq
      split at hq
      case isFalse => cases hq
      rename_i hρ
      cases hps : resP P E σ fn.results.toList with
      | none => rw [hps] at hq; cases hq
      | some rs =>
        rw [hps] at hq
        simp only [Option.map_some, Option.some.injEq, Prod.mk.injEq] at hq
        obtain ⟨q1, q2⟩ := hq
        have fin : Qm P fn w0 σ' r .ret a W := fun hd => leave_ok hd hI fun a' W' e1 hI' => by
          obtain ⟨v, hv, hr⟩ := resM_run hI' hps
          rw [e1] at hv
          have hi := hI'.ren hρ hm
          have hsub : ∀ g, some g ∈ renB ρ β → some g ∈ β := fun g hg => renB_sub hI'.bx.1 hρ hg
          have hF := fb_without (L := L) hsub
          refine ⟨v, hv, v, renB ρ β, _, rfl, ?_, ?_, hi.bel, hi.new, hi.pre, hi.inc.1, hi.inc.2⟩
          · rw [← q2]; exact nrm_R 4 _ _ (ren_R (renF hI'.bx.1 hρ) (fun g hg => (hF g).1 hg) 8 _ _ hr)
          · rw [← q1]; exact hi.bx.nrm
        rcases ht with ht | ⟨k, ht⟩
        · subst ht; exact fin
        · subst ht; exact wpIn_ret (wpK_ret fin)
    split at h
    · rename_i ht
      cases hq : retMP P fn ρ (stop P fn.ntmps c).2.E (stop P fn.ntmps c).2.σ with
      | none => rw [hq] at h; cases h
      | some q => rw [hq] at h; exact key q hq (Option.some.inj h) (.inl ht)
    · rename_i k ht
      cases hq : retMP P fn ρ (stop P fn.ntmps c).2.E (stop P fn.ntmps c).2.σ with
      | none => rw [hq] at h; cases h
      | some q => rw [hq] at h; exact key q hq (Option.some.inj h) (.inr ⟨k, ht⟩)
    · cases h
/-- A loop, in which blocks may get new numbers. -/
theorem Ok.loopL {ι : Type} (E : ι → Env) (S : ι → Sig) (m : ι → Nat) (x0 : ι) {c : Cfg} {ps : List Prop} (h : viewOf P fn c = .loop ps) (hp : All ps)
    (hE : keepE ((E x0).map (·.1)) (stop P fn.ntmps c).2.E = E x0) (hS : (stop P fn.ntmps c).2.σ = S x0)
    (round : ∀ x L, (∀ y L', m y < m x → OkF P fn w0 L' Q ⟨E y, S y, (stop P fn.ntmps c).2.todo, none⟩) → OkF P fn w0 L Q (roundC P fn c (E x) (S x))) : OkF P fn w0 L Q c := by
  obtain ⟨e1, hdr, body, k, ht⟩ := view_loop h
  refine Ok.back (T := .lp body :: k) ?_ e1 hp hE hS ht hdr
  have key : ∀ n x L, m x = n → OkF P fn w0 L Q ⟨E x, S x, .lp body :: k, none⟩ := by
    intro n
    induction n using Nat.strongRecOn with
    | _ n ih =>
      intro x L hx β a W hI
      have hr := round x L (fun y L' hy => by rw [ht]; exact ih (m y) (hx ▸ hy) y L' rfl)
      unfold roundC at hr
      rw [ht] at hr
      refine LW.unroll (wpIn_mono (hr β a W hI) fun e a w h => wpK_lp h)
  exact key _ x0 L rfl
theorem SpecM.enter {f : FuncId} {m : Nat} {σ σ' : Sig} {args : List PV} {r : PV} {c : Code} (he : entersP P f = true) (hf : P.funcs[f]? = some fn) (hb : fn.body = some c) (hn : Nat.ble args.length fn.ntmps = true) (hm : m ≤ σ.length)
    (k : ∀ w0 L, w0.stay = m → OkF P fn w0 L (Qm P fn w0 σ' r) (startM args σ c)) : SpecM P f m σ args σ' r := by
  refine ⟨he, hm, fun L β W vs hL hG hB hR => ?_⟩
  refine callsIn_wide.1 (callsIn_of_wp_marks (n := 0) hf hb trivial ?_ rfl)
  have h := k ⟨W, β, m, L, [], none, ghosts, true⟩ L rfl β (startA fn vs.toArray) W ⟨Near.refl _ _ _ _ _ _ _ _, fun g hg => .inl hg, hL, ⟨fun _ h => h, fun g hg => .inl hg⟩, ⟨rfl, by rw [hB.1]; exact hm⟩, hB, args_Ev (Nat.le_of_ble_eq_true hn) hR, Nod.nil rfl, Gl.gho hG, fun g hg => .inl hg, fun q hq => hq⟩
  refine wpIn_mono h fun e a w hq => ?_
  have hq' : Qm P fn ⟨W, β, m, L, [], none, ghosts, true⟩ σ' r e a w := by unfold wpK at hq; exact hq
  exact hq' rfl
theorem SpecM.start {f : FuncId} {m : Nat} {σ σ' : Sig} {args : List PV} {r : PV} {c : Code} (he : entersP P f = true) (hf : P.funcs[f]? = some fn) (hb : fn.body = some c) (hn : Nat.ble args.length fn.ntmps = true) (hm : m ≤ σ.length)
    (k : ∀ w0 L, w0.stay = m → M P fn w0 L (Qm P fn w0 σ' r) (startM args σ c)) : SpecM P f m σ args σ' r := SpecM.enter he hf hb hn hm fun w0 L h => (k w0 L h).out
theorem M.callm {c : Cfg} {g : FuncId} {m : Nat} {σ0 σ1 : Sig} {qs : List PV} {r : PV} (is : List Nat) (hs : SpecM P g m σ0 qs σ1 r) (h : viewM P fn c is = some ([], g, σ0, qs))
    (k : M P fn w0 L Q (afterM P fn c is m σ1 r)) : M P fn w0 L Q c := ⟨Ok.callm is hs h trivial k.out⟩
theorem M.callmp {c : Cfg} {g : FuncId} {m : Nat} {σ0 σ1 : Sig} {qs : List PV} {r : PV} (ps : List Prop) (is : List Nat) (hs : SpecM P g m σ0 qs σ1 r) (h : viewM P fn c is = some (ps, g, σ0, qs)) (hp : All ps)
    (k : M P fn w0 L Q (afterM P fn c is m σ1 r)) : M P fn w0 L Q c := ⟨Ok.callm is hs h hp k.out⟩
theorem M.ren {c : Cfg} {n : Nat} (ps : List Prop) (ρ : List Nat) (hst : w0.stay = n) (h : (stop P fn.ntmps c).1 = ps) (hp : All ps) (hdr : (stop P fn.ntmps c).2.dr = none) (hρ : renOk (stop P fn.ntmps c).2.σ ρ = true) (hm : ρ.take n = List.range n)
    (k : ∀ L', M P fn w0 L' Q (renC P fn c ρ)) : M P fn w0 L Q c := ⟨Ok.renum ρ h hp hdr hρ (by rw [hst]; exact hm) fun L' => (k L').out⟩
theorem M.retm {c : Cfg} {r r' : PV} {σ' σ1 : Sig} {n : Nat} (ps : List Prop) (ρ : List Nat) (hst : w0.stay = n) (hm : ρ.take n = List.range n) (h : viewR P fn c ρ = some (ps, σ1, r')) (hp : All ps) (e1 : σ1 = σ') (e2 : r' = r) : M P fn w0 L (Qm P fn w0 σ' r) c := by
  subst e1; subst e2
  exact ⟨Ok.retm ρ (by rw [hst]; exact hm) h hp⟩
theorem M.loopL {ι : Type} {c : Cfg} (E : ι → Env) (S : ι → Sig) (m : ι → Nat) (x0 : ι) (ps : List Prop) (h : viewOf P fn c = .loop ps) (hp : All ps)
    (hE : keepE ((E x0).map (·.1)) (stop P fn.ntmps c).2.E = E x0) (hS : (stop P fn.ntmps c).2.σ = S x0)
    (round : ∀ x L, (∀ y L', m y < m x → M P fn w0 L' Q ⟨E y, S y, (stop P fn.ntmps c).2.todo, none⟩) → M P fn w0 L Q (roundC P fn c (E x) (S x))) : M P fn w0 L Q c :=
  ⟨Ok.loopL E S m x0 h hp hE hS fun x L ih => (round x L fun y L' hy => ⟨(ih y L' hy)⟩).out⟩
/-- A contract that writes nothing, as one that does. -/
theorem Spec.own {f : FuncId} {args : List PV} {r : PV} (h : Spec P f args r) : SpecM P f 0 [] args [] r := by
  refine ⟨h.1, Nat.zero_le _, fun L β W vs hL hG hB hR => ?_⟩
  have hβ : β = [] := List.eq_nil_of_length_eq_zero (by have := hB.1; simpa using this)
  subst hβ
  refine (h.2 L W vs (fun g hg => (hL g hg).1) hG hR).mono fun e W' ⟨u, he, hr, hb⟩ => ?_
  exact ⟨u, [], L, he, hr, ⟨rfl, fun i j g c d hi => by simp at hi, fun g hg => by simp at hg, fun i cs hi => by simp at hi⟩, (Near.refl W [] 0 L [] none ghosts true).below hb, fun g hg => by simp at hg, ⟨rfl, Nat.le_refl _⟩, fun _ h => h, fun g hg => by simp at hg⟩
end
end Go.Proofs.YtcknpohghmkbmaaGreatDoor
namespace Go.Proofs.YtcknpohghmkbmaaGreatDoor
open Go.RowKit
inductive CellsEq : List PV → List PV → Prop where
  | refl (cs : List PV) : CellsEq cs cs
  | rws {k n n' : Nat} {el el' : Nat → List PV} (hn : n' = n) (h : ∀ j, j < n → el j = el' j) : CellsEq [.rws k n el] [.rws k n' el']
  | nrw {k n n' : Nat} {el el' : Nat → List PV} (hn : n' = n) (h : ∀ j, j < n → (el j).map (nrm 4) = el' j) : CellsEq [.rws k n el] [.rws k n' el']
  | nrc {c d : List PV} (hc : isCells c = true) (hd : isCells d = true) (h : c.map (nrm 4) = d) : CellsEq c d
  | foc {k n n' j : Nat} {el el' : Nat → List PV} {cs : List PV} (hn : n' = n) (hj : j < n) (h : ∀ x, x < n → el x = if x = j then cs else el' x) : CellsEq [.rws k n el] [.rwf k n' el' j cs]
  | unf {k n n' j : Nat} {el el' : Nat → List PV} {cs : List PV} (hn : n' = n) (h : ∀ x, x < n → (if x = j then cs else el x) = el' x) : CellsEq [.rwf k n el j cs] [.rws k n' el']
inductive SigEq : Sig → Sig → Prop where
  | nil : SigEq [] []
  | cons {c d : List PV} {l m : Sig} (h : CellsEq c d) (t : SigEq l m) : SigEq (c :: l) (d :: m)
theorem SigEq.refl : ∀ σ, SigEq σ σ
  | [] => .nil
  | c :: l => .cons (.refl c) (SigEq.refl l)
section
variable {β : List (Option Nat)} {L : List Nat} {W : World}
theorem CellsEq.dd {c d : List PV} (h : CellsEq c d) : isDd d = isDd c := by
  cases h with
  | nrc hc hd h => rw [isDd_cells hc, isDd_cells hd]
  | _ => rfl
theorem CellsEq.hold {c d : List PV} (h : CellsEq c d) {g : Nat} (hh : Hold β L W g c) : Hold β L W g d := by
  cases h with
  | refl => exact hh
  | rws hn he =>
    subst hn
    obtain ⟨t, us, h1, h2, h3, h4⟩ := rws_out hh
    exact .rws _ _ _ t us h1 h2 h3 fun j hj => by rw [← he j hj]; exact h4 j hj
  | nrw hn he =>
    subst hn
    obtain ⟨t, us, h1, h2, h3, h4⟩ := rws_out hh
    exact .rws _ _ _ t us h1 h2 h3 fun j hj => by rw [← he j hj]; exact Rs.map (fun p u => nrm_R 4 p u) (h4 j hj)
  | nrc hc hd he =>
    obtain ⟨t, us, h1, h2, h3⟩ := Hold.out hh hc
    exact .cells _ t us h1 h2 (by rw [← he]; exact Rs.map (fun p u => nrm_R 4 p u) h3)
  | foc hn hj he =>
    subst hn
    obtain ⟨t, us, h1, h2, h3, h4⟩ := rws_out hh
    exact .rwf _ _ _ _ _ t us h1 h2 h3 fun j hj => by rw [← he j hj]; exact h4 j hj
  | unf hn he =>
    subst hn
    obtain ⟨t, us, h1, h2, h3, h4⟩ := rwf_out hh
    exact .rws _ _ _ t us h1 h2 h3 fun j hj => by rw [← he j hj]; exact h4 j hj
theorem CellsEq.holdO {c d : List PV} (h : CellsEq c d) {x : Option Nat} (hh : HoldO β L W x c) : HoldO β L W x d := by
  cases x with
  | some g => exact h.hold hh
  | none =>
    cases h with
    | refl => exact hh
    | rws hn he =>
      subst hn
      rcases hh with ⟨k, el, e⟩ | hh
      · simp only [List.cons.injEq, PV.rws.injEq, and_true] at e
        obtain ⟨rfl, rfl, _⟩ := e
        exact .inl ⟨_, _, rfl⟩
      · cases hh
    | nrw hn he =>
      subst hn
      rcases hh with ⟨k, el, e⟩ | hh
      · simp only [List.cons.injEq, PV.rws.injEq, and_true] at e
        obtain ⟨rfl, rfl, _⟩ := e
        exact .inl ⟨_, _, rfl⟩
      · cases hh
    | nrc hc hd he =>
      rcases hh with ⟨k, el, e⟩ | hh
      · subst e; simp [isCells] at hc
      · rw [isDd_cells hc] at hh; cases hh
    | foc hn hj he =>
      rcases hh with ⟨k, el, e⟩ | hh
      · simp only [List.cons.injEq, PV.rws.injEq, and_true] at e
        omega
      · cases hh
    | unf hn he =>
      rcases hh with ⟨k, el, e⟩ | hh
      · cases e
      · cases hh
theorem SigEq.at' : ∀ {σ σ' : Sig}, SigEq σ σ' → σ.length = σ'.length ∧ ∀ (i : Nat) (d : List PV), σ'[i]? = some d → ∃ c, σ[i]? = some c ∧ CellsEq c d
  | _, _, .nil => ⟨rfl, fun i d h => by simp at h⟩
  | _, _, .cons h t => by
    obtain ⟨h1, h2⟩ := t.at'
    refine ⟨by simp [h1], fun i d hd => ?_⟩
    cases i with
    | zero => simp at hd; subst hd; exact ⟨_, rfl, h⟩
    | succ i => simp at hd; obtain ⟨c, hc, e⟩ := h2 i d hd; exact ⟨c, by simpa using hc, e⟩
theorem Bx.eq {σ σ' : Sig} (h : Bx β L W σ) (e : SigEq σ σ') : Bx β L W σ' := by
  obtain ⟨e1, e2⟩ := e.at'
  refine ⟨h.1.trans e1, fun i j g c d hi hj hc hd lc ld => ?_, h.2.2.1, fun i cs hi => ?_⟩
  · obtain ⟨c', hc', ec⟩ := e2 i c hc
    obtain ⟨d', hd', ed⟩ := e2 j d hd
    exact h.2.1 i j g c' d' hi hj hc' hd' (by rw [← ec.dd]; exact lc) (by rw [← ed.dd]; exact ld)
  · obtain ⟨c', hc', ec⟩ := e2 i cs hi
    obtain ⟨g, hg, hh⟩ := h.2.2.2 i c' hc'
    exact ⟨g, hg, ec.holdO hh⟩
end
def sigC (P : Program) (fn : Func) (c : Cfg) (σ' : Sig) : Cfg :=
  let d := (stop P fn.ntmps c).2
  ⟨d.E, σ', d.todo, none⟩
section
variable {w0 : W0} {W : World} {L : List Nat} {β : List (Option Nat)} {N : Nat} {P : Program} {Q : Exit → Act → World → Prop} {fn : Func}
theorem Ok.sig {c : Cfg} {ps : List Prop} {σ' : Sig} (h : (stop P fn.ntmps c).1 = ps) (hp : All ps) (hdr : (stop P fn.ntmps c).2.dr = none) (he : SigEq (stop P fn.ntmps c).2.σ σ') (k : OkF P fn w0 L Q (sigC P fn c σ')) : OkF P fn w0 L Q c := by
  refine run_ok 3000 c (by rw [show (runC P fn.ntmps 3000 c).1 = ps from h]; exact hp) ?_
  show OkF P fn w0 L Q (stop P fn.ntmps c).2
  unfold sigC at k
  generalize (stop P fn.ntmps c).2 = d at hdr he k
  obtain ⟨E, σ, todo, dr⟩ := d
  simp only at hdr
  subst hdr
  intro β a W hI
  exact k β a W { hI with bx := hI.bx.eq he }
theorem M.sig {c : Cfg} (ps : List Prop) (σ0 σ' : Sig) (h : (stop P fn.ntmps c).1 = ps) (hp : All ps) (hdr : (stop P fn.ntmps c).2.dr = none) (h0 : (stop P fn.ntmps c).2.σ = σ0) (he : SigEq σ0 σ') (k : M P fn w0 L Q (sigC P fn c σ')) : M P fn w0 L Q c :=
  ⟨Ok.sig h hp hdr (by rw [h0]; exact he) k.out⟩
end
/-- A slice told in other words. -/
theorem sl_eq {β : List (Option Nat)} {L : List Nat} {W : World} {k n n' : Nat} {el el' : Nat → List PV} {u : Value} (hn : n' = n) (he : ∀ j, j < n → el j = el' j) (h : R β L W (.sl k n el) u) : R β L W (.sl k n' el') u := by
  subst hn
  rw [R] at h ⊢
  obtain ⟨a, c, e, h1, h2, h3⟩ := h
  refine ⟨a, c, e, h1, h2, fun h0 => ?_⟩
  obtain ⟨b, off, q1, q2, q3, q4⟩ := h3 h0
  exact ⟨b, off, q1, q2, q3, fun j hj => by rw [← he j hj]; exact q4 j hj⟩
/-- Cells told in other words, one by one. -/
def CellsTo (β : List (Option Nat)) (L : List Nat) (W : World) : List PV → List PV → Prop
  | [], [] => True
  | p :: ps, q :: qs => (∀ u, R β L W p u → R β L W q u) ∧ CellsTo β L W ps qs
  | _, _ => False
theorem CellsTo.nil {β : List (Option Nat)} {L : List Nat} {W : World} : CellsTo β L W [] [] := trivial
theorem CellsTo.cons {β : List (Option Nat)} {L : List Nat} {W : World} {p q : PV} {ps qs : List PV} (h : ∀ u, R β L W p u → R β L W q u) (t : CellsTo β L W ps qs) : CellsTo β L W (p :: ps) (q :: qs) := ⟨h, t⟩
theorem CellsTo.rs {β : List (Option Nat)} {L : List Nat} {W : World} : ∀ {ps qs : List PV} {us : List Value}, CellsTo β L W ps qs → Rs β L W ps us → Rs β L W qs us
  | [], [], _, _, h => h
  | p :: ps, q :: qs, us, hc, h => by
    obtain ⟨u, us', rfl, h1, h2⟩ := h.uncons
    exact Rs.cons (hc.1 u h1) (CellsTo.rs hc.2 h2)
  | [], q :: qs, _, hc, _ => hc.elim
  | p :: ps, [], _, hc, _ => hc.elim
theorem agg_to {β : List (Option Nat)} {L : List Nat} {W : World} {ps qs : List PV} {u : Value} (hc : CellsTo β L W ps qs) (h : R β L W (.agg ps) u) : R β L W (.agg qs) u := by
  rw [R] at h ⊢
  obtain ⟨us, e, h1, h2⟩ := h
  exact ⟨us, e, h1, hc.rs h2⟩
/-- A row with one more, as an append of one leaves it, under other numbers. -/
theorem app_cells {f : Nat → List PV} {i k : Nat} {ds : List PV} {g : PV → PV} (hk : ds.length = k) (hd : ds.map g = f i) (hf : ∀ j, (f j).map g = f j) :
    CellsEq [.rws k (i + 1) (fun j => (joinEl f i (fun j => (ds.drop (j * k)).take k) j).map g)] [.rws k (i + 1) f] := by
  refine .rws rfl fun j hj => ?_
  unfold joinEl
  split
  · exact hf j
  · have : j = i := by omega
    subst this
    rw [Nat.sub_self]
    show ((ds.drop (0 * k)).take k).map g = f j
    rw [Nat.zero_mul, List.drop_zero, List.take_of_length_le (by omega)]
    exact hd
end Go.Proofs.YtcknpohghmkbmaaGreatDoor
