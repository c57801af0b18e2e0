import Derived.Test.YtplpnfjccemdnaaGreatDoorJ9
set_option linter.unusedVariables false
set_option linter.unusedSimpArgs false
/- The texts V16 V17 V18 V19 V20 of the proof, laid one behind the other. -/
namespace Go.Proofs.YtplpnfjccemdnaaGreatDoor
open Go.RowKit
def viewM (P : Program) (fn : Func) (c : Cfg) (is : List Nat) : Option (List Prop × FuncId × Sig × List PV) :=
 let s := stop P fn.ntmps c
 match callC P fn.ntmps s.2 with
 | some (g, ps) => if renOk s.2.σ is then some (s.1, g, renS is s.2.σ, ps.map (renP (invF is 0) 8)) else none
 | none => none
def afterM (P : Program) (fn : Func) (c : Cfg) (is : List Nat) (m : Nat) (σ1 : Sig) (r : PV) : Cfg :=
 let d := (stop P fn.ntmps c).2
 match d.dr with
 | some q =>
  match q.all[q.i]? with
  | some o => ⟨putE d.E o.dst (renP (outF is m d.σ.length) 8 r), mergeS is m d.σ σ1, d.todo, some { q with i := q.i + 1, ss := (q.i, touchM is m d.σ σ1) :: q.ss }⟩
  | none => d
 | none =>
 match d.todo with
 | .ops all (o :: l) :: k => ⟨putE d.E o.dst (renP (outF is m d.σ.length) 8 r), mergeS is m d.σ σ1, .ops all l :: k, none⟩
 | _ => d
def renC (P : Program) (fn : Func) (c : Cfg) (ρ : List Nat) : Cfg :=
 let d := (stop P fn.ntmps c).2
 ⟨renE ρ d.E, renS ρ d.σ, d.todo, none⟩
def resOne : List PV -> PV
 | [p] => p
 | ps => .tup ps
def retMP (P : Program) (fn : Func) (ρ : List Nat) (E : Env) (σ : Sig) : Option (Sig × PV) :=
 if renOk σ ρ then (resP P E σ fn.results.toList).map fun ps => ((renS ρ σ).map (·.map (nrm 4)), nrm 4 (renP (invF ρ 0) 8 (resOne ps))) else none
def viewR (P : Program) (fn : Func) (c : Cfg) (ρ : List Nat) : Option (List Prop × Sig × PV) :=
 let s := stop P fn.ntmps c
 match s.2.dr with
 | some _ => none
 | none =>
  match s.2.todo with
  | [] => (retMP P fn ρ s.2.E s.2.σ).map fun q => (s.1, q)
  | .code .ret :: _ => (retMP P fn ρ s.2.E s.2.σ).map fun q => (s.1, q)
  | _ => none
section
variable {w0 : W0} {W : World} {L : List Nat} {β : List (Option Nat)} {N : Nat} {P : Program} {Q : Exit -> Act -> World -> Prop} {fn : Func} {σ : Sig} {E : Env} {a : Act}
theorem Ok.callm {c : Cfg} {g : FuncId} {m : Nat} {σ0 σ1 : Sig} {qs : List PV} {r : PV} {ps : List Prop} (is : List Nat) (hs : SpecM P g m σ0 qs σ1 r) (h : viewM P fn c is = some (ps, g, σ0, qs)) (hp : All ps)
  (k : OkF P fn w0 L Q (afterM P fn c is m σ1 r)) : OkF P fn w0 L Q c := by
 unfold viewM at h
 simp only at h
 split at h
 ·rename_i g' rs hc
  split at h
  ·rename_i hρ
   simp only [Option.some.injEq, Prod.mk.injEq] at h
   obtain ⟨e1, rfl, e3, e4⟩ := h
   refine run_ok 3000 c (by rw [show (runC P fn.ntmps 3000 c).1 = ps from e1]; exact hp) ?_
   show OkF P fn w0 L Q (stop P fn.ntmps c).2
   unfold afterM at k
   generalize (stop P fn.ntmps c).2 = d at hc k hρ e3 e4
   obtain ⟨E, σ, todo, dr⟩ := d
   simp only at hc k hρ e3 e4
   unfold callC at hc
   simp only at hc
   cases dr with
   | some d =>
    simp only at hc k
    intro hnd hok hm hT β a W hI
    simp only at hT hI ⊢
    split at hc
    ·rename_i o ho
     split at hc
     ·rename_i hd
      split at hc
      ·rename_i hg
       split at hc
       ·rename_i g2 ps2 hcc
        cases hc
        simp only [ho] at k
        exact k hnd hok hm (.op hT ho hd (.m _ rs is m σ0 σ1 qs r hg hcc hs hρ e3 e4 rfl rfl _ merge_touch) rfl rfl) β a W hI
       ·cases hc
      ·cases hc
     ·cases hc
    ·cases hc
   | none =>
    simp only at hc k
    intro β a W hI
    simp only at hI ⊢
    split at hc
    ·rename_i all o l k'
     split at hc
     ·rename_i hd
      split at hc
      ·rename_i hg
       have hw := guard_wanted hI.ev hg
       split at hc
       ·exact list_wp (opC_nd hc) hw (callOpM hI hd hc hs hρ e3 e4 _ _ fun γ u W' hi => k γ _ W' hi)
       ·cases hc
      ·cases hc
     ·cases hc
    ·cases hc
  ·cases h
 ·cases h
theorem Ok.renum {c : Cfg} {ps : List Prop} (ρ : List Nat) (h : (stop P fn.ntmps c).1 = ps) (hp : All ps) (hdr : (stop P fn.ntmps c).2.dr = none) (hρ : renOk (stop P fn.ntmps c).2.σ ρ = true) (hm : ρ.take w0.stay = List.range w0.stay)
  (k : ∀ L', OkF P fn w0 L' Q (renC P fn c ρ)) : OkF P fn w0 L Q c := by
 refine run_ok 3000 c (by rw [show (runC P fn.ntmps 3000 c).1 = ps from h]; exact hp) ?_
 show OkF P fn w0 L Q (stop P fn.ntmps c).2
 unfold renC at k
 generalize (stop P fn.ntmps c).2 = d at hdr hρ k
 obtain ⟨E, σ, todo, dr⟩ := d
 simp only at hdr
 subst hdr
 intro β a W hI
 exact k _ _ a W (hI.ren hρ hm)
theorem nrm_H {g : Nat} {cs : List PV} (h : Hold β L W g cs) : Hold β L W g (cs.map (nrm 4)) := by
 cases h with
 | cells _ t us hh h1 h2 => exact .cells _ t us hh h1 (Rs.map (fun p u => nrm_R 4 p u) h2)
 | rws k n el t us hh h1 hl h2 => exact .rws _ _ _ t us hh h1 hl h2
 | mp has val es c hh h2 => exact .mp _ _ es c hh h2
 | dd => exact .dd
 | mps ks g es c hh h2 => exact .mps _ _ es c hh h2
 | rwf k n el j cs t us hh h1 hl h2 => exact .rwf _ _ _ _ _ t us hh h1 hl h2
theorem nrm_HO {x : Option Nat} {cs : List PV} (h : HoldO β L W x cs) : HoldO β L W x (cs.map (nrm 4)) := by
 cases x with
 | none =>
  rcases h with ⟨k, el, rfl⟩ | h
  ·exact .inl ⟨k, el, rfl⟩
  ·refine .inr ?_
   unfold isDd at h
   split at h
   ·rfl
   ·cases h
 | some g => exact nrm_H h
theorem nrm_dd (cs : List PV) : isDd (cs.map (nrm 4)) = isDd cs := by
 cases cs with
 | nil => rfl
 | cons p l =>
  cases p with
  | v x => cases x <;> rfl
  | _ => rfl
theorem Bx.nrm (h : Bx β L W σ) : Bx β L W (σ.map (·.map (nrm 4))) := by
 refine ⟨by simp [h.1], fun i j g c d hi hj hc hd lc ld => ?_, h.2.2.1, fun i cs hi => ?_⟩
 ·rw [List.getElem?_map] at hc hd
  cases h1 : σ[i]? with
  | none => rw [h1] at hc; cases hc
  | some c' =>
   cases h2 : σ[j]? with
   | none => rw [h2] at hd; cases hd
   | some d' =>
    rw [h1] at hc; rw [h2] at hd
    cases hc; cases hd
    rw [nrm_dd] at lc ld
    exact h.2.1 i j g c' d' hi hj h1 h2 lc ld
 ·rw [List.getElem?_map] at hi
  cases h1 : σ[i]? with
  | none => rw [h1] at hi; cases hi
  | some c' =>
   rw [h1] at hi; cases hi
   obtain ⟨g, hg, hh⟩ := h.2.2.2 i c' h1
   exact ⟨g, hg, nrm_HO hh⟩
theorem resM_run (hI : Inv w0 L β σ N E a W) {ps : List PV} (hps : resP P E σ fn.results.toList = some ps) : ∃ v, (results fn a.tmps).run P W = .ok v W /\ R β L W (resOne ps) v := by
 have key : ∃ vs : List Value, (fn.results.mapM (resSem a.tmps) : Sem (Array Value)).run P W = .ok vs.toArray W /\ Rs β L W ps vs := by
  obtain ⟨vs, hv, hr⟩ := res_run hI.ev hI.bx _ ps hps
  refine ⟨vs, ?_, hr⟩
  rw [Array.mapM_eq_mapM_toList, map_eq_pure_bind]
  simp only [Sem.run_bind, hv, Result.andThen_ok]; rfl
 obtain ⟨vs, hv, hr⟩ := key
 by_cases hl : ps.length = 1
 ·match ps, hl with
  | [p], _ =>
   obtain ⟨u, us', rfl, hu, hn⟩ := hr.uncons
   rw [Rs] at hn; subst hn
   refine ⟨u, ?_, hu⟩
   rw [results_eq]
   simp only [Sem.run_bind, hv]
   simp [Sem.run_pure]
 ·have e : resOne ps = .tup ps := by
   unfold resOne; split
   ·rename_i p; simp at hl
   ·rfl
  refine ⟨.tuple vs.toArray, ?_, by rw [e, R]; exact ⟨vs, rfl, hr⟩⟩
  rw [results_eq]
  simp only [Sem.run_bind, hv]
  simp only [Result.andThen_ok, Sem.run_pure]
  rw [dif_neg]
  intro h1
  have : vs.length = ps.length := hr.length
  simp at h1; omega
theorem Ok.retm {c : Cfg} {r : PV} {σ' : Sig} {ps : List Prop} (ρ : List Nat) (hm : ρ.take w0.stay = List.range w0.stay) (h : viewR P fn c ρ = some (ps, σ', r)) (hp : All ps) : OkF P fn w0 L (Qm P fn w0 σ' r) c := by
 unfold viewR at h
 simp only at h
 split at h
 ·cases h
 ·rename_i hdr
  have key : ∀ q, retMP P fn ρ (stop P fn.ntmps c).2.E (stop P fn.ntmps c).2.σ = some q -> ((stop P fn.ntmps c).1, q) = (ps, σ', r) -> ((stop P fn.ntmps c).2.todo = [] \/ ∃ k, (stop P fn.ntmps c).2.todo = .code .ret :: k) -> OkF P fn w0 L (Qm P fn w0 σ' r) c := fun q hq e ht => by
   simp only [Prod.mk.injEq] at e
   obtain ⟨e1, e2⟩ := e
   subst e2
   refine run_ok 3000 c (by rw [show (runC P fn.ntmps 3000 c).1 = ps from e1]; exact hp) ?_
   show OkF P fn w0 L _ (stop P fn.ntmps c).2
   generalize (stop P fn.ntmps c).2 = d at hdr hq ht
   obtain ⟨E, σ, todo, dr⟩ := d
   simp only at hdr hq ht
   subst hdr
   intro β a W hI
   unfold retMP at hq
   split at hq
   case isFalse => cases hq
   rename_i hρ
   cases hps : resP P E σ fn.results.toList with
   | none => rw [hps] at hq; cases hq
   | some rs =>
    rw [hps] at hq
    simp only [Option.map_some, Option.some.injEq, Prod.mk.injEq] at hq
    obtain ⟨q1, q2⟩ := hq
    have fin : Qm P fn w0 σ' r .ret a W := fun hd => leave_ok hd hI fun a' W' e1 hI' => by
     obtain ⟨v, hv, hr⟩ := resM_run hI' hps
     rw [e1] at hv
     have hi := hI'.ren hρ hm
     have hsub : ∀ g, some g ∈ renB ρ β -> some g ∈ β := fun g hg => renB_sub hI'.bx.1 hρ hg
     have hF := fb_without (L := L) hsub
     refine ⟨v, hv, v, renB ρ β, _, rfl, ?_, ?_, hi.bel, hi.new, hi.pre, hi.inc.1, hi.inc.2⟩
     ·rw [<- q2]; exact nrm_R 4 _ _ (ren_R (renF hI'.bx.1 hρ) (fun g hg => (hF g).1 hg) 8 _ _ hr)
     ·rw [<- q1]; exact hi.bx.nrm
    rcases ht with ht | ⟨k, ht⟩
    ·subst ht; exact fin
    ·subst ht; exact wpIn_ret (wpK_ret fin)
  split at h
  ·rename_i ht
   cases hq : retMP P fn ρ (stop P fn.ntmps c).2.E (stop P fn.ntmps c).2.σ with
   | none => rw [hq] at h; cases h
   | some q => rw [hq] at h; exact key q hq (Option.some.inj h) (.inl ht)
  ·rename_i k ht
   cases hq : retMP P fn ρ (stop P fn.ntmps c).2.E (stop P fn.ntmps c).2.σ with
   | none => rw [hq] at h; cases h
   | some q => rw [hq] at h; exact key q hq (Option.some.inj h) (.inr ⟨k, ht⟩)
  ·cases h
theorem Ok.loopL {ι : Type} (E : ι -> Env) (S : ι -> Sig) (m : ι -> Nat) (x0 : ι) {c : Cfg} {ps : List Prop} (h : viewOf P fn c = .loop ps) (hp : All ps)
  (hE : keepE ((E x0).map (·.1)) (stop P fn.ntmps c).2.E = E x0) (hS : (stop P fn.ntmps c).2.σ = S x0)
  (round : ∀ x L, (∀ y L', m y < m x -> OkF P fn w0 L' Q ⟨E y, S y, (stop P fn.ntmps c).2.todo, none⟩) -> OkF P fn w0 L Q (roundC P fn c (E x) (S x))) : OkF P fn w0 L Q c := by
 obtain ⟨e1, hdr, body, k, ht⟩ := view_loop h
 refine Ok.back (T := .lp body :: k) ?_ e1 hp hE hS ht hdr
 have key : ∀ n x L, m x = n -> OkF P fn w0 L Q ⟨E x, S x, .lp body :: k, none⟩ := by
  intro n
  induction n using Nat.strongRecOn with
  | _ n ih =>
   intro x L hx β a W hI
   have hr := round x L (fun y L' hy => by rw [ht]; exact ih (m y) (hx ▸ hy) y L' rfl)
   unfold roundC at hr
   rw [ht] at hr
   refine LW.unroll (wpIn_mono (hr β a W hI) fun e a w h => wpK_lp h)
 exact key _ x0 L rfl
theorem SpecM.enter {f : FuncId} {m : Nat} {σ σ' : Sig} {args : List PV} {r : PV} {c : Code} (he : entersP P f = true) (hf : P.funcs[f]? = some fn) (hb : fn.body = some c) (hn : Nat.ble args.length fn.ntmps = true) (hm : m <= σ.length)
  (k : ∀ w0 L, w0.stay = m -> OkF P fn w0 L (Qm P fn w0 σ' r) (startM args σ c)) : SpecM P f m σ args σ' r := by
 refine ⟨he, hm, fun L β W vs hL hG hB hR => ?_⟩
 refine callsIn_wide.1 (callsIn_of_wp_marks (n := 0) hf hb trivial ?_ rfl)
 have h := k ⟨W, β, m, L, [], none, ghosts, true⟩ L rfl β (startA fn vs.toArray) W ⟨Near.refl _ _ _ _ _ _ _ _, fun g hg => .inl hg, hL, ⟨fun _ h => h, fun g hg => .inl hg⟩, ⟨rfl, by rw [hB.1]; exact hm⟩, hB, args_Ev (Nat.le_of_ble_eq_true hn) hR, Nod.nil rfl, Gl.gho hG, fun g hg => .inl hg, fun q hq => hq⟩
 refine wpIn_mono h fun e a w hq => ?_
 have hq' : Qm P fn ⟨W, β, m, L, [], none, ghosts, true⟩ σ' r e a w := by unfold wpK at hq; exact hq
 exact hq' rfl
theorem SpecM.start {f : FuncId} {m : Nat} {σ σ' : Sig} {args : List PV} {r : PV} {c : Code} (he : entersP P f = true) (hf : P.funcs[f]? = some fn) (hb : fn.body = some c) (hn : Nat.ble args.length fn.ntmps = true) (hm : m <= σ.length)
  (k : ∀ w0 L, w0.stay = m -> M P fn w0 L (Qm P fn w0 σ' r) (startM args σ c)) : SpecM P f m σ args σ' r := SpecM.enter he hf hb hn hm fun w0 L h => (k w0 L h).out
theorem M.callm {c : Cfg} {g : FuncId} {m : Nat} {σ0 σ1 : Sig} {qs : List PV} {r : PV} (is : List Nat) (hs : SpecM P g m σ0 qs σ1 r) (h : viewM P fn c is = some ([], g, σ0, qs))
  (k : M P fn w0 L Q (afterM P fn c is m σ1 r)) : M P fn w0 L Q c := ⟨Ok.callm is hs h trivial k.out⟩
theorem M.callmp {c : Cfg} {g : FuncId} {m : Nat} {σ0 σ1 : Sig} {qs : List PV} {r : PV} (ps : List Prop) (is : List Nat) (hs : SpecM P g m σ0 qs σ1 r) (h : viewM P fn c is = some (ps, g, σ0, qs)) (hp : All ps)
  (k : M P fn w0 L Q (afterM P fn c is m σ1 r)) : M P fn w0 L Q c := ⟨Ok.callm is hs h hp k.out⟩
theorem M.ren {c : Cfg} {n : Nat} (ps : List Prop) (ρ : List Nat) (hst : w0.stay = n) (h : (stop P fn.ntmps c).1 = ps) (hp : All ps) (hdr : (stop P fn.ntmps c).2.dr = none) (hρ : renOk (stop P fn.ntmps c).2.σ ρ = true) (hm : ρ.take n = List.range n)
  (k : ∀ L', M P fn w0 L' Q (renC P fn c ρ)) : M P fn w0 L Q c := ⟨Ok.renum ρ h hp hdr hρ (by rw [hst]; exact hm) fun L' => (k L').out⟩
theorem M.retm {c : Cfg} {r r' : PV} {σ' σ1 : Sig} {n : Nat} (ps : List Prop) (ρ : List Nat) (hst : w0.stay = n) (hm : ρ.take n = List.range n) (h : viewR P fn c ρ = some (ps, σ1, r')) (hp : All ps) (e1 : σ1 = σ') (e2 : r' = r) : M P fn w0 L (Qm P fn w0 σ' r) c := by
 subst e1; subst e2
 exact ⟨Ok.retm ρ (by rw [hst]; exact hm) h hp⟩
theorem M.loopL {ι : Type} {c : Cfg} (E : ι -> Env) (S : ι -> Sig) (m : ι -> Nat) (x0 : ι) (ps : List Prop) (h : viewOf P fn c = .loop ps) (hp : All ps)
  (hE : keepE ((E x0).map (·.1)) (stop P fn.ntmps c).2.E = E x0) (hS : (stop P fn.ntmps c).2.σ = S x0)
  (round : ∀ x L, (∀ y L', m y < m x -> M P fn w0 L' Q ⟨E y, S y, (stop P fn.ntmps c).2.todo, none⟩) -> M P fn w0 L Q (roundC P fn c (E x) (S x))) : M P fn w0 L Q c :=
 ⟨Ok.loopL E S m x0 h hp hE hS fun x L ih => (round x L fun y L' hy => ⟨(ih y L' hy)⟩).out⟩
theorem Spec.own {f : FuncId} {args : List PV} {r : PV} (h : Spec P f args r) : SpecM P f 0 [] args [] r := by
 refine ⟨h.1, Nat.zero_le _, fun L β W vs hL hG hB hR => ?_⟩
 have hβ : β = [] := List.eq_nil_of_length_eq_zero (by have := hB.1; simpa using this)
 subst hβ
 refine (h.2 L W vs (fun g hg => (hL g hg).1) hG hR).mono fun e W' ⟨u, he, hr, hb⟩ => ?_
 exact ⟨u, [], L, he, hr, ⟨rfl, fun i j g c d hi => by simp at hi, fun g hg => by simp at hg, fun i cs hi => by simp at hi⟩, (Near.refl W [] 0 L [] none ghosts true).below hb, fun g hg => by simp at hg, ⟨rfl, Nat.le_refl _⟩, fun _ h => h, fun g hg => by simp at hg⟩
theorem M.rn {c : Cfg} {n : Nat} (ps : List Prop) (ρ : List Nat) (hst : w0.stay = n) (hp : All ps) (k : ∀ L', M P fn w0 L' Q (renC P fn c ρ)) (h : (stop P fn.ntmps c).1 = ps := by kernel_rfl) (hdr : (stop P fn.ntmps c).2.dr = none := by kernel_rfl) (hρ : renOk (stop P fn.ntmps c).2.σ ρ = true := by kernel_rfl) (hm : ρ.take n = List.range n := by rfl) : M P fn w0 L Q c := M.ren ps ρ hst h hp hdr hρ hm k
theorem M.cm {c : Cfg} {g : FuncId} {m : Nat} {σ0 σ1 : Sig} {qs : List PV} {r : PV} (is : List Nat) (hs : SpecM P g m σ0 qs σ1 r) (k : M P fn w0 L Q (afterM P fn c is m σ1 r)) (h : viewM P fn c is = some ([], g, σ0, qs) := by kernel_rfl) : M P fn w0 L Q c := M.callm is hs h k
end
inductive CellsEq : List PV -> List PV -> Prop where
 | refl (cs : List PV) : CellsEq cs cs
 | rws {k n n' : Nat} {el el' : Nat -> List PV} (hn : n' = n) (h : ∀ j, j < n -> el j = el' j) : CellsEq [.rws k n el] [.rws k n' el']
 | nrw {k n n' : Nat} {el el' : Nat -> List PV} (hn : n' = n) (h : ∀ j, j < n -> (el j).map (nrm 4) = el' j) : CellsEq [.rws k n el] [.rws k n' el']
 | nrc {c d : List PV} (hc : isCells c = true) (hd : isCells d = true) (h : c.map (nrm 4) = d) : CellsEq c d
 | foc {k n n' j : Nat} {el el' : Nat -> List PV} {cs : List PV} (hn : n' = n) (hj : j < n) (h : ∀ x, x < n -> el x = if x = j then cs else el' x) : CellsEq [.rws k n el] [.rwf k n' el' j cs]
 | unf {k n n' j : Nat} {el el' : Nat -> List PV} {cs : List PV} (hn : n' = n) (h : ∀ x, x < n -> (if x = j then cs else el x) = el' x) : CellsEq [.rwf k n el j cs] [.rws k n' el']
inductive SigEq : Sig -> Sig -> Prop where
 | nil : SigEq [] []
 | cons {c d : List PV} {l m : Sig} (h : CellsEq c d) (t : SigEq l m) : SigEq (c :: l) (d :: m)
theorem SigEq.refl : ∀ σ, SigEq σ σ
 | [] => .nil
 | c :: l => .cons (.refl c) (SigEq.refl l)
section
variable {β : List (Option Nat)} {L : List Nat} {W : World}
theorem CellsEq.dd {c d : List PV} (h : CellsEq c d) : isDd d = isDd c := by
 cases h with
 | nrc hc hd h => rw [isDd_cells hc, isDd_cells hd]
 | _ => rfl
theorem CellsEq.hold {c d : List PV} (h : CellsEq c d) {g : Nat} (hh : Hold β L W g c) : Hold β L W g d := by
 cases h with
 | refl => exact hh
 | rws hn he =>
  subst hn
  obtain ⟨t, us, h1, h2, h3, h4⟩ := rws_out hh
  exact .rws _ _ _ t us h1 h2 h3 fun j hj => by rw [<- he j hj]; exact h4 j hj
 | nrw hn he =>
  subst hn
  obtain ⟨t, us, h1, h2, h3, h4⟩ := rws_out hh
  exact .rws _ _ _ t us h1 h2 h3 fun j hj => by rw [<- he j hj]; exact Rs.map (fun p u => nrm_R 4 p u) (h4 j hj)
 | nrc hc hd he =>
  obtain ⟨t, us, h1, h2, h3⟩ := Hold.out hh hc
  exact .cells _ t us h1 h2 (by rw [<- he]; exact Rs.map (fun p u => nrm_R 4 p u) h3)
 | foc hn hj he =>
  subst hn
  obtain ⟨t, us, h1, h2, h3, h4⟩ := rws_out hh
  exact .rwf _ _ _ _ _ t us h1 h2 h3 fun j hj => by rw [<- he j hj]; exact h4 j hj
 | unf hn he =>
  subst hn
  obtain ⟨t, us, h1, h2, h3, h4⟩ := rwf_out hh
  exact .rws _ _ _ t us h1 h2 h3 fun j hj => by rw [<- he j hj]; exact h4 j hj
theorem CellsEq.holdO {c d : List PV} (h : CellsEq c d) {x : Option Nat} (hh : HoldO β L W x c) : HoldO β L W x d := by
 cases x with
 | some g => exact h.hold hh
 | none =>
  cases h with
  | refl => exact hh
  | rws hn he =>
   subst hn
   rcases hh with ⟨k, el, e⟩ | hh
   ·simp only [List.cons.injEq, PV.rws.injEq, and_true] at e
    obtain ⟨rfl, rfl, _⟩ := e
    exact .inl ⟨_, _, rfl⟩
   ·cases hh
  | nrw hn he =>
   subst hn
   rcases hh with ⟨k, el, e⟩ | hh
   ·simp only [List.cons.injEq, PV.rws.injEq, and_true] at e
    obtain ⟨rfl, rfl, _⟩ := e
    exact .inl ⟨_, _, rfl⟩
   ·cases hh
  | nrc hc hd he =>
   rcases hh with ⟨k, el, e⟩ | hh
   ·subst e; simp [isCells] at hc
   ·rw [isDd_cells hc] at hh; cases hh
  | foc hn hj he =>
   rcases hh with ⟨k, el, e⟩ | hh
   ·simp only [List.cons.injEq, PV.rws.injEq, and_true] at e
    omega
   ·cases hh
  | unf hn he =>
   rcases hh with ⟨k, el, e⟩ | hh
   ·cases e
   ·cases hh
theorem SigEq.at' : ∀ {σ σ' : Sig}, SigEq σ σ' -> σ.length = σ'.length /\ ∀ (i : Nat) (d : List PV), σ'[i]? = some d -> ∃ c, σ[i]? = some c /\ CellsEq c d
 | _, _, .nil => ⟨rfl, fun i d h => by simp at h⟩
 | _, _, .cons h t => by
  obtain ⟨h1, h2⟩ := t.at'
  refine ⟨by simp [h1], fun i d hd => ?_⟩
  cases i with
  | zero => simp at hd; subst hd; exact ⟨_, rfl, h⟩
  | succ i => simp at hd; obtain ⟨c, hc, e⟩ := h2 i d hd; exact ⟨c, by simpa using hc, e⟩
theorem Bx.eq {σ σ' : Sig} (h : Bx β L W σ) (e : SigEq σ σ') : Bx β L W σ' := by
 obtain ⟨e1, e2⟩ := e.at'
 refine ⟨h.1.trans e1, fun i j g c d hi hj hc hd lc ld => ?_, h.2.2.1, fun i cs hi => ?_⟩
 ·obtain ⟨c', hc', ec⟩ := e2 i c hc
  obtain ⟨d', hd', ed⟩ := e2 j d hd
  exact h.2.1 i j g c' d' hi hj hc' hd' (by rw [<- ec.dd]; exact lc) (by rw [<- ed.dd]; exact ld)
 ·obtain ⟨c', hc', ec⟩ := e2 i cs hi
  obtain ⟨g, hg, hh⟩ := h.2.2.2 i c' hc'
  exact ⟨g, hg, ec.holdO hh⟩
end
def sigC (P : Program) (fn : Func) (c : Cfg) (σ' : Sig) : Cfg :=
 let d := (stop P fn.ntmps c).2
 ⟨d.E, σ', d.todo, none⟩
section
variable {w0 : W0} {W : World} {L : List Nat} {β : List (Option Nat)} {N : Nat} {P : Program} {Q : Exit -> Act -> World -> Prop} {fn : Func}
theorem Ok.sig {c : Cfg} {ps : List Prop} {σ' : Sig} (h : (stop P fn.ntmps c).1 = ps) (hp : All ps) (hdr : (stop P fn.ntmps c).2.dr = none) (he : SigEq (stop P fn.ntmps c).2.σ σ') (k : OkF P fn w0 L Q (sigC P fn c σ')) : OkF P fn w0 L Q c := by
 refine run_ok 3000 c (by rw [show (runC P fn.ntmps 3000 c).1 = ps from h]; exact hp) ?_
 show OkF P fn w0 L Q (stop P fn.ntmps c).2
 unfold sigC at k
 generalize (stop P fn.ntmps c).2 = d at hdr he k
 obtain ⟨E, σ, todo, dr⟩ := d
 simp only at hdr
 subst hdr
 intro β a W hI
 exact k β a W { hI with bx := hI.bx.eq he }
theorem M.sig {c : Cfg} (ps : List Prop) (σ0 σ' : Sig) (h : (stop P fn.ntmps c).1 = ps) (hp : All ps) (hdr : (stop P fn.ntmps c).2.dr = none) (h0 : (stop P fn.ntmps c).2.σ = σ0) (he : SigEq σ0 σ') (k : M P fn w0 L Q (sigC P fn c σ')) : M P fn w0 L Q c :=
 ⟨Ok.sig h hp hdr (by rw [h0]; exact he) k.out⟩
end
theorem sl_eq {β : List (Option Nat)} {L : List Nat} {W : World} {k n n' : Nat} {el el' : Nat -> List PV} {u : Value} (hn : n' = n) (he : ∀ j, j < n -> el j = el' j) (h : R β L W (.sl k n el) u) : R β L W (.sl k n' el') u := by
 subst hn
 rw [R] at h ⊢
 obtain ⟨a, c, e, h1, h2, h3⟩ := h
 refine ⟨a, c, e, h1, h2, fun h0 => ?_⟩
 obtain ⟨b, off, q1, q2, q3, q4⟩ := h3 h0
 exact ⟨b, off, q1, q2, q3, fun j hj => by rw [<- he j hj]; exact q4 j hj⟩
def CellsTo (β : List (Option Nat)) (L : List Nat) (W : World) : List PV -> List PV -> Prop
 | [], [] => True
 | p :: ps, q :: qs => (∀ u, R β L W p u -> R β L W q u) /\ CellsTo β L W ps qs
 | _, _ => False
theorem CellsTo.nil {β : List (Option Nat)} {L : List Nat} {W : World} : CellsTo β L W [] [] := trivial
theorem CellsTo.cons {β : List (Option Nat)} {L : List Nat} {W : World} {p q : PV} {ps qs : List PV} (h : ∀ u, R β L W p u -> R β L W q u) (t : CellsTo β L W ps qs) : CellsTo β L W (p :: ps) (q :: qs) := ⟨h, t⟩
theorem CellsTo.rs {β : List (Option Nat)} {L : List Nat} {W : World} : ∀ {ps qs : List PV} {us : List Value}, CellsTo β L W ps qs -> Rs β L W ps us -> Rs β L W qs us
 | [], [], _, _, h => h
 | p :: ps, q :: qs, us, hc, h => by
  obtain ⟨u, us', rfl, h1, h2⟩ := h.uncons
  exact Rs.cons (hc.1 u h1) (CellsTo.rs hc.2 h2)
 | [], q :: qs, _, hc, _ => hc.elim
 | p :: ps, [], _, hc, _ => hc.elim
theorem agg_to {β : List (Option Nat)} {L : List Nat} {W : World} {ps qs : List PV} {u : Value} (hc : CellsTo β L W ps qs) (h : R β L W (.agg ps) u) : R β L W (.agg qs) u := by
 rw [R] at h ⊢
 obtain ⟨us, e, h1, h2⟩ := h
 exact ⟨us, e, h1, hc.rs h2⟩
theorem app_cells {f : Nat -> List PV} {i k : Nat} {ds : List PV} {g : PV -> PV} (hk : ds.length = k) (hd : ds.map g = f i) (hf : ∀ j, (f j).map g = f j) :
  CellsEq [.rws k (i + 1) (fun j => (joinEl f i (fun j => (ds.drop (j * k)).take k) j).map g)] [.rws k (i + 1) f] := by
 refine .rws rfl fun j hj => ?_
 unfold joinEl
 split
 ·exact hf j
 ·have : j = i := by omega
  subst this
  rw [Nat.sub_self]
  show ((ds.drop (0 * k)).take k).map g = f j
  rw [Nat.zero_mul, List.drop_zero, List.take_of_length_le (by omega)]
  exact hd
def isNilS : PV -> Bool
 | .v (.slice none 0 0) => true
 | _ => false
theorem nil_os {β : List (Option Nat)} {L : List Nat} {W : World} {p : PV} {u : Value} {n : Nat} (hp : isNilS p = true) (hn : β[n]? = some none) (e : TypeId) (k : Nat) (h : R β L W p u) : R β L W (.os e n k 0) u := by
 have hp' : p = .v (.slice none 0 0) := by
  unfold isNilS at hp
  split at hp
  ·rfl
  ·cases hp
 subst hp'
 rw [R] at h
 rw [R]
 exact .inr ⟨hn, rfl, none, h⟩
def nilTC (P : Program) (fn : Func) (c : Cfg) (e : TypeId) (k : Nat) (el : Nat -> List PV) (t : Nat) : Cfg :=
 let d := (stop P fn.ntmps c).2
 ⟨(t, .os e d.σ.length k 0) :: d.E, d.σ ++ [[.rws k 0 el]], d.todo, none⟩
def nilCC (P : Program) (fn : Func) (c : Cfg) (e : TypeId) (k : Nat) (el : Nat -> List PV) (i j : Nat) : Cfg :=
 let d := (stop P fn.ntmps c).2
 ⟨d.E, (d.σ.set i ((d.σ.getD i []).set j (.os e d.σ.length k 0))) ++ [[.rws k 0 el]], d.todo, none⟩
def cellNil (σ : Sig) (i j : Nat) : Bool :=
 match σ[i]? with
 | some cs => isCells cs && (match cs[j]? with | some p => isNilS p | none => false)
 | none => false
section
variable {w0 : W0} {W : World} {L : List Nat} {β : List (Option Nat)} {N : Nat} {P : Program} {Q : Exit -> Act -> World -> Prop} {fn : Func} {σ : Sig} {E : Env} {a : Act}
theorem Rs.set {ps : List PV} {us : List Value} {p q : PV} (hq : ∀ u, R β L W p u -> R β L W q u) : ∀ (j : Nat) {ps : List PV} {us : List Value}, ps[j]? = some p -> Rs β L W ps us -> Rs β L W (ps.set j q) us
 | 0, [], _, h, _ => by simp at h
 | 0, x :: ps, us, h, hr => by
  simp at h; subst h
  obtain ⟨u, us', rfl, h1, h2⟩ := hr.uncons
  exact Rs.cons (hq u h1) h2
 | j + 1, [], _, h, _ => by simp at h
 | j + 1, x :: ps, us, h, hr => by
  obtain ⟨u, us', rfl, h1, h2⟩ := hr.uncons
  exact Rs.cons h1 (Rs.set (ps := ps) (us := us') hq j (by simpa using h) h2)
theorem isCells_set {cs : List PV} {e : TypeId} {i k n j : Nat} (h : isCells cs = true) : isCells (cs.set j (.os e i k n)) = true := by
 cases cs with
 | nil => rfl
 | cons p l =>
  cases j with
  | zero => rfl
  | succ j => rw [List.set_cons_succ]; cases p <;> first | rfl | exact h
theorem Inv.recell (h : Inv w0 L β σ N E a W) {i j : Nat} {cs : List PV} {p q : PV} (hi : σ[i]? = some cs) (hc : isCells cs = true) (hc' : isCells (cs.set j q) = true) (hj : cs[j]? = some p) (hq : ∀ u, R β L W p u -> R β L W q u) :
  Inv w0 L β (σ.set i (cs.set j q)) N E a W := by
 have hil : i < σ.length := (List.getElem?_eq_some_iff.1 hi).1
 have old : ∀ (z : Nat) (c : List PV), (σ.set i (cs.set j q))[z]? = some c -> isDd c = false -> ∃ c', σ[z]? = some c' /\ isDd c' = false := fun z c hz lz => by
  by_cases e : z = i
  ·subst e; exact ⟨cs, hi, isDd_cells hc⟩
  ·rw [List.getElem?_set_ne (Ne.symm e)] at hz; exact ⟨c, hz, lz⟩
 refine { h with bx := ⟨by simp [h.bx.1], fun x y g c d hx hy hc hd lc ld => ?_, h.bx.2.2.1, fun x ds hd => ?_⟩ }
 ·obtain ⟨c', e1, e2⟩ := old x c hc lc
  obtain ⟨d', e3, e4⟩ := old y d hd ld
  exact h.bx.2.1 x y g c' d' hx hy e1 e3 e2 e4
 ·by_cases e : x = i
  ·subst e
   rw [List.getElem?_set_self hil] at hd
   cases hd
   obtain ⟨g, t, us, hg, hh, h1, h2⟩ := h.bx.cells hi hc
   exact ⟨some g, hg, Hold.cells _ t us hh h1 (Rs.set (ps := cs) (us := us) hq j hj h2)⟩
  ·rw [List.getElem?_set_ne (Ne.symm e)] at hd
   exact h.bx.2.2.2 x ds hd
theorem Ok.nilT {c : Cfg} {ps : List Prop} (e : TypeId) (k : Nat) (el : Nat -> List PV) (t : Nat) (h : (stop P fn.ntmps c).1 = ps) (hp : All ps) (hdr : (stop P fn.ntmps c).2.dr = none) (hn : isNilS (lk (stop P fn.ntmps c).2.E t) = true)
  (kk : OkF P fn w0 L Q (nilTC P fn c e k el t)) : OkF P fn w0 L Q c := by
 refine run_ok 3000 c (by rw [show (runC P fn.ntmps 3000 c).1 = ps from h]; exact hp) ?_
 show OkF P fn w0 L Q (stop P fn.ntmps c).2
 unfold nilTC at kk
 generalize (stop P fn.ntmps c).2 = d at hdr hn kk
 obtain ⟨E, σ, todo, dr⟩ := d
 simp only at hdr
 subst hdr
 intro β a W hI
 have hi := hI.nilRow k el
 refine kk (β ++ [none]) a W { hi with ev := ⟨hi.ev.1, fun s => ?_⟩ }
 simp only [lk]
 split
 ·rename_i es; subst es
  exact nil_os hn (by rw [<- hI.bx.1]; simp) e k (hi.ev.2 t)
 ·exact hi.ev.2 s
theorem Ok.nilC {c : Cfg} {ps : List Prop} (e : TypeId) (k : Nat) (el : Nat -> List PV) (i j : Nat) (h : (stop P fn.ntmps c).1 = ps) (hp : All ps) (hdr : (stop P fn.ntmps c).2.dr = none) (hn : cellNil (stop P fn.ntmps c).2.σ i j = true)
  (kk : OkF P fn w0 L Q (nilCC P fn c e k el i j)) : OkF P fn w0 L Q c := by
 refine run_ok 3000 c (by rw [show (runC P fn.ntmps 3000 c).1 = ps from h]; exact hp) ?_
 show OkF P fn w0 L Q (stop P fn.ntmps c).2
 unfold nilCC at kk
 generalize (stop P fn.ntmps c).2 = d at hdr hn kk
 obtain ⟨E, σ, todo, dr⟩ := d
 simp only at hdr
 subst hdr
 intro β a W hI
 simp only at hn kk hI ⊢
 have hi := hI.nilRow k el
 unfold cellNil at hn
 split at hn
 ·rename_i cs hs
  simp only [Bool.and_eq_true] at hn
  obtain ⟨hc, hn⟩ := hn
  split at hn
  ·rename_i p hj
   have hil : i < σ.length := (List.getElem?_eq_some_iff.1 hs).1
   have hr := hi.recell (i := i) (j := j) (cs := cs) (p := p) (q := .os e σ.length k 0) (by rw [List.getElem?_append_left hil]; exact hs) hc (isCells_set hc) hj (fun u hu => nil_os hn (by rw [<- hI.bx.1]; simp) e k hu)
   rw [List.set_append_left _ _ hil] at hr
   have := kk (β ++ [none]) a W (by rw [show σ.getD i [] = cs by simp [List.getD_eq_getElem?_getD, hs]]; exact hr)
   exact this
  ·cases hn
 ·cases hn
theorem M.nilT {c : Cfg} (ps : List Prop) (e : TypeId) (k : Nat) (el : Nat -> List PV) (t : Nat) (h : (stop P fn.ntmps c).1 = ps) (hp : All ps) (hdr : (stop P fn.ntmps c).2.dr = none) (hn : isNilS (lk (stop P fn.ntmps c).2.E t) = true)
  (kk : M P fn w0 L Q (nilTC P fn c e k el t)) : M P fn w0 L Q c := ⟨Ok.nilT e k el t h hp hdr hn kk.out⟩
theorem M.nilC {c : Cfg} (ps : List Prop) (e : TypeId) (k : Nat) (el : Nat -> List PV) (i j : Nat) (h : (stop P fn.ntmps c).1 = ps) (hp : All ps) (hdr : (stop P fn.ntmps c).2.dr = none) (hn : cellNil (stop P fn.ntmps c).2.σ i j = true)
  (kk : M P fn w0 L Q (nilCC P fn c e k el i j)) : M P fn w0 L Q c := ⟨Ok.nilC e k el i j h hp hdr hn kk.out⟩
end
def facts : Nat -> PV -> Prop
 | 0, _ => True
 | n + 1, .sl k m el => m <= 9223372036854775807 /\ ∀ j, j < m -> ∀ p ∈ el j, facts n p
 | n + 1, .agg cs => ∀ p ∈ cs, facts n p
 | n + 1, .tup cs => ∀ p ∈ cs, facts n p
 | n + 1, .ptr cs => ∀ p ∈ cs, facts n p
 | n + 1, .fn _ cs => ∀ p ∈ cs, facts n p
 | n + 1, .o p => facts n p
 | n + 1, .os _ _ _ m => m <= 9223372036854775807
 | _ + 1, _ => True
section
variable {W : World}
theorem Rs.mem {f : PV -> Prop} : ∀ {ps : List PV} {us : List Value} {β : List (Option Nat)} {L : List Nat}, (∀ p u, R β L W p u -> f p) -> Rs β L W ps us -> ∀ p ∈ ps, f p
 | [], _, _, _, _, _, p, hp => by simp at hp
 | q :: ps, us, β, L, hf, h, p, hp => by
  obtain ⟨u, us', rfl, h1, h2⟩ := h.uncons
  rcases List.mem_cons.1 hp with rfl | hp
  ·exact hf _ u h1
  ·exact Rs.mem hf h2 p hp
theorem facts_R : ∀ (n : Nat) (p : PV) (u : Value) (β : List (Option Nat)) (L : List Nat), R β L W p u -> facts n p
 | 0, p, u, β, L, _ => trivial
 | n + 1, p, u, β, L, h => by
  cases p with
  | sl k m el =>
   rw [R] at h
   obtain ⟨a, c, _, h1, h2, h3⟩ := h
   refine ⟨by omega, fun j hj => ?_⟩
   obtain ⟨b, off, _, _, _, h4⟩ := h3 (by omega)
   obtain ⟨us, _, _, h5, _⟩ := h4 j hj
   exact Rs.mem (fun p u h => facts_R n p u _ _ h) h5
  | agg cs => rw [R] at h; obtain ⟨us, _, _, h2⟩ := h; exact Rs.mem (fun p u h => facts_R n p u _ _ h) h2
  | tup cs => rw [R] at h; obtain ⟨us, _, h2⟩ := h; exact Rs.mem (fun p u h => facts_R n p u _ _ h) h2
  | ptr cs => rw [R] at h; obtain ⟨b, off, us, _, _, _, _, h2, _⟩ := h; exact Rs.mem (fun p u h => facts_R n p u _ _ h) h2
  | fn g cs => rw [R] at h; obtain ⟨us, _, h2⟩ := h; exact Rs.mem (fun p u h => facts_R n p u _ _ h) h2
  | o p => rw [R] at h; exact facts_R n p u _ _ h.2
  | os e i k m =>
   rw [R] at h
   rcases h with ⟨g, c, _, _, h1, h2, _⟩ | ⟨_, h, _⟩
   ·show m <= _; omega
   ·show m <= _; omega
  | _ => exact trivial
theorem Spec.facts {P : Program} {f : FuncId} {args : List PV} {r : PV} (he : entersP P f = true) (h : (∀ p ∈ args, facts 4 p) -> Spec P f args r) : Spec P f args r :=
 ⟨he, fun L W vs hL hG hR => (h (Rs.mem (fun p u h => facts_R 4 p u _ _ h) hR)).2 L W vs hL hG hR⟩
theorem Spec.fact {P : Program} {f : FuncId} {args : List PV} {r : PV} (he : entersP P f = true) (i : Nat) {p : PV} (hi : args[i]? = some p) (h : Go.Proofs.YtplpnfjccemdnaaGreatDoor.facts 4 p -> Spec P f args r) : Spec P f args r :=
 Spec.facts he fun hf => h (hf p (List.mem_of_getElem? hi))
theorem SpecM.fact {P : Program} {f : FuncId} {m : Nat} {σ σ' : Sig} {args : List PV} {r : PV} (he : entersP P f = true) (i : Nat) {p : PV} (hi : args[i]? = some p) (h : Go.Proofs.YtplpnfjccemdnaaGreatDoor.facts 4 p -> SpecM P f m σ args σ' r) (hm : m <= σ.length := by first | exact Nat.zero_le _ | decide) : SpecM P f m σ args σ' r :=
 ⟨he, hm, fun L β W vs hL hG hB hR => (h (Rs.mem (fun p u h => facts_R 4 p u _ _ h) hR p (List.mem_of_getElem? hi))).2.2 L β W vs hL hG hB hR⟩
end
def fstI {α : Type} (p : α -> Bool) (l : List α) : Int := match l.findIdx? p with | some i => i | none => -1
theorem fstI_at {α : Type} {p : α -> Bool} {l : List α} {i : Nat} (hi : i < l.length) (h : ∀ j x, j < i -> l[j]? = some x -> p x = false) (hp : p l[i] = true) : fstI p l = i := by
 unfold fstI
 rw [List.findIdx?_eq_some_iff_getElem.2 ⟨hi, hp, fun j hj => by simpa using h j _ hj (List.getElem?_eq_getElem (by omega))⟩]
theorem fstI_no {α : Type} {p : α -> Bool} {l : List α} {i : Nat} (hi : l.length <= i) (h : ∀ j x, j < i -> l[j]? = some x -> p x = false) : fstI p l = -1 := by
 unfold fstI
 rw [List.findIdx?_eq_none_iff.2 fun x hx => by
  obtain ⟨j, hj, rfl⟩ := List.mem_iff_getElem.1 hx
  exact h j _ (by omega) (List.getElem?_eq_getElem hj)]
theorem fstI_any {α : Type} (p : α -> Bool) (l : List α) : decide (fstI p l >= 0) = l.any p := by
 unfold fstI
 cases h : l.findIdx? p with
 | none =>
  have := List.findIdx?_eq_none_iff.1 h
  have e : l.any p = false := by rw [List.any_eq_false]; intro x hx; simp [this x hx]
  rw [e]; decide
 | some i =>
  obtain ⟨hi, hp, _⟩ := List.findIdx?_eq_some_iff_getElem.1 h
  have e : l.any p = true := List.any_eq_true.2 ⟨_, List.getElem_mem hi, hp⟩
  rw [e]
  exact decide_eq_true (by show (i : Int) >= 0; omega)
theorem getD_nat {α : Type} [Inhabited α] {l : List α} {i : Nat} (h : i < l.length) : l.getD (i : Int).toNat default = l[i] := by simp [List.getD_eq_getElem?_getD, h]
def noneB {α : Type} (p : α -> Bool) (l : List α) (i : Nat) : Prop := ∀ j x, j < i -> l[j]? = some x -> p x = false
theorem noneB_zero {α : Type} (p : α -> Bool) (l : List α) : noneB p l 0 := fun j x h => absurd h (Nat.not_lt_zero _)
theorem noneB_step {α : Type} {p : α -> Bool} {l : List α} {i : Nat} (hlt : i < l.length) (h : noneB p l i) (h2 : p l[i] = false) : noneB p l (i + 1) := fun j x hj hx => by
 by_cases e : j = i
 ·subst e; rw [List.getElem?_eq_getElem hlt] at hx; cases hx; exact h2
 ·exact h j x (by omega) hx
def RunY (P : Program) (l : Nat) (vs : Array Value) (W : World) (R : Ending -> World -> Prop) : Prop :=
 ∃ fn tmps assign body, (Instr.yield l vs).run P W = .ok (.round l fn tmps assign body) W /\ RoundIn (Fr none) 0 P l fn tmps assign body W R
structure IStep (Z : List Nat) (W : World) (Z' : List Nat) (W' : World) : Prop where
 os : W'.os = W.os
 tape : W'.tape = W.tape
 output : W'.output = W.output
 size : W.heap.size <= W'.heap.size
 same : ∀ k, k < W.heap.size -> k ∉ Z -> W'.heap[k]? = W.heap[k]?
 shape : ∀ k, k < W.heap.size -> W'.shape? k = W.shape? k
 own : ∀ g ∈ Z', (g ∈ Z \/ W.heap.size <= g) /\ g < W'.heap.size
structure Chg (Z B : List Nat) (W : World) (B' : List Nat) (W' : World) : Prop where
 size : W.heap.size <= W'.heap.size
 same : ∀ k, k < W.heap.size -> k ∉ B -> W'.heap[k]? = W.heap[k]?
 kept : ∀ k ∈ Z, W'.heap[k]? = W.heap[k]?
 new : ∀ g ∈ B', g ∈ B \/ W.heap.size <= g
 lt : ∀ g ∈ B', g < W'.heap.size
structure Yl (P : Program) (l : Nat) (J : Nat -> List Nat -> List Nat -> World -> Prop) (X : List Nat -> List Nat -> World -> Prop) (n : Nat) (xs : Nat -> List PV) : Prop where
 jst : ∀ i Z B W Z' W', J i Z B W -> IStep Z W Z' W' -> J i Z' B W'
 xst : ∀ Z B W Z' W', X Z B W -> IStep Z W Z' W' -> X Z' B W'
 rnd : ∀ i Z B W vs, i < n -> J i Z B W -> (∀ g ∈ B, g < W.heap.size /\ g ∉ Z) -> (∀ g ∈ Z, g < W.heap.size) -> Rs [] (Z ++ B) W (xs i) vs ->
  RunY P l vs.toArray W fun e W' => ∃ b B', e = .returned (.bool b) /\ (b = true -> J (i + 1) Z B' W') /\ (b = false -> X Z B' W') /\ Chg Z B W B' W'
def IEnd (fin : Option PV) (J X : List Nat -> List Nat -> World -> Prop) (e : Ending) (W : World) : Prop :=
 ∃ Z B, match fin with
  | none => (∃ u, e = .returned u) /\ (J Z B W \/ X Z B W)
  | some x => (∃ u, e = .panicked [{ v := u, recovered := false }] /\ R [] [] W x u /\ J Z B W) \/ ((∃ u, e = .returned u) /\ X Z B W)
def Iter (P : Program) (gf : FuncId) (caps : List PV) (n : Nat) (xs : Nat -> List PV) (fin : Option PV) : Prop :=
 entersP P gf = true /\ ∀ (l : Nat) (J : Nat -> List Nat -> List Nat -> World -> Prop) (X : List Nat -> List Nat -> World -> Prop), Yl P l J X n xs ->
  ∀ (B : List Nat) (W : World) (vs : List Value), J 0 [] B W -> (∀ g ∈ B, g < W.heap.size) -> Gl B W -> Rs [] B W caps vs ->
   Calls P gf (.func (.yield l) #[] #[] :: vs).toArray W (IEnd fin (J n) X)
structure Itb (J : List Nat -> List Nat -> World -> Prop) (w0 : W0) : Prop where
 dfs : w0.dfs = []
 ro : w0.ro = none
 stay : w0.stay = 0
 mrk : w0.mrk = false
 hold : J (bs w0.own) w0.lock w0.w
def Qi (P : Program) (fn : Func) (fin : Option PV) (J X : List Nat -> List Nat -> World -> Prop) (e : Exit) (a : Act) (w : World) : Prop :=
 bodyPostM Fence.wide 0 P fn (IEnd fin J X) e a w
abbrev yV (l : Nat) : PV := .v (.func (.yield l) #[] #[])
def yArgs (E : Env) : Op -> Option (Nat × List PV)
 | .call { callee := .value f, args, argTypes := _ } =>
  match evA E f with
  | .v (.func (.yield l) first caps) => match first.toList, caps.toList with
   | [], [] => some (l, args.toList.map (evA E))
   | _, _ => none
  | _ => none
 | _ => none
def viewY (P : Program) (fn : Func) (c : Cfg) : Option (Nat × List Prop × List PV) :=
 let s := stop P fn.ntmps c
 match s.2.dr, s.2.todo with
 | none, .ops all (o :: _) :: _ =>
  if fitsD fn.ntmps o.dst then
   match guardP all s.2.E o with
   | some true => (yArgs s.2.E o.op).map fun q => (q.1, s.1, q.2)
   | _ => none
  else none
 | _, _ => none
def afterY (P : Program) (fn : Func) (c : Cfg) (b : Bool) : Cfg :=
 let d := (stop P fn.ntmps c).2
 match d.todo with
 | .ops all (o :: l) :: k => ⟨putE d.E o.dst (.v (.bool b)), d.σ, .ops all l :: k, none⟩
 | _ => d
section
variable {P : Program} {fn : Func} {c : Cfg} {L : List Nat} {Q : Exit -> Act -> World -> Prop}
theorem yArgs_run {β : List (Option Nat)} {W : World} {N : Nat} {E : Env} {a : Act} {o : Oper} {l : Nat} {ps : List PV} (hE : Ev β L W N E a) (h : yArgs E o.op = some (l, ps)) :
  ∃ vs : List Value, (∀ r, (Instr.yield l vs.toArray).run P W = .ok r W -> (execOp a.eval o).run P W = .ok r W) /\ Rs β L W ps vs /\ isDefer o.op = false := by
 unfold yArgs at h
 split at h
 ·rename_i f args at_ e
  split at h
  ·rename_i l' first caps hf
   split at h
   ·rename_i h1 h2
    cases h
    have hr := evA_R hE f
    rw [hf, R] at hr
    have e1 : first = #[] := Array.toList_eq_nil_iff.1 h1
    have e2 : caps = #[] := Array.toList_eq_nil_iff.1 h2
    subst e1; subst e2
    refine ⟨args.toList.map a.eval, fun r hrun => ?_, evAs_R hE _, by rw [e]; rfl⟩
    unfold execOp
    rw [e]
    simp only [Sem.run_bind, resolve, hr, Deferred.ofValue, Sem.run_pure, Result.andThen_ok, invoke]
    have : (args.toList.map a.eval).toArray = args.map a.eval := by apply Array.ext'; simp
    rw [this] at hrun
    simpa using hrun
   ·cases h
  ·cases h
 ·cases h
theorem Inv.istep {w0 : W0} {β : List (Option Nat)} {σ : Sig} {N : Nat} {E : Env} {a : Act} {W : World} (h : Inv w0 L β σ N E a W) : IStep (bs w0.own) w0.w (bs β) W :=
 ⟨h.bel.os, h.bel.tape, h.bel.output, h.bel.size, fun k hk hkn => h.bel.block k hk fun hc => hkn (mem_bs.2 hc), h.bel.shape, fun g hg => ⟨(h.new g (mem_bs.1 hg)).imp mem_bs.2 id, h.bx.2.2.1 g (mem_bs.1 hg)⟩⟩
theorem Ok.yield {w0 : W0} {J : Nat -> List Nat -> List Nat -> World -> Prop} {X : List Nat -> List Nat -> World -> Prop} {n l i : Nat} {xs : Nat -> List PV} {ps : List Prop} (hY : Yl P l J X n xs) (hi : i < n) (hJ : Itb (J i) w0)
  (h : viewY P fn c = some (l, ps, xs i)) (hp : All ps) (hnr : noRef.noRefs (xs i) = true)
  (yes : ∀ w1 L1, Itb (J (i + 1)) w1 -> OkF P fn w1 L1 Q (afterY P fn c true))
  (no : ∀ w1 L1, Itb X w1 -> OkF P fn w1 L1 Q (afterY P fn c false)) : OkF P fn w0 L Q c := by
 have key : ∃ all o r k, (stop P fn.ntmps c).2.dr = none /\ (stop P fn.ntmps c).2.todo = .ops all (o :: r) :: k /\ fitsD fn.ntmps o.dst = true /\ guardP all (stop P fn.ntmps c).2.E o = some true /\ yArgs (stop P fn.ntmps c).2.E o.op = some (l, xs i) /\ (stop P fn.ntmps c).1 = ps := by
  unfold viewY at h
  simp only at h
  split at h
  ·rename_i all o r k e1 e3
   split at h
   ·rename_i hd
    split at h
    ·rename_i hg
     cases hq : yArgs (stop P fn.ntmps c).2.E o.op with
     | none => rw [hq] at h; cases h
     | some q =>
      obtain ⟨q1, q2⟩ := q
      rw [hq] at h
      simp only [Option.map_some, Option.some.injEq, Prod.mk.injEq] at h
      obtain ⟨rfl, rfl, rfl⟩ := h
      exact ⟨all, o, r, k, e1, e3, hd, hg, hq, rfl⟩
    ·cases h
   ·cases h
  ·cases h
 obtain ⟨all, o, r, k, hdr, ht, hd, hg, hq, e1⟩ := key
 refine run_ok 3000 c (by rw [show (runC P fn.ntmps 3000 c).1 = ps from e1]; exact hp) ?_
 show OkF P fn _ L Q (stop P fn.ntmps c).2
 unfold afterY at yes no
 generalize (stop P fn.ntmps c).2 = d at hdr ht hg hq yes no
 obtain ⟨E, σ, todo, dr⟩ := d
 simp only at hdr ht hg hq yes no
 subst hdr; subst ht
 simp only at yes no
 intro β a W hI
 obtain ⟨vs, hrun, hR⟩ := yArgs_run (P := P) hI.ev hq
 have hnd := hR.2
 have hR := hR.1
 have hBL : ∀ g ∈ w0.lock, g ∈ L := hI.inc.1
 have hB : ∀ g ∈ w0.lock, g < W.heap.size /\ g ∉ bs β := fun g hg => ⟨hI.oldW g (hBL g hg), fun hc => (hI.old g (hBL g hg)).2 (mem_bs.1 hc)⟩
 have hZ : ∀ g ∈ bs β, g < W.heap.size := fun g hg => hI.bx.2.2.1 g (mem_bs.1 hg)
 have hRB : Rs [] (bs β ++ w0.lock) W (xs i) vs := Rs.move (Nat.le_refl _) _ _ _ _ _ _ (fun _ _ _ => rfl) (fun _ _ h => by simp at h) (fun g hg => .inl (hg.imp id fun h => by
  rcases List.mem_append.1 h with h | h
  ·exact List.mem_append_left _ h
  ·exact List.mem_append_right _ (hBL g h))) (Rs.bare _ _ hnr hR)
 obtain ⟨rfn, rt, ra, rb, hy, hround⟩ := hY.rnd i (bs β) w0.lock W vs hi (hY.jst _ _ _ _ _ _ hJ.hold hI.istep) hB hZ hRB
 have hro : (Fr w0.ro).round = none := hJ.ro
 show wpListIn (Fr w0.ro) 0 P all _ (o :: r) a W
 unfold wpListIn
 rw [if_pos (guard_wanted hI.ev hg)]
 refine ⟨fun _ _ => trivial, ?_⟩
 have e2 : o.semAt (Fr w0.ro).round a.eval = execOp a.eval o := Oper.semAt_eq _ _ _ fun c hc => by rw [hc] at hnd; cases hnd
 rw [e2, hrun _ hy]
 refine ⟨fun h => (by cases h), RoundIn.mono (show RoundIn (Fr w0.ro) 0 P l rfn rt ra rb W _ from hround) fun e W' ⟨b, B', he, hJ', hX', hch⟩ => ?_⟩
 subst he
 show wpListIn (Fr w0.ro) 0 P all _ r (a.put o.dst (.bool b)) W'
 obtain ⟨w1, hw1⟩ : ∃ w1 : W0, (⟨W', β, 0, B', [], none, ghosts, false⟩ : W0) = w1 := ⟨_, rfl⟩
 have hk : ∀ k, ¬ Fb β L k -> k < W.heap.size -> W'.heap[k]? = W.heap[k]? := fun k hk hkl => hch.same k hkl fun hm => hk (.inr (hBL k hm))
 have hsame : ∀ g, some g ∈ β -> W'.heap[g]? = W.heap[g]? := fun g hg => hch.kept g (mem_bs.2 hg)
 have hβ : ∀ (i : Nat) (x : Option Nat), β[i]? = some x -> β[i]? = some x /\ ∀ g, x = some g -> W'.shape? g = W.shape? g := fun i x hx => ⟨hx, fun g e => shape_eq (hsame g (by rw [<- e]; exact List.mem_of_getElem? hx))⟩
 have hF : ∀ g, Fb β B' g -> Fb β L g \/ W.heap.size <= g := fun g hg => by
  rcases hg with hg | hg
  ·exact .inl (.inl hg)
  ·exact (hch.new g hg).imp (fun h => .inr (hBL g h)) id
 have hin : Inv w1 B' β σ fn.ntmps (putE E o.dst (.v (.bool b))) (a.put o.dst (.bool b)) W' := by
  rw [<- hw1]
  refine ⟨Near.refl _ _ _ _ _ _ _ _, fun g hg => .inl hg, fun g hg => ⟨hch.lt g hg, fun hc => ?_⟩, ⟨fun _ h => h, fun g hg => .inl hg⟩, ⟨rfl, Nat.zero_le _⟩, ⟨hI.bx.1, hI.bx.2.1, fun g hg => Nat.lt_of_lt_of_le (hI.bx.2.2.1 g hg) hch.size, fun i cs hi => ?_⟩, ?_, ?_, fun q hq => ⟨refOk_bare (ghosts_bare q hq), R.move hch.size _ _ _ _ _ _ hk hβ hF (hI.gho q (hI.glo q hq)).2⟩, fun g hg => .inl hg, fun q hq => hq⟩
  ·rcases hch.new g hg with h | h
   ·exact (hB g h).2 (mem_bs.2 hc)
   ·have := hI.bx.2.2.1 g hc; omega
  ·obtain ⟨x, hg, hh⟩ := hI.bx.2.2.2 i cs hi
   exact ⟨x, hg, hh.move hch.size (fun g e => hsame g (by rw [<- e]; exact List.mem_of_getElem? hg)) hk hβ hF⟩
  ·have hev : Ev β B' W' fn.ntmps E a := ⟨hI.ev.1, fun t => R.move hch.size _ _ _ _ _ _ hk hβ hF (hI.ev.2 t)⟩
   exact hev.put (by rw [R]) hd
  ·obtain ⟨Ds, h1, h2, _⟩ := hI.nod
   have : Ds = [] := h2 hJ.mrk
   subst this
   rw [hJ.dfs] at h1
   exact Nod.nil (by cases hdd : o.dst <;> simpa [Act.put] using h1)
 have hro1 : w1.ro = w0.ro := by rw [<- hw1, hJ.ro]
 rw [<- hro1]
 cases b with
 | true => exact yes w1 B' (by rw [<- hw1]; exact ⟨rfl, rfl, rfl, rfl, hJ' rfl⟩) β _ W' hin
 | false => exact no w1 B' (by rw [<- hw1]; exact ⟨rfl, rfl, rfl, rfl, hX' rfl⟩) β _ W' hin
theorem Ok.retI {w0 : W0} {fin : Option PV} {J X : List Nat -> List Nat -> World -> Prop} {ps : List Prop} {r : PV} (hst : ∀ Z B W Z' W', J Z B W -> IStep Z W Z' W' -> J Z' B W') (xst : ∀ Z B W Z' W', X Z B W -> IStep Z W Z' W' -> X Z' B W')
  (hJ : (fin = none /\ Itb J w0) \/ Itb X w0) (h : viewOf P fn c = .ret ps r) (hp : All ps) : OkF P fn w0 L (Qi P fn fin J X) c := by
 obtain ⟨e1, hdr, hr, ht⟩ := view_ret h
 rw [<- e1, All_app] at hp
 refine run_ok 3000 c hp.1 ?_
 have hcc := hp.2
 show OkF P fn _ L _ (stop P fn.ntmps c).2
 unfold OkF Ok
 rw [hdr]
 intro β a W hI
 have hd : w0.dfs = [] := hJ.elim (fun h => h.2.dfs) (fun h => h.dfs)
 have fin' : Qi P fn fin J X .ret a W := leave_ok hd hI fun a' W' e1 hI' => by
  obtain ⟨v, hv, hR⟩ := ret_run (P := P) (fn := fn) hI' hr hcc
  rw [e1] at hv
  refine ⟨v, hv, bs β, w0.lock, ?_⟩
  rcases hJ with ⟨rfl, h⟩ | h
  ·exact ⟨⟨v, rfl⟩, .inl (hst _ _ _ _ _ h.hold hI'.istep)⟩
  ·cases fin with
   | none => exact ⟨⟨v, rfl⟩, .inr (xst _ _ _ _ _ h.hold hI'.istep)⟩
   | some x => exact .inr ⟨⟨v, rfl⟩, xst _ _ _ _ _ h.hold hI'.istep⟩
 rcases ht with ht | ⟨k, ht⟩
 ·rw [ht]; exact fin'
 ·rw [ht]; exact wpIn_ret (wpK_ret fin')
theorem M.yield {w0 : W0} {J : Nat -> List Nat -> List Nat -> World -> Prop} {X : List Nat -> List Nat -> World -> Prop} {n l i : Nat} {xs : Nat -> List PV} (ps : List Prop) (hY : Yl P l J X n xs) (hi : i < n) (hJ : Itb (J i) w0)
  (h : viewY P fn c = some (l, ps, xs i)) (hp : All ps) (hnr : noRef.noRefs (xs i) = true)
  (yes : ∀ w1 L1, Itb (J (i + 1)) w1 -> M P fn w1 L1 Q (afterY P fn c true))
  (no : ∀ w1 L1, Itb X w1 -> M P fn w1 L1 Q (afterY P fn c false)) : M P fn w0 L Q c :=
 ⟨Ok.yield hY hi hJ h hp hnr (fun w1 L1 hJ' => (yes w1 L1 hJ').out) (fun w1 L1 hJ' => (no w1 L1 hJ').out)⟩
theorem M.retJ {w0 : W0} {J : Nat -> List Nat -> List Nat -> World -> Prop} {X : List Nat -> List Nat -> World -> Prop} {n l : Nat} {xs : Nat -> List PV} (ps : List Prop) {r : PV} (hY : Yl P l J X n xs) (hJ : Itb (J n) w0) (h : viewOf P fn c = .ret ps r) (hp : All ps) : M P fn w0 L (Qi P fn none (J n) X) c :=
 ⟨Ok.retI (fun Z B W Z' W' => hY.jst n Z B W Z' W') hY.xst (.inl ⟨rfl, hJ⟩) h hp⟩
theorem M.retX {w0 : W0} {fin : Option PV} {J : Nat -> List Nat -> List Nat -> World -> Prop} {X : List Nat -> List Nat -> World -> Prop} {n l : Nat} {xs : Nat -> List PV} (ps : List Prop) {r : PV} (hY : Yl P l J X n xs) (hJ : Itb X w0) (h : viewOf P fn c = .ret ps r) (hp : All ps) : M P fn w0 L (Qi P fn fin (J n) X) c :=
 ⟨Ok.retI (fun Z B W Z' W' => hY.jst n Z B W Z' W') hY.xst (.inr hJ) h hp⟩
theorem Iter.start {gf : FuncId} {caps : List PV} {n : Nat} {xs : Nat -> List PV} {fin : Option PV} {cd : Code} (he : entersP P gf = true) (hf : P.funcs[gf]? = some fn) (hb : fn.body = some cd) (hn : Nat.ble (caps.length + 1) fn.ntmps = true)
  (k : ∀ l J X w0 L, Yl P l J X n xs -> Itb (J 0) w0 -> M P fn w0 L (Qi P fn fin (J n) X) (startC (yV l :: caps) cd)) : Iter P gf caps n xs fin := by
 refine ⟨he, fun l J X hY B W vs hJ hB hG hR => ?_⟩
 refine callsIn_wide.1 (callsIn_of_wp_marks (n := 0) hf hb trivial ?_ rfl)
 have hR' : Rs [] B W (yV l :: caps) (.func (.yield l) #[] #[] :: vs) := Rs.cons (by rw [R]) hR
 have h := (k l J X ⟨W, [], 0, B, [], none, ghosts, false⟩ B hY ⟨rfl, rfl, rfl, rfl, hJ⟩).out [] (startA fn (.func (.yield l) #[] #[] :: vs).toArray) W ⟨Near.refl _ _ _ _ _ _ _ _, fun g hg => by simp at hg, fun g hg => ⟨hB g hg, by simp⟩, ⟨fun _ h => h, fun g hg => by simp at hg⟩, ⟨rfl, Nat.zero_le _⟩, ⟨rfl, fun i j g c d hi => by simp at hi, fun g hg => by simp at hg, fun i cs hi => by simp [startC] at hi⟩, args_Ev (Nat.le_of_ble_eq_true hn) hR', Nod.nil rfl, Gl.gho hG, fun g hg => .inl hg, fun q hq => hq⟩
 exact wpIn_mono h fun e a w hq => by unfold wpK at hq; exact hq
end
end Go.Proofs.YtplpnfjccemdnaaGreatDoor
