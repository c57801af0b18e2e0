import Derived.Test.YtplpnfjccemdnaaGreatDoorJ5
import Derived.WalkKit
import Derived.TacticsIn
import Derived.OrdersIn
import Derived.RangeFuncCalls
import Derived.RangeFuncIn
import Derived.RangeFuncLeaves
import Derived.RangeFuncBox
set_option linter.unusedVariables false
set_option linter.unusedSimpArgs false
/- The texts V8 V8a V0 V12 of the proof, laid one behind the other. -/
namespace Go.Proofs.YtplpnfjccemdnaaGreatDoor
open Go.RowKit
def All : List Prop -> Prop
 | [] => True
 | p :: ps => p /\ All ps
theorem All_app : ∀ {l m : List Prop}, All (l ++ m) ↔ All l /\ All m
 | [], m => by simp [All]
 | p :: l, m => by simp only [List.cons_append, All, All_app, and_assoc]
def joinC (f : PV -> List Prop) : List PV -> List Prop
 | [] => []
 | p :: ps => f p ++ joinC f ps
theorem joinC_mem {f : PV -> List Prop} : ∀ {ps : List PV}, All (joinC f ps) -> ∀ p ∈ ps, All (f p)
 | [], _, p, hp => by simp at hp
 | q :: ps, h, p, hp => by
  unfold joinC at h
  obtain ⟨h1, h2⟩ := All_app.1 h
  rcases List.mem_cons.1 hp with rfl | hp
  ·exact h1
  ·exact joinC_mem h2 p hp
def unr (p : PV) : PV := if noRef p then p else .any
section
variable {β : List (Option Nat)} {L : List Nat} {W : World} {σ : Sig}
theorem R.unown {p : PV} {u : Value} (hn : noRef p = true) (h : R β L W p u) : R [] L W p u :=
 R.move (Nat.le_refl _) p u [] (bs β ++ L) [] L (fun _ _ _ => rfl) (fun _ _ h => by simp at h) (fun g hg => .inl (fb_app.2 (.inr (by rcases hg with h | h; simp at h; exact h)))) (R.bare p u hn h)
def fz : Nat -> Sig -> PV -> PV
 | 0, _, _ => .any
 | n + 1, σ, .ref i off =>
  match σ[i]? with
  | some cs => if isCells cs then .ptr ((cs.map (fz n σ)).drop off) else .any
  | none => .any
 | n + 1, σ, .os _ i k m =>
  match σ[i]? with
  | some [.rws k' m' el] => if k' = k then .sl k m (fun j => (el j).map unr) else .any
  | some [.rwf k' m' el jf cs] => if k' = k then .sl k m (fun j => if j = jf then cs.map (fz n σ) else (el j).map unr) else .any
  | _ => .any
 | _ + 1, _, .rr _ _ _ _ => .any
 | _ + 1, _, .bm _ _ => .any
 | _ + 1, σ, .mr i =>
  match σ[i]? with
  | some [.mp ks mf] => .fm ks mf
  | _ => .any
 | _ + 1, _, .mp _ _ => .any
 | _ + 1, _, .rws _ _ _ => .any
 | _ + 1, _, .dd => .any
 | _ + 1, _, .mps _ _ => .any
 | _ + 1, _, .rwf _ _ _ _ _ => .any
 | n + 1, σ, .agg cs => .agg (cs.map (fz n σ))
 | n + 1, σ, .tup cs => .tup (cs.map (fz n σ))
 | n + 1, σ, .fn g cs => .fn g (cs.map (fz n σ))
 | _ + 1, _, p => p
def fzC : Nat -> Sig -> PV -> List Prop
 | 0, _, _ => []
 | n + 1, σ, .ref i _ =>
  match σ[i]? with
  | some cs => if isCells cs then joinC (fzC n σ) cs else []
  | none => []
 | n + 1, σ, .os _ i _ m =>
  match σ[i]? with
  | some [.rws _ m' _] => [m <= m']
  | some [.rwf _ m' _ _ cs] => (m <= m') :: joinC (fzC n σ) cs
  | _ => []
 | n + 1, σ, .agg cs => joinC (fzC n σ) cs
 | n + 1, σ, .tup cs => joinC (fzC n σ) cs
 | n + 1, σ, .fn _ cs => joinC (fzC n σ) cs
 | _ + 1, _, _ => []
theorem Rs.mapM {f : PV -> PV} {β' : List (Option Nat)} {L' : List Nat} {W' : World} : ∀ {ps : List PV} {us : List Value}, (∀ p ∈ ps, ∀ u, R β L W p u -> R β' L' W' (f p) u) -> Rs β L W ps us -> Rs β' L' W' (ps.map f) us
 | [], us, _, h => by rw [Rs] at h; subst h; exact Rs.nil
 | p :: ps, us, hf, h => by
  obtain ⟨u, us', rfl, h1, h2⟩ := h.uncons
  exact Rs.cons (hf p (List.mem_cons_self ..) u h1) (Rs.mapM (fun q hq => hf q (List.mem_cons_of_mem _ hq)) h2)
theorem unr_R {p : PV} {u : Value} (h : R β L W p u) : R [] L W (unr p) u := by
 unfold unr
 split
 ·rename_i hn; exact R.unown hn h
 ·rw [R]; trivial
theorem Rs.map {f : PV -> PV} {β' : List (Option Nat)} {L' : List Nat} {W' : World} (hf : ∀ p u, R β L W p u -> R β' L' W' (f p) u) : ∀ {ps : List PV} {us : List Value}, Rs β L W ps us -> Rs β' L' W' (ps.map f) us
 | [], us, h => by rw [Rs] at h; subst h; exact Rs.nil
 | p :: ps, us, h => by
  obtain ⟨u, us', rfl, h1, h2⟩ := h.uncons
  exact Rs.cons (hf p u h1) (Rs.map hf h2)
theorem fz_R (hB : Bx β L W σ) (hd : ∀ g, some g ∈ β -> g ∉ L) : ∀ (n : Nat) (p : PV) (u : Value), All (fzC n σ p) -> R β L W p u -> R [] L W (fz n σ p) u
 | 0, p, u, _, _ => by rw [fz, R]; trivial
 | n + 1, p, u, hcc, h => by
  cases p with
  | ref i off =>
   rw [fz]
   split
   ·rename_i cs hs
    split
    case isFalse => rw [R]; trivial
    rename_i hic
    have hcc' : All (joinC (fzC n σ) cs) := by simpa only [fzC, hs, hic, if_true] using hcc
    rw [R] at h
    obtain ⟨g, hg, e⟩ := h
    obtain ⟨g', t, us, hg', hh, h1, h2⟩ := hB.cells hs hic
    have : g' = g := by rw [hg] at hg'; exact (Option.some.inj (Option.some.inj hg')).symm
    subst this
    have hm : some g' ∈ β := List.mem_of_getElem? hg
    rw [R]
    refine ⟨g', off, us.drop off, e, ?_, hB.2.2.1 g' hm, fun x hx => h1 x (List.mem_of_mem_drop hx), (Rs.mapM (fun p hp u => fz_R hB hd n p u (joinC_mem hcc' p hp)) h2).drop off, fun j x hx => ?_⟩
    ·rintro (h | h)
     ·simp at h
     ·exact hd g' hm h
    ·rw [List.getElem?_drop] at hx
     simp only [World.cell?, hh]
     simpa using hx
   ·rw [R]; trivial
  | agg cs =>
   rw [fz]
   rw [R] at h ⊢
   obtain ⟨us, e, h1, h2⟩ := h
   exact ⟨us, e, h1, Rs.mapM (fun p hp u => fz_R hB hd n p u (joinC_mem (by simpa only [fzC] using hcc) p hp)) h2⟩
  | tup cs =>
   rw [fz]
   rw [R] at h ⊢
   obtain ⟨us, e, h2⟩ := h
   exact ⟨us, e, Rs.mapM (fun p hp u => fz_R hB hd n p u (joinC_mem (by simpa only [fzC] using hcc) p hp)) h2⟩
  | fn g cs =>
   rw [fz]
   rw [R] at h ⊢
   obtain ⟨us, e, h2⟩ := h
   exact ⟨us, e, Rs.mapM (fun p hp u => fz_R hB hd n p u (joinC_mem (by simpa only [fzC] using hcc) p hp)) h2⟩
  | os ty i k m =>
   rw [fz]
   split
   ·rename_i k' m' el hs
    split
    case isFalse => rw [R]; trivial
    rename_i hc
    subst hc
    have hm : m <= m' := by simp only [fzC, hs, All] at hcc; exact hcc.1
    rw [R] at h
    rcases h with ⟨g, c, hg, e, q1, q2, q3⟩ | ⟨_, hm0, a0, e⟩
    case inr => subst hm0; rw [R]; exact ⟨a0, 0, e, Nat.le_refl _, by omega, fun h => absurd h (Nat.lt_irrefl _)⟩
    have hh := hB.hold hs hg
    have hmem : some g ∈ β := List.mem_of_getElem? hg
    cases hh with
    | cells _ t us hh h1 h2 => obtain ⟨u, us', rfl, hu, _⟩ := h2.uncons; rw [R] at hu; exact hu.elim
    | rws _ _ _ t us hh h1 hl h2 =>
     rw [R]
     refine ⟨_, c, e, q1, q2, fun _ => ⟨g, 0, rfl, ?_, hB.2.2.1 g hmem, fun j hj => ⟨(us.drop (j * k')).take k', ?_, fun x hx => h1 x (List.mem_of_mem_drop (List.mem_of_mem_take hx)), ?_, fun i x hx => ?_⟩⟩⟩
     ·rintro (h | h)
      ·simp at h
      ·exact hd g hmem h
     ·rw [List.length_take, List.length_drop]
      have : j * k' + k' <= m' * k' := by rw [<- Nat.succ_mul]; exact Nat.mul_le_mul_right k' (Nat.lt_of_lt_of_le hj hm)
      omega
     ·exact Rs.map (fun p u => unr_R) (h2 j (Nat.lt_of_lt_of_le hj hm))
     ·rw [List.getElem?_take] at hx
      split at hx
      ·rw [List.getElem?_drop] at hx
       simp only [World.cell?, hh]
       simpa using hx
      ·cases hx
   ·rename_i k' m' el jf cs hs
    split
    case isFalse => rw [R]; trivial
    rename_i hc
    subst hc
    have hm : m <= m' := by simp only [fzC, hs, All] at hcc; exact hcc.1
    have hcc' : All (joinC (fzC n σ) cs) := by simp only [fzC, hs, All] at hcc; exact hcc.2
    rw [R] at h
    rcases h with ⟨g, c, hg, e, q1, q2, q3⟩ | ⟨_, hm0, a0, e⟩
    case inr => subst hm0; rw [R]; exact ⟨a0, 0, e, Nat.le_refl _, by omega, fun h => absurd h (Nat.lt_irrefl _)⟩
    have hh := hB.hold hs hg
    have hmem : some g ∈ β := List.mem_of_getElem? hg
    cases hh with
    | cells _ t us hh h1 h2 => obtain ⟨u, us', rfl, hu, _⟩ := h2.uncons; rw [R] at hu; exact hu.elim
    | rwf _ _ _ _ _ t us hh h1 hl h2 =>
     rw [R]
     refine ⟨_, c, e, q1, q2, fun _ => ⟨g, 0, rfl, ?_, hB.2.2.1 g hmem, fun j hj => ⟨(us.drop (j * k')).take k', ?_, fun x hx => h1 x (List.mem_of_mem_drop (List.mem_of_mem_take hx)), ?_, fun i x hx => ?_⟩⟩⟩
     ·rintro (h | h)
      ·simp at h
      ·exact hd g hmem h
     ·rw [List.length_take, List.length_drop]
      have : j * k' + k' <= m' * k' := by rw [<- Nat.succ_mul]; exact Nat.mul_le_mul_right k' (Nat.lt_of_lt_of_le hj hm)
      omega
     ·have hw := h2 j (Nat.lt_of_lt_of_le hj hm)
      by_cases ej : j = jf
      ·rw [if_pos ej] at hw ⊢
       exact Rs.mapM (fun p hp u => fz_R hB hd n p u (joinC_mem hcc' p hp)) hw
      ·rw [if_neg ej] at hw ⊢
       exact Rs.map (fun p u => unr_R) hw
     ·rw [List.getElem?_take] at hx
      split at hx
      ·rw [List.getElem?_drop] at hx
       simp only [World.cell?, hh]
       simpa using hx
      ·cases hx
   ·rw [R]; trivial
  | rr i k j c => rw [fz, R]; trivial
  | bm q i => rw [fz, R]; trivial
  | mr i =>
   rw [fz]
   split
   ·rename_i ks mf hs
    rw [R] at h
    obtain ⟨g, hg, rfl⟩ := h
    obtain ⟨es, clock, hheap, hm⟩ := mp_out (hB.hold hs hg)
    have hmem : some g ∈ β := List.mem_of_getElem? hg
    rw [R]
    refine ⟨g, es, clock, rfl, ?_, hB.2.2.1 g hmem, hheap, hm⟩
    rintro (h | h)
    ·simp at h
    ·exact hd g hmem h
   ·rw [R]; trivial
  | fm ks mf => rw [fz]; exact R.unown rfl h; all_goals simp
  | mp _ _ => rw [fz, R]; trivial
  | rws _ _ _ => rw [fz, R]; trivial
  | dd => rw [fz, R]; trivial
  | mps _ _ => rw [fz, R]; trivial
  | rwf _ _ _ _ _ => rw [fz, R]; trivial
  | any => rw [fz]; exact R.unown rfl h; all_goals simp
  | v x => rw [fz]; exact R.unown rfl h; all_goals simp
  | sb x => rw [fz]; exact R.unown rfl h; all_goals simp
  | sl k m el => rw [fz]; exact R.unown rfl h; all_goals simp
  | ptr cs => rw [fz]; exact R.unown rfl h; all_goals simp
  | abs S => rw [fz]; exact R.unown rfl h; all_goals simp
  | o q => rw [fz]; exact R.unown rfl h; all_goals simp
end
def entersP (P : Program) (g : FuncId) : Bool :=
 match P.funcs[g]? with
 | some fn => fn.body.isSome && (fn.name != "runtime.NumGoroutine")
 | none => false
theorem enters_run {P : Program} {g : FuncId} (h : entersP P g = true) (args : Array Value) (W : World) : (callFunc g args).run P W = .ok (.enter g args) W := by
 unfold entersP at h
 split at h
 ·rename_i fn hf
  simp only [Bool.and_eq_true, bne_iff_ne, ne_eq] at h
  obtain ⟨c, hc⟩ := Option.isSome_iff_exists.1 h.1
  have h1 : fn.name ≠ "runtime.NumGoroutine" := h.2
  simp [callFunc, hf, h1, hc, mark, Sem.run_bind, program, Sem.run, Sem.run_pure]
 ·cases h
def Spec (P : Program) (f : FuncId) (args : List PV) (r : PV) : Prop :=
 entersP P f = true /\ ∀ (L : List Nat) (W : World) (vs : List Value), (∀ g ∈ L, g < W.heap.size) -> Gl L W -> Rs [] L W args vs ->
  Calls P f vs.toArray W fun e W' => ∃ u, e = .returned u /\ R [] L W' r u /\ Below W.heap.size W W'
theorem Spec.conv {P : Program} {f : FuncId} {args args' : List PV} {r r' : PV} (h : Spec P f args r) (hc : ∀ L W vs, Rs [] L W args' vs -> Rs [] L W args vs) (hr : ∀ L W u, R [] L W r u -> R [] L W r' u) : Spec P f args' r' :=
 ⟨h.1, fun L W vs hL hG hR => (h.2 L W vs hL hG (hc L W vs hR)).mono fun e W' ⟨u, he, hu, hb⟩ => ⟨u, he, hr L W' u hu, hb⟩⟩
def opC (P : Program) (E : Env) : Op -> Option (FuncId × List PV)
 | .call { callee := .value f, args, argTypes := _ } =>
  match evA E f with
  | .fn g caps => some (g, args.toList.map (evA E) ++ caps)
  | .bm g i => some (g, .ref i 0 :: args.toList.map (evA E))
  | _ => none
 | _ => none
section
variable {w0 : W0} {W : World} {L : List Nat} {β : List (Option Nat)} {σ : Sig} {N : Nat} {E : Env} {a : Act} {P : Program}
theorem opC_run {o : Oper} {g : FuncId} {ps : List PV} (hen : entersP P g = true) (hE : Ev β L W N E a) (h : opC P E o.op = some (g, ps)) :
  ∃ vs : List Value, (execOp a.eval o).run P W = .ok (.enter g vs.toArray) W /\ Rs β L W ps vs := by
 unfold opC at h
 split at h
 ·rename_i f args at_ e
  split at h
  ·rename_i g' caps hf
   ·cases h
    have hr := evA_R hE f
    rw [hf, R] at hr
    obtain ⟨us, e1, h2⟩ := hr
    refine ⟨args.toList.map a.eval ++ us, ?_, (evAs_R hE _).append h2⟩
    unfold execOp
    rw [e]
    simp only [Sem.run_bind, resolve, e1, Deferred.ofValue, Sem.run_pure, Result.andThen_ok, invoke]
    rw [enters_run hen]
    congr 2
    apply Array.ext'
    simp
  ·rename_i g' i hf
   ·cases h
    have hr := evA_R hE f
    rw [hf, R] at hr
    obtain ⟨b, hb, e1⟩ := hr
    refine ⟨.pointer (some ⟨b, 0, none⟩) :: args.toList.map a.eval, ?_, Rs.cons (by rw [R]; exact ⟨b, hb, rfl⟩) (evAs_R hE _)⟩
    unfold execOp
    rw [e]
    simp only [Sem.run_bind, resolve, e1, Deferred.ofValue, Sem.run_pure, Result.andThen_ok, invoke]
    rw [enters_run hen]
    congr 2
    apply Array.ext'
    simp
  ·cases h
 ·cases h
theorem callOp {o : Oper} {g : FuncId} {ps qs : List PV} {r : PV} (hI : Inv w0 L β σ N E a W) (hd : fitsD N o.dst = true) (h : opC P E o.op = some (g, ps))
  (hp : (noRef.noRefs ps = true /\ qs = ps) \/ (qs = ps.map (fz 8 σ) /\ flatP r = true /\ All (joinC (fzC 8 σ) ps))) (hs : Spec P g qs r) (K : Act -> World -> Prop) (Q : Exit -> Act -> World -> Prop)
  (hK : ∀ u W', Inv w0 L β σ N (putE E o.dst r) (a.put o.dst u) W' -> K (a.put o.dst u) W') : Oper.wp P o a W K Q := by
 obtain ⟨vs, hrun, hR⟩ := opC_run (P := P) hs.1 hI.ev h
 unfold Oper.wp
 rw [hrun]
 show Calls P g vs.toArray W _
 have fin : ∀ (u : Value) (W' : World), R β L W' r u -> Below W.heap.size W W' -> K (a.put o.dst u) W' := fun u W' hr hb => by
  have hi := hI.below hb
  exact hK u W' { hi with ev := hi.ev.put hr hd, nod := hi.nod.put _ _ }
 rcases hp with ⟨hn, rfl⟩ | ⟨rfl, hfl, hcc⟩
 ·refine (hs.2 (bs β ++ L) W vs (fun g hg => ?_) hI.gl (Rs.bare _ _ hn hR)).mono fun e W' ⟨u, he, hr, hb⟩ => by subst he; exact fin u W' hr.own hb
  rcases List.mem_append.1 hg with hg | hg
  ·exact hI.bx.2.2.1 g (mem_bs.1 hg)
  ·exact hI.oldW g hg
 ·refine (hs.2 L W vs hI.oldW (hI.gl.sub fun g hg => List.mem_append_right _ hg) (Rs.mapM (fun p hp u => fz_R hI.bx hI.dis 8 p u (joinC_mem hcc p hp)) hR)).mono fun e W' ⟨u, he, hr, hb⟩ => by subst he; exact fin u W' (R.flat _ _ hfl hr) hb
end
def guardP (all : Array Oper) (E : Env) (o : Oper) : Option Bool :=
 match o.guard with
 | none => some true
 | some (j, want) =>
  match (all[j]?).bind (·.dst) with
  | some t =>
   match lk E t with
   | .v (.bool b) => some (b == want)
   | .v (.tuple _) => some false
   | _ => none
  | none => none
def keepE (ks : List Nat) (E : Env) : Env := ks.map fun t => (t, lk E t)
section
variable {w0 : W0} {W : World} {L : List Nat} {β : List (Option Nat)} {σ : Sig} {N : Nat} {E : Env} {a : Act} {P : Program} {Q : Exit -> Act -> World -> Prop}
theorem guard_wanted {all : Array Oper} {o : Oper} {b : Bool} (hE : Ev β L W N E a) (h : guardP all E o = some b) : Region.wanted o (yielded all a.tmps) = b := by
 unfold guardP at h
 unfold Region.wanted
 split at h
 ·rename_i hg; rw [hg]; cases h; rfl
 ·rename_i j want hg
  rw [hg]
  split at h
  ·rename_i t ht
   have hr := hE.2 t
   split at h
   ·rename_i b' hb
    cases h
    rw [hb, R] at hr
    have : a.tmps[t]? = some (.bool b') := by
     rw [Array.getD_eq_getD_getElem?] at hr
     cases hq : a.tmps[t]? with
     | none => rw [hq] at hr; cases hr
     | some q => rw [hq] at hr; simp at hr; rw [hr]
    simp only [yielded, ht, Option.bind_some, this]
    cases b' <;> cases want <;> rfl
   ·rename_i us hb
    cases h
    rw [hb, R] at hr
    have : (yielded all a.tmps j) = none := by
     simp only [yielded, ht, Option.bind_some]
     rw [Array.getD_eq_getD_getElem?] at hr
     cases hq : a.tmps[t]? with
     | none => rfl
     | some q => rw [hq] at hr; simp at hr; rw [hr]
    simp [this]
   ·cases h
  ·cases h
end
def Fr (ro : Option Nat) : Fence := { fn := fun _ => True, depth := none, alive := false, round := ro }
theorem callsFr {ro : Option Nat} {n : Nat} {P : Program} {f : FuncId} {args : Array Value} {w : World} {R : Ending -> World -> Prop} (h : Calls P f args w R) : CallsIn (Fr ro) n P f args w R :=
 (callsIn_wide (n := n)).2 h
theorem rowsFr {ro : Option Nat} {n : Nat} {P : Program} {row : String} {args : Array Value} {w : World} {R : Value -> World -> Prop} (h : Rows P row args w R) : RowsIn (Fr ro) n P row args w R :=
 fun c cs _ => let ⟨v, w', r, s⟩ := h c cs; ⟨v, w', r, (stepsIn_wide (P := P)).2 s⟩
def isDefer : Op -> Bool
 | .defer _ => true
 | _ => false
theorem op_in {ro : Option Nat} {n : Nat} {P : Program} {o : Oper} {a : Act} {w : World} {K : Act -> World -> Prop} {Q : Exit -> Act -> World -> Prop} (hd : isDefer o.op = false) (h : Oper.wp P o a w K Q) : o.wpIn (Fr ro) n P a w K Q := by
 refine ⟨fun _ _ => trivial, ?_⟩
 have e : o.semAt (Fr ro).round a.eval = execOp a.eval o := Oper.semAt_eq _ _ _ fun c hc => by rw [hc] at hd; cases hd
 rw [e]
 unfold Oper.wp at h
 generalize (execOp a.eval o).run P w = r at h
 have hn : ∀ {p : Prop}, p -> ((Fr ro).depth.isSome = true -> 1 <= n) /\ p := fun hp => ⟨fun h => (by cases h), hp⟩
 cases r with
 | ok x w' => cases x <;> simp only [Oper.upon] at h <;> first | exact h | exact hn (callsFr h) | exact hn (rowsFr h) | exact h.elim
 | halt x w' => cases x <;> simp only [Oper.upon] at h <;> first | exact h | exact h.elim
def renP (f : Nat -> Option Nat) : Nat -> PV -> PV
 | 0, _ => .any
 | _ + 1, .ref i off => match f i with | some j => .ref j off | none => .any
 | _ + 1, .os e i k m => match f i with | some j => .os e j k m | none => .any
 | _ + 1, .rr i k j c => match f i with | some x => .rr x k j c | none => .any
 | _ + 1, .mr i => match f i with | some j => .mr j | none => .any
 | _ + 1, .bm q i => match f i with | some j => .bm q j | none => .any
 | n + 1, .agg cs => .agg (cs.map (renP f n))
 | n + 1, .tup cs => .tup (cs.map (renP f n))
 | n + 1, .fn g cs => .fn g (cs.map (renP f n))
 | n + 1, .rws k m el => .rws k m fun j => (el j).map (renP f n)
 | n + 1, .mps ks g => .mps ks fun a => (g a).map (renP f n)
 | n + 1, .rwf k m el jf cs => .rwf k m (fun j => (el j).map (renP f n)) jf (cs.map (renP f n))
 | _ + 1, p => p
def invF : List Nat -> Nat -> Nat -> Option Nat
 | [], _, _ => none
 | x :: l, k, i => if x = i then some k else invF l (k + 1) i
theorem invF_at : ∀ {l : List Nat} {k i j : Nat}, invF l k i = some j -> k <= j /\ l[j - k]? = some i
 | [], _, _, _, h => by cases h
 | x :: l, k, i, j, h => by
  unfold invF at h
  split at h
  ·rename_i e; cases h; subst e; simp
  ·obtain ⟨h1, h2⟩ := invF_at h
   refine ⟨by omega, ?_⟩
   rw [show j - k = (j - (k + 1)) + 1 by omega]
   simpa using h2
section
variable {β β' : List (Option Nat)} {L L' : List Nat} {W : World} {f : Nat -> Option Nat}
theorem R.unref {p : PV} {u : Value} (hn : noRef p = true) (hF : ∀ g, Fb β' L' g -> Fb β L g) (h : R β L W p u) : R β' L' W p u :=
 R.move (Nat.le_refl _) p u [] (bs β ++ L) β' L' (fun _ _ _ => rfl) (fun _ _ h => by simp at h) (fun g hg => .inl (fb_app.2 (hF g hg))) (R.bare p u hn h)
theorem ren_R (hf : ∀ (i j : Nat) (x : Option Nat), f i = some j -> β[i]? = some x -> β'[j]? = some x) (hF : ∀ g, Fb β' L' g -> Fb β L g) : ∀ (n : Nat) (p : PV) (u : Value), R β L W p u -> R β' L' W (renP f n p) u
 | 0, p, u, _ => by rw [renP, R]; trivial
 | n + 1, p, u, h => by
  cases p with
  | ref i off =>
   rw [renP]; split
   ·rename_i j hj; rw [R] at h ⊢; obtain ⟨g, hg, e⟩ := h; exact ⟨g, hf i j _ hj hg, e⟩
   ·rw [R]; trivial
  | os ty i k m =>
   rw [renP]; split
   ·rename_i j hj; rw [R] at h ⊢; rcases h with ⟨g, c, hg, e⟩ | ⟨hg, e⟩; exact .inl ⟨g, c, hf i j _ hj hg, e⟩; exact .inr ⟨hf i j _ hj hg, e⟩
   ·rw [R]; trivial
  | rr i k j c =>
   rw [renP]; split
   ·rename_i j hj; rw [R] at h ⊢; obtain ⟨g, hg, e⟩ := h; exact ⟨g, hf i j _ hj hg, e⟩
   ·rw [R]; trivial
  | mr i =>
   rw [renP]; split
   ·rename_i j hj; rw [R] at h ⊢; obtain ⟨g, hg, e⟩ := h; exact ⟨g, hf i j _ hj hg, e⟩
   ·rw [R]; trivial
  | bm q i =>
   rw [renP]; split
   ·rename_i j hj; rw [R] at h ⊢; obtain ⟨g, hg, e⟩ := h; exact ⟨g, hf i j _ hj hg, e⟩
   ·rw [R]; trivial
  | agg cs =>
   rw [renP]
   rw [R] at h ⊢
   obtain ⟨us, e, h1, h2⟩ := h
   exact ⟨us, e, h1, Rs.map (fun p u => ren_R hf hF n p u) h2⟩
  | tup cs =>
   rw [renP]
   rw [R] at h ⊢
   obtain ⟨us, e, h2⟩ := h
   exact ⟨us, e, Rs.map (fun p u => ren_R hf hF n p u) h2⟩
  | fn g cs =>
   rw [renP]
   rw [R] at h ⊢
   obtain ⟨us, e, h2⟩ := h
   exact ⟨us, e, Rs.map (fun p u => ren_R hf hF n p u) h2⟩
  | rws k m el => rw [R] at h; exact h.elim
  | mps _ _ => rw [R] at h; exact h.elim
  | rwf _ _ _ _ _ => rw [R] at h; exact h.elim
  | mp _ _ => rw [R] at h; exact h.elim
  | dd => rw [R] at h; exact h.elim
  | any => rw [renP]; exact h.unref rfl hF; all_goals simp
  | v x => rw [renP]; exact h.unref rfl hF; all_goals simp
  | sb x => rw [renP]; exact h.unref rfl hF; all_goals simp
  | sl k m el => rw [renP]; exact h.unref rfl hF; all_goals simp
  | ptr cs => rw [renP]; exact h.unref rfl hF; all_goals simp
  | abs S => rw [renP]; exact h.unref rfl hF; all_goals simp
  | o q => rw [renP]; exact h.unref rfl hF; all_goals simp
  | fm ks mf => rw [renP]; exact h.unref rfl hF; all_goals simp
abbrev ren8 (f : Nat -> Option Nat) (cs : List PV) : List PV := cs.map (renP f 8)
theorem ren_H (hf : ∀ (i j : Nat) (x : Option Nat), f i = some j -> β[i]? = some x -> β'[j]? = some x) (hF : ∀ g, Fb β' L' g -> Fb β L g) {g : Nat} {cs : List PV} (h : Hold β L W g cs) : Hold β' L' W g (ren8 f cs) := by
 cases h with
 | cells _ t us hh h1 h2 => exact .cells _ t us hh h1 (Rs.map (fun p u => ren_R hf hF 8 p u) h2)
 | rws k n el t us hh h1 hl h2 => exact .rws _ _ _ t us hh h1 hl fun j hj => Rs.map (fun p u => ren_R hf hF 7 p u) (h2 j hj)
 | mp has val es c hh h2 => exact .mp _ _ es c hh h2
 | dd => exact .dd
 | mps ks g es c hh h2 => exact .mps _ _ es c hh (h2.imp (fun a h => by rw [h]; rfl) (fun a h => by simpa using h) fun a us h => Rs.map (fun p u => ren_R hf hF 7 p u) h)
 | rwf k n el j cs t us hh h1 hl h2 =>
  refine .rwf _ _ _ _ _ t us hh h1 hl fun x hx => ?_
  have := Rs.map (fun p u => ren_R hf hF 7 p u) (h2 x hx)
  by_cases e : x = j
  ·rw [if_pos e] at this ⊢; exact this
  ·rw [if_neg e] at this ⊢; exact this
theorem ren_dd (f : Nat -> Option Nat) (cs : List PV) : isDd (ren8 f cs) = isDd cs := by
 cases cs with
 | nil => rfl
 | cons p l =>
  cases p with
  | ref i _ => simp only [ren8, List.map_cons, renP]; cases f i <;> rfl
  | os _ i _ _ => simp only [ren8, List.map_cons, renP]; cases f i <;> rfl
  | rr i _ _ _ => simp only [ren8, List.map_cons, renP]; cases f i <;> rfl
  | mr i => simp only [ren8, List.map_cons, renP]; cases f i <;> rfl
  | bm q i => simp only [ren8, List.map_cons, renP]; cases f i <;> rfl
  | _ => rfl
theorem ren_HO (hf : ∀ (i j : Nat) (x : Option Nat), f i = some j -> β[i]? = some x -> β'[j]? = some x) (hF : ∀ g, Fb β' L' g -> Fb β L g) {x : Option Nat} {cs : List PV} (h : HoldO β L W x cs) : HoldO β' L' W x (ren8 f cs) := by
 cases x with
 | none =>
  rcases h with ⟨k, el, rfl⟩ | h
  ·exact .inl ⟨k, _, rfl⟩
  ·exact .inr (by rw [ren_dd]; exact h)
 | some g => exact ren_H hf hF h
end
def renS (ρ : List Nat) (σ : Sig) : Sig := ρ.map fun i => ren8 (invF ρ 0) (σ.getD i [])
def renB (ρ : List Nat) (β : List (Option Nat)) : List (Option Nat) := ρ.map fun i => β.getD i none
def renE (ρ : List Nat) (E : Env) : Env := E.map fun q => (q.1, renP (invF ρ 0) 8 q.2)
def nodupN : List Nat -> Bool
 | [] => true
 | x :: l => !l.contains x && nodupN l
def renOk (σ : Sig) (ρ : List Nat) : Bool := ρ.all (fun i => match σ[i]? with | some cs => !isDd cs | none => false) && nodupN ρ
theorem nodupN_at : ∀ {l : List Nat}, nodupN l = true -> ∀ {x y i : Nat}, l[x]? = some i -> l[y]? = some i -> x = y
 | [], _, x, y, i, h, _ => by simp at h
 | z :: l, hn, x, y, i, hx, hy => by
  unfold nodupN at hn
  simp only [Bool.and_eq_true, Bool.not_eq_true', List.contains_eq_mem, decide_eq_false_iff_not] at hn
  match x, y with
  | 0, 0 => rfl
  | 0, y + 1 => simp at hx hy; subst hx; exact absurd (List.mem_of_getElem? hy) hn.1
  | x + 1, 0 => simp at hx hy; subst hy; exact absurd (List.mem_of_getElem? hx) hn.1
  | x + 1, y + 1 => simp at hx hy; rw [nodupN_at hn.2 hx hy]
theorem lk_ren (ρ : List Nat) (t : Nat) : ∀ (E : Env), lk (renE ρ E) t = renP (invF ρ 0) 8 (lk E t)
 | [] => by simp [renE, lk, renP]
 | q :: E => by
  simp only [renE, List.map_cons, lk]
  split
  ·rfl
  ·exact lk_ren ρ t E
section
variable {β : List (Option Nat)} {L L' : List Nat} {W : World} {σ : Sig} {ρ : List Nat}
theorem renOk_at (h : renOk σ ρ = true) {x i : Nat} (hx : ρ[x]? = some i) : ∃ cs, σ[i]? = some cs /\ isDd cs = false := by
 unfold renOk at h
 simp only [Bool.and_eq_true] at h
 have := List.all_eq_true.1 h.1 i (List.mem_of_getElem? hx)
 split at this
 ·rename_i cs hcs; exact ⟨cs, hcs, by simpa using this⟩
 ·cases this
theorem renB_at (hl : β.length = σ.length) (h : renOk σ ρ = true) {x i : Nat} (hx : ρ[x]? = some i) : ∃ g : Option Nat, β[i]? = some g /\ (renB ρ β)[x]? = some g := by
 obtain ⟨cs, hcs, _⟩ := renOk_at h hx
 have hil : i < β.length := by rw [hl]; exact (List.getElem?_eq_some_iff.1 hcs).1
 refine ⟨β[i], List.getElem?_eq_getElem hil, ?_⟩
 simp [renB, hx, List.getD_eq_getElem?_getD, hil]
theorem renB_sub (hl : β.length = σ.length) (h : renOk σ ρ = true) {g : Option Nat} (hg : g ∈ renB ρ β) : g ∈ β := by
 obtain ⟨x, hx, rfl⟩ := List.mem_iff_getElem.1 hg
 have hxl : x < ρ.length := by simpa [renB] using hx
 obtain ⟨g, h1, h2⟩ := renB_at hl h (List.getElem?_eq_getElem hxl)
 rw [List.getElem?_eq_getElem hx] at h2
 rw [Option.some.inj h2]; exact List.mem_of_getElem? h1
theorem renF (hl : β.length = σ.length) (h : renOk σ ρ = true) : ∀ (i j : Nat) (g : Option Nat), invF ρ 0 i = some j -> β[i]? = some g -> (renB ρ β)[j]? = some g := fun i j g hij hg => by
 obtain ⟨_, hj⟩ := invF_at hij
 obtain ⟨g', h1, h2⟩ := renB_at hl h (by simpa using hj)
 rw [hg] at h1; cases h1; exact h2
theorem Bx.ren (hB : Bx β L W σ) (h : renOk σ ρ = true) (hF : ∀ g, Fb (renB ρ β) L' g -> Fb β L g) : Bx (renB ρ β) L' W (renS ρ σ) := by
 have at' : ∀ (x : Nat) (g : Option Nat) (cs : List PV), (renB ρ β)[x]? = some g -> (renS ρ σ)[x]? = some cs -> ∃ i ds, ρ[x]? = some i /\ β[i]? = some g /\ σ[i]? = some ds /\ cs = ren8 (invF ρ 0) ds /\ isDd ds = false := fun x g cs hg hc => by
  unfold renS at hc
  rw [List.getElem?_map] at hc
  cases hx : ρ[x]? with
  | none => rw [hx] at hc; cases hc
  | some i =>
   rw [hx] at hc
   obtain ⟨ds, hds, hl⟩ := renOk_at h hx
   obtain ⟨g', h1, h2⟩ := renB_at hB.1 h hx
   rw [hg] at h2; cases h2
   refine ⟨i, ds, rfl, h1, hds, ?_, hl⟩
   simp [List.getD_eq_getElem?_getD, hds] at hc
   exact hc.symm
 refine ⟨by simp [renB, renS], fun x y g c d hx hy hc hd lc ld => ?_, fun g hg => hB.2.2.1 g (renB_sub hB.1 h hg), fun x cs hc => ?_⟩
 ·obtain ⟨i, ds, a1, a2, a3, _, a5⟩ := at' x (some g) c hx hc
  obtain ⟨j, es, b1, b2, b3, _, b5⟩ := at' y (some g) d hy hd
  have : i = j := hB.2.1 i j g ds es a2 b2 a3 b3 a5 b5
  subst this
  unfold renOk at h
  simp only [Bool.and_eq_true] at h
  exact nodupN_at h.2 a1 b1
 ·have hxl : x < ρ.length := by have := (List.getElem?_eq_some_iff.1 hc).1; simpa [renS] using this
  obtain ⟨g, _, h2⟩ := renB_at hB.1 h (List.getElem?_eq_getElem hxl)
  obtain ⟨i, ds, a1, a2, a3, a4, _⟩ := at' x g cs h2 hc
  obtain ⟨g', hg', hh⟩ := hB.2.2.2 i ds a3
  have : g' = g := by rw [a2] at hg'; exact (Option.some.inj hg').symm
  subst this
  refine ⟨g', h2, ?_⟩
  rw [a4]
  exact ren_HO (renF hB.1 h) hF hh
end
theorem renFst {ρ : List Nat} {σ : Sig} {β : List (Option Nat)} {s i : Nat} {x : Option Nat} (hl : β.length = σ.length) (h : renOk σ ρ = true) (hm : ρ.take s = List.range s) (hi : i < s) (hx : β[i]? = some x) : (renB ρ β)[i]? = some x := by
 have h1 : (ρ.take s)[i]? = some i := by rw [hm]; simp [hi]
 rw [List.getElem?_take, if_pos hi] at h1
 obtain ⟨g, e1, e2⟩ := renB_at hl h h1
 rw [hx] at e1; cases e1; exact e2
def without (β γ : List (Option Nat)) : List Nat := (bs β).filter fun g => decide (some g ∉ γ)
theorem mem_without {β γ : List (Option Nat)} {g : Nat} : g ∈ without β γ ↔ some g ∈ β /\ some g ∉ γ := by
 unfold without
 rw [List.mem_filter, mem_bs, decide_eq_true_eq]
theorem fb_without {β γ : List (Option Nat)} {L : List Nat} (h : ∀ g, some g ∈ γ -> some g ∈ β) (g : Nat) : Fb γ (without β γ ++ L) g ↔ Fb β L g := by
 unfold Fb
 rw [List.mem_append, mem_without]
 constructor
 ·rintro (h1 | h1 | h1)
  ·exact .inl (h g h1)
  ·exact .inl h1.1
  ·exact .inr h1
 ·rintro (h1 | h1)
  ·by_cases e : some g ∈ γ
   ·exact .inl e
   ·exact .inr (.inl ⟨h1, e⟩)
  ·exact .inr (.inr h1)
section
variable {w0 : W0} {W : World} {L : List Nat} {β : List (Option Nat)} {N : Nat} {P : Program} {Q : Exit -> Act -> World -> Prop} {fn : Func} {σ : Sig} {E : Env} {a : Act}
theorem Inv.ren (h : Inv w0 L β σ N E a W) {ρ : List Nat} (hρ : renOk σ ρ = true) (hm : ρ.take w0.stay = List.range w0.stay) : Inv w0 (without β (renB ρ β) ++ L) (renB ρ β) (renS ρ σ) N (renE ρ E) a W := by
 have hsub : ∀ g, some g ∈ renB ρ β -> some g ∈ β := fun g hg => renB_sub h.bx.1 hρ hg
 have hF := fb_without (L := L) hsub
 refine ⟨h.bel, fun g hg => h.new g (hsub g hg), fun g hg => ?_, ⟨fun g hg => List.mem_append_right _ (h.inc.1 g hg), fun g hg => (hF g).2 (h.inc.2 g hg)⟩, ?_, h.bx.ren hρ fun g hg => (hF g).1 hg, ⟨h.ev.1, fun t => ?_⟩, h.nod.keep (fun g hg => List.mem_append_right _ hg) fun _ _ => rfl, fun q hq => ⟨(h.gho q hq).1, R.firsts (fun i x hi hx => renFst h.bx.1 hρ hm hi hx) (fun g hg => (hF g).1 hg) _ _ (h.gho q hq).1 (h.gho q hq).2⟩, fun g hg => ?_, h.glo⟩
 ·rcases List.mem_append.1 hg with hg | hg
  ·rw [mem_without] at hg
   exact ⟨h.bx.2.2.1 g hg.1, hg.2⟩
  ·exact ⟨(h.old g hg).1, fun hc => (h.old g hg).2 (hsub g hc)⟩
 ·have hlen : w0.stay <= ρ.length := by
   have := congrArg List.length hm
   simp at this; omega
  refine ⟨?_, by simp [renB, hlen]⟩
  rw [<- h.pre.1]
  unfold renB
  rw [<- List.map_take, hm]
  apply List.ext_getElem?
  intro i
  rw [List.getElem?_map, List.getElem?_take]
  by_cases hi : i < w0.stay
  ·rw [List.getElem?_range hi, if_pos hi]
   have : i < β.length := Nat.lt_of_lt_of_le hi h.pre.2
   simp [List.getD_eq_getElem?_getD, this]
  ·rw [if_neg hi]
   simp [hi]
 ·rw [lk_ren]
  exact ren_R (renF h.bx.1 hρ) (fun g hg => (hF g).1 hg) 8 _ _ (h.ev.2 t)
 ·rcases List.mem_append.1 hg with hg | hg
  ·rw [mem_without] at hg
   exact .inr (h.new g hg.1)
  ·exact h.lim g hg
def SpecM (P : Program) (f : FuncId) (m : Nat) (σ : Sig) (args : List PV) (σ' : Sig) (r : PV) : Prop :=
 entersP P f = true /\ m <= σ.length /\ ∀ (L : List Nat) (β : List (Option Nat)) (W : World) (vs : List Value), (∀ g ∈ L, g < W.heap.size /\ some g ∉ β) -> Gl (bs β ++ L) W -> Bx β L W σ -> Rs β L W args vs ->
  Calls P f vs.toArray W fun e W' => ∃ u γ L1, e = .returned u /\ R γ L1 W' r u /\ Bx γ L1 W' σ' /\ Near ⟨W, β, m, L, [], none, ghosts, true⟩ W' /\ (∀ g, some g ∈ γ -> some g ∈ β \/ W.heap.size <= g) /\ (γ.take m = β.take m /\ m <= γ.length) /\ (∀ g ∈ L, g ∈ L1) /\ ∀ g, some g ∈ β -> Fb γ L1 g
def Em (w0 : W0) (σ : Sig) (r : PV) (e : Ending) (W' : World) : Prop := ∃ u γ L1, e = .returned u /\ R γ L1 W' r u /\ Bx γ L1 W' σ /\ Near w0 W' /\ (∀ g, some g ∈ γ -> some g ∈ w0.own \/ w0.w.heap.size <= g) /\ (γ.take w0.stay = w0.own.take w0.stay /\ w0.stay <= γ.length) /\ (∀ g ∈ w0.lock, g ∈ L1) /\ ∀ g, some g ∈ w0.own -> Fb γ L1 g
def Qm (P : Program) (fn : Func) (w0 : W0) (σ : Sig) (r : PV) (e : Exit) (a : Act) (w : World) : Prop :=
 w0.dfs = [] -> bodyPostM Fence.wide 0 P fn (Em w0 σ r) e a w
def mapI (f : Nat -> List PV -> List PV) : Nat -> Sig -> Sig
 | _, [] => []
 | k, c :: l => f k c :: mapI f (k + 1) l
theorem mapI_at {f : Nat -> List PV -> List PV} : ∀ (l : Sig) (k i : Nat), (mapI f k l)[i]? = (l[i]?).map (f (k + i))
 | [], k, i => by simp [mapI]
 | c :: l, k, 0 => by simp [mapI]
 | c :: l, k, i + 1 => by simp only [mapI, List.getElem?_cons_succ]; rw [mapI_at l (k + 1) i]; congr 2; omega
theorem mapI_len {f : Nat -> List PV -> List PV} : ∀ (l : Sig) (k : Nat), (mapI f k l).length = l.length
 | [], k => rfl
 | c :: l, k => by simp [mapI, mapI_len l (k + 1)]
def outF (is : List Nat) (m n j : Nat) : Option Nat := if j < m then is[j]? else some (n + (j - m))
def mergeS (is : List Nat) (m : Nat) (σ σ1 : Sig) : Sig :=
 mapI (fun i cs => match invF is 0 i with
  | some j => if j < m then ren8 (outF is m σ.length) (σ1.getD j [.dd]) else [.dd]
  | none => cs) 0 σ ++ (σ1.drop m).map (ren8 (outF is m σ.length))
theorem mergeInv {is : List Nat} {m : Nat} {σ0 σ1 : Sig} {r : PV} {W' : World} {u : Value} {γ : List (Option Nat)} {L1 : List Nat} (hI : Inv w0 L β σ N E a W) (hρ : renOk σ is = true) (hσ : renS is σ = σ0) (hml : m <= σ0.length)
  (hr : R γ L1 W' r u) (hB1 : Bx γ L1 W' σ1) (hn : Near ⟨W, renB is β, m, without β (renB is β) ++ L, [], none, ghosts, true⟩ W') (hnew : ∀ g, some g ∈ γ -> some g ∈ renB is β \/ W.heap.size <= g)
  (htk : γ.take m = (renB is β).take m /\ m <= γ.length) (hl1 : ∀ g ∈ without β (renB is β) ++ L, g ∈ L1) (hl2 : ∀ g, some g ∈ renB is β -> Fb γ L1 g) :
  Inv w0 L (β ++ γ.drop m) (mergeS is m σ σ1) N E a W' /\ R (β ++ γ.drop m) L W' (renP (outF is m σ.length) 8 r) u := by
 have hsub : ∀ g, some g ∈ renB is β -> some g ∈ β := fun g hg => renB_sub hI.bx.1 hρ hg
 have hF := fb_without (L := L) hsub
 have hlen : (renB is β).length = σ0.length := by rw [<- hσ]; simp [renB, renS]
 have hlt : ∀ i g : Nat, β[i]? = some (some g) -> g < W.heap.size := fun i g hg => hI.bx.2.2.1 g (List.mem_of_getElem? hg)
 have hsz : W.heap.size <= W'.heap.size := hn.size
 have hk : ∀ k, ¬ Fb β L k -> k < W.heap.size -> W'.heap[k]? = W.heap[k]? := fun k hk hkl => hn.block k hkl fun hc => hk (.inl (hsub k hc))
 have happ : ∀ (i : Nat) (g : Option Nat), β[i]? = some g -> (β ++ γ.drop m)[i]? = some g := fun i g hg => by
  rw [List.getElem?_append_left (List.getElem?_eq_some_iff.1 hg).1]; exact hg
 have hβ : ∀ (i : Nat) (x : Option Nat), β[i]? = some x -> (β ++ γ.drop m)[i]? = some x /\ ∀ g, x = some g -> W'.shape? g = W.shape? g := fun i x hx => ⟨happ i x hx, fun g e => hn.shape g (hlt i g (by rw [hx, e]))⟩
 have hnew' : ∀ g, some g ∈ γ -> some g ∈ β \/ W.heap.size <= g := fun g hg => (hnew g hg).imp (hsub g) id
 have hF1 : ∀ g, Fb (β ++ γ.drop m) L g -> Fb β L g \/ W.heap.size <= g := fun g hg => by
  rcases hg with hg | hg
  ·rcases List.mem_append.1 hg with hg | hg
   ·exact .inl (.inl hg)
   ·exact (hnew' g (List.mem_of_mem_drop hg)).imp .inl id
  ·exact .inl (.inr hg)
 -- from the callee's numbers to the caller's
 have hF2 : ∀ g, Fb (β ++ γ.drop m) L g -> Fb γ L1 g := fun g hg => by
  have old : Fb β L g -> Fb γ L1 g := fun h => by
   rcases (hF g).2 h with h | h
   ·exact hl2 g h
   ·exact .inr (hl1 g h)
  rcases hg with hg | hg
  ·rcases List.mem_append.1 hg with hg | hg
   ·exact old (.inl hg)
   ·exact .inl (List.mem_of_mem_drop hg)
  ·exact old (.inr hg)
 have hisl : ∀ j, j < m -> ∃ i, is[j]? = some i := fun j hj => by
  have : j < is.length := by rw [show is.length = σ0.length by rw [<- hσ]; simp [renS]]; omega
  exact ⟨is[j], List.getElem?_eq_getElem this⟩
 have hst : ∀ (j i : Nat) (g : Option Nat), j < m -> is[j]? = some i -> γ[j]? = some g -> β[i]? = some g := fun j i g hj hi hg => by
  have h1 : (γ.take m)[j]? = some g := by rw [List.getElem?_take, if_pos hj]; exact hg
  rw [htk.1, List.getElem?_take, if_pos hj] at h1
  obtain ⟨g', b1, b2⟩ := renB_at hI.bx.1 hρ hi
  rw [b2] at h1; cases h1; exact b1
 have hf : ∀ (j i : Nat) (g : Option Nat), outF is m σ.length j = some i -> γ[j]? = some g -> (β ++ γ.drop m)[i]? = some g := fun j i g hji hg => by
  unfold outF at hji
  split at hji
  ·rename_i hj; exact happ i g (hst j i g hj hji hg)
  ·rename_i hj
   cases hji
   rw [List.getElem?_append_right (by rw [hI.bx.1]; omega), hI.bx.1, List.getElem?_drop]
   rw [show m + (σ.length + (j - m) - σ.length) = j by omega]; exact hg
 have hRr : R (β ++ γ.drop m) L W' (renP (outF is m σ.length) 8 r) u := ren_R hf hF2 8 r u hr
 have hγl : γ.length = σ1.length := hB1.1
 -- what stands where
 have at' : ∀ (x : Nat) (g : Option Nat) (cs : List PV), (β ++ γ.drop m)[x]? = some g -> (mergeS is m σ σ1)[x]? = some cs ->
   (cs = [.dd]) \/ (∃ j ds, γ[j]? = some g /\ σ1[j]? = some ds /\ cs = ren8 (outF is m σ.length) ds /\ (x < σ.length -> is[j]? = some x /\ j < m) /\ (σ.length <= x -> x = σ.length + (j - m) /\ m <= j)) \/
   (x < σ.length /\ β[x]? = some g /\ σ[x]? = some cs /\ ∀ j, is[j]? ≠ some x) := fun x g cs hg hc => by
  unfold mergeS at hc
  by_cases hx : x < σ.length
  ·rw [List.getElem?_append_left (by rw [mapI_len]; exact hx), mapI_at, Nat.zero_add] at hc
   rw [List.getElem?_append_left (by rw [hI.bx.1]; exact hx)] at hg
   rw [List.getElem?_eq_getElem hx] at hc
   simp only [Option.map_some, Option.some.injEq] at hc
   split at hc
   ·rename_i j hj
    obtain ⟨_, hj'⟩ := invF_at hj
    simp only [Nat.sub_zero] at hj'
    split at hc
    ·rename_i hjm
     have hjl : j < γ.length := by rw [hγl]; have := htk.2; omega
     have hb := hst j x γ[j] hjm hj' (List.getElem?_eq_getElem hjl)
     rw [hg] at hb
     have hjl1 : j < σ1.length := by omega
     refine .inr (.inl ⟨j, σ1[j], by rw [List.getElem?_eq_getElem hjl]; exact hb.symm, List.getElem?_eq_getElem hjl1, ?_, fun _ => ⟨hj', hjm⟩, fun h => absurd hx (by omega)⟩)
     rw [<- hc]; simp [List.getD_eq_getElem?_getD, hjl1]
    ·exact .inl hc.symm
   ·rename_i hj
    refine .inr (.inr ⟨hx, hg, by rw [List.getElem?_eq_getElem hx, hc], fun j hj' => ?_⟩)
    have : ∀ (l : List Nat) (k j : Nat), l[j]? = some x -> invF l k x ≠ none := fun l => by
     induction l with
     | nil => intro k j h; simp at h
     | cons y l ih =>
      intro k j h
      unfold invF
      by_cases e : y = x
      ·rw [if_pos e]; simp
      ·rw [if_neg e]
       cases j with
       | zero => simp at h; exact absurd h e
       | succ j => simp at h; exact ih (k + 1) j h
    exact this is 0 j hj' hj
  ·rw [List.getElem?_append_right (by rw [mapI_len]; omega), mapI_len, List.getElem?_map, List.getElem?_drop] at hc
   rw [List.getElem?_append_right (by rw [hI.bx.1]; omega), hI.bx.1, List.getElem?_drop] at hg
   cases hq1 : σ1[m + (x - σ.length)]? with
   | none => rw [hq1] at hc; cases hc
   | some ds =>
    rw [hq1] at hc
    simp only [Option.map_some, Option.some.injEq] at hc
    exact .inr (.inl ⟨m + (x - σ.length), ds, hg, hq1, hc.symm, fun h => absurd h hx, fun _ => ⟨by omega, by omega⟩⟩)
 have hlive : ∀ (x j : Nat) (cs : List PV), is[j]? = some x -> σ[x]? = some cs -> isDd cs = false := fun x j cs hj hc => by
  obtain ⟨ds, hds, hl⟩ := renOk_at hρ hj
  rw [hc] at hds; cases hds; exact hl
 have apart : ∀ (x g : Nat) (cs : List PV), β[x]? = some (some g) -> σ[x]? = some cs -> isDd cs = false -> (∀ j, is[j]? ≠ some x) -> some g ∉ renB is β := fun x g cs hg hc hl hno hm => by
  obtain ⟨y, hy, hyg⟩ := List.mem_iff_getElem.1 hm
  have hyl : y < is.length := by simpa [renB] using hy
  obtain ⟨g', b1, b2⟩ := renB_at hI.bx.1 hρ (List.getElem?_eq_getElem hyl)
  rw [List.getElem?_eq_getElem hy, hyg] at b2
  cases b2
  obtain ⟨ds, hds, hl'⟩ := renOk_at hρ (List.getElem?_eq_getElem hyl)
  have := hI.bx.2.1 x is[y] g cs ds hg b1 hc hds hl hl'
  exact hno y (by rw [List.getElem?_eq_getElem hyl, this])
 refine ⟨⟨⟨hn.os.trans hI.bel.os, hn.tape.trans hI.bel.tape, hn.output.trans hI.bel.output, Nat.le_trans hI.bel.size hsz, fun k hkl hko => ?_, fun k hkl => (hn.shape k (Nat.lt_of_lt_of_le hkl hI.bel.size)).trans (hI.bel.shape k hkl)⟩, fun g hg => ?_, fun g hg => ?_, ⟨hI.inc.1, fun g hg => (hI.inc.2 g hg).imp (List.mem_append_left _) id⟩, ⟨by rw [List.take_append_of_le_length hI.pre.2]; exact hI.pre.1, by simp; have := hI.pre.2; omega⟩,
  ⟨?_, fun x y g c d hx hy hc hd' lc ld => ?_, fun g hg => ?_, fun x cs hc => ?_⟩, hI.ev.move hsz hk hβ hF1, hI.nod.keep (fun _ h => h) fun x hx => hn.block x (hI.old x hx).1 fun hc => (hI.old x hx).2 (hsub x hc), fun q hq => ⟨(hI.gho q hq).1, R.move hsz _ _ _ _ _ _ hk hβ hF1 (hI.gho q hq).2⟩, hI.lim, hI.glo⟩, hRr⟩
 ·refine (hn.block k (Nat.lt_of_lt_of_le hkl hI.bel.size) fun hc => ?_).trans (hI.bel.block k hkl hko)
  rcases hI.new k (hsub k hc) with h | h
  ·exact hko h
  ·omega
 ·rcases List.mem_append.1 hg with hg | hg
  ·exact hI.new g hg
  ·rcases hnew' g (List.mem_of_mem_drop hg) with h | h
   ·exact hI.new g h
   ·exact .inr (Nat.le_trans hI.bel.size h)
 ·refine ⟨Nat.lt_of_lt_of_le (hI.oldW g hg) hsz, fun hc => ?_⟩
  rcases List.mem_append.1 hc with hc | hc
  ·exact (hI.old g hg).2 hc
  ·rcases hnew' g (List.mem_of_mem_drop hc) with h | h
   ·exact (hI.old g hg).2 h
   ·have := hI.oldW g hg; omega
 ·unfold mergeS
  simp [mapI_len, hI.bx.1, hγl]
 ·rcases at' x (some g) c hx hc with h | ⟨j, ds, a1, a2, a3, a4, a5⟩ | ⟨a0, a1, a2, a3⟩
  ·rw [h] at lc; cases lc
  ·rcases at' y (some g) d hy hd' with h | ⟨j', ds', b1, b2, b3, b4, b5⟩ | ⟨b0, b1, b2, b3⟩
   ·rw [h] at ld; cases ld
   ·rw [a3, ren_dd] at lc
    rw [b3, ren_dd] at ld
    have : j = j' := hB1.2.1 j j' g ds ds' a1 b1 a2 b2 lc ld
    subst this
    by_cases hx' : x < σ.length
    ·by_cases hy' : y < σ.length
     ·have := (a4 hx').1; rw [(b4 hy').1] at this; cases this; rfl
     ·have := (a4 hx').2; have := (b5 (by omega)).2; omega
    ·by_cases hy' : y < σ.length
     ·have := (b4 hy').2; have := (a5 (by omega)).2; omega
     ·have := (a5 (by omega)).1; have := (b5 (by omega)).1; omega
   ·exfalso
    have := apart y g d b1 b2 ld b3
    rcases hnew g (List.mem_of_getElem? a1) with h | h
    ·exact this h
    ·have := hlt y g b1; omega
  ·rcases at' y (some g) d hy hd' with h | ⟨j', ds', b1, b2, b3, b4, b5⟩ | ⟨b0, b1, b2, b3⟩
   ·rw [h] at ld; cases ld
   ·exfalso
    have := apart x g c a1 a2 lc a3
    rcases hnew g (List.mem_of_getElem? b1) with h | h
    ·exact this h
    ·have := hlt x g a1; omega
   ·exact hI.bx.2.1 x y g c d a1 b1 a2 b2 lc ld
 ·rcases List.mem_append.1 hg with hg | hg
  ·exact Nat.lt_of_lt_of_le (hI.bx.2.2.1 g hg) hsz
  ·exact hB1.2.2.1 g (List.mem_of_mem_drop hg)
 ·have hxl : x < (β ++ γ.drop m).length := by
   have := (List.getElem?_eq_some_iff.1 hc).1
   simpa [mergeS, mapI_len, hI.bx.1, hγl] using this
  refine ⟨(β ++ γ.drop m)[x], List.getElem?_eq_getElem hxl, ?_⟩
  have hgx := List.getElem?_eq_getElem hxl
  generalize (β ++ γ.drop m)[x] = g at hgx ⊢
  rcases at' x g cs hgx hc with h | ⟨j, ds, a1, a2, a3, a4, a5⟩ | ⟨a0, a1, a2, a3⟩
  ·rw [h]; exact HoldO.dd
  ·obtain ⟨g', hg', hh⟩ := hB1.2.2.2 j ds a2
   have : g' = g := by rw [a1] at hg'; exact (Option.some.inj hg').symm
   subst this
   rw [a3]
   exact ren_HO hf hF2 hh
  ·obtain ⟨g', hg', hh⟩ := hI.bx.2.2.2 x cs a2
   have : g' = g := by rw [a1] at hg'; exact (Option.some.inj hg').symm
   subst this
   cases hdd : isDd cs with
   | true => exact hh.dead hdd
   | false => exact hh.move hsz (fun g e => by subst e; exact hn.block g (hlt x g a1) (apart x g cs a1 a2 hdd a3)) hk hβ hF1
theorem callOpM {o : Oper} {g : FuncId} {ps qs : List PV} {is : List Nat} {m : Nat} {σ0 σ1 : Sig} {r : PV} (hI : Inv w0 L β σ N E a W) (hd : fitsD N o.dst = true) (h : opC P E o.op = some (g, ps))
  (hs : SpecM P g m σ0 qs σ1 r) (hρ : renOk σ is = true) (hσ : renS is σ = σ0) (hq : ps.map (renP (invF is 0) 8) = qs) (K : Act -> World -> Prop) (Q : Exit -> Act -> World -> Prop)
  (hK : ∀ γ u W', Inv w0 L γ (mergeS is m σ σ1) N (putE E o.dst (renP (outF is m σ.length) 8 r)) (a.put o.dst u) W' -> K (a.put o.dst u) W') : Oper.wp P o a W K Q := by
 obtain ⟨vs, hrun, hR⟩ := opC_run (P := P) hs.1 hI.ev h
 unfold Oper.wp
 rw [hrun]
 show Calls P g vs.toArray W _
 have hsub : ∀ g, some g ∈ renB is β -> some g ∈ β := fun g hg => renB_sub hI.bx.1 hρ hg
 have hF := fb_without (L := L) hsub
 have hlen : (renB is β).length = σ0.length := by rw [<- hσ]; simp [renB, renS]
 have hml : m <= σ0.length := hs.2.1
 refine (hs.2.2 (without β (renB is β) ++ L) (renB is β) W vs (fun g hg => ?_) (hI.gl.ren fun g hg => (hF g).1 hg) ?_ ?_).mono fun e W' ⟨u, γ, L1, he, hr, hB1, hn, hnew, htk, hl1, hl2⟩ => ?_
 ·rcases List.mem_append.1 hg with hg | hg
  ·rw [mem_without] at hg
   exact ⟨hI.bx.2.2.1 g hg.1, hg.2⟩
  ·exact ⟨hI.oldW g hg, fun hc => (hI.old g hg).2 (hsub g hc)⟩
 ·rw [<- hσ]; exact hI.bx.ren hρ fun g hg => (hF g).1 hg
 ·rw [<- hq]; exact Rs.map (fun p u => ren_R (renF hI.bx.1 hρ) (fun g hg => (hF g).1 hg) 8 p u) hR
 ·subst he
  obtain ⟨hi, hRr⟩ := mergeInv hI hρ hσ hml hr hB1 hn hnew htk hl1 hl2
  exact hK _ u W' { hi with ev := hi.ev.put hRr hd, nod := hi.nod.put _ _ }
def SpecP (P : Program) (f : FuncId) (m : Nat) (σ : Sig) (args : List PV) (σ' : Sig) (x : PV) : Prop :=
 entersP P f = true /\ m <= σ.length /\ ∀ (L : List Nat) (β : List (Option Nat)) (W : World) (vs : List Value), (∀ g ∈ L, g < W.heap.size /\ some g ∉ β) -> Gl (bs β ++ L) W -> Bx β L W σ -> Rs β L W args vs ->
  Calls P f vs.toArray W fun e W' => ∃ u γ L1, e = .panicked [{ v := u, recovered := false }] /\ R γ L1 W' x u /\ Bx γ L1 W' σ' /\ Near ⟨W, β, m, L, [], none, ghosts, true⟩ W' /\ (∀ g, some g ∈ γ -> some g ∈ β \/ W.heap.size <= g) /\ (γ.take m = β.take m /\ m <= γ.length) /\ (∀ g ∈ L, g ∈ L1) /\ ∀ g, some g ∈ β -> Fb γ L1 g
theorem callOpP {o : Oper} {g : FuncId} {ps qs : List PV} {is : List Nat} {m : Nat} {σ0 σ1 : Sig} {x : PV} (hI : Inv w0 L β σ N E a W) (h : opC P E o.op = some (g, ps))
  (hs : SpecP P g m σ0 qs σ1 x) (hρ : renOk σ is = true) (hσ : renS is σ = σ0) (hq : ps.map (renP (invF is 0) 8) = qs) (K : Act -> World -> Prop) (Q : Exit -> Act -> World -> Prop)
  (hK : ∀ γ u W', Inv w0 L γ (mergeS is m σ σ1) N E a W' -> R γ L W' (renP (outF is m σ.length) 8 x) u -> Q (.panic [{ v := u, recovered := false }]) a W') : Oper.wp P o a W K Q := by
 obtain ⟨vs, hrun, hR⟩ := opC_run (P := P) hs.1 hI.ev h
 unfold Oper.wp
 rw [hrun]
 show Calls P g vs.toArray W _
 have hsub : ∀ g, some g ∈ renB is β -> some g ∈ β := fun g hg => renB_sub hI.bx.1 hρ hg
 have hF := fb_without (L := L) hsub
 refine (hs.2.2 (without β (renB is β) ++ L) (renB is β) W vs (fun g hg => ?_) (hI.gl.ren fun g hg => (hF g).1 hg) ?_ ?_).mono fun e W' ⟨u, γ, L1, he, hr, hB1, hn, hnew, htk, hl1, hl2⟩ => ?_
 ·rcases List.mem_append.1 hg with hg | hg
  ·rw [mem_without] at hg
   exact ⟨hI.bx.2.2.1 g hg.1, hg.2⟩
  ·exact ⟨hI.oldW g hg, fun hc => (hI.old g hg).2 (hsub g hc)⟩
 ·rw [<- hσ]; exact hI.bx.ren hρ fun g hg => (hF g).1 hg
 ·rw [<- hq]; exact Rs.map (fun p u => ren_R (renF hI.bx.1 hρ) (fun g hg => (hF g).1 hg) 8 p u) hR
 ·subst he
  obtain ⟨hi, hRr⟩ := mergeInv hI hρ hσ hs.2.1 hr hB1 hn hnew htk hl1 hl2
  exact hK _ u W' hi hRr
end
end Go.Proofs.YtplpnfjccemdnaaGreatDoor
