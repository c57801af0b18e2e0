import Derived.Test.YtcknpohghmkbmaaGreatDoorK13
import Derived.Test.YtcknpohghmkbmaaGreatDoorK12
import Derived.Test.YtcknpohghmkbmaaGreatDoorSh
set_option linter.unusedVariables false
set_option linter.unusedSimpArgs false
/- The texts V25 V26 L0 L1 X1 L2 L3 L4 of the proof, laid one behind the other. -/
namespace Go.Proofs.YtcknpohghmkbmaaGreatDoor
open Go.RowKit
structure Dfr (w0 w1 : W0) (g : FuncId) (caps : List PV) (s : Nat) : Prop where
 ex : ∃ us : List Value, w1.dfs = [{ target := .fn (.func g) us.toArray, args := #[] }] /\ us.length = caps.length /\ ∀ (i : Nat) (p : PV) (u : Value), caps[i]? = some p -> us[i]? = some u -> (p, u) ∈ w1.gh
 w : w1.w = w0.w
 lock : w1.lock = w0.lock
 ro : w1.ro = none
 stay : w1.stay = s
 le : w0.stay <= s
 dfs : w0.dfs = []
 new : ∀ b, some b ∈ w1.own -> some b ∈ w0.own \/ w0.w.heap.size <= b
 own : ∀ b, some b ∈ w0.own -> some b ∈ w1.own
 tk : w1.own.take w0.stay = w0.own.take w0.stay
 mrk : w1.mrk = true
def viewDf (P : Program) (fn : Func) (c : Cfg) : Option (List Prop × FuncId × List PV) :=
 let s := stop P fn.ntmps c
 match s.2.dr, s.2.todo with
 | none, .ops all (o :: _) :: _ =>
  if fitsD fn.ntmps o.dst then
   match guardP all s.2.E o with
   | some true => match o.op with
    | .defer { callee := .value f, args, argTypes := _ } => match args.toList, evA s.2.E f with
     | [], .fn g caps => some (s.1, g, caps)
     | _, _ => none
    | _ => none
   | _ => none
  else none
 | _, _ => none
def afterDf (P : Program) (fn : Func) (c : Cfg) : Cfg :=
 let d := (stop P fn.ntmps c).2
 match d.todo with
 | .ops all (o :: l) :: k => ⟨putE d.E o.dst (.v undef), d.σ, .ops all l :: k, none⟩
 | _ => d
section
variable {w0 w1 : W0} {W : World} {L : List Nat} {β : List (Option Nat)} {N : Nat} {P : Program} {Q : Exit -> Act -> World -> Prop} {fn : Func} {σ : Sig} {E : Env} {a : Act} {c : Cfg}
theorem refOks_at {s : Nat} : ∀ {ps : List PV}, refOk.refOks s ps = true -> ∀ {i : Nat} {p : PV}, ps[i]? = some p -> refOk s p = true
 | [], _, i, p, h => by simp at h
 | q :: ps, hr, 0, p, h => by simp only [refOk.refOks, Bool.and_eq_true] at hr; simp at h; subst h; exact hr.1
 | q :: ps, hr, i + 1, p, h => by simp only [refOk.refOks, Bool.and_eq_true] at hr; exact refOks_at hr.2 (by simpa using h)
theorem Ok.defer {g : FuncId} {caps : List PV} {ps : List Prop} (s : Nat) (h : viewDf P fn c = some (ps, g, caps)) (hp : All ps) (hst : w0.stay <= s) (hsl : s <= (stop P fn.ntmps c).2.σ.length) (hc : refOk.refOks s caps = true) (hd0 : w0.dfs = []) (hro : w0.ro = none) (hmk : w0.mrk = false) (hgh : w0.gh = ghosts)
  (k : ∀ w1 L1, Dfr w0 w1 g caps s -> OkF P fn w1 L1 Q (afterDf P fn c)) : OkF P fn w0 L Q c := by
 unfold viewDf at h
 simp only at h
 split at h
 case h_2 => cases h
 rename_i all o r t hdr ht
 split at h
 case isFalse => cases h
 rename_i hfd
 split at h
 case h_2 => cases h
 rename_i hg
 split at h
 case h_2 => cases h
 rename_i f args at_ ho
 split at h
 case h_2 => cases h
 rename_i g' caps' ha hv
 simp only [Option.some.injEq, Prod.mk.injEq] at h
 obtain ⟨h1, h2, h3⟩ := h
 subst h2; subst h3
 refine run_ok 3000 c (by rw [show (runC P fn.ntmps 3000 c).1 = ps from h1]; exact hp) ?_
 show OkF P fn w0 L Q (stop P fn.ntmps c).2
 clear h1
 unfold afterDf at k
 generalize (stop P fn.ntmps c).2 = d at hdr ht hg hv k hsl
 obtain ⟨E, σ, todo, dr⟩ := d
 simp only at hdr ht hg hv k hsl
 subst hdr; subst ht
 simp only at k
 intro β a W hI
 have hev := evA_R hI.ev f
 rw [hv, R] at hev
 obtain ⟨us, hfe, hus⟩ := hev
 show wpListIn (Fr w0.ro) 0 P all _ (o :: r) a W
 unfold wpListIn
 rw [if_pos (guard_wanted hI.ev hg)]
 refine ⟨fun _ _ => trivial, ?_⟩
 have e2 : o.semAt (Fr w0.ro).round a.eval = execOp a.eval o := by
  have : (Fr w0.ro).round = none := hro
  rw [this]; exact Oper.semAt_none _ _
 have harg : args = #[] := Array.toList_eq_nil_iff.1 ha
 subst harg
 have hrun : (execOp a.eval o).run P W = .ok (.defer { target := .fn (.func g') us.toArray, args := #[] }) W := by
  unfold execOp
  rw [ho]
  simp only [Sem.run_bind, resolve, hfe, Deferred.ofValue, Sem.run_pure, Result.andThen_ok]
  simp
 rw [e2, hrun]
 show wpListIn (Fr w0.ro) 0 P all _ r ({ a with defers := _ :: a.defers }.put o.dst undef) W
 have hsb : s <= β.length := by rw [hI.bx.1]; exact hsl
 obtain ⟨w1, hw1⟩ : ∃ w1 : W0, (⟨w0.w, β.take s ++ w0.own, s, w0.lock, [{ target := .fn (.func g') us.toArray, args := #[] }], none, caps'.zip us ++ ghosts, true⟩ : W0) = w1 := ⟨_, rfl⟩
 have hdef : a.defers = [] := by
  obtain ⟨Ds, d1, d0, _⟩ := hI.nod
  have : Ds = [] := d0 hmk
  subst this
  rw [hd0] at d1; exact d1
 have hmem : ∀ g, some g ∈ β.take s ++ w0.own -> some g ∈ β \/ some g ∈ w0.own := fun g hg => (List.mem_append.1 hg).imp List.mem_of_mem_take id
 have hin : Inv w1 L β σ fn.ntmps (putE E o.dst (.v undef)) ({ a with defers := { target := .fn (.func g') us.toArray, args := #[] } :: a.defers }.put o.dst undef) W := by
  rw [<- hw1]
  refine ⟨⟨hI.bel.os, hI.bel.tape, hI.bel.output, hI.bel.size, fun k hk hko => hI.bel.block k hk fun hc => hko (List.mem_append_right _ hc), hI.bel.shape⟩, fun g hg => (hI.new g hg).imp (List.mem_append_right _) id, hI.old, ⟨hI.inc.1, fun g hg => ?_⟩, ⟨?_, hsb⟩, hI.bx, ?_, ?_, fun q hq => ?_, fun g hg => ?_, fun q hq => List.mem_append_right _ hq⟩
  ·rcases hmem g hg with h | h
   ·exact .inl h
   ·exact hI.inc.2 g h
  ·show β.take s = (β.take s ++ w0.own).take s
   rw [List.take_append_of_le_length (by simp; omega), List.take_take, Nat.min_self]
  ·exact Ev.put (a := { a with defers := { target := .fn (.func g') us.toArray, args := #[] } :: a.defers }) ⟨hI.ev.1, hI.ev.2⟩ (by rw [R]) hfd
  ·exact (Nod.nil (show ({ a with defers := { target := .fn (.func g') us.toArray, args := #[] } :: a.defers } : Act).defers = _ by rw [hdef]) : Nod _ L _ W).put _ _
  ·rcases List.mem_append.1 hq with hq | hq
   case inr => exact ⟨refOk_bare (ghosts_bare q hq), (hI.gho q (hI.glo q hq)).2⟩
   obtain ⟨i, hi, e⟩ := List.mem_iff_getElem.1 hq
   have h1 : caps'[i]? = some q.1 := by
    have := congrArg Prod.fst e
    simp at this hi
    rw [<- this, List.getElem?_eq_getElem (by omega)]
   have h2 : us[i]? = some q.2 := by
    have := congrArg Prod.snd e
    simp at this hi
    rw [<- this, List.getElem?_eq_getElem (by omega)]
   obtain ⟨u, hu, hr⟩ := hus.get h1
   rw [h2] at hu; cases hu
   exact ⟨refOks_at hc h1, hr⟩
  ·rcases hI.lim g hg with h | h | h
   ·exact .inl h
   ·exact .inr (.inl (List.mem_append_right _ h))
   ·exact .inr (.inr h)
 have hro1 : w1.ro = w0.ro := by rw [<- hw1, hro]
 rw [<- hro1]
 refine k w1 L ?_ β _ W hin
 rw [<- hw1]
 refine ⟨⟨us, rfl, hus.length, fun i p u h1 h2 => ?_⟩, rfl, rfl, rfl, rfl, hst, hd0, fun b hb => ?_, fun b hb => List.mem_append_right _ hb, ?_, rfl⟩
 ·obtain ⟨e1, e1'⟩ := List.getElem?_eq_some_iff.1 h1
  obtain ⟨e2, e2'⟩ := List.getElem?_eq_some_iff.1 h2
  exact List.mem_append_left _ (List.mem_iff_getElem.2 ⟨i, by simp; omega, by simp [e1', e2']⟩)
 ·rcases hmem b hb with h | h
  ·exact hI.new b h
  ·exact .inl h
 ·show (β.take s ++ w0.own).take w0.stay = w0.own.take w0.stay
  rw [List.take_append_of_le_length (by simp; omega), List.take_take, Nat.min_eq_left hst]
  exact hI.pre.1
theorem leave_def {RR : Ending -> World -> Prop} {g : FuncId} {caps : List PV} {s : Nat} {is : List Nat} {σ2 : Sig} {u : Option PV} {um : FrameMode} (hD : Dfr w0 w1 g caps s) (hI : Inv w1 L β σ N E a W) (hρ : renOk σ is = true) (hil : is.length = σ2.length)
  (hs : SpecD P g (renS is σ) (caps.map (renP (invF is 0) 8)) u σ2) (hum : inMode (renB is β) (without β (renB is β) ++ L) W um u)
  (fin : ∀ L' β' a' W', Inv { w1 with dfs := [] } L' β' (mergeS is is.length σ σ2) N E a' W' -> a'.tmps = a.tmps -> ∃ v, (results fn a.tmps).run P W' = .ok v W' /\ RR (.returned v) W') :
  LeavesInM Fence.wide 0 P fn a.tmps RR a.defers um W := by
 have hrun : um ≠ .run := by
  cases u with
  | none => rw [show um = .returning from hum]; simp
  | some x => obtain ⟨v, h, _⟩ := hum; rw [h]; simp
 obtain ⟨us, hdfs, husl, hgh⟩ := hD.ex
 obtain ⟨Ds, e, -, nd, hDs⟩ := hI.nod
 obtain ⟨w2, hw2⟩ : ∃ w2 : W0, ({ w1 with dfs := [] } : W0) = w2 := ⟨_, rfl⟩
 have h0 : Inv w2 L β σ N E { a with defers := [] } W := by
  rw [<- hw2]
  exact ⟨⟨hI.bel.os, hI.bel.tape, hI.bel.output, hI.bel.size, hI.bel.block, hI.bel.shape⟩, hI.new, hI.old, hI.inc, hI.pre, hI.bx, hI.ev, Nod.nil rfl, hI.gho, hI.lim, hI.glo⟩
 replace hDs : ∀ D ∈ Ds, D ∈ L /\ w2.w.heap.size <= D /\ W.heap[D]? = some (.deferred (some [])) := by rw [<- hw2]; exact hDs
 have hdf2 : w2.dfs = [] := by rw [<- hw2]
 have hgh2 : w2.gh = w1.gh := by rw [<- hw2]
 rw [hw2] at fin
 rw [e, hdfs]
 clear e hI hw2
 revert h0 hum
 induction Ds generalizing W with
 | cons D Ds ih =>
  intro hum h0
  have hh := hDs D (List.mem_cons_self ..)
  have ho : ∀ k, k ≠ D -> (W.putObj D (.deferred none)).heap[k]? = W.heap[k]? := fun k hk => World.putObj_heap_other hk
  have hsz : (W.putObj D (.deferred none)).heap.size = W.heap.size := World.putObj_size
  refine ⟨hrun, .inl ⟨D, W.putObj D (.deferred none), rfl, run_takeDeferred hh.2.2, ?_⟩⟩
  refine ih (List.nodup_cons.1 nd).2 ?_ ?_ (h0.turn hh.1 hh.2.1 _ rfl (Nod.nil hdf2.symm))
  ·intro D' hD'
   have h1 := hDs D' (List.mem_cons_of_mem _ hD')
   exact ⟨h1.1, h1.2.1, (World.putObj_heap_other (fun e => (List.nodup_cons.1 nd).1 (by rw [<- e]; exact hD'))).trans h1.2.2⟩
  ·cases u with
   | none => exact hum
   | some x =>
    obtain ⟨v, hv, hr⟩ := hum
    have hDL : D ∈ without β (renB is β) ++ L := List.mem_append_right _ hh.1
    exact ⟨v, hv, R.move (by omega) _ _ _ _ _ _ (fun k hk _ => ho k (fun e => hk (.inr (by rw [e]; exact hDL)))) (fun i x hx => ⟨hx, fun g e => shape_eq (ho g (fun e' => (h0.old D hh.1).2 (by
     have := renB_sub h0.bx.1 hρ (List.mem_of_getElem? hx)
     rw [e, e'] at this; exact this)))⟩) (fun _ h => .inl h) hr⟩
 | nil =>
  intro hum h0
  have hsub : ∀ g, some g ∈ renB is β -> some g ∈ β := fun g hg => renB_sub h0.bx.1 hρ hg
  have hF := fb_without (L := L) hsub
  have hcaps : Rs β L W caps us := by
   have key : ∀ (cs : List PV) (vs : List Value), vs.length = cs.length -> (∀ (i : Nat) (p : PV) (u : Value), cs[i]? = some p -> vs[i]? = some u -> R β L W p u) -> Rs β L W cs vs := by
    intro cs
    induction cs with
    | nil => intro vs hl _; have := List.eq_nil_of_length_eq_zero hl; subst this; exact Rs.nil
    | cons p cs ih =>
     intro vs hl h
     cases vs with
     | nil => simp at hl
     | cons v vs => exact Rs.cons (h 0 p v rfl rfl) (ih vs (by simpa using hl) fun i p u h1 h2 => h (i + 1) p u (by simpa using h1) (by simpa using h2))
   exact key caps us husl fun i p u h1 h2 => (h0.gho (p, u) (by rw [hgh2]; exact hgh i p u h1 h2)).2
  refine ⟨hrun, .inr ⟨fun h => (by cases h), .func g, us.toArray, g, us.toArray, rfl, ?_, fun _ _ => trivial, ?_⟩⟩
  ·show (callFunc g (#[] ++ us.toArray)).run P W = _
   rw [show (#[] : Array Value) ++ us.toArray = us.toArray by simp]
   exact enters_run hs.1 _ _
  ·refine (hs.2.2 (without β (renB is β) ++ L) (renB is β) W us um (fun g hg => ?_) (h0.gl.ren fun g hg => (hF g).1 hg) (h0.bx.ren hρ fun g hg => (hF g).1 hg) (Rs.map (fun p u => ren_R (renF h0.bx.1 hρ) (fun g hg => (hF g).1 hg) 8 p u) hcaps) hum).mono fun e u' W' ⟨v, γ, L1, he, hset, hB1, hn, hnew, htk, hl1, hl2⟩ => ?_
   ·rcases List.mem_append.1 hg with hg | hg
    ·rw [mem_without] at hg
     exact ⟨h0.bx.2.2.1 g hg.1, hg.2⟩
    ·exact ⟨h0.oldW g hg, fun hc => (h0.old g hg).2 (hsub g hc)⟩
   ·subst he
    have hlr : (renS is σ).length = is.length := by simp [renS]
    rw [hlr] at hn htk
    obtain ⟨hi, _⟩ := mergeInv (r := .any) (u := .int .i64 0) h0 hρ rfl (by rw [hlr]; exact Nat.le_refl _) (by rw [R]; trivial) hB1 hn hnew htk hl1 hl2
    obtain ⟨v2, hv2, hR2⟩ := fin L _ _ W' hi rfl
    show LeavesInM Fence.wide 0 P fn a.tmps RR [] (settle u') W'
    rw [hset]
    exact ⟨v2, hv2, hR2⟩
theorem Dfr.near {g : FuncId} {caps : List PV} {s : Nat} (hD : Dfr w0 w1 g caps s) (h : Near { w1 with dfs := [] } W) : Near w0 W := by
 have hw := hD.w
 refine ⟨by rw [<- hw]; exact h.os, by rw [<- hw]; exact h.tape, by rw [<- hw]; exact h.output, by rw [<- hw]; exact h.size, fun k hk hko => ?_, fun k hk => ?_⟩
 ·rw [<- hw]
  refine h.block k (by show k < w1.w.heap.size; rw [hw]; exact hk) fun hc => ?_
  rcases hD.new k hc with h | h
  ·exact hko h
  ·omega
 ·rw [<- hw]; exact h.shape k (by show k < w1.w.heap.size; rw [hw]; exact hk)
def atRet : List It -> Bool
 | [] => true
 | .code .ret :: _ => true
 | _ => false
theorem atRet_wp {ro : Option Nat} {t : List It} {a : Act} {w : World} (h : atRet t = true) (h1 : Q .normal a w) (h2 : Q .ret a w) : wpK P ro Q t .normal a w := by
 unfold atRet at h
 split at h
 ·exact h1
 ·exact wpIn_ret (wpK_ret h2)
 ·cases h
theorem leave_fin {g : FuncId} {caps : List PV} {s : Nat} {is : List Nat} {σ2 : Sig} {u : Option PV} {um : FrameMode} {r r' : PV} {cs : List Prop} (hD : Dfr w0 w1 g caps s) (hI : Inv w1 L β σ fn.ntmps E a W) (hρ : renOk σ is = true) (hil : is.length = σ2.length)
  (hs : SpecD P g (renS is σ) (caps.map (renP (invF is 0) 8)) u σ2) (hum : inMode (renB is β) (without β (renB is β) ++ L) W um u)
  (hr : retP P fn E (mergeS is is.length σ σ2) = some r') (hc : retC P fn E (mergeS is is.length σ σ2) = cs) (hcp : All cs) (e : ∀ L W u, R [] L W r' u -> R [] L W r u) :
  LeavesInM Fence.wide 0 P fn a.tmps (fun e W' => ∃ u, e = .returned u /\ R [] w0.lock W' r u /\ Near w0 W') a.defers um W := by
 refine leave_def hD hI hρ hil hs hum fun L' β' a' W' hi ht => ?_
 obtain ⟨v, hv, hR⟩ := ret_run (P := P) (fn := fn) hi hr (by rw [hc]; exact hcp)
 rw [ht] at hv
 exact ⟨v, hv, v, rfl, by rw [<- hD.lock]; exact e _ _ _ hR, hD.near hi.bel⟩
theorem M.leave {g : FuncId} {caps qs : List PV} {s : Nat} {σ0 σ2 : Sig} {r : PV} (hD : Dfr w0 w1 g caps s) (is : List Nat) (hs : SpecD P g σ0 qs none σ2) (ps cs : List Prop) (r' : PV) (h : (stop P fn.ntmps c).1 = ps) (hp : All ps) (hdr : (stop P fn.ntmps c).2.dr = none) (ht : atRet (stop P fn.ntmps c).2.todo = true)
  (hρ : renOk (stop P fn.ntmps c).2.σ is = true) (hil : is.length = σ2.length) (hσ : renS is (stop P fn.ntmps c).2.σ = σ0) (hq : caps.map (renP (invF is 0) 8) = qs)
  (hr : retP P fn (stop P fn.ntmps c).2.E (mergeS is is.length (stop P fn.ntmps c).2.σ σ2) = some r') (hc : retC P fn (stop P fn.ntmps c).2.E (mergeS is is.length (stop P fn.ntmps c).2.σ σ2) = cs) (hcp : All cs) (e : ∀ L W u, R [] L W r' u -> R [] L W r u) : M P fn w1 L (Qf P fn w0 r) c := by
 refine ⟨run_ok 3000 c (by rw [show (runC P fn.ntmps 3000 c).1 = ps from h]; exact hp) ?_⟩
 show OkF P fn w1 L _ (stop P fn.ntmps c).2
 clear h
 subst hσ; subst hq
 generalize (stop P fn.ntmps c).2 = d at hdr ht hρ hr hc hs
 obtain ⟨E, σ, todo, dr⟩ := d
 simp only at hdr ht hρ hr hc hs
 subst hdr
 intro β a W hI
 have fin : LeavesInM Fence.wide 0 P fn a.tmps (fun e W' => ∃ u, e = .returned u /\ R [] w0.lock W' r u /\ Near w0 W') a.defers .returning W := leave_fin hD hI hρ hil hs rfl hr hc hcp e
 exact atRet_wp ht (fun _ => fin) (fun _ => fin)
theorem OkP.leave {g : FuncId} {caps qs : List PV} {s : Nat} {σ0 σ2 : Sig} {r x x' : PV} (hD : Dfr w0 w1 g caps s) (is : List Nat) (hs : SpecD P g σ0 qs (some x') σ2) (cs : List Prop) (r' : PV) (hρ : renOk σ is = true) (hil : is.length = σ2.length) (hσ : renS is σ = σ0) (hq : caps.map (renP (invF is 0) 8) = qs) (hx : renP (invF is 0) 8 x = x')
  (hr : retP P fn E (mergeS is is.length σ σ2) = some r') (hc : retC P fn E (mergeS is is.length σ σ2) = cs) (hcp : All cs) (e : ∀ L W u, R [] L W r' u -> R [] L W r u) : OkP fn w1 (Qf P fn w0 r) σ E x := by
 subst hσ; subst hq; subst hx
 intro L β a W u hI hu _
 have hsub : ∀ g, some g ∈ renB is β -> some g ∈ β := fun g hg => renB_sub hI.bx.1 hρ hg
 have hF := fb_without (L := L) hsub
 exact leave_fin hD hI hρ hil hs ⟨u, rfl, ren_R (renF hI.bx.1 hρ) (fun g hg => (hF g).1 hg) 8 _ _ hu⟩ hr hc hcp e
theorem M.defer {g : FuncId} {caps : List PV} (s : Nat) (ps : List Prop) (h : viewDf P fn c = some (ps, g, caps)) (hp : All ps) (hst : w0.stay = 0) (hsl : s <= (stop P fn.ntmps c).2.σ.length) (hc : refOk.refOks s caps = true) (hd0 : w0.dfs = []) (hro : w0.ro = none) (hmk : w0.mrk = false) (hgh : w0.gh = ghosts)
  (k : ∀ w1 L1, Dfr w0 w1 g caps s -> M P fn w1 L1 Q (afterDf P fn c)) : M P fn w0 L Q c := ⟨Ok.defer s h hp (by omega) hsl hc hd0 hro hmk hgh fun w1 L1 hD => (k w1 L1 hD).out⟩
theorem Spec.startD {f : FuncId} {args : List PV} {r : PV} {cd : Code} (he : entersP P f = true) (hf : P.funcs[f]? = some fn) (hb : fn.body = some cd) (hn : Nat.ble args.length fn.ntmps = true)
  (k : ∀ w0 L, w0.stay = 0 -> w0.dfs = [] -> w0.ro = none -> w0.mrk = false -> w0.gh = ghosts -> M P fn w0 L (Qf P fn w0 r) (startC args cd)) : Spec P f args r := by
 refine ⟨he, fun L W vs hL hG hR => ?_⟩
 refine (callsIn_wide.1 (callsIn_of_wp_marks (n := 0) (R := fun e W' => ∃ u, e = .returned u /\ R [] L W' r u /\ Near ⟨W, [], 0, L, [], none, ghosts, false⟩ W') hf hb trivial ?_ rfl)).mono fun e W' ⟨u, h1, h2, h3⟩ => ⟨u, h1, h2, h3.plain⟩
 have h := (k ⟨W, [], 0, L, [], none, ghosts, false⟩ L rfl rfl rfl rfl rfl).out [] (startA fn vs.toArray) W ⟨Near.refl _ _ _ _ _ _ _ _, fun g hg => by simp at hg, fun g hg => ⟨hL g hg, by simp⟩, ⟨fun _ h => h, fun g hg => by simp at hg⟩, ⟨rfl, Nat.zero_le _⟩, ⟨rfl, fun i j g c d hi => by simp at hi, fun g hg => by simp at hg, fun i cs hi => by simp [startC] at hi⟩, args_Ev (Nat.le_of_ble_eq_true hn) hR, Nod.nil rfl, Gl.gho hG, fun g hg => .inl hg, fun q hq => hq⟩
 refine wpIn_mono h fun e a w hq => ?_
 have hq' : Qf P fn ⟨W, [], 0, L, [], none, ghosts, false⟩ r e a w := by unfold wpK at hq; exact hq
 exact hq' rfl
theorem M.dend {σ' : Sig} (ps : List Prop) (h : (stop P fn.ntmps c).1 = ps) (hp : All ps) (hdr : (stop P fn.ntmps c).2.dr = none) (ht : atRet (stop P fn.ntmps c).2.todo = true) (ρ : List Nat) {n : Nat} (hst : w0.stay = n) (hm : ρ.take n = List.range n) (hρ : renOk (stop P fn.ntmps c).2.σ ρ = true) (hσ : renS ρ (stop P fn.ntmps c).2.σ = σ') (hres : fn.results.toList = []) : M P fn w0 L (Qd P fn w0 σ') c := by
 refine ⟨run_ok 3000 c (by rw [show (runC P fn.ntmps 3000 c).1 = ps from h]; exact hp) ?_⟩
 show OkF P fn w0 L _ (stop P fn.ntmps c).2
 clear h
 subst hσ; subst hst
 generalize (stop P fn.ntmps c).2 = d at hdr ht hρ
 obtain ⟨E, σ, todo, dr⟩ := d
 simp only at hdr ht hρ
 subst hdr
 intro β a W hI
 have hre : fn.results = #[] := Array.toList_eq_nil_iff.1 hres
 have hv : ∃ v, (results fn a.tmps).run P W = .ok v W := ⟨.tuple #[], by rw [results_eq, hre]; simp [Sem.run_bind, Sem.run_pure, Result.andThen]⟩
 exact atRet_wp ht ⟨hv, _, _, (hI.ren hρ hm).bare⟩ ⟨hv, _, _, (hI.ren hρ hm).bare⟩
end
section
variable {w0 : W0} {L : List Nat} {P : Program} {Q : Exit -> Act -> World -> Prop} {fn : Func} {c : Cfg}
theorem Spec.startR {f : FuncId} {args : List PV} {r : PV} {cd : Code} (he : entersP P f = true) (hf : P.funcs[f]? = some fn) (hb : fn.body = some cd) (hn : Nat.ble args.length fn.ntmps = true)
  (k : ∀ w0 L, w0.stay = 0 -> w0.ro = none -> w0.mrk = true -> M P fn w0 L (Qf P fn w0 r) (startC args cd)) : Spec P f args r := by
 refine ⟨he, fun L W vs hL hG hR => ?_⟩
 refine (callsIn_wide.1 (callsIn_of_wp_marks (n := 0) (R := fun e W' => ∃ u, e = .returned u /\ R [] L W' r u /\ Near ⟨W, [], 0, L, [], none, ghosts, true⟩ W') hf hb trivial ?_ rfl)).mono fun e W' ⟨u, h1, h2, h3⟩ => ⟨u, h1, h2, h3.plain⟩
 have h := (k ⟨W, [], 0, L, [], none, ghosts, true⟩ L rfl rfl rfl).out [] (startA fn vs.toArray) W ⟨Near.refl _ _ _ _ _ _ _ _, fun g hg => by simp at hg, fun g hg => ⟨hL g hg, by simp⟩, ⟨fun _ h => h, fun g hg => by simp at hg⟩, ⟨rfl, Nat.zero_le _⟩, ⟨rfl, fun i j g c d hi => by simp at hi, fun g hg => by simp at hg, fun i cs hi => by simp [startC] at hi⟩, args_Ev (Nat.le_of_ble_eq_true hn) hR, Nod.nil rfl, Gl.gho hG, fun g hg => .inl hg, fun q hq => hq⟩
 refine wpIn_mono h fun e a w hq => ?_
 have hq' : Qf P fn ⟨W, [], 0, L, [], none, ghosts, true⟩ r e a w := by unfold wpK at hq; exact hq
 exact hq' rfl
theorem SpecM.startR {f : FuncId} {m : Nat} {σ σ' : Sig} {args : List PV} {r : PV} {c : Code} (he : entersP P f = true) (hf : P.funcs[f]? = some fn) (hb : fn.body = some c) (hn : Nat.ble args.length fn.ntmps = true) (hm : m <= σ.length)
  (k : ∀ w0 L, w0.stay = m -> w0.ro = none -> w0.mrk = true -> M P fn w0 L (Qm P fn w0 σ' r) (startM args σ c)) : SpecM P f m σ args σ' r := by
 refine ⟨he, hm, fun L β W vs hL hG hB hR => ?_⟩
 refine callsIn_wide.1 (callsIn_of_wp_marks (n := 0) hf hb trivial ?_ rfl)
 have h := (k ⟨W, β, m, L, [], none, ghosts, true⟩ L rfl rfl rfl).out β (startA fn vs.toArray) W ⟨Near.refl _ _ _ _ _ _ _ _, fun g hg => .inl hg, hL, ⟨fun _ h => h, fun g hg => .inl hg⟩, ⟨rfl, by rw [hB.1]; exact hm⟩, hB, args_Ev (Nat.le_of_ble_eq_true hn) hR, Nod.nil rfl, Gl.gho hG, fun g hg => .inl hg, fun q hq => hq⟩
 refine wpIn_mono h fun e a w hq => ?_
 have hq' : Qm P fn ⟨W, β, m, L, [], none, ghosts, true⟩ σ' r e a w := by unfold wpK at hq; exact hq
 exact hq' rfl
def rgG : List It -> Operand
 | .code (.rangeFunc g _ _ _) :: _ => g
 | _ => .const undef
def rgP : List It -> Array Tmp
 | .code (.rangeFunc _ p _ _) :: _ => p
 | _ => #[]
def rgA : List It -> Code
 | .code (.rangeFunc _ _ a _) :: _ => a
 | _ => .skip
def rgB : List It -> Code
 | .code (.rangeFunc _ _ _ b) :: _ => b
 | _ => .skip
def rgK : List It -> List It
 | .code (.rangeFunc _ _ _ _) :: k => k
 | k => k
def isRg : List It -> Bool
 | .code (.rangeFunc _ _ _ _) :: _ => true
 | _ => false
theorem isRg_eq {t : List It} (h : isRg t = true) : t = .code (.rangeFunc (rgG t) (rgP t) (rgA t) (rgB t)) :: rgK t := by
 unfold isRg at h
 split at h
 ·rfl
 ·cases h
theorem M.rangeF {ι ζ : Type} (S : ι -> Sig) (pos : ι -> Nat) (x0 : ι) (T : ζ -> Sig) (jump : ζ -> Code) (E' : Env) (s : Nat) {gf : FuncId} {caps : List PV} {n : Nat} {xs : Nat -> List PV} {fin : Option PV} (hI : Iter P gf caps n xs fin)
  (ps : List Prop) (E1 : ι -> Env) (S1 : ι -> Sig) (hp : All ps) (h0 : pos x0 = 0) (hst : w0.stay <= s) (hro : w0.ro = none) (hmk : w0.mrk = true) (hfl : ∀ x, fin = some x -> flatP x = true)
  (h : (stop P fn.ntmps c).1 = ps) (hdr : (stop P fn.ntmps c).2.dr = none) (ht : isRg (stop P fn.ntmps c).2.todo = true)
  (hg : evA (stop P fn.ntmps c).2.E (rgG (stop P fn.ntmps c).2.todo) = .fn gf caps) (hgc : noRef.noRefs caps = true)
  (hE : keepE (E'.map (·.1)) (stop P fn.ntmps c).2.E = E') (hS : (stop P fn.ntmps c).2.σ = S x0)
  (hs : E'.all (fun q => refOk s q.2) = true) (hlS : ∀ x, Nat.ble s (S x).length = true)
  (hxs : ∀ i, (xs i).length = (rgP (stop P fn.ntmps c).2.todo).size) (hpt : (rgP (stop P fn.ntmps c).2.todo).toList.all (fun t => decide (t < fn.ntmps)) = true)
  (hasg : ∀ x, asgC P fn E' (rgP (stop P fn.ntmps c).2.todo) (xs (pos x)) (S x) (rgA (stop P fn.ntmps c).2.todo) = ([], ⟨E1 x, S1 x, [], none⟩))
  (round : ∀ x w1 L1, pos x < n -> w1.stay = s -> M P fn w1 L1 (Qr fn.ntmps S (fun y => pos y = pos x + 1) T jump w1) ⟨E1 x, S1 x, [.code (rgB (stop P fn.ntmps c).2.todo)], none⟩)
  (done : ∀ x L', fin = none -> pos x = n -> M P fn w0 L' Q ⟨E', S x, rgK (stop P fn.ntmps c).2.todo, none⟩) (pan : ∀ x v, fin = some v -> pos x = n -> OkP fn w0 Q (S x) E' v) (out : ∀ z L', M P fn w0 L' Q ⟨E', T z, .code (jump z) :: rgK (stop P fn.ntmps c).2.todo, none⟩) : M P fn w0 L Q c :=
 M.range S pos x0 T jump E' s hI ps E1 S1 h hp hdr (isRg_eq ht) hg hgc hE hS h0 hs hst hro hmk (Nat.le_of_ble_eq_true (hlS x0)) hfl hxs hpt (fun x _ => hasg x) round done pan out
end
abbrev B (b : UInt8) : PV := .v (.int .u8 b.toNat)
abbrev brow (l : List UInt8) : PV := row 1 (fun b => [B b]) l
theorem brow_eq (l : List UInt8) : PV.sl 1 l.length (bytesEl ⟨l.toArray⟩) = brow l := by
 have : bytesEl ⟨l.toArray⟩ = fun j => [B (l.getD j default)] := by
  funext j
  show [PV.v (.int .u8 (l.getD j 0).toNat)] = _
  rfl
 rw [this]
theorem ixByte_spec (l : List UInt8) (b : UInt8) : Spec Tryz.prog 270 [S l, B b] (I (Lib.indexByte l b)) := by
 refine ⟨by kernel_rfl, fun L W vs hL hG hR => ?_⟩
 obtain ⟨u, us, rfl, h1, hR1⟩ := hR.uncons
 obtain ⟨u2, us, rfl, h2, hR2⟩ := hR1.uncons
 rw [Rs] at hR2
 rw [R] at h1 h2
 subst h1; subst h2; subst hR2
 refine (Tryz.strings_IndexByte ⟨l.toArray⟩ b.toNat W).mono fun e w' ⟨he, hw⟩ => ?_
 subst hw
 refine ⟨_, he, ?_, Below.refl _ _⟩
 rw [R]
 simp
def smallL (b : UInt8) : Bool := (bif decide ((↑b.toNat : Int) >= 97) then decide ((↑b.toNat : Int) <= 122) else false)
theorem smallL_spec' (b : UInt8) (r : Bool) (hq : smallL b = r) : Spec Tryz.prog 291 [B b] (.sb r) := by
 unfold smallL at hq
 refine Spec.startL (by kernel_rfl) Tryz.func291 rfl rfl fun w0 L hst => ?_
 refine M.tq hq (fun h1 q2 => ?_) (fun h1 q2 => ?_)
 ·exact M.rq q2
 ·exact M.rq q2
theorem smallL_spec (b : UInt8) : Spec Tryz.prog 291 [B b] (.sb (smallL b)) := smallL_spec' b _ rfl
def largeL (b : UInt8) : Bool := (bif decide ((↑b.toNat : Int) >= 65) then decide ((↑b.toNat : Int) <= 90) else false)
theorem largeL_spec' (b : UInt8) (r : Bool) (hq : largeL b = r) : Spec Tryz.prog 292 [B b] (.sb r) := by
 unfold largeL at hq
 refine Spec.startL (by kernel_rfl) Tryz.func292 rfl rfl fun w0 L hst => ?_
 refine M.tq hq (fun h1 q2 => ?_) (fun h1 q2 => ?_)
 ·exact M.rq q2
 ·exact M.rq q2
theorem largeL_spec (b : UInt8) : Spec Tryz.prog 292 [B b] (.sb (largeL b)) := largeL_spec' b _ rfl
def digitL (b : UInt8) : Bool := (bif decide ((↑b.toNat : Int) >= 48) then decide ((↑b.toNat : Int) <= 57) else false)
theorem digitL_spec' (b : UInt8) (r : Bool) (hq : digitL b = r) : Spec Tryz.prog 258 [B b] (.sb r) := by
 unfold digitL at hq
 refine Spec.startL (by kernel_rfl) Tryz.func258 rfl rfl fun w0 L hst => ?_
 refine M.tq hq (fun h1 q2 => ?_) (fun h1 q2 => ?_)
 ·exact M.rq q2
 ·exact M.rq q2
theorem digitL_spec (b : UInt8) : Spec Tryz.prog 258 [B b] (.sb (digitL b)) := digitL_spec' b _ rfl
def blankL (b : UInt8) : Bool := (bif (↑b.toNat : Int) == 32 then true else (bif (↑b.toNat : Int) == 9 then true else (↑b.toNat : Int) == 10))
theorem blankL_spec' (b : UInt8) (r : Bool) (hq : blankL b = r) : Spec Tryz.prog 269 [B b] (.sb r) := by
 unfold blankL at hq
 refine Spec.startL (by kernel_rfl) Tryz.func269 rfl rfl fun w0 L hst => ?_
 refine M.tq hq (fun h1 q2 => ?_) (fun h1 q2 => ?_)
 ·exact M.rq q2
 ·refine M.tq q2 (fun h3 q4 => ?_) (fun h3 q4 => ?_)
  ·exact M.rq q4
  ·exact M.rq q4
theorem blankL_spec (b : UInt8) : Spec Tryz.prog 269 [B b] (.sb (blankL b)) := blankL_spec' b _ rfl
def underL (b : UInt8) : Bool := (↑b.toNat : Int) == 95
theorem underL_spec' (b : UInt8) (r : Bool) (hq : underL b = r) : Spec Tryz.prog 256 [B b] (.sb r) := by
 unfold underL at hq
 refine Spec.startL (by kernel_rfl) Tryz.func256 rfl rfl fun w0 L hst => ?_
 exact M.rq hq
theorem underL_spec (b : UInt8) : Spec Tryz.prog 256 [B b] (.sb (underL b)) := underL_spec' b _ rfl
def quoteL (b : UInt8) : Bool := (↑b.toNat : Int) == 39
theorem quoteL_spec' (b : UInt8) (r : Bool) (hq : quoteL b = r) : Spec Tryz.prog 260 [B b] (.sb r) := by
 unfold quoteL at hq
 refine Spec.startL (by kernel_rfl) Tryz.func260 rfl rfl fun w0 L hst => ?_
 exact M.rq hq
theorem quoteL_spec (b : UInt8) : Spec Tryz.prog 260 [B b] (.sb (quoteL b)) := quoteL_spec' b _ rfl
def insideL (b : UInt8) : Bool := (bif decide ((↑b.toNat : Int) >= 32) then (bif decide ((↑b.toNat : Int) <= 126) then (↑b.toNat : Int) != 39 else false) else false)
theorem insideL_spec' (b : UInt8) (r : Bool) (hq : insideL b = r) : Spec Tryz.prog 295 [B b] (.sb r) := by
 unfold insideL at hq
 refine Spec.startL (by kernel_rfl) Tryz.func295 rfl rfl fun w0 L hst => ?_
 refine M.tq hq (fun h1 q2 => ?_) (fun h1 q2 => ?_)
 ·refine M.tq q2 (fun h3 q4 => ?_) (fun h3 q4 => ?_)
  ·exact M.rq q4
  ·exact M.rq q4
 ·exact M.rq q2
theorem insideL_spec (b : UInt8) : Spec Tryz.prog 295 [B b] (.sb (insideL b)) := insideL_spec' b _ rfl
end Go.Proofs.YtcknpohghmkbmaaGreatDoor
namespace Go.Proofs.YtcknpohghmkbmaaGreatDoor
def runF (p : UInt8 -> Bool) : List UInt8 -> Nat
 | [] => 0
 | b :: l => if p b then runF p l + 1 else 0
def nxt (l : List UInt8) (n : Nat) : UInt8 := l.getD n 0
def letterL (b : UInt8) : Bool := bif smallL b then true else largeL b
theorem letterL_spec (b : UInt8) : Spec Tryz.prog 254 [B b] (.sb (letterL b)) := by
 refine Spec.startL (by kernel_rfl) Tryz.func254 rfl rfl fun w0 L hst => ?_
 refine M.cl (smallL_spec b) ?_
 refine M.tq (r := letterL b) rfl (fun h1 q2 => ?_) (fun h1 q2 => ?_)
 ·exact M.rq q2
 ·refine M.cl (largeL_spec b) ?_
  exact M.rq q2
def wordL (b : UInt8) : Bool := bif letterL b then true else digitL b
theorem wordL_spec (b : UInt8) : Spec Tryz.prog 293 [B b] (.sb (wordL b)) := by
 refine Spec.startL (by kernel_rfl) Tryz.func293 rfl rfl fun w0 L hst => ?_
 refine M.cl (letterL_spec b) ?_
 refine M.tq (r := wordL b) rfl (fun h1 q2 => ?_) (fun h1 q2 => ?_)
 ·exact M.rq q2
 ·refine M.cl (digitL_spec b) ?_
  exact M.rq q2
def opL (b : UInt8) : Bool := decide (Lib.indexByte [43, 45, 42, 47, 37, 60, 62, 61, 126, 38, 64, 33, 63] b >= 0)
theorem opL_spec (b : UInt8) : Spec Tryz.prog 262 [B b] (.sb (opL b)) := by
 refine Spec.startL (by kernel_rfl) Tryz.func262 rfl rfl fun w0 L hst => ?_
 refine M.cl (ixByte_spec [43, 45, 42, 47, 37, 60, 62, 61, 126, 38, 64, 33, 63] b) ?_
 exact M.rq (r := opL b) rfl
def signL (b : UInt8) : Bool := decide (Lib.indexByte [40, 41, 91, 93, 124, 46, 94, 58, 59] b >= 0)
theorem signL_spec (b : UInt8) : Spec Tryz.prog 264 [B b] (.sb (signL b)) := by
 refine Spec.startL (by kernel_rfl) Tryz.func264 rfl rfl fun w0 L hst => ?_
 refine M.cl (ixByte_spec [40, 41, 91, 93, 124, 46, 94, 58, 59] b) ?_
 exact M.rq (r := signL b) rfl
theorem runF_le (p : UInt8 -> Bool) : ∀ l, runF p l <= l.length
 | [] => Nat.le_refl _
 | b :: l => by unfold runF; split; exact Nat.succ_le_succ (runF_le p l); exact Nat.zero_le _
theorem runF_at (p : UInt8 -> Bool) : ∀ (l : List UInt8) (i : Nat), i <= runF p l -> i < l.length -> (i = runF p l ↔ p (l.getD i 0) = false)
 | [], i, _, h => by simp at h
 | b :: l, 0, _, _ => by
  unfold runF
  cases hb : p b with
  | true => simp [hb]
  | false => simp [hb]
 | b :: l, i + 1, h1, h2 => by
  unfold runF at h1 ⊢
  cases hb : p b with
  | false => rw [hb] at h1; simp at h1
  | true =>
   rw [hb] at h1
   simp only [if_true] at h1 ⊢
   rw [show (b :: l).getD (i + 1) 0 = l.getD i 0 by rfl]
   rw [<- runF_at p l i (by omega) (by simpa using h2)]
   omega
theorem run_spec (l : List UInt8) (g : Nat) (p : UInt8 -> Bool) (hl : l.length <= 9223372036854775807) (hg : ∀ b, Spec Tryz.prog g [B b] (.sb (p b))) : Spec Tryz.prog 267 [brow l, .fn g []] (I (runF p l)) := by
 refine Spec.startL (by kernel_rfl) Tryz.func267 rfl rfl fun w0 L hst => ?_
 refine M.loop (ι := {i : Nat // i <= runF p l}) (fun i => [(0, brow l), (1, .fn g []), (5, I i.1)]) (fun _ => []) (fun i => runF p l - i.1) ⟨0, Nat.zero_le _⟩ [] (by kernel_rfl) trivial (by kernel_rfl) (by kernel_rfl) fun ⟨i, hi⟩ ih => ?_
 have hr := runF_le p l
 refine M.test (decide ((i : Int) < (l.length : Int))) (by kernel_rfl) (fun h1 => ?_) (fun h1 => ?_)
 ·have hlt : i < l.length := by have := of_decide_eq_true h1; omega
  refine M.callp [0 <= (i : Int) /\ (i : Int) < (l.length : Int)] (hg (l.getD (i : Int).toNat default)) (by kernel_rfl) ⟨by omega, trivial⟩ (by kernel_rfl) ?_
  refine M.test (p (l.getD (i : Int).toNat default)) (by kernel_rfl) (fun h2 => ?_) (fun h2 => ?_)
  ·have hne : i ≠ runF p l := fun e => by
    have h3 := (runF_at p l i hi hlt).1 e
    have h4 : p (l.getD i 0) = true := h2
    rw [h3] at h4; cases h4
   exact M.back [In64 ((i : Int) + 1)] (ih ⟨i + 1, by omega⟩ (by show runF p l - (i + 1) < runF p l - i; omega)) (by kernel_rfl) ⟨⟨by omega, by omega⟩, trivial⟩ (by kernel_rfl) (by kernel_rfl) (by kernel_rfl) (by kernel_rfl)
  ·have := (runF_at p l i hi hlt).2 h2
   exact M.ret (I i) (by kernel_rfl) (by rw [<- this])
 ·have := of_decide_eq_false h1
  exact M.ret (I i) (by kernel_rfl) (by rw [show i = runF p l by omega])
structure Rd where
 pos : Nat
 line : Nat
 col : Nat
 name : Nat
 deriving DecidableEq, Inhabited
abbrev sub (t : List UInt8) (a b : Int) : List UInt8 := (t.drop a.toNat).take (b.toNat - a.toNat)
abbrev rd (t : List UInt8) (r : Rd) : List PV := [I r.pos, I r.line, I r.col, S t, I r.name]
structure Rd.Ok (t : List UInt8) (r : Rd) : Prop where
 pos : r.pos <= t.length
 line : r.line <= r.pos + 1
 col : r.col <= r.pos + 1
 len : t.length <= 1000000
theorem rest_spec {t : List UInt8} {r : Rd} (h : r.Ok t) : SpecM Tryz.prog 268 1 [rd t r] [.ref 0 0] [rd t r] (brow (t.drop r.pos)) := by
 have h1 := h.pos
 have h2 := h.len
 have e : sub t r.pos t.length = t.drop r.pos := by
  unfold sub
  rw [List.take_of_length_le]
  ·rfl
  ·simp only [List.length_drop]; omega
 refine SpecM.start (by kernel_rfl) Tryz.func268 rfl rfl (Nat.le_refl _) fun w0 L hst => ?_
 refine M.retm (σ1 := [rd t r]) (r' := .sl 1 (sub t r.pos t.length).length (bytesEl ⟨(sub t r.pos t.length).toArray⟩)) [0 <= (r.pos : Int) /\ (r.pos : Int) <= t.length /\ (t.length : Int) <= t.length, (sub t r.pos t.length).length <= 9223372036854775807] [0] hst rfl (by kernel_rfl) ⟨by omega, by rw [e, List.length_drop]; omega, trivial⟩ rfl ?_
 rw [e]
 exact brow_eq _
theorem next_spec {t : List UInt8} {r : Rd} (h : r.Ok t) (n : Nat) (hn : n <= 1000000) : Spec Tryz.prog 232 [.ptr (rd t r), I n] (B (nxt (t.drop r.pos) n)) := by
 have h1 := h.pos
 have h2 := h.len
 refine Spec.start (by kernel_rfl) Tryz.func232 rfl rfl fun w0 L => ?_
 refine M.testp [In64 ((r.pos : Int) + n)] (decide ((r.pos : Int) + n >= t.length)) (by kernel_rfl) ⟨⟨by omega, by omega⟩, trivial⟩ (fun h3 => ?_) (fun h3 => ?_)
 ·have h3 := of_decide_eq_true h3
  refine M.ret (B 0) (by kernel_rfl) ?_
  have : nxt (t.drop r.pos) n = 0 := by
   unfold nxt
   rw [List.getD_eq_getElem?_getD, List.getElem?_eq_none (by simp; omega)]
   rfl
  rw [this]
 ·have h3 := of_decide_eq_false h3
  refine M.retp [In64 ((r.pos : Int) + n), 0 <= (r.pos : Int) + n /\ (r.pos : Int) + n < t.length] (B (t.getD ((r.pos : Int) + n).toNat 0)) (by kernel_rfl) ⟨⟨by omega, by omega⟩, by omega, trivial⟩ ?_
  have : nxt (t.drop r.pos) n = t.getD ((r.pos : Int) + n).toNat 0 := by
   unfold nxt
   rw [List.getD_eq_getElem?_getD, List.getD_eq_getElem?_getD, List.getElem?_drop]
   rfl
  rw [this]
def colL (l : List UInt8) (n : Nat) : Nat := bif ((nxt l n).toNat : Int) == 58 then 1 else 0
theorem colon_spec {t : List UInt8} {r : Rd} (h : r.Ok t) (n : Nat) (hn : n <= 1000000) : Spec Tryz.prog 294 [.ptr (rd t r), I n] (I (colL (t.drop r.pos) n)) := by
 refine Spec.start (by kernel_rfl) Tryz.func294 rfl rfl fun w0 L => ?_
 refine M.cl (next_spec h n hn) ?_
 refine M.tq (r := colL (t.drop r.pos) n) rfl (fun h1 q2 => ?_) (fun h1 q2 => ?_)
 ·exact M.rq (enc := fun n : Nat => I n) q2
 ·exact M.rq (enc := fun n : Nat => I n) q2
def adv (p : Nat × Nat) (b : UInt8) : Nat × Nat := if ((b.toNat : Int) == 10) = true then (p.1 + 1, 1) else (p.1, p.2 + 1)
def advs (p : Nat × Nat) (l : List UInt8) : Nat × Nat := l.foldl adv p
theorem adv_le (p : Nat × Nat) (b : UInt8) : (adv p b).1 <= p.1 + 1 /\ (adv p b).2 <= p.2 + 1 := by
 unfold adv; split
 ·exact ⟨Nat.le_refl _, by simp⟩
 ·exact ⟨Nat.le_succ _, Nat.le_refl _⟩
theorem advs_le : ∀ (l : List UInt8) (p : Nat × Nat), (advs p l).1 <= p.1 + l.length /\ (advs p l).2 <= p.2 + l.length
 | [], p => ⟨Nat.le_refl _, Nat.le_refl _⟩
 | b :: l, p => by
  have h := advs_le l (adv p b)
  have h2 := adv_le p b
  unfold advs at h ⊢
  simp only [List.foldl_cons, List.length_cons] at h ⊢
  omega
theorem advs_take (l : List UInt8) (p : Nat × Nat) {i : Nat} (h : i < l.length) : advs p (l.take (i + 1)) = adv (advs p (l.take i)) (l.getD i 0) := by
 unfold advs
 rw [List.take_succ_eq_append_getElem h, List.foldl_append, List.getD_eq_getElem?_getD, List.getElem?_eq_getElem h]
 rfl
def Rd.fwd (t : List UInt8) (r : Rd) (n : Nat) : Rd := ⟨r.pos + n, (advs (r.line, r.col) ((t.drop r.pos).take n)).1, (advs (r.line, r.col) ((t.drop r.pos).take n)).2, r.name⟩
theorem Rd.Ok.fwd {t : List UInt8} {r : Rd} (h : r.Ok t) {n : Nat} (hn : r.pos + n <= t.length) : (r.fwd t n).Ok t := by
 have := advs_le ((t.drop r.pos).take n) (r.line, r.col)
 have hl : ((t.drop r.pos).take n).length = n := by simp; omega
 rw [hl] at this
 exact ⟨hn, by have := h.line; show (advs _ _).1 <= r.pos + n + 1; omega, by have := h.col; show (advs _ _).2 <= r.pos + n + 1; omega, h.len⟩
theorem forward_spec {t : List UInt8} {r : Rd} (h : r.Ok t) (n : Nat) (hn : r.pos + n <= t.length) : SpecM Tryz.prog 266 1 [rd t r] [.ref 0 0, I n] [rd t (r.fwd t n)] (S ((t.drop r.pos).take n)) := by
 have h1 := h.line
 have h2 := h.col
 have h3 := h.len
 have hl : ((t.drop r.pos).take n).length = n := by simp; omega
 have e : sub t r.pos ((r.pos : Int) + n) = (t.drop r.pos).take n := by
  unfold sub
  rw [show ((r.pos : Int) + n).toNat - (r.pos : Int).toNat = n by omega]; rfl
 have ha := advs_le ((t.drop r.pos).take n) (r.line, r.col)
 refine SpecM.start (by kernel_rfl) Tryz.func266 rfl rfl (Nat.le_refl _) fun w0 L hst => ?_
 rw [<- e] at hl ha ⊢
 unfold Rd.fwd
 rw [<- e]
 clear e
 refine M.loopL (ι := {i : Nat // i <= n}) (fun i => [(0, .ref 0 0), (1, I n), (5, S (sub t r.pos ((r.pos : Int) + n))), (26, .sl 1 (sub t r.pos ((r.pos : Int) + n)).length (bytesEl ⟨(sub t r.pos ((r.pos : Int) + n)).toArray⟩)), (27, I (sub t r.pos ((r.pos : Int) + n)).length), (28, I i.1)]) (fun i => [[I r.pos, I (advs (r.line, r.col) ((sub t r.pos ((r.pos : Int) + n)).take i.1)).1, I (advs (r.line, r.col) ((sub t r.pos ((r.pos : Int) + n)).take i.1)).2, S t, I r.name]]) (fun i => n - i.1) ⟨0, Nat.zero_le _⟩
  [In64 ((r.pos : Int) + n), 0 <= (r.pos : Int) /\ (r.pos : Int) <= (r.pos : Int) + n /\ (r.pos : Int) + n <= t.length, (sub t r.pos ((r.pos : Int) + n)).length <= 9223372036854775807] (by kernel_rfl)
  ⟨⟨by omega, by omega⟩, by omega, by omega, trivial⟩ (by kernel_rfl) (by kernel_rfl) fun ⟨i, hi⟩ L ih => ?_
 generalize sub t r.pos ((r.pos : Int) + n) = s at hl ih ha ⊢
 refine M.test (decide ((i : Int) < (s.length : Int))) (by kernel_rfl) (fun h4 => ?_) (fun h4 => ?_)
 ·have hlt : i < s.length := by have := of_decide_eq_true h4; omega
  have hb := advs_le (s.take i) (r.line, r.col)
  have hn := advs_take s (r.line, r.col) hlt
  simp only [List.length_take] at hb
  refine M.testp [0 <= (i : Int) /\ (i : Int) < (s.length : Int), In64 (((advs (r.line, r.col) (s.take i)).2 : Int) + 1)] (((s.getD (i : Int).toNat 0).toNat : Int) == 10) (by kernel_rfl) ⟨by omega, ⟨by omega, by omega⟩, trivial⟩ (fun h5 => ?_) (fun h5 => ?_)
  ·have hd : advs (r.line, r.col) (s.take (i + 1)) = ((advs (r.line, r.col) (s.take i)).1 + 1, 1) := by
    rw [hn]; unfold adv; exact if_pos h5
   have ihn := ih ⟨i + 1, by omega⟩ L (by show n - (i + 1) < n - i; omega)
   dsimp only at ihn
   rw [hd] at ihn
   exact M.back [In64 (((advs (r.line, r.col) (s.take i)).1 : Int) + 1), In64 ((i : Int) + 1)] ihn (by kernel_rfl) ⟨⟨by omega, by omega⟩, ⟨by omega, by omega⟩, trivial⟩ (by kernel_rfl) (by kernel_rfl) (by kernel_rfl) (by kernel_rfl)
  ·have hd : advs (r.line, r.col) (s.take (i + 1)) = ((advs (r.line, r.col) (s.take i)).1, (advs (r.line, r.col) (s.take i)).2 + 1) := by
    rw [hn]; unfold adv; exact if_neg (fun h => by have h5' : (((s.getD i 0).toNat : Int) == 10) = false := h5; rw [h5'] at h; cases h)
   have ihn := ih ⟨i + 1, by omega⟩ L (by show n - (i + 1) < n - i; omega)
   dsimp only at ihn
   rw [hd] at ihn
   exact M.back [In64 ((i : Int) + 1)] ihn (by kernel_rfl) ⟨⟨by omega, by omega⟩, trivial⟩ (by kernel_rfl) (by kernel_rfl) (by kernel_rfl) (by kernel_rfl)
 ·have h4 := of_decide_eq_false h4
  have hi : i = n := by omega
  subst hi
  rw [List.take_of_length_le (show s.length <= i by omega)]
  exact M.retm [In64 ((r.pos : Int) + i)] [0] hst rfl (by kernel_rfl) ⟨⟨by omega, by omega⟩, trivial⟩ rfl rfl
abbrev stopV (e : Int) (p : Nat) : PV := .v (.iface 253 (.agg #[.int .i64 e, .int .i64 p]))
theorem need_t (e : Int) (p : Nat) : Spec Tryz.prog 227 [.v (.bool true), I e, I p] (.tup []) := by
 refine Spec.start (by kernel_rfl) Tryz.func227 rfl rfl fun w0 L => ?_
 exact M.ret (.tup []) (by kernel_rfl) rfl
theorem need_s {b : Bool} (hb : b = true) (e : Int) (p : Nat) : Spec Tryz.prog 227 [.sb b, I e, I p] (.tup []) := by
 refine Spec.start (by kernel_rfl) Tryz.func227 rfl rfl fun w0 L => ?_
 refine M.no (b := !b) (by rw [hb]; rfl) (by kernel_rfl) ?_
 exact M.ret (.tup []) (by kernel_rfl) rfl
theorem needP_f (e : Int) (p : Nat) : SpecP Tryz.prog 227 0 [] [.v (.bool false), I e, I p] [] (stopV e p) := by
 refine SpecP.start (by kernel_rfl) Tryz.func227 rfl rfl (Nat.le_refl _) fun w0 L hst => ?_
 exact M.pan (x := stopV e p) [] (by kernel_rfl) trivial (OkP.done [] hst rfl (by kernel_rfl) (by kernel_rfl) (by kernel_rfl))
theorem needP_s {b : Bool} (hb : b = false) (e : Int) (p : Nat) : SpecP Tryz.prog 227 0 [] [.sb b, I e, I p] [] (stopV e p) := by
 refine SpecP.start (by kernel_rfl) Tryz.func227 rfl rfl (Nat.le_refl _) fun w0 L hst => ?_
 refine M.yes (b := !b) (by rw [hb]; rfl) (by kernel_rfl) ?_
 exact M.pan (x := stopV e p) [] (by kernel_rfl) trivial (OkP.done [] hst rfl (by kernel_rfl) (by kernel_rfl) (by kernel_rfl))
theorem Rd.Ok.rest {t : List UInt8} {r : Rd} (h : r.Ok t) : (t.drop r.pos).length <= 9223372036854775807 := by
 have := h.len; rw [List.length_drop]; omega
theorem Rd.Ok.run {t : List UInt8} {r : Rd} (h : r.Ok t) (p : UInt8 -> Bool) : r.pos + runF p (t.drop r.pos) <= t.length /\ runF p (t.drop r.pos) <= 1000000 := by
 have h1 := h.len; have h2 := runF_le p (t.drop r.pos); have h3 := h.pos; rw [List.length_drop] at h2; omega
theorem colL_le (l : List UInt8) (n : Nat) : colL l n = 0 \/ (colL l n = 1 /\ n < l.length) := by
 unfold colL
 cases h : ((nxt l n).toNat : Int) == 58 with
 | false => exact .inl rfl
 | true =>
  refine .inr ⟨rfl, ?_⟩
  rcases Nat.lt_or_ge n l.length with h1 | h1
  ·exact h1
  ·unfold nxt at h; rw [List.getD_eq_getElem?_getD, List.getElem?_eq_none h1] at h; cases h
theorem Rd.Ok.colOk {t : List UInt8} {r : Rd} (h : r.Ok t) {n : Nat} (hn : r.pos + n <= t.length) : r.pos + (n + colL (t.drop r.pos) n) <= t.length /\ colL (t.drop r.pos) n <= 1 := by
 have h1 := h.pos; have h2 := colL_le (t.drop r.pos) n; rw [List.length_drop] at h2; omega
def wordN (l : List UInt8) : Nat := runF wordL l
def wordC (l : List UInt8) : Nat := colL l (wordN l)
def wordOk (l : List UInt8) : Bool := bif decide ((wordN l : Int) <= 24) then (bif smallL (nxt l 0) then true else (wordC l : Int) == 1) else false
def wordK (l : List UInt8) : Int := bif largeL (nxt l 0) then 3 else 1 + wordC l
def wordR (t : List UInt8) (r : Rd) : Rd := bif wordK (t.drop r.pos) == 1 then { r.fwd t (wordN (t.drop r.pos) + wordC (t.drop r.pos)) with name := r.pos + (wordN (t.drop r.pos) + wordC (t.drop r.pos)) } else r.fwd t (wordN (t.drop r.pos) + wordC (t.drop r.pos))
theorem word_no {t : List UInt8} {r : Rd} (h : r.Ok t) (hq : wordOk (t.drop r.pos) = false) : SpecP Tryz.prog 255 1 [rd t r] [.ref 0 0] [rd t r] (stopV 12 r.pos) := by
 refine SpecP.start (by kernel_rfl) Tryz.func255 rfl rfl (Nat.le_refl _) fun w0 L hst => ?_
 have hw := h.run wordL
 refine M.callm [0] (rest_spec h) (by kernel_rfl) ?_
 refine M.cl (run_spec (t.drop r.pos) 293 wordL h.rest wordL_spec) ?_
 refine M.cl (colon_spec h (wordN (t.drop r.pos)) hw.2) ?_
 refine M.tq hq (fun h1 q2 => ?_) (fun h1 q2 => ?_)
 ·refine M.cl (next_spec h 0 (Nat.zero_le _)) ?_
  refine M.cl (smallL_spec (nxt (t.drop r.pos) 0)) ?_
  refine M.tq q2 (fun h3 q4 => ?_) (fun h3 q4 => ?_)
  ·cases q4
  ·exact M.callP [] [] (needP_s q4 12 r.pos) (by kernel_rfl) trivial (by kernel_rfl) (OkP.done [0] hst rfl (by kernel_rfl) (by kernel_rfl) (by kernel_rfl))
 ·exact M.callP [] [] (needP_f 12 r.pos) (by kernel_rfl) trivial (by kernel_rfl) (OkP.done [0] hst rfl (by kernel_rfl) (by kernel_rfl) (by kernel_rfl))
theorem word_ok {t : List UInt8} {r : Rd} (h : r.Ok t) (hq : wordOk (t.drop r.pos) = true) : SpecM Tryz.prog 255 1 [rd t r] [.ref 0 0] [rd t (wordR t r)] (.tup [I (wordK (t.drop r.pos)), S ((t.drop r.pos).take (wordN (t.drop r.pos) + wordC (t.drop r.pos)))]) := by
 refine SpecM.start (by kernel_rfl) Tryz.func255 rfl rfl (Nat.le_refl _) fun w0 L hst => ?_
 have hw := h.run wordL
 have hc : r.pos + (wordN (t.drop r.pos) + wordC (t.drop r.pos)) <= t.length /\ wordC (t.drop r.pos) <= 1 := h.colOk hw.1
 have hn : wordN (t.drop r.pos) <= 1000000 := hw.2
 refine M.callm [0] (rest_spec h) (by kernel_rfl) ?_
 refine M.cl (run_spec (t.drop r.pos) 293 wordL h.rest wordL_spec) ?_
 refine M.cl (colon_spec h (wordN (t.drop r.pos)) hw.2) ?_
 refine M.tq hq (fun h1 q2 => ?_) (fun h1 q2 => ?_)
 case refine_2 => cases q2
 refine M.cl (next_spec h 0 (Nat.zero_le _)) ?_
 refine M.cl (smallL_spec (nxt (t.drop r.pos) 0)) ?_
 refine M.tq q2 (fun h3 q4 => M.cl (need_t 12 r.pos) ?_) (fun h3 q4 => M.cl (need_s q4 12 r.pos) ?_)
 all_goals refine M.clp [In64 (1 + (wordC (t.drop r.pos) : Int))] ⟨⟨by omega, by omega⟩, trivial⟩ (next_spec h 0 (Nat.zero_le _)) ?_
 all_goals refine M.cl (largeL_spec (nxt (t.drop r.pos) 0)) ?_
 all_goals refine M.tq (r := wordK (t.drop r.pos)) rfl (fun h5 q6 => ?_) (fun h5 q6 => ?_)
 all_goals refine M.callmp [In64 ((wordN (t.drop r.pos) : Int) + wordC (t.drop r.pos))] [0] (forward_spec h (wordN (t.drop r.pos) + wordC (t.drop r.pos)) hc.1) (by kernel_rfl) ⟨⟨by omega, by omega⟩, trivial⟩ ?_
 all_goals unfold wordR
 all_goals rw [<- q6]
 case refine_1.refine_1.refine_1 | refine_1.refine_2.refine_1 =>
  refine M.no (b := (3 : Int) == 1) rfl (by kernel_rfl) ?_
  exact M.retm [] [0] hst rfl (by kernel_rfl) trivial rfl rfl
 all_goals refine M.test ((1 + (wordC (t.drop r.pos) : Int)) == 1) (by kernel_rfl) (fun h7 => ?_) (fun h7 => ?_)
 all_goals rw [h7]
 all_goals exact M.retm [] [0] hst rfl (by kernel_rfl) trivial rfl rfl
end Go.Proofs.YtcknpohghmkbmaaGreatDoor
