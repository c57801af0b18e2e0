import Derived.Test.YtplpnfjccemdnaaGreatDoorJ14
import Derived.Test.YtplpnfjccemdnaaGreatDoorJ16
import Derived.Test.YtplpnfjccemdnaaGreatDoorJ18
set_option linter.unusedVariables false
set_option linter.unusedSimpArgs false
/- The texts V27 E1 E2 E3 E4 E5 E6 of the proof, laid one behind the other. -/
namespace Go.Proofs.YtplpnfjccemdnaaGreatDoor
open Go.RowKit
def frzP (i : Nat) (cs : List PV) : Nat -> PV -> PV
 | 0, _ => .any
 | _ + 1, .ref j off => if j = i then .ptr (cs.drop off) else .ref j off
 | _ + 1, .os e j k n => if j = i then .any else .os e j k n
 | _ + 1, .rr j k x c => if j = i then .any else .rr j k x c
 | _ + 1, .mr j => if j = i then .any else .mr j
 | _ + 1, .bm q j => if j = i then .any else .bm q j
 | n + 1, .agg l => .agg (l.map (frzP i cs n))
 | n + 1, .tup l => .tup (l.map (frzP i cs n))
 | n + 1, .fn g l => .fn g (l.map (frzP i cs n))
 | _ + 1, p => p
section
variable {β : List (Option Nat)} {L : List Nat} {W : World} {σ : Sig} {i g : Nat} {cs : List PV} {us : List Value}
theorem mem_unset {β : List (Option Nat)} {i g : Nat} (h : some g ∈ β.set i none) : some g ∈ β := by
 rcases List.mem_or_eq_of_mem_set h with h | h
 ·exact h
 ·cases h
theorem frz_fb {x : Nat} (h : Fb (β.set i none) L x) : Fb β L x := h.imp mem_unset id
theorem frz_R (hg : ¬ Fb (β.set i none) L g) (hβ : β[i]? = some (some g)) (hlt : g < W.heap.size) (hn : noRef.noRefs cs = true) (h1 : ∀ x ∈ us, x.oneCell' = true) (h2 : Rs β L W cs us) (hc : ∀ j x, us[j]? = some x -> W.cell? ⟨g, j, none⟩ = some x) : ∀ (n : Nat) (p : PV) (u : Value), R β L W p u -> R (β.set i none) L W (frzP i cs n p) u
 | 0, p, u, _ => by rw [frzP, R]; trivial
 | n + 1, p, u, h => by
  have ne : ∀ {j : Nat} {x : Option Nat}, j ≠ i -> β[j]? = some x -> (β.set i none)[j]? = some x := fun hj hx => by rw [List.getElem?_set_ne (Ne.symm hj)]; exact hx
  cases p with
  | ref j off =>
   rw [frzP]; split
   ·rename_i e
    subst e
    rw [R] at h
    rw [R]
    obtain ⟨g', hg', rfl⟩ := h
    rw [hβ] at hg'
    cases hg'
    refine ⟨g, off, us.drop off, rfl, hg, hlt, fun x hx => h1 x (List.mem_of_mem_drop hx), (Rs.move (Nat.le_refl _) _ _ _ _ _ _ (fun _ _ _ => rfl) (fun _ _ h => by simp at h) (fun x hx => .inl (fb_app.2 (frz_fb (fb_app.1 hx)))) (Rs.bare _ _ hn h2)).drop off, fun j x hx => ?_⟩
    rw [List.getElem?_drop] at hx
    exact hc _ x hx
   ·rename_i e
    rw [R] at h ⊢
    obtain ⟨g', hg', rfl⟩ := h
    exact ⟨g', ne e hg', rfl⟩
  | os ty j k m =>
   rw [frzP]; split
   ·rw [R]; trivial
   ·rename_i e
    rw [R] at h ⊢
    rcases h with ⟨g', c, hg', q⟩ | ⟨hg', q⟩
    ·exact .inl ⟨g', c, ne e hg', q⟩
    ·exact .inr ⟨ne e hg', q⟩
  | rr j k x c =>
   rw [frzP]; split
   ·rw [R]; trivial
   ·rename_i e
    rw [R] at h ⊢
    obtain ⟨g', hg', rfl⟩ := h
    exact ⟨g', ne e hg', rfl⟩
  | mr j =>
   rw [frzP]; split
   ·rw [R]; trivial
   ·rename_i e
    rw [R] at h ⊢
    obtain ⟨g', hg', rfl⟩ := h
    exact ⟨g', ne e hg', rfl⟩
  | bm q j =>
   rw [frzP]; split
   ·rw [R]; trivial
   ·rename_i e
    rw [R] at h ⊢
    obtain ⟨g', hg', rfl⟩ := h
    exact ⟨g', ne e hg', rfl⟩
  | agg l =>
   rw [frzP]
   rw [R] at h ⊢
   obtain ⟨vs, e, q1, q2⟩ := h
   exact ⟨vs, e, q1, Rs.map (fun p u => frz_R hg hβ hlt hn h1 h2 hc n p u) q2⟩
  | tup l =>
   rw [frzP]
   rw [R] at h ⊢
   obtain ⟨vs, e, q2⟩ := h
   exact ⟨vs, e, Rs.map (fun p u => frz_R hg hβ hlt hn h1 h2 hc n p u) q2⟩
  | fn f l =>
   rw [frzP]
   rw [R] at h ⊢
   obtain ⟨vs, e, q2⟩ := h
   exact ⟨vs, e, Rs.map (fun p u => frz_R hg hβ hlt hn h1 h2 hc n p u) q2⟩
  | rws k m el => rw [R] at h; exact h.elim
  | mps _ _ => rw [R] at h; exact h.elim
  | rwf _ _ _ _ _ => rw [R] at h; exact h.elim
  | mp _ _ => rw [R] at h; exact h.elim
  | dd => rw [R] at h; exact h.elim
  | any => rw [frzP]; exact R.old rfl (fun _ => frz_fb) h; all_goals simp
  | v x => rw [frzP]; exact R.old rfl (fun _ => frz_fb) h; all_goals simp
  | sb x => rw [frzP]; exact R.old rfl (fun _ => frz_fb) h; all_goals simp
  | sl k m el => rw [frzP]; exact R.old rfl (fun _ => frz_fb) h; all_goals simp
  | ptr l => rw [frzP]; exact R.old rfl (fun _ => frz_fb) h; all_goals simp
  | abs S => rw [frzP]; exact R.old rfl (fun _ => frz_fb) h; all_goals simp
  | o q => rw [frzP]; exact R.old rfl (fun _ => frz_fb) h; all_goals simp
  | fm ks mf => rw [frzP]; exact R.old rfl (fun _ => frz_fb) h; all_goals simp
end
def frzS (i : Nat) (cs : List PV) (σ : Sig) : Sig := (σ.map fun l => l.map (frzP i cs 8)).set i [.dd]
def frzE (i : Nat) (cs : List PV) (E : Env) : Env := E.map fun q => (q.1, frzP i cs 8 q.2)
def frzOk (i : Nat) (σ : Sig) : Bool :=
 σ.all isCells && (match σ[i]? with
 | some cs => noRef.noRefs cs
 | none => false)
theorem lk_frz (i : Nat) (cs : List PV) (t : Nat) : ∀ E : Env, lk (frzE i cs E) t = frzP i cs 8 (lk E t)
 | [] => rfl
 | q :: E => by
  show (if q.1 = t then frzP i cs 8 q.2 else lk (frzE i cs E) t) = frzP i cs 8 (if q.1 = t then q.2 else lk E t)
  split
  ·rfl
  ·exact lk_frz i cs t E
section
variable {w0 : W0} {W : World} {L : List Nat} {β : List (Option Nat)} {σ : Sig} {N : Nat} {E : Env} {a : Act} {P : Program}
theorem Inv.frz (hI : Inv w0 L β σ N E a W) (hown : w0.own = []) {i : Nat} {cs : List PV} (hs : σ[i]? = some cs) (hok : frzOk i σ = true) : Inv w0 L (β.set i none) (frzS i cs σ) N (frzE i cs E) a W := by
 unfold frzOk at hok
 rw [hs] at hok
 simp only [Bool.and_eq_true] at hok
 obtain ⟨hall, hn⟩ := hok
 have hcell : ∀ (j : Nat) (l : List PV), σ[j]? = some l -> isCells l = true := fun j l hl => List.all_eq_true.1 hall l (List.mem_of_getElem? hl)
 obtain ⟨g, t, us, hg, hh, h1, h2⟩ := hI.bx.cells hs (hcell i cs hs)
 have hgm : some g ∈ β := List.mem_of_getElem? hg
 have hlt := hI.bx.2.2.1 g hgm
 have huniq : ∀ j : Nat, β[j]? = some (some g) -> j = i := fun j hj => by
  have hjl : j < σ.length := by rw [<- hI.bx.1]; exact (List.getElem?_eq_some_iff.1 hj).1
  have hsj : σ[j]? = some σ[j] := List.getElem?_eq_getElem hjl
  exact hI.bx.2.1 j i g _ _ hj hg hsj hs (isDd_cells (hcell j _ hsj)) (isDd_cells (hcell i cs hs))
 have hnF : ¬ Fb (β.set i none) L g := by
  rintro (h | h)
  ·obtain ⟨j, hj, he⟩ := List.mem_iff_getElem.1 h
   have he' : (β.set i none)[j]? = some (some g) := by rw [List.getElem?_eq_getElem hj, he]
   by_cases hji : j = i
   ·subst hji
    rw [List.getElem?_set_self (by simpa using hj)] at he'
    cases he'
   ·rw [List.getElem?_set_ne (Ne.symm hji)] at he'
    exact hji (huniq j he')
  ·exact hI.dis g hgm h
 have hc : ∀ (j : Nat) (x : Value), us[j]? = some x -> W.cell? ⟨g, j, none⟩ = some x := fun j x hx => by
  simp only [World.cell?, hh]; simpa using hx
 have fr : ∀ (p : PV) (u : Value), R β L W p u -> R (β.set i none) L W (frzP i cs 8 p) u := fun p u h => frz_R hnF hg hlt hn h1 h2 hc 8 p u h
 have hil : i < σ.length := (List.getElem?_eq_some_iff.1 hs).1
 have hst : w0.stay = 0 := by
  have := congrArg List.length hI.pre.1
  rw [hown] at this
  simp at this
  have h2 := hI.pre.2
  rcases this with h | h
  ·exact h
  ·subst h; simpa using h2
 refine ⟨hI.bel, fun x hx => hI.new x (mem_unset hx), fun x hx => ⟨(hI.old x hx).1, fun h => (hI.old x hx).2 (mem_unset h)⟩, ⟨hI.inc.1, fun x hx => by rw [hown] at hx; simp at hx⟩, ⟨by rw [hst]; rfl, by rw [hst]; exact Nat.zero_le _⟩,
  ⟨by simp [frzS, hI.bx.1], fun j k x c d hj hk hcj hdk lc ld => ?_, fun x hx => hI.bx.2.2.1 x (mem_unset hx), fun j l hl => ?_⟩, ⟨hI.ev.1, fun t => by rw [lk_frz]; exact fr _ _ (hI.ev.2 t)⟩, hI.nod, fun q hq => ⟨(hI.gho q hq).1, R.firsts (s := 0) (fun _ _ h => by omega) (fun _ => frz_fb) _ _ (by have := (hI.gho q hq).1; rw [hst] at this; exact this) (hI.gho q hq).2⟩, hI.lim, hI.glo⟩
 ·have unset : ∀ {z x : Nat}, (β.set i none)[z]? = some (some x) -> β[z]? = some (some x) := fun {z x} hz => by
   by_cases e : z = i
   ·subst e
    have := (List.getElem?_eq_some_iff.1 hz).1
    rw [List.getElem?_set_self (by simpa using this)] at hz
    cases hz
   ·rw [List.getElem?_set_ne (Ne.symm e)] at hz; exact hz
  have hj' := unset hj
  have hk' := unset hk
  have hjl : j < σ.length := by rw [<- hI.bx.1]; exact (List.getElem?_eq_some_iff.1 hj').1
  have hkl : k < σ.length := by rw [<- hI.bx.1]; exact (List.getElem?_eq_some_iff.1 hk').1
  have hsj : σ[j]? = some σ[j] := List.getElem?_eq_getElem hjl
  have hsk : σ[k]? = some σ[k] := List.getElem?_eq_getElem hkl
  exact hI.bx.2.1 j k x _ _ hj' hk' hsj hsk (isDd_cells (hcell j _ hsj)) (isDd_cells (hcell k _ hsk))
 ·unfold frzS at hl
  by_cases e : j = i
  ·subst e
   rw [List.getElem?_set_self (by simpa using hil)] at hl
   cases hl
   exact ⟨none, by rw [List.getElem?_set_self (by rw [hI.bx.1]; exact hil)], HoldO.dd⟩
  ·rw [List.getElem?_set_ne (Ne.symm e), List.getElem?_map] at hl
   cases hsj : σ[j]? with
   | none => rw [hsj] at hl; cases hl
   | some l0 =>
    rw [hsj] at hl
    cases hl
    obtain ⟨x, t', vs, hx, hh', q1, q2⟩ := hI.bx.cells hsj (hcell j l0 hsj)
    exact ⟨some x, by rw [List.getElem?_set_ne (Ne.symm e)]; exact hx, .cells _ t' vs hh' q1 (Rs.map fr q2)⟩
end
def frzC (P : Program) (fn : Func) (c : Cfg) (i : Nat) : Cfg :=
 let d := (stop P fn.ntmps c).2
 ⟨frzE i (d.σ.getD i []) d.E, frzS i (d.σ.getD i []) d.σ, d.todo, none⟩
section
variable {P : Program} {fn : Func} {w0 : W0} {L : List Nat} {Q : Exit -> Act -> World -> Prop} {c : Cfg}
theorem M.frz (ps : List Prop) (i : Nat) (hown : w0.own = []) (h : (stop P fn.ntmps c).1 = ps) (hp : All ps) (hdr : (stop P fn.ntmps c).2.dr = none) (hok : frzOk i (stop P fn.ntmps c).2.σ = true) (k : M P fn w0 L Q (frzC P fn c i)) : M P fn w0 L Q c := by
 refine ⟨run_ok 3000 c (by rw [show (runC P fn.ntmps 3000 c).1 = ps from h]; exact hp) ?_⟩
 show OkF P fn w0 L Q (stop P fn.ntmps c).2
 have k := k.out
 unfold frzC at k
 generalize (stop P fn.ntmps c).2 = d at hdr hok k
 obtain ⟨E, σ, todo, dr⟩ := d
 simp only at hdr
 subst hdr
 intro β a W hI
 simp only at hok k
 cases hs : σ[i]? with
 | none => unfold frzOk at hok; rw [hs] at hok; simp at hok
 | some cs =>
  have e : σ.getD i [] = cs := by rw [List.getD_eq_getElem?_getD, hs]; rfl
  rw [e] at k
  exact k _ a W (hI.frz hown hs hok)
theorem M.sigN (n : Nat) (ps : List Prop) (σ0 σ' : Sig) (h : (runC P fn.ntmps n c).1 = ps) (hp : All ps) (hdr : (runC P fn.ntmps n c).2.dr = none) (h0 : (runC P fn.ntmps n c).2.σ = σ0) (he : SigEq σ0 σ') (k : M P fn w0 L Q ⟨(runC P fn.ntmps n c).2.E, σ', (runC P fn.ntmps n c).2.todo, none⟩) : M P fn w0 L Q c := by
 refine ⟨run_ok n c (by rw [h]; exact hp) ?_⟩
 have k := k.out
 rw [<- h0] at he
 clear h h0
 show OkF P fn w0 L Q (runC P fn.ntmps n c).2
 generalize (runC P fn.ntmps n c).2 = d at hdr he k
 obtain ⟨E, σ, todo, dr⟩ := d
 simp only at hdr
 subst hdr
 intro β a W hI
 exact k β a W { hI with bx := hI.bx.eq he }
def isRet : List It -> Bool
 | .code .ret :: _ => true
 | _ => false
theorem M.stoprF {ι ζ : Type} {S : ι -> Sig} {next : ι -> Prop} {T : ζ -> Sig} {jump : ζ -> Code} (z : ζ) (ps : List Prop) (h : (stop P fn.ntmps c).1 = ps) (hp : All ps) (hdr : (stop P fn.ntmps c).2.dr = none) (hσ : (stop P fn.ntmps c).2.σ = T z) (ht : isRet (stop P fn.ntmps c).2.todo = true) (hz : jump z = .ret := by rfl) :
  M P fn w0 L (Qr fn.ntmps S next T jump w0) c := by
 obtain ⟨k, hk⟩ : ∃ k, (stop P fn.ntmps c).2.todo = .code .ret :: k := by
  unfold isRet at ht
  split at ht
  ·rename_i k e; exact ⟨k, e⟩
  ·cases ht
 exact M.stopr z ps h hp hdr hσ hk hz
theorem SigEq.of {σ σ' : Sig} (h : σ = σ') : SigEq σ σ' := h ▸ SigEq.refl σ
theorem Spec.startRN {f : FuncId} {args : List PV} {r : PV} {cd : Code} (he : entersP P f = true) (hf : P.funcs[f]? = some fn) (hb : fn.body = some cd) (hn : Nat.ble args.length fn.ntmps = true)
  (k : ∀ w0 L, w0.stay = 0 -> w0.ro = none -> w0.mrk = true -> w0.own = [] -> M P fn w0 L (Qf P fn w0 r) (startC args cd)) : Spec P f args r := by
 refine ⟨he, fun L W vs hL hG hR => ?_⟩
 refine (callsIn_wide.1 (callsIn_of_wp_marks (n := 0) (R := fun e W' => ∃ u, e = .returned u /\ R [] L W' r u /\ Near ⟨W, [], 0, L, [], none, ghosts, true⟩ W') hf hb trivial ?_ rfl)).mono fun e W' ⟨u, h1, h2, h3⟩ => ⟨u, h1, h2, h3.plain⟩
 have h := (k ⟨W, [], 0, L, [], none, ghosts, true⟩ L rfl rfl rfl rfl).out [] (startA fn vs.toArray) W ⟨Near.refl _ _ _ _ _ _ _ _, fun g hg => by simp at hg, fun g hg => ⟨hL g hg, by simp⟩, ⟨fun _ h => h, fun g hg => by simp at hg⟩, ⟨rfl, Nat.zero_le _⟩, ⟨rfl, fun i j g c d hi => by simp at hi, fun g hg => by simp at hg, fun i cs hi => by simp [startC] at hi⟩, args_Ev (Nat.le_of_ble_eq_true hn) hR, Nod.nil rfl, Gl.gho hG, fun g hg => .inl hg, fun q hq => hq⟩
 refine wpIn_mono h fun e a w hq => ?_
 have hq' : Qf P fn ⟨W, [], 0, L, [], none, ghosts, true⟩ r e a w := by unfold wpK at hq; exact hq
 exact hq' rfl
end
theorem gl_env {L : List Nat} {W : World} (h : Gl L W) : Bg.Env W := by
 refine ⟨gl_tab h, ?_⟩
 obtain ⟨tp, p, t, fr, hh⟩ := h.err
 have e : Tryz.prog.globalNamed "strconv.ErrRange" = some gErr := by kernel_rfl
 refine ⟨tp, p, ?_⟩
 unfold World.var?
 rw [e]
 simp only [Option.bind_some, hh]
theorem unsign_eq (l : List UInt8) : Lib.trimPrefix l [45] = Bg.unsign l := Bg.trimPrefix_unsign l
theorem unsign_ge (s : List UInt8) : s.length <= (Bg.unsign s).length + 1 := by
 unfold Bg.unsign; split <;> simp
theorem readLong_spec (l : List UInt8) (h : 100000 < l.length) : Spec Tryz.prog 204 [S l] (.tup [.agg [.v (.slice none 0 0), .sb false], .sb false]) := by
 have hu := unsign_ge l
 refine Spec.startL (by kernel_rfl) Tryz.func204 rfl rfl fun w0 L hst => ?_
 refine M.cl (trimPrefix_spec l [45]) ?_
 rw [unsign_eq]
 generalize Bg.unsign l = t at hu ⊢
 refine M.ts (t == []) (fun h1 => ?_) (fun h1 => ?_)
 ·exact M.ret (.tup [.agg [.v (.slice none 0 0), .sb false], .sb false]) (by kernel_rfl) rfl
 refine M.ts (decide ((t.length : Int) > 400)) (fun h2 => ?_) (fun h2 => ?_)
 ·exact M.ret (.tup [.agg [.v (.slice none 0 0), .sb false], .sb false]) (by kernel_rfl) rfl
 ·have := of_decide_eq_false h2; omega
def numB (v : Vl) : Bool := (Bg.numZ v.k v.n v.t).isSome
theorem numLong (v : Vl) (h : 100000 < v.t.length) : numB v = false := by
 unfold numB Bg.numZ
 have hu := unsign_ge v.t
 have h1 : ¬ (v.k = 1 /\ v.t = []) := fun e => by rw [e.2] at h; simp at h
 rw [if_neg h1]
 have h2 : Bg.readZ v.t = none := by unfold Bg.readZ; rw [if_pos (.inr (.inl (by omega)))]
 rw [h2]
 split <;> rfl
theorem numberLong_spec (v : Vl) (h : 100000 < v.t.length) : Spec Tryz.prog 154 [.agg v.pv] (.tup [.agg [.v (.slice none 0 0), .sb false], .sb false]) := by
 refine Spec.startL (by kernel_rfl) Tryz.func154 rfl rfl fun w0 L hst => ?_
 have ht : (v.t == []) = false := by
  cases hv : v.t with
  | nil => rw [hv] at h; simp at h
  | cons c l => rfl
 refine M.ts (v.k == 1) (fun h1 => ?_) (fun h1 => ?_)
 ·refine M.n ht ?_
  refine M.ts (v.k != 2) (fun h2 => M.ret (.tup [.agg [.v (.slice none 0 0), .sb false], .sb false]) (by kernel_rfl) rfl) (fun h2 => ?_)
  simp at h1 h2
  omega
 ·refine M.ts (v.k != 2) (fun h2 => M.ret (.tup [.agg [.v (.slice none 0 0), .sb false], .sb false]) (by kernel_rfl) rfl) (fun h2 => ?_)
  refine M.ts (v.n != 0) (fun h3 => M.ret (.tup [.agg [.v (.slice none 0 0), .sb false], .sb false]) (by kernel_rfl) rfl) (fun h3 => ?_)
  refine M.cl (readLong_spec v.t h) ?_
  refine M.n (b := false) rfl ?_
  exact M.ret (.tup [.agg [.v (.slice none 0 0), .sb false], .sb false]) (by kernel_rfl) rfl
theorem number_spec (v : Vl) (hn : In64 v.n) : Spec Tryz.prog 154 [.agg v.pv] (.tup [.agg [.any, .any], .sb (numB v)]) := by
 by_cases h : 100000 < v.t.length
 ·rw [numLong v h]
  refine Spec.conv (numberLong_spec v h) (fun _ _ _ h => h) fun L W u hu => ?_
  rw [R] at hu ⊢
  obtain ⟨us, rfl, hu⟩ := hu
  obtain ⟨u0, us, rfl, h1, hu⟩ := hu.uncons
  obtain ⟨u1, us, rfl, h2, hu⟩ := hu.uncons
  rw [Rs] at hu
  subst hu
  rw [R] at h1
  obtain ⟨ws, rfl, q1, h1⟩ := h1
  obtain ⟨w0, ws, rfl, _, h1⟩ := h1.uncons
  obtain ⟨w1, ws, rfl, _, h1⟩ := h1.uncons
  rw [Rs] at h1
  subst h1
  refine ⟨_, rfl, Rs.cons (by rw [R]; exact ⟨_, rfl, q1, Rs.cons (by rw [R]; trivial) (Rs.cons (by rw [R]; trivial) Rs.nil)⟩) (Rs.cons (by rw [R] at h2 ⊢; exact h2) Rs.nil)⟩
 ·refine ⟨by kernel_rfl, fun L W vs hL hG hR => ?_⟩
  obtain ⟨u, us, rfl, h1, hR1⟩ := hR.uncons
  rw [Rs] at hR1
  subst hR1
  rw [R] at h1
  obtain ⟨us, rfl, _, h1⟩ := h1
  obtain ⟨u0, us, rfl, e0, h1⟩ := h1.uncons
  obtain ⟨u1, us, rfl, e1, h1⟩ := h1.uncons
  obtain ⟨u2, us, rfl, e2, h1⟩ := h1.uncons
  rw [Rs] at h1
  rw [R] at e0 e1 e2
  subst h1; subst e0; subst e1; subst e2
  refine (Bg.number_calls v.k v.n v.t hn (by omega) W (gl_env hG)).mono fun e w' ⟨x, he, ⟨a, n, c, b, hx⟩, _, hb⟩ => ?_
  subst hx
  refine ⟨_, he, ?_, hb⟩
  rw [R]
  exact ⟨_, rfl, Rs.cons (by rw [R]; exact ⟨_, rfl, by simp [Value.oneCell'], Rs.cons (by rw [R]; trivial) (Rs.cons (by rw [R]; trivial) Rs.nil)⟩) (Rs.cons (by rw [R]; rfl) Rs.nil)⟩
def bcheckC (v : Vl) : Int := bif !numB v then 31 else 0
theorem bcheck_spec (v : Vl) (hn : In64 v.n) : Spec Tryz.prog 114 [.agg v.pv] (I (bcheckC v)) := by
 refine Spec.startL (by kernel_rfl) Tryz.func114 rfl rfl fun w0 L hst => ?_
 refine M.cl (number_spec v hn) ?_
 refine M.tq (r := bcheckC v) rfl (fun h1 q1 => M.rq q1) (fun h1 q1 => M.rq q1)
def badbC (b : UInt8) : Bool := bif decide ((b.toNat : Int) < 32) then true else decide ((b.toNat : Int) > 126)
theorem badbC_spec (b : UInt8) : Spec Tryz.prog 116 [B b] (.sb (badbC b)) := by
 refine Spec.startL (by kernel_rfl) Tryz.func116 rfl rfl fun w0 L hst => ?_
 refine M.tq (r := badbC b) rfl (fun h1 q1 => M.rq q1) (fun h1 q1 => M.rq q1)
def valueC (v : Vl) : Int :=
 bif v.k == 1 then (bif bcheckC v == 0 then 0 else 1)
 else bif v.k == 2 then (bif bcheckC v == 0 then 0 else 1)
 else bif v.k == 3 then (bif v.n == 0 then (bif decide ((v.t.length : Int) <= 20000) then (bif !v.t.any badbC then 0 else 1) else 1) else 1)
 else bif v.k == 4 then (bif decide (v.n >= 1) then (bif decide (v.n <= 1099511627776) then (bif v.t == [] then 0 else 1) else 1) else 1)
 else 1
theorem value_spec (v : Vl) (hn : In64 v.n) : Spec Tryz.prog 65 [.agg v.pv] (I (valueC v)) := by
 refine Spec.startL (by kernel_rfl) Tryz.func65 rfl rfl fun w0 L hst => ?_
 refine M.tq (r := valueC v) rfl (fun h1 q1 => ?_) (fun h1 q1 => ?_)
 ·refine M.cl (bcheck_spec v hn) ?_
  exact M.tq q1 (fun h2 q2 => M.rq q2) (fun h2 q2 => M.rq q2)
 refine M.tq q1 (fun h2 q2 => ?_) (fun h2 q2 => ?_)
 ·refine M.cl (bcheck_spec v hn) ?_
  exact M.tq q2 (fun h2 q2 => M.rq q2) (fun h2 q2 => M.rq q2)
 refine M.tq q2 (fun h3 q3 => ?_) (fun h3 q3 => ?_)
 ·refine M.tq q3 (fun h4 q4 => ?_) (fun h4 q4 => M.rq q4)
  refine M.tq q4 (fun h5 q5 => ?_) (fun h5 q5 => M.rq q5)
  have h5' := of_decide_eq_true h5
  have hs : Spec Tryz.prog 115 [.sl 1 v.t.length (bytesEl ⟨v.t.toArray⟩), .fn 116 []] (.sb (v.t.any badbC)) := by
   rw [brow_eq]
   exact has_byte_0 v.t 116 badbC fun x _ => badbC_spec x
  refine M.clp [v.t.length <= 9223372036854775807] ⟨by omega, trivial⟩ hs ?_
  exact M.tq q5 (fun h2 q2 => M.rq q2) (fun h2 q2 => M.rq q2)
 refine M.tq q3 (fun h4 q4 => ?_) (fun h4 q4 => M.rq q4)
 refine M.tq q4 (fun h5 q5 => ?_) (fun h5 q5 => M.rq q5)
 refine M.tq q5 (fun h6 q6 => ?_) (fun h6 q6 => M.rq q6)
 exact M.tq q6 (fun h7 q7 => M.rq q7) (fun h7 q7 => M.rq q7)
def seenV (l : List Vl) : Nat -> Atom -> Option Bool
 | 0, _ => none
 | i + 1, x => if x = .t (l.getD (i : Int).toNat default).k (l.getD (i : Int).toNat default).n (l.getD (i : Int).toNat default).t then some true else seenV l i x
theorem seenV_mem (l : List Vl) (x : Vl) : ∀ i, i <= l.length -> (seenV l i (.t x.k x.n x.t)).getD false = decide (x ∈ l.take i)
 | 0, _ => by simp [seenV]
 | i + 1, h => by
  have hg : l.getD (i : Int).toNat default = l[i] := by simp [List.getD_eq_getElem?_getD, show i < l.length by omega]
  unfold seenV
  rw [hg, List.take_succ_eq_append_getElem (by omega)]
  have key : (x ∈ l.take i ++ [l[i]]) = (x ∈ l.take i \/ x = l[i]) := by rw [List.mem_append, List.mem_singleton]
  simp only [key]
  by_cases e : x = l[i]
  ·subst e; rw [if_pos rfl]; simp only [or_true, decide_true, Option.getD_some]
  ·rw [if_neg (fun h => e (by
    injection h with h1 h2 h3
    cases hx : x with | mk k n t =>
    cases hy : l[i] with | mk k' n' t' =>
    rw [hx, hy] at h1 h2 h3
    simp only at h1 h2 h3
    rw [h1, h2, h3])), seenV_mem l x i (by omega)]
   simp only [e, or_false]
theorem distV_spec (l : List Vl) (hb : l.length <= 1000000000) : Spec Tryz.prog 168 [row 3 Vl.pv l] (.sb (decide l.Nodup)) := by
 refine Spec.startL (by kernel_rfl) Tryz.func168 rfl rfl fun w0 L hst => ?_
 refine M.loopL (ι := {i : Nat // i <= l.length /\ (l.take i).Nodup}) (fun i => [(3, .mr 0), (7, row 3 Vl.pv l), (8, I l.length), (9, I i.1)]) (fun i => [[.mp .val (.b (seenV l i.1))]]) (fun i => l.length - i.1) ⟨0, Nat.zero_le _, by simp⟩ [] (by kernel_rfl) trivial (by kernel_rfl) (by kernel_rfl) fun ⟨i, hi, hn⟩ L ih => ?_
 refine M.ts (decide ((i : Int) < (l.length : Int))) (fun h1 => ?_) (fun h1 => ?_)
 ·have hlt : i < l.length := by simpa using h1
  have hg : l.getD (i : Int).toNat default = l[i] := by simp [List.getD_eq_getElem?_getD, hlt]
  have hs := seenV_mem l (l.getD (i : Int).toNat default) i hi
  have htk : l.take (i + 1) = l.take i ++ [l[i]] := List.take_succ_eq_append_getElem hlt
  refine M.testp [0 <= (i : Int) /\ (i : Int) < (l.length : Int)] ((seenV l i (.t (l.getD (i : Int).toNat default).k (l.getD (i : Int).toNat default).n (l.getD (i : Int).toNat default).t)).getD false) (by kernel_rfl) ⟨by omega, trivial⟩ (fun h2 => ?_) (fun h2 => ?_)
  ·refine M.ret (.sb false) (by kernel_rfl) ?_
   rw [hs, hg] at h2
   have hm : l[i] ∈ l.take i := of_decide_eq_true h2
   rw [decide_eq_false]
   intro hd
   have h3 := hd.sublist (List.take_sublist (i + 1) l)
   rw [htk, List.nodup_append] at h3
   exact h3.2.2 l[i] hm l[i] (by simp) rfl
  ·rw [hs, hg] at h2
   have hm : ¬ l[i] ∈ l.take i := of_decide_eq_false h2
   refine M.rn [In64 ((i : Int) + 1)] [0] hst ⟨⟨by omega, by omega⟩, trivial⟩ fun L' => ?_
   refine M.bk [] (ih ⟨i + 1, hlt, ?_⟩ L' (by show l.length - (i + 1) < l.length - i; omega)) trivial
   rw [htk, List.nodup_append]
   exact ⟨hn, by simp, fun a ha b hb => by simp at hb; subst hb; intro e; subst e; exact hm ha⟩
 ·have : i = l.length := by have := of_decide_eq_false h1; omega
  subst this
  rw [List.take_length] at hn
  exact M.ret (.sb true) (by kernel_rfl) (by rw [decide_eq_true hn])
@[simp] theorem bnL_ok (n : Int) : (bnL n).2 = 0 ↔ 0 <= n /\ n <= 8 := by
 unfold bnL
 by_cases h1 : n < 0
 ·simp [h1]; omega
 by_cases h2 : n > 8
 ·simp [h1, h2]
 by_cases h3 : n = 0
 ·subst h3; simp
 ·have h4 : (n == 0) = false := by simpa using h3
  simp [h1, h2, h4]; omega
def wrongC (v : Vl) : Bool := valueC v != 0
theorem wrongC_spec' (v : Vl) (hn : In64 v.n) (r : Bool) (hq : wrongC v = r) : Spec Tryz.prog 161 [.agg v.pv] (.sb r) := by
 unfold wrongC at hq
 refine Spec.startL (by kernel_rfl) Tryz.func161 rfl rfl fun w0 L hst => ?_
 refine M.cl (value_spec v ((by first | rfl | omega | (constructor <;> omega) | assumption | (exact hb _ ‹_›) | trivial | (simp_all; done) | (simp_all; omega) | (simp_all [In64]; omega)))) ?_
 exact M.rq hq
theorem wrongC_spec (v : Vl) (hn : In64 v.n) : Spec Tryz.prog 161 [.agg v.pv] (.sb (wrongC v)) := wrongC_spec' v hn _ rfl
def nzC (s : List UInt8) : Bool := carityP s != 0
theorem nzC_spec' (s : List UInt8) (r : Bool) (hq : nzC s = r) : Spec Tryz.prog 164 [S s] (.sb r) := by
 unfold nzC at hq
 refine Spec.startL (by kernel_rfl) Tryz.func164 rfl rfl fun w0 L hst => ?_
 refine M.cl (carity_spec s) ?_
 exact M.rq hq
theorem nzC_spec (s : List UInt8) : Spec Tryz.prog 164 [S s] (.sb (nzC s)) := nzC_spec' s _ rfl
def headC (j : Jd) : Bool := (bif (bnL j.c.args).snd != 0 then false else (bif decide (j.c.args > (↑j.c.names.length : Int)) then false else (bif decide ((↑j.c.names.length : Int) > 40) then false else (bif (↑j.c.init.length : Int) != (↑j.c.names.length : Int) - j.c.args then false else (bif j.c.blk then (bif decide (j.c.outer < 0) then false else (bif decide (j.c.outer >= j.pos) then false else (bif !j.c.nm == (bnL j.c.args).fst then false else (bif decide ((↑(depL j.l 22 j.pos 0) : Int) > 20) then false else (bif !j.c.blk then (bif j.c.outer != -1 then false else (bif carityP j.c.nm != j.c.args then false else (bif decide (List.Pairwise (fun x1 x2 => x1 ≠ x2) j.c.names) then (bif !j.c.names.any nzC then (bif !j.c.init.any wrongC then !j.c.lits.any wrongC else false) else false) else false))) else (bif decide (List.Pairwise (fun x1 x2 => x1 ≠ x2) j.c.names) then (bif !j.c.names.any nzC then (bif !j.c.init.any wrongC then !j.c.lits.any wrongC else false) else false) else false)))))) else (bif !j.c.blk then (bif j.c.outer != -1 then false else (bif carityP j.c.nm != j.c.args then false else (bif decide (List.Pairwise (fun x1 x2 => x1 ≠ x2) j.c.names) then (bif !j.c.names.any nzC then (bif !j.c.init.any wrongC then !j.c.lits.any wrongC else false) else false) else false))) else (bif decide (List.Pairwise (fun x1 x2 => x1 ≠ x2) j.c.names) then (bif !j.c.names.any nzC then (bif !j.c.init.any wrongC then !j.c.lits.any wrongC else false) else false) else false)))))))
theorem headC_spec' (j : Jd) (hi : ∀ x ∈ j.c.init, In64 x.n) (hl : ∀ x ∈ j.c.lits, In64 x.n) (h0 : j.c.names.length <= 1000000000) (r : Bool) (hq : headC j = r) : Spec Tryz.prog 124 [.ptr j.pv] (.sb r) := by
 unfold headC at hq
 refine Spec.startL (by kernel_rfl) Tryz.func124 rfl rfl fun w0 L hst => ?_
 refine M.cl (blockName_spec j.c.args) ?_
 refine M.tq hq (fun h1 q2 => ?_) (fun h1 q2 => ?_)
 ·exact M.rq q2
 ·refine M.tq q2 (fun h3 q4 => ?_) (fun h3 q4 => ?_)
  ·exact M.rq q4
  ·refine M.tq q4 (fun h5 q6 => ?_) (fun h5 q6 => ?_)
   ·exact M.rq q6
   ·refine M.tqp [In64 ((↑j.c.names.length : Int) - j.c.args)] ⟨(by first | rfl | omega | (constructor <;> omega) | assumption | (exact hb _ ‹_›) | trivial | (simp_all; done) | (simp_all; omega) | (simp_all [In64]; omega)), trivial⟩ q6 (fun h7 q8 => ?_) (fun h7 q8 => ?_)
    ·exact M.rq q8
    ·refine M.tq q8 (fun h9 q10 => ?_) (fun h9 q10 => ?_)
     ·refine M.tq q10 (fun h11 q12 => ?_) (fun h11 q12 => ?_)
      ·exact M.rq q12
      ·refine M.tq q12 (fun h13 q14 => ?_) (fun h13 q14 => ?_)
       ·exact M.rq q14
       ·refine M.tq q14 (fun h15 q16 => ?_) (fun h15 q16 => ?_)
        ·exact M.rq q16
        ·refine M.cl (depth_spec j.l j.pos) ?_
         refine M.tq q16 (fun h17 q18 => ?_) (fun h17 q18 => ?_)
         ·exact M.rq q18
         ·refine M.tq q18 (fun h19 q20 => ?_) (fun h19 q20 => ?_)
          ·refine M.tq q20 (fun h21 q22 => ?_) (fun h21 q22 => ?_)
           ·exact M.rq q22
           ·refine M.cl (carity_spec j.c.nm) ?_
            refine M.tq q22 (fun h23 q24 => ?_) (fun h23 q24 => ?_)
            ·exact M.rq q24
            ·refine M.cl (distS_spec j.c.names ((by first | rfl | omega | (constructor <;> omega) | assumption | (exact hb _ ‹_›) | trivial | (simp_all; done) | (simp_all; omega) | (simp_all [In64]; omega)))) ?_
             refine M.tq q24 (fun h25 q26 => ?_) (fun h25 q26 => ?_)
             ·refine M.cl (has_string_0 j.c.names 164 nzC (fun x hx1 => nzC_spec x)) ?_
              refine M.tq q26 (fun h27 q28 => ?_) (fun h27 q28 => ?_)
              ·refine M.cl (has_Val_0 j.c.init 161 wrongC (fun x hx1 => wrongC_spec x (by first | rfl | omega | (constructor <;> omega) | assumption | (exact hb _ ‹_›) | trivial | (simp_all; done) | (simp_all; omega) | (simp_all [In64]; omega)))) ?_
               refine M.tq q28 (fun h29 q30 => ?_) (fun h29 q30 => ?_)
               ·refine M.cl (has_Val_0 j.c.lits 161 wrongC (fun x hx1 => wrongC_spec x (by first | rfl | omega | (constructor <;> omega) | assumption | (exact hb _ ‹_›) | trivial | (simp_all; done) | (simp_all; omega) | (simp_all [In64]; omega)))) ?_
                exact M.rq q30
               ·exact M.rq q30
              ·exact M.rq q28
             ·exact M.rq q26
          ·refine M.cl (distS_spec j.c.names ((by first | rfl | omega | (constructor <;> omega) | assumption | (exact hb _ ‹_›) | trivial | (simp_all; done) | (simp_all; omega) | (simp_all [In64]; omega)))) ?_
           refine M.tq q20 (fun h31 q32 => ?_) (fun h31 q32 => ?_)
           ·refine M.cl (has_string_0 j.c.names 164 nzC (fun x hx1 => nzC_spec x)) ?_
            refine M.tq q32 (fun h33 q34 => ?_) (fun h33 q34 => ?_)
            ·refine M.cl (has_Val_0 j.c.init 161 wrongC (fun x hx1 => wrongC_spec x (by first | rfl | omega | (constructor <;> omega) | assumption | (exact hb _ ‹_›) | trivial | (simp_all; done) | (simp_all; omega) | (simp_all [In64]; omega)))) ?_
             refine M.tq q34 (fun h35 q36 => ?_) (fun h35 q36 => ?_)
             ·refine M.cl (has_Val_0 j.c.lits 161 wrongC (fun x hx1 => wrongC_spec x (by first | rfl | omega | (constructor <;> omega) | assumption | (exact hb _ ‹_›) | trivial | (simp_all; done) | (simp_all; omega) | (simp_all [In64]; omega)))) ?_
              exact M.rq q36
             ·exact M.rq q36
            ·exact M.rq q34
           ·exact M.rq q32
     ·refine M.tq q10 (fun h37 q38 => ?_) (fun h37 q38 => ?_)
      ·refine M.tq q38 (fun h39 q40 => ?_) (fun h39 q40 => ?_)
       ·exact M.rq q40
       ·refine M.cl (carity_spec j.c.nm) ?_
        refine M.tq q40 (fun h41 q42 => ?_) (fun h41 q42 => ?_)
        ·exact M.rq q42
        ·refine M.cl (distS_spec j.c.names ((by first | rfl | omega | (constructor <;> omega) | assumption | (exact hb _ ‹_›) | trivial | (simp_all; done) | (simp_all; omega) | (simp_all [In64]; omega)))) ?_
         refine M.tq q42 (fun h43 q44 => ?_) (fun h43 q44 => ?_)
         ·refine M.cl (has_string_0 j.c.names 164 nzC (fun x hx1 => nzC_spec x)) ?_
          refine M.tq q44 (fun h45 q46 => ?_) (fun h45 q46 => ?_)
          ·refine M.cl (has_Val_0 j.c.init 161 wrongC (fun x hx1 => wrongC_spec x (by first | rfl | omega | (constructor <;> omega) | assumption | (exact hb _ ‹_›) | trivial | (simp_all; done) | (simp_all; omega) | (simp_all [In64]; omega)))) ?_
           refine M.tq q46 (fun h47 q48 => ?_) (fun h47 q48 => ?_)
           ·refine M.cl (has_Val_0 j.c.lits 161 wrongC (fun x hx1 => wrongC_spec x (by first | rfl | omega | (constructor <;> omega) | assumption | (exact hb _ ‹_›) | trivial | (simp_all; done) | (simp_all; omega) | (simp_all [In64]; omega)))) ?_
            exact M.rq q48
           ·exact M.rq q48
          ·exact M.rq q46
         ·exact M.rq q44
      ·refine M.cl (distS_spec j.c.names ((by first | rfl | omega | (constructor <;> omega) | assumption | (exact hb _ ‹_›) | trivial | (simp_all; done) | (simp_all; omega) | (simp_all [In64]; omega)))) ?_
       refine M.tq q38 (fun h49 q50 => ?_) (fun h49 q50 => ?_)
       ·refine M.cl (has_string_0 j.c.names 164 nzC (fun x hx1 => nzC_spec x)) ?_
        refine M.tq q50 (fun h51 q52 => ?_) (fun h51 q52 => ?_)
        ·refine M.cl (has_Val_0 j.c.init 161 wrongC (fun x hx1 => wrongC_spec x (by first | rfl | omega | (constructor <;> omega) | assumption | (exact hb _ ‹_›) | trivial | (simp_all; done) | (simp_all; omega) | (simp_all [In64]; omega)))) ?_
         refine M.tq q52 (fun h53 q54 => ?_) (fun h53 q54 => ?_)
         ·refine M.cl (has_Val_0 j.c.lits 161 wrongC (fun x hx1 => wrongC_spec x (by first | rfl | omega | (constructor <;> omega) | assumption | (exact hb _ ‹_›) | trivial | (simp_all; done) | (simp_all; omega) | (simp_all [In64]; omega)))) ?_
          exact M.rq q54
         ·exact M.rq q54
        ·exact M.rq q52
       ·exact M.rq q50
theorem headC_spec (j : Jd) (hi : ∀ x ∈ j.c.init, In64 x.n) (hl : ∀ x ∈ j.c.lits, In64 x.n) (h0 : j.c.names.length <= 1000000000) : Spec Tryz.prog 124 [.ptr j.pv] (.sb (headC j)) := headC_spec' j hi hl h0 _ rfl
abbrev fnP (g : Nat) : PV := .fn g []
abbrev rulesL : List PV := [.v .nilFunc, I 0, .v .nilFunc,
 fnP 211, I 1, fnP 212,
 fnP 211, I 1, fnP 214,
 fnP 215, I 1, fnP 216,
 fnP 210, I 1, fnP 218,
 fnP 210, I 1, fnP 219,
 fnP 220, I 1, fnP 221,
 fnP 211, I 1, fnP 223,
 fnP 224, I 0, fnP 214,
 fnP 224, I 0, fnP 214,
 fnP 224, I 0, fnP 225]
theorem crules_spec : Spec Tryz.prog 165 [] (.agg rulesL) := by
 refine Spec.start (by kernel_rfl) Tryz.func165 rfl rfl fun w0 L => ?_
 exact M.ret (.agg rulesL) (by kernel_rfl) rfl
def insRC (i : Int) : Bool := bif decide (i >= 0) then decide (i < 11) else false
theorem insRC_spec (el : Nat -> List PV) (i : Int) : Spec Tryz.prog 166 [.sl 3 11 el, I i] (.sb (insRC i)) := by
 refine Spec.start (by kernel_rfl) Tryz.func166 rfl rfl fun w0 L => ?_
 refine M.tq (r := insRC i) rfl (fun h1 q1 => M.rq q1) (fun h1 q1 => M.rq q1)
theorem kwP_le (s : List UInt8) (k : Int) : 0 <= kwP s k /\ kwP s k <= 8 := by
 unfold kwP
 cases h1 : !endsP s <;> simp only [cond_true, cond_false]
 ·cases h2 : (((partsP s).length : Int) == 0) <;> simp only [cond_true, cond_false]
  ·cases h3 : decide (((partsP s).length : Int) > 8) <;> simp only [cond_true, cond_false]
   ·have h3 := of_decide_eq_false h3
    cases h4 : (kindL ((partsP s).getD 0 default) != k) <;> simp only [cond_true, cond_false]
    ·cases h5 : ((partsP s).drop 1).any kwoneP <;> simp only [cond_true, cond_false] <;> omega
    ·omega
   ·omega
  ·omega
 ·omega
theorem parityP_le (s : List UInt8) : parityP s <= 8 := by
 have h2 := kwP_le s 2
 have h4 := kwP_le s 4
 have h0 : arity0P s <= 8 := by
  unfold arity0P
  cases h1 : decide ((s.length : Int) > 80) <;> simp only [cond_true, cond_false]
  ·cases isNameP s <;> simp only [cond_true, cond_false]
   ·cases isOpP (kindL s) s 0 0 <;> simp only [cond_true, cond_false]
    ·cases decide (kwP s 2 > 0) <;> simp only [cond_true, cond_false] <;> omega
    ·omega
   ·omega
  ·omega
 have h1 : primArityP s <= 8 := by
  unfold primArityP
  cases decide ((s.length : Int) > 80) <;> simp only [cond_true, cond_false]
  ·cases (kindL s == 4) <;> simp only [cond_true, cond_false]
   ·cases decide (kwP s 4 > 0) <;> simp only [cond_true, cond_false] <;> omega
   ·cases (!hsufL s [58]) <;> simp only [cond_true, cond_false]
    ·cases decide (kwP s 4 > 0) <;> simp only [cond_true, cond_false] <;> omega
    ·omega
  ·omega
 unfold parityP
 cases decide (arity0P s >= 0) <;> simp only [cond_true, cond_false] <;> assumption
theorem carityP_le (s : List UInt8) : carityP s <= 8 := by
 unfold carityP
 cases hpreL s [95] <;> simp only [cond_true, cond_false]
 ·exact parityP_le s
 ·omega
theorem arofC_le (s : List UInt8) : arofC s <= 8 := by
 unfold arofC
 cases (!hpreL s [95]) <;> simp only [cond_true, cond_false]
 ·exact parityP_le s
 ·omega
theorem sendsC_b {j : Jd} {x : In} (h : sendsC j x = true) : 0 <= x.b /\ x.b <= 8 := by
 unfold sendsC at h
 have := carityP_le (j.c.sels.getD x.a.toNat [])
 simp [-List.getD_eq_getElem?_getD] at h; omega
theorem sendpC_b {j : Jd} {x : In} (h : sendpC j x = true) : 0 <= x.b /\ x.b <= 8 := by
 unfold sendpC at h
 have := arofC_le (j.c.sels.getD x.a.toNat [])
 simp [-List.getD_eq_getElem?_getD] at h; omega
theorem cif {a b : Bool} (h : (bif a then b else false) = true) : a = true /\ b = true := by cases a <;> simp_all
theorem sendrC_b {j : Jd} {x : In} (h : sendrC j x = true) : 0 <= x.b /\ x.b <= 8 := sendsC_b (cif h).1
theorem imprC_b {j : Jd} {x : In} (h : imprC j x = true) : 0 <= x.b /\ x.b <= 8 := sendsC_b (cif h).1
theorem resendsC_b {j : Jd} {x : In} (h : resendsC j x = true) : 0 <= x.b /\ x.b <= 8 := sendsC_b (cif h).1
theorem primrC_b {j : Jd} {x : In} (h : primrC j x = true) : (0 <= x.b /\ x.b <= 8) /\ 0 <= x.c /\ x.c <= 1 := by
 refine ⟨sendpC_b (cif h).1, ?_⟩
 have := (cif h).2
 cases h1 : (x.c == 0) <;> rw [h1] at this <;> simp at this h1 <;> omega
theorem constC_a {j : Jd} {x : In} (h : constC j x = true) : 0 <= x.a /\ x.a < j.c.lits.length := (insVC_iff _ _).1 (cif h).1
def rightC (j : Jd) (x : In) : Bool :=
 bif x.op == 1 then constC j x else bif x.op == 2 then plainC j x else bif x.op == 3 then sendrC j x else bif x.op == 4 then imprC j x else bif x.op == 5 then resendsC j x else
 bif x.op == 6 then primrC j x else bif x.op == 7 then blocksC j x else bif x.op == 8 then plainC j x else bif x.op == 9 then plainC j x else leaveC j x
def takesC (x : In) : Int :=
 bif x.op == 3 then x.b + 1 else bif x.op == 4 then x.b else bif x.op == 5 then x.b else bif x.op == 6 then x.b + x.c + 1 else bif decide (x.op >= 8) then 1 else 0
def putsC (x : In) : Int := bif decide (x.op >= 8) then 0 else 1
def mx (a b : Int) : Int := if b > a then b else a
def selsL : List Int -> Int -> Option Int
 | [], s => some s
 | v :: t, s => bif decide (v > s) then none else selsL t (mx s (v + 1))
def lastC (n i : Nat) : Bool := (i : Int) == (n : Int) - 1
def bodyL (j : Jd) : List In -> Nat -> Int -> Int -> Int -> Bool
 | [], _, _, lits, sels => bif lits == (j.c.lits.length : Int) then (bif sels == (j.c.sels.length : Int) then (bif decide j.c.lits.Nodup then decide j.c.sels.Nodup else false) else false) else false
 | x :: t, i, h, lits, sels =>
  bif !insRC x.op then false else bif x.op == 0 then false else bif !rightC j x then false else
  bif (x.op == 9 || x.op == 10) != lastC j.c.ins.length i then false else
  bif lastC j.c.ins.length i && h != 1 then false else
  bif x.op == 1 && decide (x.a > lits) then false else
  match selsL (usedL x) sels with
  | none => false
  | some sels' =>
   bif decide (h - takesC x < 0) then false else
   bif x.op == 8 && h - takesC x != 0 then false else
   bif decide (h - takesC x + putsC x > 100) then false else
   bodyL j t (i + 1) (h - takesC x + putsC x) (bif x.op == 1 then mx lits (x.a + 1) else lits) sels'
def bodyC (j : Jd) : Bool := bif decide ((j.c.ins.length : Int) < 1) then false else bif decide ((j.c.ins.length : Int) > 400) then false else bodyL j j.c.ins 0 0 0 0
end Go.Proofs.YtplpnfjccemdnaaGreatDoor
