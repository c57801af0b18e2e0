import Derived.Test.YtplpnfjccemdnaaGreatDoorJ23
set_option linter.unusedVariables false
set_option linter.unusedSimpArgs false
/- The texts V33 D11 V34 D12 D13 D14 of the proof, laid one behind the other. -/
namespace Go.Proofs.YtplpnfjccemdnaaGreatDoor
open Go.RowKit
section
variable {w0 : W0} {W W1 : World} {L : List Nat} {β β1 : List (Option Nat)} {N : Nat} {P : Program} {all : Array Oper} {ss : List (Nat × List Nat)} {ds : List (Nat × Option Nat)} {E0 E E1 : Env} {σ0 σ σ1 : Sig} {Q : Exit -> Act -> World -> Prop} {a a1 : Act}
abbrev pV (g : Nat) : Value := .pointer (some ⟨g, 0, none⟩)
abbrev flW (w0 : W0) (W : World) (β : List (Option Nat)) (L : List Nat) (a : Act) (zs : List Value) (ty : TypeId) : W0 := ⟨W.alloc (.cells zs.toArray ty), β, w0.stay, W.heap.size :: L, a.defers, w0.ro, w0.gh, false⟩
theorem Inv.floatIn (h : Inv w0 L β σ N E a W) (zs : List Value) (ty : TypeId) {t : Tmp} (ht : t < N) :
  Inv (flW w0 W β L a zs ty) (W.heap.size :: L) β σ N ((t, .v (pV W.heap.size)) :: E) (a.put (some t) (pV W.heap.size)) (W.alloc (.cells zs.toArray ty)) := by
 have hb : Below W.heap.size W (W.alloc (.cells zs.toArray ty)) := (Below.refl _ _).alloc (Nat.le_refl _) _
 have hs := hb.size
 have hk : ∀ k, ¬ Fb β L k -> k < W.heap.size -> (W.alloc (.cells zs.toArray ty)).heap[k]? = W.heap[k]? := fun k _ hk => hb.block k hk
 have hlt : ∀ i g : Nat, β[i]? = some (some g) -> g < W.heap.size := fun i g hg => h.bx.2.2.1 g (List.mem_of_getElem? hg)
 have hβ : ∀ (i : Nat) (x : Option Nat), β[i]? = some x -> β[i]? = some x /\ ∀ g, x = some g -> (W.alloc (.cells zs.toArray ty)).shape? g = W.shape? g := fun i x hx => ⟨hx, fun g e => shape_eq (hb.block g (hlt i g (by rw [hx, e])))⟩
 have hF : ∀ g, Fb β (W.heap.size :: L) g -> Fb β L g \/ W.heap.size <= g := fun g hg => by
  rcases hg with hg | hg
  ·exact .inl (.inl hg)
  ·rcases List.mem_cons.1 hg with rfl | hg
   ·exact .inr (Nat.le_refl _)
   ·exact .inl (.inr hg)
 have hev : Ev β (W.heap.size :: L) (W.alloc (.cells zs.toArray ty)) N E a := ⟨h.ev.1, fun t => R.move hs _ _ _ _ _ _ hk hβ hF (h.ev.2 t)⟩
 refine ⟨Near.refl _ _ _ _ _ _ _ _, fun g hg => .inl hg, fun g hg => ?_, ⟨fun _ h => h, fun g hg => .inl hg⟩, ⟨rfl, h.pre.2⟩,
  ⟨h.bx.1, h.bx.2.1, fun g hg => Nat.lt_of_lt_of_le (h.bx.2.2.1 g hg) hs, fun i cs hi => ?_⟩, Ev.put (d := some t) hev (by rw [R]) (by simpa [fitsD] using ht), Nod.nil rfl, fun q hq => ⟨(h.gho q hq).1, R.move hs _ _ _ _ _ _ hk hβ hF (h.gho q hq).2⟩, fun g hg => .inl hg, h.glo⟩
 ·rcases List.mem_cons.1 hg with rfl | hg
  ·exact ⟨by simp, fun hc => absurd (h.bx.2.2.1 _ hc) (Nat.lt_irrefl _)⟩
  ·exact ⟨Nat.lt_of_lt_of_le (h.old g hg).1 hs, (h.old g hg).2⟩
 ·obtain ⟨x, hg, hh⟩ := h.bx.2.2.2 i cs hi
  exact ⟨x, hg, hh.move hs (fun g e => hb.block g (hlt i g (by rw [hg, e]))) hk hβ hF⟩
theorem Inv.floatOut (h1 : Inv w0 L β1 σ1 N E1 a1 W1) {zs : List Value} {ty : TypeId} {t : Tmp} (hz : ∀ x ∈ zs, x.oneCell' = true) (h2 : Inv (flW w0 W1 β1 L a1 zs ty) (W1.heap.size :: L) β σ N ((t, .v (pV W1.heap.size)) :: E) a W) :
  Inv w0 L (β ++ [some W1.heap.size]) (σ ++ [zs.map PV.v]) N ((t, .ref σ.length 0) :: E) a W := by
 have hb : Below W1.heap.size W1 (W1.alloc (.cells zs.toArray ty)) := (Below.refl _ _).alloc (Nat.le_refl _) _
 have hn1 := h1.bel.below hb
 have hsz : W1.heap.size < (W1.alloc (.cells zs.toArray ty)).heap.size := by simp
 have hgβ : some W1.heap.size ∉ β := (h2.old _ (List.mem_cons_self ..)).2
 have hg1 : some W1.heap.size ∉ β1 := fun hc => absurd (h1.bx.2.2.1 _ hc) (Nat.lt_irrefl _)
 have hcell : W.heap[W1.heap.size]? = some (.cells zs.toArray ty (0, 0)) := (h2.bel.block _ hsz hg1).trans (heap_alloc_new W1 _)
 have hF : ∀ g, Fb (β ++ [some W1.heap.size]) L g ↔ Fb β (W1.heap.size :: L) g := fun g => by
  unfold Fb; simp only [List.mem_append, List.mem_cons, List.not_mem_nil, or_false, Option.some.injEq]; constructor
  ·rintro ((h | h) | h)
   ·exact .inl h
   ·exact .inr (.inl h)
   ·exact .inr (.inr h)
  ·rintro (h | h | h)
   ·exact .inl (.inl h)
   ·exact .inl (.inr h)
   ·exact .inr h
 have happ : ∀ (i : Nat) (x : Option Nat), β[i]? = some x -> (β ++ [some W1.heap.size])[i]? = some x /\ ∀ g, x = some g -> W.shape? g = W.shape? g := fun i x hx => ⟨by rw [List.getElem?_append_left (List.getElem?_eq_some_iff.1 hx).1]; exact hx, fun _ _ => rfl⟩
 have mv : ∀ (p : PV) (u : Value), R β (W1.heap.size :: L) W p u -> R (β ++ [some W1.heap.size]) L W p u := fun p u h => R.move (Nat.le_refl _) _ _ _ _ _ _ (fun _ _ _ => rfl) happ (fun g hg => .inl ((hF g).1 hg)) h
 have hback : ∀ (i g : Nat) (c : List PV), (β ++ [some W1.heap.size])[i]? = some (some g) -> (σ ++ [zs.map PV.v])[i]? = some c -> (β[i]? = some (some g) /\ σ[i]? = some c) \/ (i = σ.length /\ g = W1.heap.size /\ c = zs.map PV.v) := fun i g c hi hc => by
  by_cases hil : i < σ.length
  ·rw [List.getElem?_append_left hil] at hc
   rw [List.getElem?_append_left (by rw [h2.bx.1]; exact hil)] at hi
   exact .inl ⟨hi, hc⟩
  ·have hi0 : i = σ.length := by
    have := (List.getElem?_eq_some_iff.1 hc).1
    simp at this; omega
   subst hi0
   rw [<- h2.bx.1] at hi
   simp at hi hc
   exact .inr ⟨rfl, hi.symm, hc.symm⟩
 refine ⟨⟨h2.bel.os.trans hn1.os, h2.bel.tape.trans hn1.tape, h2.bel.output.trans hn1.output, Nat.le_trans hn1.size h2.bel.size, fun k hk ho => ?_, fun k hk => (h2.bel.shape k (Nat.lt_of_lt_of_le hk hn1.size)).trans (hn1.shape k hk)⟩, fun g hg => ?_, fun g hg => ⟨(h2.old g (List.mem_cons_of_mem _ hg)).1, fun hc => ?_⟩, ⟨h1.inc.1, fun g hg => ?_⟩, ⟨?_, by simp; have := h2.pre.2; simp only at this; omega⟩,
  ⟨by simp [h2.bx.1], fun i j g c d hi hj hc hd lc ld => ?_, fun g hg => ?_, fun i cs hi => ?_⟩, ⟨h2.ev.1, fun t' => ?_⟩, ?_, fun q hq => ⟨(h2.gho q hq).1, mv _ _ (h2.gho q hq).2⟩, h1.lim, h1.glo⟩
 ·refine (h2.bel.block k (Nat.lt_of_lt_of_le hk hn1.size) fun hc => ?_).trans (hn1.block k hk ho)
  rcases h1.new k hc with h | h
  ·exact ho h
  ·omega
 ·rcases List.mem_append.1 hg with hg | hg
  ·rcases h2.new g hg with h | h
   ·exact h1.new g h
   ·exact .inr (Nat.le_trans hn1.size h)
  ·simp at hg; subst hg; exact .inr h1.bel.size
 ·rcases List.mem_append.1 hc with hc | hc
  ·exact (h2.old g (List.mem_cons_of_mem _ hg)).2 hc
  ·simp at hc; have := (h1.old g hg).1; omega
 ·rcases h1.inc.2 g hg with h | h
  ·exact (hF g).2 (h2.inc.2 g h)
  ·exact .inr h
 ·have hp := h2.pre
  simp only at hp
  rw [List.take_append_of_le_length hp.2, hp.1, h1.pre.1]
 ·rcases hback i g c hi hc with ⟨hi, hc⟩ | ⟨hi', hg, hc⟩
  ·rcases hback j g d hj hd with ⟨hj, hd⟩ | ⟨hj', hg, hd⟩
   ·exact h2.bx.2.1 i j g c d hi hj hc hd lc ld
   ·subst hg; exact absurd (List.mem_of_getElem? hi) hgβ
  ·rcases hback j g d hj hd with ⟨hj, hd⟩ | ⟨hj', hg', hd⟩
   ·subst hg; exact absurd (List.mem_of_getElem? hj) hgβ
   ·rw [hi', hj']
 ·rcases List.mem_append.1 hg with hg | hg
  ·exact h2.bx.2.2.1 g hg
  ·simp at hg; subst hg; exact Nat.lt_of_lt_of_le hsz h2.bel.size
 ·by_cases hil : i < σ.length
  ·rw [List.getElem?_append_left hil] at hi
   obtain ⟨x, hg, hh⟩ := h2.bx.2.2.2 i cs hi
   exact ⟨x, (happ i x hg).1, hh.move (Nat.le_refl _) (fun _ _ => rfl) (fun _ _ _ => rfl) happ (fun g hg => .inl ((hF g).1 hg))⟩
  ·have hi0 : i = σ.length := by
    have := (List.getElem?_eq_some_iff.1 hi).1
    simp at this; omega
   subst hi0
   simp at hi
   subst hi
   exact ⟨some W1.heap.size, by rw [<- h2.bx.1]; simp, .cells _ ty zs hcell hz (plain_Rs zs)⟩
 ·show R _ L W (lk ((t, .ref σ.length 0) :: E) t') _
  have he := h2.ev.2 t'
  simp only [lk] at he ⊢
  by_cases e : t = t'
  ·rw [if_pos e] at he ⊢
   rw [R] at he
   rw [R]
   exact ⟨W1.heap.size, by rw [<- h2.bx.1]; simp, he⟩
  ·rw [if_neg e] at he ⊢
   exact mv _ _ he
 ·obtain ⟨Ds, q1, q2, q3, q4⟩ := h1.nod
  obtain ⟨Ds', r1, r2, r3, r4⟩ := h2.nod
  have : Ds' = [] := r2 rfl
  subst this
  refine ⟨Ds, by rw [r1]; exact q1, q2, q3, fun D hD => ⟨(q4 D hD).1, (q4 D hD).2.1, ?_⟩⟩
  have hDl := (h1.old D (q4 D hD).1).1
  exact (h2.bel.block D (by have := hb.size; show D < (W1.alloc _).heap.size; omega) (h1.old D (q4 D hD).1).2).trans ((hb.block D hDl).trans (q4 D hD).2.2)
theorem drawn_float {ro : Option Nat} {nn p id : Nat} {o : Oper} {ty : TypeId} {t : Tmp} {zs : List Value} (hp : all[p]? = some o) (hop : o.op = .alloc ty) (hgd : o.guard = none) (hdt : o.dst = some t) (ht : t < N) (hz : zeroP P ty = some zs)
  (hlt : p + 1 < all.size) (hcut : cutOk all (p + 1) = true) (hnd : noDef all = true) (hm : P.follows .mixedOrders = true) (hok : okD all = true) (hS : okS all ss ds = true) (hT : Tr P N all E0 σ0 p E σ ss ds)
  (hP : ∀ (fuel : Nat) (l : Array Bool) β a W, l.size = all.size -> ((List.range all.size).filter fun k => !l.getD k true).length <= fuel -> (∀ (j : Nat) (o : Oper), all[j]? = some o -> l.getD j false = true -> ∀ e ∈ o.after, Region.binds .any e = true -> l.getD e.on false = true) -> (∀ k, k < p + 1 -> l.getD k false = true) -> (∀ k, p + 1 <= k -> l.getD k false = false) -> Inv w0 L β (σ ++ [zs.map PV.v]) N ((t, .ref σ.length 0) :: E) a W -> wpAnyIn (Fr ro) nn P .any all Q fuel l a W)
  (β : List (Option Nat)) (a : Act) (W : World) (hI : Inv w0 L β σ0 N E0 a W) : (Code.region id all true).wpIn (Fr ro) nn P Q a W := by
 refine wpIn_region_any hm ?_
 have hb : Below W.heap.size W W.drew := (Below.refl W.heap.size W).drew
 obtain ⟨hn, hE0, hss, sg, g0, gi, gc, gt, hdata⟩ := hT.data hok
 obtain ⟨_, _, _, h1z⟩ := zero_run hz W
 have hdp : dstOf all p = some t := by simp [dstOf, hp, hdt]
 have hdst : ∀ j k t, dstOf all j = some t -> dstOf all k = some t -> j = k := fun j k t hj hk => by
  cases hoj : all[j]? with
  | none => simp [dstOf, hoj] at hj
  | some o =>
   cases hok' : all[k]? with
   | none => simp [dstOf, hok'] at hk
   | some o' =>
    have hlt : k < all.size := (Array.getElem?_eq_some_iff.1 hok').1
    have hp := (okD_at hok hoj).2 k hlt
    unfold pairOk at hp
    rw [hk] at hp
    simp only [Bool.and_eq_true, Bool.or_eq_true, beq_iff_eq, bne_iff_ne, ne_eq] at hp
    rcases hp.1 with h | h
    ·exact h.symm
    ·exact absurd (by simpa [dstOf, hoj] using hj) h
 have lkx : ∀ (x : PV) (t' : Nat), t' ≠ t -> lk ((t, x) :: E) t' = lk E t' := fun x t' h => by simp only [lk]; rw [if_neg (fun e => h e.symm)]
 have nt : ∀ t' : Nat, dstOf all p ≠ some t' -> t' ≠ t := fun t' h e => h (by rw [hdp, e])
 have gi0 : (fun x => sg (min x p)) (p + 1) = σ := by simp only; rw [Nat.min_eq_right (by omega), gi]
 have gc0 : ∀ j, j < p + 1 -> (∀ tl, (j, tl) ∉ ss) -> (fun x => sg (min x p)) (j + 1) = (fun x => sg (min x p)) j := fun j hj h => by
  simp only
  by_cases hjp : j < p
  ·rw [Nat.min_eq_left (by omega), Nat.min_eq_left (by omega)]; exact gc j hjp h
  ·rw [Nat.min_eq_right (by omega), Nat.min_eq_right (by omega)]
 have gt0 : ∀ j tl, (j, tl) ∈ ss -> ∀ x, x ∉ tl -> ((fun x => sg (min x p)) (j + 1))[x]? = ((fun x => sg (min x p)) j)[x]? := fun j tl h x hx => by
  have hj := hss _ h
  simp only at hj ⊢
  rw [Nat.min_eq_left (by omega), Nat.min_eq_left (by omega)]; exact gt j tl h x hx
 have hE0x : ∀ (x : PV) (t' : Nat), (∀ k, k < p + 1 -> dstOf all k ≠ some t') -> eqR (lk E0 t') (lk ((t, x) :: E) t') := fun x t' h => by
  rw [lkx x t' (nt t' (h p (Nat.lt_succ_self p)))]
  exact hE0 t' fun k hk => h k (by omega)
 have hdx : ∀ (x : PV) (j : Nat), j < p + 1 -> (fun k => k == p) j = false -> ∃ o Ej q k, all[j]? = some o /\ fitsD N o.dst = true /\ Did P all o Ej ((fun x => sg (min x p)) j) ((fun x => sg (min x p)) (j + 1)) q k /\ (∀ tl, k = .wr tl -> (j, tl) ∈ ss) /\ (∀ x, k = .rd x -> (j, x) ∈ ds) /\ (∀ tl, (j, tl) ∈ ss -> k = .wr tl) /\
   (∀ t', (∀ k, j <= k -> k < p + 1 -> dstOf all k ≠ some t') -> eqR (lk Ej t') (lk ((t, x) :: E) t')) /\
   (∀ t', (∀ k, k < j -> dstOf all k ≠ some t') -> eqR (lk E0 t') (lk Ej t')) /\
   (∀ t', o.dst = some t' -> eqR q (lk ((t, x) :: E) t')) := fun x j hj hf => by
  have hjne : j ≠ p := by simpa using hf
  have hjp : j < p := by omega
  obtain ⟨o', Ej, q, k, a1, a2, a3, a4, a5, a6, a7, a8, a9⟩ := hdata j hjp
  refine ⟨o', Ej, q, k, a1, a2, ?_, a4, a5, a6, fun t' h => ?_, a8, fun t' h => ?_⟩
  ·simp only; rw [Nat.min_eq_left (by omega), Nat.min_eq_left (by omega)]; exact a3
  ·rw [lkx x t' (nt t' (h p (by omega) (Nat.lt_succ_self p)))]
   exact a7 t' fun k h1 h2 => h k h1 (by omega)
  ·rw [lkx x t' (fun e => by subst e; exact hjne (hdst j p t' (by simp [dstOf, a1, h]) hdp))]
   exact a9 t' h
 have hlo1 : ∀ (c : Bool) (k : Nat) (b : Bool), (fun k => if k = p then some c else none) k = some b -> (fun k => k == p) k = true := fun c k b h => by
  simp only at h ⊢
  by_cases e : k = p
  ·simp [e]
  ·rw [if_neg e] at h; cases h
 have hsi : p ∉ si ss := fun h => by obtain ⟨tl, h⟩ := mem_si.1 h; exact absurd (hss _ h) (Nat.lt_irrefl _)
 refine drawn_fl (w0 := w0) (L := L) (fun k => k == p) (fun k => if k = p then some false else none) (hlo1 false)
  (n := p + 1) (E := (t, .any) :: E) (by omega) (.inr hcut) hnd hok hS gi0 gc0 gt0 (fun q hq => Nat.lt_succ_of_lt (hss q hq)) (hE0x .any) (hdx .any)
  (fun h => by omega) (fun _ fuel l β a W hl hf hcl hd hnl hll hI => ?_) (fun j oj hoj hj hjn fuel l β a W hl hun hll hf hcl hnl hI => ?_) all.size _ (by simp) (Nat.le_trans (List.length_filter_le _ _) (by simp)) (fun j o ho hl => ?_) (fun k hk => by rw [Array.getD_eq_getD_getElem?, Array.getElem?_replicate]; split <;> rfl) (fun k b hk => ?_) β a _ ?_
 ·have := hll p false (if_pos rfl)
  rw [hd p (Nat.lt_succ_self p)] at this; cases this
 ·have hjp : j = p := by simpa using hj
  subst hjp
  rw [hp] at hoj
  cases hoj
  have hlt2 : j < all.size := by omega
  have hset : ∀ k, k < all.size -> (l.setIfInBounds j true).getD k false = if j = k then true else l.getD k false := fun k hk => by
   rw [Array.getD_eq_getD_getElem?, Array.getElem?_setIfInBounds]
   by_cases e : j = k
   ·subst e; simp [hl, hlt2]
   ·rw [if_neg e, if_neg e, Array.getD_eq_getD_getElem?]
  unfold wpOpIn
  simp only [hp]
  have hw := guard_wanted (all := all) (o := o) hI.ev (b := true) (by unfold guardP; rw [hgd])
  rw [if_pos hw]
  refine op_in (noDef_at hnd hp) ?_
  obtain ⟨z, hzr, hzc, _⟩ := zero_run hz W
  have hrun : (execOp a.eval o).run P W = .ok (.value (pV W.heap.size)) (W.alloc (.cells zs.toArray ty)) := by
   unfold execOp
   rw [hop]
   simp [Instr.alloc, newVar, newRow, newObj, Sem.run_bind, Sem.run, Sem.run_pure, hzr, hzc]
  unfold Oper.wp
  rw [hrun]
  show wpAnyIn (Fr ro) nn P .any all Q fuel (l.setIfInBounds j true) (a.put o.dst (pV W.heap.size)) (W.alloc (.cells zs.toArray ty))
  rw [hdt]
  have hin := hI.floatIn zs ty ht
  refine drawn_fl (w0 := flW w0 W β L a zs ty) (L := W.heap.size :: L) (fun k => k == j) (fun k => if k = j then some true else none) (hlo1 true)
   (n := j + 1) (E := (t, .v (pV W.heap.size)) :: E) (by omega) (.inr hcut) hnd hok hS gi0 gc0 gt0 (fun q hq => Nat.lt_succ_of_lt (hss q hq)) (hE0x _) (hdx _)
   (fun h => by omega) (fun _ fuel2 l2 β2 a2 W2 hl2 hf2 hcl2 hd2 hnl2 hll2 hI2 => ?_) (fun j2 oj2 hoj2 hj2 hjn2 fuel2 l2 β2 a2 W2 hl2 hun2 hll2 hf2 hcl2 hnl2 hI2 => ?_) fuel _ (by simp [hl]) hf hcl hnl (fun k b hk => ?_) β _ _ ?_
  ·exact hP fuel2 l2 _ a2 W2 hl2 hf2 hcl2 hd2 hnl2 (hI.floatOut h1z hI2)
  ·have e : j2 = j := by simpa using hj2
   subst e
   have := hll2 j2 true (if_pos rfl)
   rw [hun2] at this; cases this
  ·by_cases e : k = j
   ·rw [if_pos e] at hk; cases hk; subst e; rw [hset k hlt2, if_pos rfl]
   ·rw [if_neg e] at hk; cases hk
  ·have htop : top (si ss) (l.setIfInBounds j true) all.size = top (si ss) l all.size := top_congr (fun k hk => by
    have hkl : k < all.size := by obtain ⟨tl, h⟩ := mem_si.1 hk; have := hss _ h; simp only at this; omega
    rw [hset k hkl, if_neg (fun e => hsi (by rw [e]; exact hk))]) _
   rw [htop]
   refine hin.to fun t' u hu => ?_
   by_cases e : t' = t
   ·subst e
    have : lk (maskE all E0 ((t', .v (pV W.heap.size)) :: E) (l.setIfInBounds j true) all.size) t' = .v (pV W.heap.size) := by
     rw [(lk_mask hdst t' all.size).1 fun k hk hkt => by rw [hdst k j t' hkt hdp, hset j hlt2, if_pos rfl]]
     simp [lk]
    rw [this]
    simpa [lk] using hu
   ·have hu' : R β (W.heap.size :: L) (W.alloc (.cells zs.toArray ty)) (lk (maskE all E0 ((t, .any) :: E) l all.size) t') u := by
     simp only [lk] at hu; rw [if_neg (fun h => e h.symm)] at hu; exact hu
    by_cases hex : ∃ k, k < all.size /\ dstOf all k = some t' /\ l.getD k false = false
    ·obtain ⟨k, hk, hkt, hkl⟩ := hex
     have hkj : j ≠ k := fun h => by subst h; rw [hdp] at hkt; exact e (Option.some.inj hkt).symm
     rw [(lk_mask hdst t' all.size).2 k hk hkt (by rw [hset k hk, if_neg hkj]; exact hkl)]
     rw [(lk_mask hdst t' all.size).2 k hk hkt hkl] at hu'
     exact hu'
    ·have hno : ∀ k, k < all.size -> dstOf all k = some t' -> l.getD k false = true := fun k hk hkt => by
      cases h : l.getD k false with
      | true => rfl
      | false => exact absurd ⟨k, hk, hkt, h⟩ hex
     rw [(lk_mask hdst t' all.size).1 fun k hk hkt => by rw [hset k hk]; split; rfl; exact hno k hk hkt, lkx _ _ e]
     rw [(lk_mask hdst t' all.size).1 hno, lkx _ _ e] at hu'
     exact hu'
 ·have hj : j < all.size := (Array.getElem?_eq_some_iff.1 ho).1
  simp [Array.getD_eq_getD_getElem?, hj] at hl
 ·by_cases e : k = p
  ·rw [if_pos e] at hk; cases hk; rw [Array.getD_eq_getD_getElem?, Array.getElem?_replicate]; split <;> rfl
  ·rw [if_neg e] at hk; cases hk
 ·have hI' := hI.below hb
  have ht0 : top (si ss) (Array.replicate all.size false) all.size = 0 := by
   cases hm : top (si ss) (Array.replicate all.size false) all.size with
   | zero => rfl
   | succ m =>
    obtain ⟨_, h2, h3⟩ := top_done hm
    simp [Array.getD_eq_getD_getElem?, h3] at h2
  rw [ht0]
  simp only [Nat.zero_min]
  rw [g0]
  refine hI'.to fun t' u hu => ?_
  by_cases hex : ∃ k, k < all.size /\ dstOf all k = some t'
  ·obtain ⟨k, hk, hkt⟩ := hex
   rw [(lk_mask hdst t' all.size).2 k hk hkt (by simp [Array.getD_eq_getD_getElem?, hk])]; exact hu
  ·rw [(lk_mask hdst t' all.size).1 fun k hk hkt => absurd ⟨k, hk, hkt⟩ hex]
   exact (hE0x .any t' fun k hk hkt => hex ⟨k, by omega, hkt⟩) _ _ _ u |>.1 hu
end
section
variable {w0 : W0} {L : List Nat} {P : Program} {Q : Exit -> Act -> World -> Prop} {fn : Func} {c : Cfg}
def floatAt (P : Program) (N : Nat) (q : Drn) : Option (Tmp × List Value) :=
 match q.all[q.i]? with
 | some o => match o.op, o.guard, o.dst with
  | .alloc ty, none, some t => if t < N then (zeroP P ty).map fun zs => (t, zs) else none
  | _, _, _ => none
 | none => none
def floatOk (P : Program) (N : Nat) (d : Cfg) : Bool :=
 match d.dr with
 | some q => okS q.all q.ss q.ds && ((floatAt P N q).isSome && (decide (q.i + 1 < q.all.size) && (cutOk q.all (q.i + 1) && chainOk q.all (q.i + 1))))
 | none => false
def floatC (P : Program) (N : Nat) (d : Cfg) : Cfg :=
 match d.dr with
 | some q => match floatAt P N q with
  | some (t, zs) => ⟨(t, .ref d.σ.length 0) :: d.E, d.σ ++ [zs.map PV.v], .ops q.all (q.all.toList.drop (q.i + 1)) :: d.todo, none⟩
  | none => d
 | none => d
theorem M.float (k : M P fn w0 L Q (floatC P fn.ntmps c)) (hok : floatOk P fn.ntmps c = true := by kernel_rfl) : M P fn w0 L Q c := by
 refine ⟨?_⟩
 have k := k.out
 obtain ⟨E, σ, todo, dr⟩ := c
 unfold floatOk at hok
 cases dr with
 | none => cases hok
 | some q =>
  simp only [Bool.and_eq_true, decide_eq_true_eq] at hok
  obtain ⟨o1, o2, o3, o4, o5⟩ := hok
  unfold floatC at k
  simp only at k
  cases hf : floatAt P fn.ntmps q with
  | none => rw [hf] at o2; cases o2
  | some r =>
   obtain ⟨t, zs⟩ := r
   rw [hf] at k
   simp only at k
   unfold floatAt at hf
   split at hf
   ·rename_i o ho
    split at hf
    ·rename_i ty t' hop hgd hdt
     split at hf
     ·rename_i ht
      cases hz : zeroP P ty with
      | none => rw [hz] at hf; cases hf
      | some zs' =>
       rw [hz] at hf
       cases hf
       intro hnd hokD hm hT β a W hI
       exact drawn_float ho hop hgd hdt ht hz o3 o4 hnd hm hokD o1 hT (fun fuel l β a W hl hf hcl hd hnl hI => chain_list o5 hokD fuel (q.i + 1) l a W (Nat.le_refl _) hl hf hcl (fun k hk _ => hd k hk) hnl (k β a W hI)) β a W hI
     ·cases hf
    ·cases hf
   ·cases hf
end
abbrev sf0 : Atom -> Option Bool := fun _ => none
def runT (w : Wd) (f : Nat) (maps : List Mp) (y : Ty) (sel : List UInt8) : Tg × List Dp :=
 bif y.k == 0 then (tgZ, []) else
 bif y.k == 1 then (isT (fromT w sel f sf0 [] (startF y.v)) y.v, (visT w sel f (sf0, [], []) (startF y.v)).2.1) else
 bif y.k == 2 then ((shapT w sel f sf0 [] (maps.getD y.n.toNat default)).1, (shapT w sel f sf0 [] (maps.getD y.n.toNat default)).2.2.1) else
 bif y.k == 3 then (fromT w sel f sf0 [] 5, (visT w sel f (sf0, [], []) 5).2.1) else
 (fromT w sel f sf0 [] 6, (visT w sel f (sf0, [], []) 6).2.1)
def lookD (w : Wd) (f : Nat) (maps : List Mp) (y : Ty) (sel : List UInt8) : (Tg × List Dp) × Int :=
 bif knownE w maps [y] != 0 then ((tgZ, []), knownE w maps [y]) else bif decide (carityP sel < 0) then ((tgZ, []), 1) else (runT w f maps y sel, 0)
structure LkOk (w : Wd) (maps : List Mp) (y : Ty) (U : List Int) : Prop where
 clo : Clo w U
 i5 : 5 ∈ U
 i6 : 6 ∈ U
 st : startF y.v ∈ U
 mp : ∀ m ∈ maps, m.sl.length <= 1000000 /\ (∀ s ∈ m.sl, s.nm.length <= 140737488355328) /\ ∀ v ∈ parL m.sl, startF v ∈ U
theorem kinds_of {w : Wd} {maps : List Mp} {y : Ty} (h : factsT w nilS noSeen maps [y] = true) : y.k = 0 \/ y.k = 1 \/ (y.k = 2 /\ 0 <= y.n /\ y.n < (maps.length : Int)) \/ y.k = 3 \/ y.k = 4 := by
 unfold factsT at h
 cases h1 : decide ((maps.length : Int) > 400) with
 | true => rw [h1] at h; cases h
 | false =>
  rw [h1, cond_false] at h
  cases h2 : mapsT w nilS noSeen maps maps 0 with
  | false => rw [h2] at h; cases h
  | true =>
   rw [h2] at h
   have h : typeT w nilS noSeen y (maps.length : Int) = true := by simpa [ntypeT] using h
   unfold typeT at h
   by_cases k1 : y.k = 1
   ·exact .inr (.inl k1)
   ·rw [show (y.k == 1) = false by simp [k1], cond_false] at h
    by_cases k2 : y.k = 2
    ·rw [show (y.k == 2) = true by simp [k2], cond_true] at h
     refine .inr (.inr (.inl ⟨k2, ?_⟩))
     cases h3 : (y.v.k == 0 && (y.v.n == 0 && (y.v.t == [] && true))) with
     | false => rw [h3] at h; cases h
     | true =>
      rw [h3, cond_true] at h
      cases h4 : decide (y.n >= 0) with
      | false => rw [h4] at h; cases h
      | true => rw [h4, cond_true] at h; exact ⟨of_decide_eq_true h4, of_decide_eq_true h⟩
    ·rw [show (y.k == 2) = false by simp [k2], cond_false] at h
     cases h3 : (y.k == y.k && (y.n == 0 && (y.v.k == 0 && (y.v.n == 0 && (y.v.t == [] && true)) && true))) with
     | false => rw [h3] at h; cases h
     | true =>
      rw [h3, cond_true] at h
      by_cases k0 : y.k = 0
      ·exact .inl k0
      ·rw [show (y.k == 0) = false by simp [k0], cond_false] at h
       by_cases k3 : y.k = 3
       ·exact .inr (.inr (.inr (.inl k3)))
       ·rw [show (y.k == 3) = false by simp [k3], cond_false] at h
        exact .inr (.inr (.inr (.inr (by simpa using h))))
theorem tgz_nil {e : Int} {L : List Nat} {W : World} {u : Value} (h : R [] L W (.tup [.agg tgZ.pv, nilS, I e]) u) : R [] L W (.tup [.agg tgZ.pv, row 8 Dp.pv [], I e]) u := tup_to h fun us h => by
 obtain ⟨u0, us, rfl, h0, h⟩ := h.uncons
 obtain ⟨u1, us, rfl, h1, h⟩ := h.uncons
 exact Rs.cons h0 (Rs.cons (nil_row 8 Dp.pv h1) h)
theorem SpecM.args {P : Program} {f : FuncId} {m : Nat} {σ σ' : Sig} {args args' : List PV} {r : PV} (h : SpecM P f m σ args σ' r) (hc : ∀ β L W vs, Rs β L W args' vs -> Rs β L W args vs) : SpecM P f m σ args' σ' r :=
 ⟨h.1, h.2.1, fun L β W vs hL hG hB hR => h.2.2 L β W vs hL hG hB (hc _ _ _ _ hR)⟩
abbrev lit1 (k : Nat) (cs : List PV) : PV := .sl k 1 (fun j => (cs.drop (j * k)).take k)
theorem lit1_row {α : Type} [Inhabited α] {k : Nat} {f : α -> List PV} (x : α) (hk : (f x).length = k) {β : List (Option Nat)} {L : List Nat} {W : World} {u : Value} (h : R β L W (lit1 k (f x)) u) : R β L W (row k f [x]) u :=
 sl_eq (n := 1) (n' := [x].length) rfl (fun j hj => by
  have : j = 0 := by omega
  subst this
  rw [Nat.zero_mul, List.drop_zero, List.take_of_length_le (by omega)]
  rfl) h
theorem known_ok1 (w : Wd) (hw : w.Ok) (maps : List Mp) (y : Ty) (hf : FactsOk maps [y]) (h : wcheckW w = 0) (h2 : factsT w nilS noSeen maps [y] = true) : SpecM Tryz.prog 22 0 [] [.agg w.pv, row 2 Mp.pv maps, lit1 5 y.pv] (trS w) (.tup [.ref 0 0, I 0]) :=
 (known_ok w hw maps [y] hf h h2).args fun β L W vs h => by
  obtain ⟨u0, us, rfl, q0, h⟩ := h.uncons
  obtain ⟨u1, us, rfl, q1, h⟩ := h.uncons
  obtain ⟨u2, us, rfl, q2, h⟩ := h.uncons
  exact .cons q0 (.cons q1 (.cons (lit1_row (k := 5) (f := Ty.pv) y rfl q2) h))
theorem known_no1 (w : Wd) (hw : w.Ok) (maps : List Mp) (y : Ty) (hf : FactsOk maps [y]) (h : knownE w maps [y] ≠ 0) : Spec Tryz.prog 22 [.agg w.pv, row 2 Mp.pv maps, lit1 5 y.pv] (.tup [.any, I (knownE w maps [y])]) :=
 (known_no w hw maps [y] hf h).conv (fun L W vs h => by
  obtain ⟨u0, us, rfl, q0, h⟩ := h.uncons
  obtain ⟨u1, us, rfl, q1, h⟩ := h.uncons
  obtain ⟨u2, us, rfl, q2, h⟩ := h.uncons
  exact .cons q0 (.cons q1 (.cons (lit1_row (k := 5) (f := Ty.pv) y rfl q2) h))) fun _ _ _ h => h
theorem Look_spec {w : Wd} (hw : w.Ok) (maps : List Mp) (y : Ty) (sel : List UInt8) (hf : FactsOk maps [y]) {U : List Int} (f : Nat) (hk : wcheckW w = 0 -> factsT w nilS noSeen maps [y] = true -> LkOk w maps y U /\ U.length < f) :
  Spec Tryz.prog 8 [.agg w.pv, row 2 Mp.pv maps, .agg y.pv, S sel] (.tup [.agg (lookD w f maps y sel).1.1.pv, row 8 Dp.pv (lookD w f maps y sel).1.2, I (lookD w f maps y sel).2]) := by
 refine Spec.startN (by kernel_rfl) Tryz.func8 rfl rfl fun w0 L hst hown => ?_
 unfold lookD
 rcases knownE_or w maps [y] with ⟨e0, e1, e2⟩ | e
 ·rw [show (knownE w maps [y] != 0) = false by rw [e0]; rfl, cond_false]
  obtain ⟨hu, hf2⟩ := hk e1 e2
  have hun : unseen U sf0 < f := Nat.lt_of_le_of_lt (List.length_filter_le _ _) hf2
  have hmany := hu.clo.many
  have hroom : Room U (sf0, [], []) := ⟨by have : unseen U sf0 <= U.length := List.length_filter_le _ _; simp only [List.length_nil]; omega, by have : unseen U sf0 <= U.length := List.length_filter_le _ _; simp only [List.length_nil]; omega⟩
  refine M.cm [] (known_ok1 w hw maps y hf e1 e2) ?_
  refine M.n (b := (0 : Int) != 0) rfl ?_
  refine M.nilC [] 70 8 (fun j => Dp.pv (([] : List Dp).getD j default)) 3 5 (by kernel_rfl) trivial (by kernel_rfl) (by kernel_rfl) ?_
  refine M.cl (carity_spec sel) ?_
  refine M.ts (decide (carityP sel < 0)) (fun h1 => ?_) (fun h1 => ?_)
  ·rw [h1, cond_true]
   exact M.retw [] (.tup [.agg tgZ.pv, nilS, I 1]) (by kernel_rfl) trivial fun L W u h => tgz_nil h
  ·rw [h1, cond_false]
   refine M.cl predictions_spec ?_
   obtain ⟨yk, yn, yv⟩ := y
   rcases kinds_of e2 with k | k | ⟨k, ky⟩ | k | k
   ·simp only at k
    subst k
    refine M.callmp [(0 : Int) <= 0 /\ (0 : Int) < (5 : Nat)] [3, 4, 5] (pred1_spec (w := w) sel sf0 [] maps ⟨0, yn, yv⟩) (by kernel_rfl) ⟨by decide, trivial⟩ ?_
    refine M.float ?_
    exact M.retp [(([] : List Dp)).length <= (([] : List Dp)).length] (.tup [.agg (tgZ).pv, row 8 Dp.pv (([] : List Dp)), I 0]) (by kernel_rfl) ⟨Nat.le_refl _, trivial⟩ rfl
   ·simp only at k
    subst k
    refine M.callmp [(0 : Int) <= 1 /\ (1 : Int) < (5 : Nat)] [3, 4, 5] (pred2_spec (sel := sel) hw hu.clo f sf0 [] maps ⟨1, yn, yv⟩ hu.st hun hroom) (by kernel_rfl) ⟨by decide, trivial⟩ ?_
    refine M.float ?_
    exact M.retp [((visT w sel f (sf0, [], []) (startF yv)).2.1).length <= ((visT w sel f (sf0, [], []) (startF yv)).2.1).length] (.tup [.agg (isT (fromT w sel f sf0 [] (startF yv)) yv).pv, row 8 Dp.pv ((visT w sel f (sf0, [], []) (startF yv)).2.1), I 0]) (by kernel_rfl) ⟨Nat.le_refl _, trivial⟩ rfl
   ·simp only at k
    subst k
    have hmm := hu.mp (maps.getD yn.toNat default) (getD_mem (by simp only at ky; omega))
    refine M.callmp [(0 : Int) <= 2 /\ (2 : Int) < (5 : Nat)] [3, 4, 5] (pred3_spec (sel := sel) hw hu.clo f sf0 [] maps ⟨2, yn, yv⟩ ky hmm.1 hmm.2.1 hmm.2.2 hun hroom) (by kernel_rfl) ⟨by decide, trivial⟩ ?_
    refine M.float ?_
    exact M.retp [((shapT w sel f sf0 [] (maps.getD yn.toNat default)).2.2.1).length <= ((shapT w sel f sf0 [] (maps.getD yn.toNat default)).2.2.1).length] (.tup [.agg ((shapT w sel f sf0 [] (maps.getD yn.toNat default)).1).pv, row 8 Dp.pv ((shapT w sel f sf0 [] (maps.getD yn.toNat default)).2.2.1), I 0]) (by kernel_rfl) ⟨Nat.le_refl _, trivial⟩ rfl
   ·simp only at k
    subst k
    refine M.callmp [(0 : Int) <= 3 /\ (3 : Int) < (5 : Nat)] [3, 4, 5] (fromR_spec (sel := sel) hw hu.clo f sf0 [] maps ⟨3, yn, yv⟩ 5 hu.i5 hun hroom) (by kernel_rfl) ⟨by decide, trivial⟩ ?_
    refine M.float ?_
    exact M.retp [((visT w sel f (sf0, [], []) 5).2.1).length <= ((visT w sel f (sf0, [], []) 5).2.1).length] (.tup [.agg (fromT w sel f sf0 [] 5).pv, row 8 Dp.pv ((visT w sel f (sf0, [], []) 5).2.1), I 0]) (by kernel_rfl) ⟨Nat.le_refl _, trivial⟩ rfl
   ·simp only at k
    subst k
    refine M.callmp [(0 : Int) <= 4 /\ (4 : Int) < (5 : Nat)] [3, 4, 5] (fromR_spec (sel := sel) hw hu.clo f sf0 [] maps ⟨4, yn, yv⟩ 6 hu.i6 hun hroom) (by kernel_rfl) ⟨by decide, trivial⟩ ?_
    refine M.float ?_
    exact M.retp [((visT w sel f (sf0, [], []) 6).2.1).length <= ((visT w sel f (sf0, [], []) 6).2.1).length] (.tup [.agg (fromT w sel f sf0 [] 6).pv, row 8 Dp.pv ((visT w sel f (sf0, [], []) 6).2.1), I 0]) (by kernel_rfl) ⟨Nat.le_refl _, trivial⟩ rfl
 ·rw [show (knownE w maps [y] != 0) = true by simp [e], cond_true]
  refine M.cl (known_no1 w hw maps y hf e) ?_
  refine M.ys (b := knownE w maps [y] != 0) (by simp [e]) ?_
  exact M.retw [] (.tup [.agg tgZ.pv, nilS, I (knownE w maps [y])]) (by kernel_rfl) trivial fun L W u h => tgz_nil h
section
variable {w0 : W0} {L : List Nat} {P : Program} {Q : Exit -> Act -> World -> Prop} {fn : Func} {c : Cfg}
end
theorem Spec.slNil {P : Program} {f : FuncId} {k : Nat} {el : Nat -> List PV} {r : PV} (h : ∀ a c, Spec P f [.v (.slice a 0 c)] r) : Spec P f [.sl k 0 el] r :=
 ⟨(h none 0).1, fun L W vs hL hG hR => by
  obtain ⟨u, us, rfl, h1, h2⟩ := hR.uncons
  rw [R] at h1
  obtain ⟨a, c, rfl, _⟩ := h1
  exact (h a c).2 L W _ hL hG (Rs.cons (by rw [R]) h2)⟩
theorem SpecM.slNil {P : Program} {f : FuncId} {m k : Nat} {el : Nat -> List PV} {σ σ' : Sig} {r : PV} (h : ∀ a c, SpecM P f m σ [.v (.slice a 0 c)] σ' r) : SpecM P f m σ [.sl k 0 el] σ' r :=
 ⟨(h none 0).1, (h none 0).2.1, fun L β W vs hL hG hB hR => by
  obtain ⟨u, us, rfl, h1, h2⟩ := hR.uncons
  rw [R] at h1
  obtain ⟨a, c, rfl, _⟩ := h1
  exact (h a c).2.2 L β W _ hL hG hB (Rs.cons (by rw [R]) h2)⟩
theorem clone_Slot (l : List Sl) (hl : l.length <= 1000000) : Spec Tryz.prog 178 [row 5 Sl.pv l] (row 5 Sl.pv l) := by
 by_cases h0 : l = []
 ·subst h0
  refine Spec.slNil fun a c => ?_
  cases a with
  | none =>
   refine Spec.startL (by kernel_rfl) Tryz.func178 rfl rfl fun w0 L hst => ?_
   exact M.retw [] (.v (.slice none 0 0)) (by kernel_rfl) trivial fun L W u h => nil_row 5 Sl.pv h
  | some a =>
   refine Spec.startL (by kernel_rfl) Tryz.func178 rfl rfl fun w0 L hst => ?_
   exact M.retw [(0 : Nat) <= 0] (.sl 5 0 (fun j => ((([] : List PV).drop (j * 5)).take 5).map unr)) (by kernel_rfl) ⟨Nat.le_refl _, trivial⟩ fun L W u h => sl_eq (n := 0) (n' := 0) rfl (fun j hj => absurd hj (Nat.not_lt_zero _)) h
 ·have hn : 0 < l.length := List.length_pos_iff.2 h0
  refine Spec.startL (by kernel_rfl) Tryz.func178 rfl rfl fun w0 L hst => ?_
  exact M.retw [0 < l.length, (0 : Nat) = 0 /\ 0 < l.length /\ 0 + l.length <= 9223372036854775807 /\ (0 + l.length) * 56 <= 140737488355328, 0 + l.length <= 0 + l.length] (.sl 5 (0 + l.length) (fun j => (joinEl (fun j => (([] : List PV).drop (j * 5)).take 5) 0 (fun j => Sl.pv (l.getD j default)) j).map unr)) (by kernel_rfl) ⟨hn, ⟨rfl, hn, by omega, by omega⟩, Nat.le_refl _, trivial⟩ fun L W u h => sl_eq (n := 0 + l.length) (n' := l.length) (Nat.zero_add _).symm (fun j hj => by unfold joinEl; rw [if_neg (Nat.not_lt_zero _), Nat.sub_zero]; rfl) h
theorem cloneO_Slot (l : List Sl) (hl : l.length <= 1000000) : SpecM Tryz.prog 178 0 [] [row 5 Sl.pv l] [[.rws 5 l.length (fun j => Sl.pv (l.getD j default))]] (.os 65 0 5 l.length) := by
 by_cases h0 : l = []
 ·subst h0
  refine SpecM.slNil fun a c => ?_
  cases a with
  | none =>
   refine SpecM.start (by kernel_rfl) Tryz.func178 rfl rfl (Nat.le_refl _) fun w0 L hst => ?_
   refine M.nilT [] 65 5 (fun j => Sl.pv (([] : List Sl).getD j default)) 2 (by kernel_rfl) trivial (by kernel_rfl) (by kernel_rfl) ?_
   exact M.retm [] [0] hst rfl (by kernel_rfl) trivial rfl rfl
  | some a =>
   refine SpecM.start (by kernel_rfl) Tryz.func178 rfl rfl (Nat.le_refl _) fun w0 L hst => ?_
   refine M.sigT [] [[.rws 5 0 (fun j => (([] : List PV).drop (j * 5)).take 5)]] [[.rws 5 0 (fun j => Sl.pv (([] : List Sl).getD j default))]] (by kernel_rfl) trivial (by kernel_rfl) (by kernel_rfl) (.cons (.rws rfl fun j hj => absurd hj (Nat.not_lt_zero _)) .nil) ?_
   exact M.retm [] [0] hst rfl (by kernel_rfl) trivial rfl rfl
 ·have hn : 0 < l.length := List.length_pos_iff.2 h0
  refine SpecM.start (by kernel_rfl) Tryz.func178 rfl rfl (Nat.le_refl _) fun w0 L hst => ?_
  refine M.rn [0 < l.length, (0 : Nat) = 0 /\ 0 < l.length /\ 0 + l.length <= 9223372036854775807 /\ (0 + l.length) * 56 <= 140737488355328] [1] hst ⟨hn, ⟨rfl, hn, by omega, by omega⟩, trivial⟩ fun L' => ?_
  refine M.sigT [] [[.rws 5 (0 + l.length) (fun j => (joinEl (fun j => (([] : List PV).drop (j * 5)).take 5) 0 (fun j => Sl.pv (l.getD j default)) j).map (renP (invF [1] 0) 7))]] [[.rws 5 l.length (fun j => Sl.pv (l.getD j default))]] (by kernel_rfl) trivial (by kernel_rfl) (by kernel_rfl) (.cons (.rws (Nat.zero_add _).symm fun j hj β L W us h => by
   unfold joinEl at h; rw [if_neg (Nat.not_lt_zero _), Nat.sub_zero] at h; exact h) .nil) ?_
  have e : 0 + l.length = l.length := Nat.zero_add _
  exact M.retm (r' := .os 65 0 5 (0 + l.length)) [] [0] hst rfl (by kernel_rfl) trivial rfl (by rw [e])
theorem clone_Val (l : List Vl) (hl : l.length <= 1000000) : Spec Tryz.prog 179 [row 3 Vl.pv l] (row 3 Vl.pv l) := by
 by_cases h0 : l = []
 ·subst h0
  refine Spec.slNil fun a c => ?_
  cases a with
  | none =>
   refine Spec.startL (by kernel_rfl) Tryz.func179 rfl rfl fun w0 L hst => ?_
   exact M.retw [] (.v (.slice none 0 0)) (by kernel_rfl) trivial fun L W u h => nil_row 3 Vl.pv h
  | some a =>
   refine Spec.startL (by kernel_rfl) Tryz.func179 rfl rfl fun w0 L hst => ?_
   exact M.retw [(0 : Nat) <= 0] (.sl 3 0 (fun j => ((([] : List PV).drop (j * 3)).take 3).map unr)) (by kernel_rfl) ⟨Nat.le_refl _, trivial⟩ fun L W u h => sl_eq (n := 0) (n' := 0) rfl (fun j hj => absurd hj (Nat.not_lt_zero _)) h
 ·have hn : 0 < l.length := List.length_pos_iff.2 h0
  refine Spec.startL (by kernel_rfl) Tryz.func179 rfl rfl fun w0 L hst => ?_
  exact M.retw [0 < l.length, (0 : Nat) = 0 /\ 0 < l.length /\ 0 + l.length <= 9223372036854775807 /\ (0 + l.length) * 32 <= 140737488355328, 0 + l.length <= 0 + l.length] (.sl 3 (0 + l.length) (fun j => (joinEl (fun j => (([] : List PV).drop (j * 3)).take 3) 0 (fun j => Vl.pv (l.getD j default)) j).map unr)) (by kernel_rfl) ⟨hn, ⟨rfl, hn, by omega, by omega⟩, Nat.le_refl _, trivial⟩ fun L W u h => sl_eq (n := 0 + l.length) (n' := l.length) (Nat.zero_add _).symm (fun j hj => by unfold joinEl; rw [if_neg (Nat.not_lt_zero _), Nat.sub_zero]; rfl) h
theorem clone_Str (l : List (List UInt8)) (hl : l.length <= 1000000) : Spec Tryz.prog 180 [row 1 (fun s => [S s]) l] (row 1 (fun s => [S s]) l) := by
 by_cases h0 : l = []
 ·subst h0
  refine Spec.slNil fun a c => ?_
  cases a with
  | none =>
   refine Spec.startL (by kernel_rfl) Tryz.func180 rfl rfl fun w0 L hst => ?_
   exact M.retw [] (.v (.slice none 0 0)) (by kernel_rfl) trivial fun L W u h => nil_row 1 (fun s => [S s]) h
  | some a =>
   refine Spec.startL (by kernel_rfl) Tryz.func180 rfl rfl fun w0 L hst => ?_
   exact M.retw [(0 : Nat) <= 0] (.sl 1 0 (fun j => ((([] : List PV).drop (j * 1)).take 1).map unr)) (by kernel_rfl) ⟨Nat.le_refl _, trivial⟩ fun L W u h => sl_eq (n := 0) (n' := 0) rfl (fun j hj => absurd hj (Nat.not_lt_zero _)) h
 ·have hn : 0 < l.length := List.length_pos_iff.2 h0
  refine Spec.startL (by kernel_rfl) Tryz.func180 rfl rfl fun w0 L hst => ?_
  exact M.retw [0 < l.length, (0 : Nat) = 0 /\ 0 < l.length /\ 0 + l.length <= 9223372036854775807 /\ (0 + l.length) * 16 <= 140737488355328, 0 + l.length <= 0 + l.length] (.sl 1 (0 + l.length) (fun j => (joinEl (fun j => (([] : List PV).drop (j * 1)).take 1) 0 (fun j => (fun s => [S s]) (l.getD j default)) j).map unr)) (by kernel_rfl) ⟨hn, ⟨rfl, hn, by omega, by omega⟩, Nat.le_refl _, trivial⟩ fun L W u h => sl_eq (n := 0 + l.length) (n' := l.length) (Nat.zero_add _).symm (fun j hj => by unfold joinEl; rw [if_neg (Nat.not_lt_zero _), Nat.sub_zero]; rfl) h
theorem clone_Instr (l : List In) (hl : l.length <= 1000000) : Spec Tryz.prog 181 [row 4 In.pv l] (row 4 In.pv l) := by
 by_cases h0 : l = []
 ·subst h0
  refine Spec.slNil fun a c => ?_
  cases a with
  | none =>
   refine Spec.startL (by kernel_rfl) Tryz.func181 rfl rfl fun w0 L hst => ?_
   exact M.retw [] (.v (.slice none 0 0)) (by kernel_rfl) trivial fun L W u h => nil_row 4 In.pv h
  | some a =>
   refine Spec.startL (by kernel_rfl) Tryz.func181 rfl rfl fun w0 L hst => ?_
   exact M.retw [(0 : Nat) <= 0] (.sl 4 0 (fun j => ((([] : List PV).drop (j * 4)).take 4).map unr)) (by kernel_rfl) ⟨Nat.le_refl _, trivial⟩ fun L W u h => sl_eq (n := 0) (n' := 0) rfl (fun j hj => absurd hj (Nat.not_lt_zero _)) h
 ·have hn : 0 < l.length := List.length_pos_iff.2 h0
  refine Spec.startL (by kernel_rfl) Tryz.func181 rfl rfl fun w0 L hst => ?_
  exact M.retw [0 < l.length, (0 : Nat) = 0 /\ 0 < l.length /\ 0 + l.length <= 9223372036854775807 /\ (0 + l.length) * 32 <= 140737488355328, 0 + l.length <= 0 + l.length] (.sl 4 (0 + l.length) (fun j => (joinEl (fun j => (([] : List PV).drop (j * 4)).take 4) 0 (fun j => In.pv (l.getD j default)) j).map unr)) (by kernel_rfl) ⟨hn, ⟨rfl, hn, by omega, by omega⟩, Nat.le_refl _, trivial⟩ fun L W u h => sl_eq (n := 0 + l.length) (n' := l.length) (Nat.zero_add _).symm (fun j hj => by unfold joinEl; rw [if_neg (Nat.not_lt_zero _), Nat.sub_zero]; rfl) h
theorem wcopyObj (o : Ob) (h0 : o.sl.length <= 1000000) (h1 : o.el.length <= 1000000) : Spec Tryz.prog 136 [.agg o.pv] (.agg o.pv) := by
 refine Spec.startL (by kernel_rfl) Tryz.func136 rfl rfl fun w0 L hst => ?_
 refine M.cl (clone_Slot o.sl h0) ?_
 refine M.cl (clone_Val o.el h1) ?_
 exact M.ret (.agg o.pv) (by kernel_rfl) rfl
theorem wcopyAct (o : Ac) (h0 : o.vars.length <= 1000000) : Spec Tryz.prog 138 [.agg o.pv] (.agg o.pv) := by
 refine Spec.startL (by kernel_rfl) Tryz.func138 rfl rfl fun w0 L hst => ?_
 refine M.cl (clone_Val o.vars h0) ?_
 exact M.ret (.agg o.pv) (by kernel_rfl) rfl
theorem wcopyCode (o : Cd) (h0 : o.names.length <= 1000000) (h1 : o.init.length <= 1000000) (h2 : o.lits.length <= 1000000) (h3 : o.sels.length <= 1000000) (h4 : o.ins.length <= 1000000) : Spec Tryz.prog 140 [.agg o.pv] (.agg o.pv) := by
 refine Spec.startL (by kernel_rfl) Tryz.func140 rfl rfl fun w0 L hst => ?_
 refine M.cl (clone_Str o.names h0) ?_
 refine M.cl (clone_Val o.init h1) ?_
 refine M.cl (clone_Val o.lits h2) ?_
 refine M.cl (clone_Str o.sels h3) ?_
 refine M.cl (clone_Instr o.ins h4) ?_
 exact M.ret (.agg o.pv) (by kernel_rfl) rfl
theorem ccopyObj (o : Ob) (h0 : o.sl.length <= 1000000) (h1 : o.el.length <= 1000000) : Spec Tryz.prog 194 [.agg o.pv] (.agg o.pv) := by
 refine Spec.startL (by kernel_rfl) Tryz.func194 rfl rfl fun w0 L hst => ?_
 refine M.cl (clone_Slot o.sl h0) ?_
 refine M.cl (clone_Val o.el h1) ?_
 exact M.ret (.agg o.pv) (by kernel_rfl) rfl
theorem ccopyAct (o : Ac) (h0 : o.vars.length <= 1000000) : Spec Tryz.prog 196 [.agg o.pv] (.agg o.pv) := by
 refine Spec.startL (by kernel_rfl) Tryz.func196 rfl rfl fun w0 L hst => ?_
 refine M.cl (clone_Val o.vars h0) ?_
 exact M.ret (.agg o.pv) (by kernel_rfl) rfl
theorem ccopyCode (o : Cd) (h0 : o.names.length <= 1000000) (h1 : o.init.length <= 1000000) (h2 : o.lits.length <= 1000000) (h3 : o.sels.length <= 1000000) (h4 : o.ins.length <= 1000000) : Spec Tryz.prog 198 [.agg o.pv] (.agg o.pv) := by
 refine Spec.startL (by kernel_rfl) Tryz.func198 rfl rfl fun w0 L hst => ?_
 refine M.cl (clone_Str o.names h0) ?_
 refine M.cl (clone_Val o.init h1) ?_
 refine M.cl (clone_Val o.lits h2) ?_
 refine M.cl (clone_Str o.sels h3) ?_
 refine M.cl (clone_Instr o.ins h4) ?_
 exact M.ret (.agg o.pv) (by kernel_rfl) rfl
theorem w_mapped_Obj (l : List Ob) (g : Nat) (hl : l.length <= 1000000000) (hg : ∀ x ∈ l, Spec Tryz.prog g [.agg x.pv] (.agg x.pv)) : SpecM Tryz.prog 135 0 [] [row 6 Ob.pv l, .fn g []] [[.rws 6 l.length (fun j => Ob.pv (l.getD j default))]] (.os 73 0 6 l.length) := by
 refine SpecM.start (by kernel_rfl) Tryz.func135 rfl rfl (Nat.le_refl _) fun w0 L hst => ?_
 refine M.nilT [] 73 6 (fun j => Ob.pv (l.getD j default)) 5 (by kernel_rfl) trivial (by kernel_rfl) (by kernel_rfl) ?_
 refine M.loopL (ι := {i : Nat // i <= l.length}) (fun i => [(1, .fn g []), (5, .os 73 0 6 i.1), (8, row 6 Ob.pv l), (9, I l.length), (10, I i.1)])
  (fun i => [[.rws 6 i.1 (fun j => Ob.pv (l.getD j default))]]) (fun i => l.length - i.1) ⟨0, Nat.zero_le _⟩ [] (by kernel_rfl) trivial (by kernel_rfl) (by kernel_rfl) fun ⟨i, hi⟩ L ih => ?_
 refine M.ts (decide ((i : Int) < (l.length : Int))) (fun h1 => ?_) (fun h1 => ?_)
 ·have hlt : i < l.length := by simpa using h1
  refine M.clp [0 <= (i : Int) /\ (i : Int) < (l.length : Int)] ⟨by omega, trivial⟩ (hg _ (getD_mem (p := (i : Int).toNat) (by omega))) ?_
  refine M.rn [i = i /\ 0 < 1 /\ i + 1 <= 9223372036854775807 /\ (i + 1) * 80 <= 140737488355328, In64 ((i : Int) + 1)] [2] hst ⟨⟨rfl, by omega, by omega, by omega⟩, ⟨by omega, by omega⟩, trivial⟩ fun L' => ?_
  refine M.sig [] [[.rws 6 (i + 1) (fun j => (joinEl (fun j => Ob.pv (l.getD j default)) i (fun j => ((Ob.pv (l.getD (i : Int).toNat default)).drop (j * 6)).take 6) j).map (renP (invF [2] 0) 7))]]
   [[.rws 6 (i + 1) (fun j => Ob.pv (l.getD j default))]] (by kernel_rfl) trivial (by kernel_rfl) (by kernel_rfl) (.cons (app_cells rfl rfl fun j => rfl) .nil) ?_
  exact M.bk [] (ih ⟨i + 1, hlt⟩ L' (by show l.length - (i + 1) < l.length - i; omega)) trivial
 ·have : i = l.length := by have := of_decide_eq_false h1; omega
  subst this
  exact M.retm [] [0] hst rfl (by kernel_rfl) trivial rfl rfl
theorem w_mapped_Act (l : List Ac) (g : Nat) (hl : l.length <= 1000000000) (hg : ∀ x ∈ l, Spec Tryz.prog g [.agg x.pv] (.agg x.pv)) : SpecM Tryz.prog 137 0 [] [row 9 Ac.pv l, .fn g []] [[.rws 9 l.length (fun j => Ac.pv (l.getD j default))]] (.os 75 0 9 l.length) := by
 refine SpecM.start (by kernel_rfl) Tryz.func137 rfl rfl (Nat.le_refl _) fun w0 L hst => ?_
 refine M.nilT [] 75 9 (fun j => Ac.pv (l.getD j default)) 5 (by kernel_rfl) trivial (by kernel_rfl) (by kernel_rfl) ?_
 refine M.loopL (ι := {i : Nat // i <= l.length}) (fun i => [(1, .fn g []), (5, .os 75 0 9 i.1), (8, row 9 Ac.pv l), (9, I l.length), (10, I i.1)])
  (fun i => [[.rws 9 i.1 (fun j => Ac.pv (l.getD j default))]]) (fun i => l.length - i.1) ⟨0, Nat.zero_le _⟩ [] (by kernel_rfl) trivial (by kernel_rfl) (by kernel_rfl) fun ⟨i, hi⟩ L ih => ?_
 refine M.ts (decide ((i : Int) < (l.length : Int))) (fun h1 => ?_) (fun h1 => ?_)
 ·have hlt : i < l.length := by simpa using h1
  refine M.clp [0 <= (i : Int) /\ (i : Int) < (l.length : Int)] ⟨by omega, trivial⟩ (hg _ (getD_mem (p := (i : Int).toNat) (by omega))) ?_
  refine M.rn [i = i /\ 0 < 1 /\ i + 1 <= 9223372036854775807 /\ (i + 1) * 96 <= 140737488355328, In64 ((i : Int) + 1)] [2] hst ⟨⟨rfl, by omega, by omega, by omega⟩, ⟨by omega, by omega⟩, trivial⟩ fun L' => ?_
  refine M.sig [] [[.rws 9 (i + 1) (fun j => (joinEl (fun j => Ac.pv (l.getD j default)) i (fun j => ((Ac.pv (l.getD (i : Int).toNat default)).drop (j * 9)).take 9) j).map (renP (invF [2] 0) 7))]]
   [[.rws 9 (i + 1) (fun j => Ac.pv (l.getD j default))]] (by kernel_rfl) trivial (by kernel_rfl) (by kernel_rfl) (.cons (app_cells rfl rfl fun j => rfl) .nil) ?_
  exact M.bk [] (ih ⟨i + 1, hlt⟩ L' (by show l.length - (i + 1) < l.length - i; omega)) trivial
 ·have : i = l.length := by have := of_decide_eq_false h1; omega
  subst this
  exact M.retm [] [0] hst rfl (by kernel_rfl) trivial rfl rfl
theorem w_mapped_Code (l : List Cd) (g : Nat) (hl : l.length <= 1000000000) (hg : ∀ x ∈ l, Spec Tryz.prog g [.agg x.pv] (.agg x.pv)) : SpecM Tryz.prog 139 0 [] [row 9 Cd.pv l, .fn g []] [[.rws 9 l.length (fun j => Cd.pv (l.getD j default))]] (.os 79 0 9 l.length) := by
 refine SpecM.start (by kernel_rfl) Tryz.func139 rfl rfl (Nat.le_refl _) fun w0 L hst => ?_
 refine M.nilT [] 79 9 (fun j => Cd.pv (l.getD j default)) 5 (by kernel_rfl) trivial (by kernel_rfl) (by kernel_rfl) ?_
 refine M.loopL (ι := {i : Nat // i <= l.length}) (fun i => [(1, .fn g []), (5, .os 79 0 9 i.1), (8, row 9 Cd.pv l), (9, I l.length), (10, I i.1)])
  (fun i => [[.rws 9 i.1 (fun j => Cd.pv (l.getD j default))]]) (fun i => l.length - i.1) ⟨0, Nat.zero_le _⟩ [] (by kernel_rfl) trivial (by kernel_rfl) (by kernel_rfl) fun ⟨i, hi⟩ L ih => ?_
 refine M.ts (decide ((i : Int) < (l.length : Int))) (fun h1 => ?_) (fun h1 => ?_)
 ·have hlt : i < l.length := by simpa using h1
  refine M.clp [0 <= (i : Int) /\ (i : Int) < (l.length : Int)] ⟨by omega, trivial⟩ (hg _ (getD_mem (p := (i : Int).toNat) (by omega))) ?_
  refine M.rn [i = i /\ 0 < 1 /\ i + 1 <= 9223372036854775807 /\ (i + 1) * 160 <= 140737488355328, In64 ((i : Int) + 1)] [2] hst ⟨⟨rfl, by omega, by omega, by omega⟩, ⟨by omega, by omega⟩, trivial⟩ fun L' => ?_
  refine M.sig [] [[.rws 9 (i + 1) (fun j => (joinEl (fun j => Cd.pv (l.getD j default)) i (fun j => ((Cd.pv (l.getD (i : Int).toNat default)).drop (j * 9)).take 9) j).map (renP (invF [2] 0) 7))]]
   [[.rws 9 (i + 1) (fun j => Cd.pv (l.getD j default))]] (by kernel_rfl) trivial (by kernel_rfl) (by kernel_rfl) (.cons (app_cells rfl rfl fun j => rfl) .nil) ?_
  exact M.bk [] (ih ⟨i + 1, hlt⟩ L' (by show l.length - (i + 1) < l.length - i; omega)) trivial
 ·have : i = l.length := by have := of_decide_eq_false h1; omega
  subst this
  exact M.retm [] [0] hst rfl (by kernel_rfl) trivial rfl rfl
theorem c_mapped_Obj (l : List Ob) (g : Nat) (hl : l.length <= 1000000000) (hg : ∀ x ∈ l, Spec Tryz.prog g [.agg x.pv] (.agg x.pv)) : SpecM Tryz.prog 193 0 [] [row 6 Ob.pv l, .fn g []] [[.rws 6 l.length (fun j => Ob.pv (l.getD j default))]] (.os 73 0 6 l.length) := by
 refine SpecM.start (by kernel_rfl) Tryz.func193 rfl rfl (Nat.le_refl _) fun w0 L hst => ?_
 refine M.nilT [] 73 6 (fun j => Ob.pv (l.getD j default)) 5 (by kernel_rfl) trivial (by kernel_rfl) (by kernel_rfl) ?_
 refine M.loopL (ι := {i : Nat // i <= l.length}) (fun i => [(1, .fn g []), (5, .os 73 0 6 i.1), (8, row 6 Ob.pv l), (9, I l.length), (10, I i.1)])
  (fun i => [[.rws 6 i.1 (fun j => Ob.pv (l.getD j default))]]) (fun i => l.length - i.1) ⟨0, Nat.zero_le _⟩ [] (by kernel_rfl) trivial (by kernel_rfl) (by kernel_rfl) fun ⟨i, hi⟩ L ih => ?_
 refine M.ts (decide ((i : Int) < (l.length : Int))) (fun h1 => ?_) (fun h1 => ?_)
 ·have hlt : i < l.length := by simpa using h1
  refine M.clp [0 <= (i : Int) /\ (i : Int) < (l.length : Int)] ⟨by omega, trivial⟩ (hg _ (getD_mem (p := (i : Int).toNat) (by omega))) ?_
  refine M.rn [i = i /\ 0 < 1 /\ i + 1 <= 9223372036854775807 /\ (i + 1) * 80 <= 140737488355328, In64 ((i : Int) + 1)] [2] hst ⟨⟨rfl, by omega, by omega, by omega⟩, ⟨by omega, by omega⟩, trivial⟩ fun L' => ?_
  refine M.sig [] [[.rws 6 (i + 1) (fun j => (joinEl (fun j => Ob.pv (l.getD j default)) i (fun j => ((Ob.pv (l.getD (i : Int).toNat default)).drop (j * 6)).take 6) j).map (renP (invF [2] 0) 7))]]
   [[.rws 6 (i + 1) (fun j => Ob.pv (l.getD j default))]] (by kernel_rfl) trivial (by kernel_rfl) (by kernel_rfl) (.cons (app_cells rfl rfl fun j => rfl) .nil) ?_
  exact M.bk [] (ih ⟨i + 1, hlt⟩ L' (by show l.length - (i + 1) < l.length - i; omega)) trivial
 ·have : i = l.length := by have := of_decide_eq_false h1; omega
  subst this
  exact M.retm [] [0] hst rfl (by kernel_rfl) trivial rfl rfl
theorem c_mapped_Act (l : List Ac) (g : Nat) (hl : l.length <= 1000000000) (hg : ∀ x ∈ l, Spec Tryz.prog g [.agg x.pv] (.agg x.pv)) : SpecM Tryz.prog 195 0 [] [row 9 Ac.pv l, .fn g []] [[.rws 9 l.length (fun j => Ac.pv (l.getD j default))]] (.os 75 0 9 l.length) := by
 refine SpecM.start (by kernel_rfl) Tryz.func195 rfl rfl (Nat.le_refl _) fun w0 L hst => ?_
 refine M.nilT [] 75 9 (fun j => Ac.pv (l.getD j default)) 5 (by kernel_rfl) trivial (by kernel_rfl) (by kernel_rfl) ?_
 refine M.loopL (ι := {i : Nat // i <= l.length}) (fun i => [(1, .fn g []), (5, .os 75 0 9 i.1), (8, row 9 Ac.pv l), (9, I l.length), (10, I i.1)])
  (fun i => [[.rws 9 i.1 (fun j => Ac.pv (l.getD j default))]]) (fun i => l.length - i.1) ⟨0, Nat.zero_le _⟩ [] (by kernel_rfl) trivial (by kernel_rfl) (by kernel_rfl) fun ⟨i, hi⟩ L ih => ?_
 refine M.ts (decide ((i : Int) < (l.length : Int))) (fun h1 => ?_) (fun h1 => ?_)
 ·have hlt : i < l.length := by simpa using h1
  refine M.clp [0 <= (i : Int) /\ (i : Int) < (l.length : Int)] ⟨by omega, trivial⟩ (hg _ (getD_mem (p := (i : Int).toNat) (by omega))) ?_
  refine M.rn [i = i /\ 0 < 1 /\ i + 1 <= 9223372036854775807 /\ (i + 1) * 96 <= 140737488355328, In64 ((i : Int) + 1)] [2] hst ⟨⟨rfl, by omega, by omega, by omega⟩, ⟨by omega, by omega⟩, trivial⟩ fun L' => ?_
  refine M.sig [] [[.rws 9 (i + 1) (fun j => (joinEl (fun j => Ac.pv (l.getD j default)) i (fun j => ((Ac.pv (l.getD (i : Int).toNat default)).drop (j * 9)).take 9) j).map (renP (invF [2] 0) 7))]]
   [[.rws 9 (i + 1) (fun j => Ac.pv (l.getD j default))]] (by kernel_rfl) trivial (by kernel_rfl) (by kernel_rfl) (.cons (app_cells rfl rfl fun j => rfl) .nil) ?_
  exact M.bk [] (ih ⟨i + 1, hlt⟩ L' (by show l.length - (i + 1) < l.length - i; omega)) trivial
 ·have : i = l.length := by have := of_decide_eq_false h1; omega
  subst this
  exact M.retm [] [0] hst rfl (by kernel_rfl) trivial rfl rfl
theorem c_mapped_Code (l : List Cd) (g : Nat) (hl : l.length <= 1000000000) (hg : ∀ x ∈ l, Spec Tryz.prog g [.agg x.pv] (.agg x.pv)) : SpecM Tryz.prog 197 0 [] [row 9 Cd.pv l, .fn g []] [[.rws 9 l.length (fun j => Cd.pv (l.getD j default))]] (.os 79 0 9 l.length) := by
 refine SpecM.start (by kernel_rfl) Tryz.func197 rfl rfl (Nat.le_refl _) fun w0 L hst => ?_
 refine M.nilT [] 79 9 (fun j => Cd.pv (l.getD j default)) 5 (by kernel_rfl) trivial (by kernel_rfl) (by kernel_rfl) ?_
 refine M.loopL (ι := {i : Nat // i <= l.length}) (fun i => [(1, .fn g []), (5, .os 79 0 9 i.1), (8, row 9 Cd.pv l), (9, I l.length), (10, I i.1)])
  (fun i => [[.rws 9 i.1 (fun j => Cd.pv (l.getD j default))]]) (fun i => l.length - i.1) ⟨0, Nat.zero_le _⟩ [] (by kernel_rfl) trivial (by kernel_rfl) (by kernel_rfl) fun ⟨i, hi⟩ L ih => ?_
 refine M.ts (decide ((i : Int) < (l.length : Int))) (fun h1 => ?_) (fun h1 => ?_)
 ·have hlt : i < l.length := by simpa using h1
  refine M.clp [0 <= (i : Int) /\ (i : Int) < (l.length : Int)] ⟨by omega, trivial⟩ (hg _ (getD_mem (p := (i : Int).toNat) (by omega))) ?_
  refine M.rn [i = i /\ 0 < 1 /\ i + 1 <= 9223372036854775807 /\ (i + 1) * 160 <= 140737488355328, In64 ((i : Int) + 1)] [2] hst ⟨⟨rfl, by omega, by omega, by omega⟩, ⟨by omega, by omega⟩, trivial⟩ fun L' => ?_
  refine M.sig [] [[.rws 9 (i + 1) (fun j => (joinEl (fun j => Cd.pv (l.getD j default)) i (fun j => ((Cd.pv (l.getD (i : Int).toNat default)).drop (j * 9)).take 9) j).map (renP (invF [2] 0) 7))]]
   [[.rws 9 (i + 1) (fun j => Cd.pv (l.getD j default))]] (by kernel_rfl) trivial (by kernel_rfl) (by kernel_rfl) (.cons (app_cells rfl rfl fun j => rfl) .nil) ?_
  exact M.bk [] (ih ⟨i + 1, hlt⟩ L' (by show l.length - (i + 1) < l.length - i; omega)) trivial
 ·have : i = l.length := by have := of_decide_eq_false h1; omega
  subst this
  exact M.retm [] [0] hst rfl (by kernel_rfl) trivial rfl rfl
end Go.Proofs.YtplpnfjccemdnaaGreatDoor
