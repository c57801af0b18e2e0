import Derived.Test.YtplpnfjccemdnaaGreatDoorJ7
import Derived.Test.YtplpnfjccemdnaaGreatDoorJ6
set_option linter.unusedVariables false
set_option linter.unusedSimpArgs false
/- The texts V15 of the proof, laid one behind the other. -/
namespace Go.Proofs.YtplpnfjccemdnaaGreatDoor
open Go.RowKit
def maskE (all : Array Oper) (E0 E : Env) (l : Array Bool) : Nat -> Env
 | 0 => E
 | k + 1 =>
  match dstOf all k with
  | some t => if l.getD k false then maskE all E0 E l k else (t, lk E0 t) :: maskE all E0 E l k
  | none => maskE all E0 E l k
theorem lk_mask {all : Array Oper} {E0 E : Env} {l : Array Bool} (hd : ∀ j k t, dstOf all j = some t -> dstOf all k = some t -> j = k) (t : Nat) : ∀ n,
  ((∀ k, k < n -> dstOf all k = some t -> l.getD k false = true) -> lk (maskE all E0 E l n) t = lk E t) /\
  (∀ k, k < n -> dstOf all k = some t -> l.getD k false = false -> lk (maskE all E0 E l n) t = lk E0 t)
 | 0 => ⟨fun _ => rfl, fun k hk => absurd hk (Nat.not_lt_zero _)⟩
 | n + 1 => by
  obtain ⟨h1, h2⟩ := lk_mask hd (E0 := E0) (E := E) (l := l) t n
  constructor
  ·intro hall
   unfold maskE
   split
   ·rename_i s hs
    split
    ·exact h1 fun k hk => hall k (Nat.lt_succ_of_lt hk)
    ·rename_i hl
     simp only [lk]
     by_cases e : s = t
     ·subst e; exact absurd (hall n (Nat.lt_succ_self n) hs) hl
     ·rw [if_neg e]; exact h1 fun k hk => hall k (Nat.lt_succ_of_lt hk)
   ·exact h1 fun k hk => hall k (Nat.lt_succ_of_lt hk)
  ·intro k hk hkt hkl
   unfold maskE
   split
   ·rename_i s hs
    split
    ·rename_i hl
     by_cases e : k = n
     ·subst e; rw [hkl] at hl; cases hl
     ·exact h2 k (by omega) hkt hkl
    ·rename_i hl
     simp only [lk]
     by_cases e : s = t
     ·rw [if_pos e]; subst e; rfl
     ·rw [if_neg e]
      have : k ≠ n := fun e' => by subst e'; rw [hkt] at hs; exact e (Option.some.inj hs).symm
      exact h2 k (by omega) hkt hkl
   ·rename_i hs
    have : k ≠ n := fun e' => by subst e'; rw [hkt] at hs; cases hs
    exact h2 k (by omega) hkt hkl
theorem guard_congr {all : Array Oper} {E E' : Env} {o : Oper} (h : ∀ t ∈ slotsOf all o, lk E t = lk E' t) : guardP all E o = guardP all E' o := by
 unfold guardP
 split
 ·rfl
 ·rename_i j want hg
  have hg' := hg
  cases hd : (all[j]?).bind (·.dst) with
  | none => rfl
  | some t =>
   simp only
   rw [h t (by unfold slotsOf; rw [hg']; simp [dstOf, hd])]
theorem evA_congr {all : Array Oper} {E E' : Env} {o : Oper} (h : ∀ t ∈ slotsOf all o, lk E t = lk E' t) : ∀ x ∈ o.op.operands, evA E x = evA E' x := by
 intro x hx
 cases x with
 | tmp t => exact h t (by unfold slotsOf; exact List.mem_append.2 (.inl (List.mem_filterMap.2 ⟨_, by simpa using hx, rfl⟩)))
 | _ => rfl
theorem reach_lt {all : Array Oper} (hok : okD all = true) : ∀ (n j k : Nat), reachP all n j k = true -> k < j
 | 0, _, _, h => by cases h
 | n + 1, j, k, h => by
  unfold reachP at h
  simp only [Bool.or_eq_true] at h
  rcases h with h | h
  ·cases ho : all[j]? with
   | none => simp [dirP, ho] at h
   | some o =>
    obtain ⟨e, he, hb, heq⟩ := dirP_at ho h
    have := (okD_at hok ho).1 e he hb
    omega
  ·split at h
   ·rename_i o ho
    obtain ⟨e, he, hb⟩ := List.any_eq_true.1 h
    simp only [Bool.and_eq_true] at hb
    have h1 := (okD_at hok ho).1 e (by simpa using he) hb.1
    have h2 := reach_lt hok n _ _ hb.2
    omega
   ·cases h
theorem reach_done {all : Array Oper} {l : Array Bool} (hcl : ∀ (j : Nat) (o : Oper), all[j]? = some o -> l.getD j false = true -> ∀ e ∈ o.after, Region.binds .any e = true -> l.getD e.on false = true) :
  ∀ (n j k : Nat), reachP all n j k = true -> (∀ o, all[j]? = some o -> ∀ e ∈ o.after, Region.binds .any e = true -> l.getD e.on false = true) -> l.getD k false = true
 | 0, _, _, h, _ => by cases h
 | n + 1, j, k, h, hp => by
  unfold reachP at h
  simp only [Bool.or_eq_true] at h
  rcases h with h | h
  ·cases ho : all[j]? with
   | none => simp [dirP, ho] at h
   | some o =>
    obtain ⟨e, he, hb, heq⟩ := dirP_at ho h
    rw [<- heq]; exact hp o ho e he hb
  ·split at h
   ·rename_i o ho
    obtain ⟨e, he, hb⟩ := List.any_eq_true.1 h
    simp only [Bool.and_eq_true] at hb
    have h1 := hp o ho e (by simpa using he) hb.1
    exact reach_done hcl n _ _ hb.2 fun o' ho' => hcl _ o' ho' h1
   ·cases h
def top (ss : List Nat) (l : Array Bool) : Nat -> Nat
 | 0 => 0
 | n + 1 => if n ∈ ss /\ l.getD n false = true then n + 1 else top ss l n
theorem top_le (ss : List Nat) (l : Array Bool) : ∀ n, top ss l n <= n
 | 0 => Nat.le_refl _
 | n + 1 => by
  unfold top; split
  ·exact Nat.le_refl _
  ·exact Nat.le_succ_of_le (top_le ss l n)
theorem top_none {ss : List Nat} {l : Array Bool} : ∀ {n t : Nat}, top ss l n <= t -> t < n -> t ∈ ss -> l.getD t false = false
 | 0, t, _, h, _ => absurd h (Nat.not_lt_zero _)
 | n + 1, t, h1, h2, h3 => by
  unfold top at h1
  split at h1
  ·omega
  ·rename_i hc
   by_cases e : t = n
   ·subst e
    cases hl : l.getD t false with
    | false => rfl
    | true => exact absurd ⟨h3, hl⟩ hc
   ·exact top_none h1 (by omega) h3
theorem top_done {ss : List Nat} {l : Array Bool} : ∀ {n m : Nat}, top ss l n = m + 1 -> m ∈ ss /\ l.getD m false = true /\ m < n
 | 0, m, h => by simp [top] at h
 | n + 1, m, h => by
  unfold top at h
  split at h
  ·rename_i hc; cases h; exact ⟨hc.1, hc.2, Nat.lt_succ_self _⟩
  ·obtain ⟨a, b, c⟩ := top_done h; exact ⟨a, b, Nat.lt_succ_of_lt c⟩
theorem top_congr {ss : List Nat} {l l' : Array Bool} (h : ∀ t, t ∈ ss -> l.getD t false = l'.getD t false) : ∀ n, top ss l n = top ss l' n
 | 0 => rfl
 | n + 1 => by
  unfold top
  rw [top_congr h n]
  by_cases hn : n ∈ ss
  ·rw [h n hn]
  ·simp [hn]
theorem top_eq {ss : List Nat} {l : Array Bool} {j : Nat} (hj : j ∈ ss) (hl : l.getD j false = true) (ha : ∀ t, t ∈ ss -> j < t -> l.getD t false = false) : ∀ {n : Nat}, j < n -> top ss l n = j + 1
 | 0, h => absurd h (Nat.not_lt_zero _)
 | n + 1, h => by
  unfold top
  by_cases e : n = j
  ·subst e; rw [if_pos ⟨hj, hl⟩]
  ·rw [if_neg (fun hc => by have := ha n hc.1 (by omega); rw [hc.2] at this; cases this)]
   exact top_eq hj hl ha (by omega)
section
variable {w0 : W0} {W : World} {L : List Nat} {β : List (Option Nat)} {N : Nat} {P : Program} {all : Array Oper} {ss : List (Nat × List Nat)} {ds : List (Nat × Option Nat)} {E0 E : Env} {σ0 σ : Sig} {Q : Exit -> Act -> World -> Prop} {a : Act}
theorem Inv.to {F G : Env} (h : Inv w0 L β σ N F a W) (k : ∀ t u, R β L W (lk F t) u -> R β L W (lk G t) u) : Inv w0 L β σ N G a W :=
 { h with ev := ⟨h.ev.1, fun t => k t _ (h.ev.2 t)⟩ }
theorem sg_const {si : List Nat} {sg : Nat -> Sig} {n : Nat} (gc : ∀ j, j < n -> j ∉ si -> sg (j + 1) = sg j) {a : Nat} : ∀ (b : Nat), a <= b -> b <= n -> (∀ t, a <= t -> t < b -> t ∉ si) -> sg b = sg a
  | 0, h, _, _ => by have : a = 0 := by omega
                     rw [this]
  | b + 1, h, hn, hno => by
    by_cases e : a = b + 1
    · rw [e]
    · rw [gc b (by omega) (hno b (by omega) (Nat.lt_succ_self _))]
      exact sg_const gc b (by omega) (by omega) fun t h1 h2 => hno t h1 (by omega)
theorem sg_at {sg : Nat -> Sig} {x a : Nat} : ∀ (b : Nat), a <= b -> (∀ t, a <= t -> t < b -> (sg (t + 1))[x]? = (sg t)[x]?) -> (sg b)[x]? = (sg a)[x]?
  | 0, h, _ => by have : a = 0 := by omega
                  rw [this]
  | b + 1, h, hno => by
    by_cases e : a = b + 1
    · rw [e]
    · rw [hno b (by omega) (Nat.lt_succ_self _)]
      exact sg_at b (by omega) fun t h1 h2 => hno t h1 (by omega)
def si (ss : List (Nat × List Nat)) : List Nat := ss.map (·.1)
theorem mem_si {t : Nat} : t ∈ si ss ↔ ∃ tl, (t, tl) ∈ ss := by simp [si]
def noDef (all : Array Oper) : Bool := all.all fun o => !isDefer o.op
theorem noDef_at {all : Array Oper} (h : noDef all = true) {j : Nat} {o : Oper} (ho : all[j]? = some o) : isDefer o.op = false := by
 obtain ⟨hlt, e⟩ := Array.getElem?_eq_some_iff.1 ho
 have := (Array.all_eq_true.1 h) j hlt
 rw [e] at this
 simpa using this
def cutOk (all : Array Oper) (n : Nat) : Bool := (List.range n).all (fun k => reachP all 12 n k) && (List.range all.size).all fun j => !decide (n < j) || reachP all 12 j n
theorem drawn_fl {ro : Option Nat} {nn n : Nat} (fl : Nat -> Bool) (lo : Nat -> Option Bool) (hlo : ∀ k b, lo k = some b -> fl k = true) (hn : n <= all.size) (hcut : n = all.size \/ cutOk all n = true) (hnd : noDef all = true) (hok : okD all = true) (hS : okS all ss ds = true) {sg0 : Nat -> Sig} (gi0 : sg0 n = σ) (gc00 : ∀ j, j < n -> (∀ tl, (j, tl) ∉ ss) -> sg0 (j + 1) = sg0 j) (gt0 : ∀ j tl, (j, tl) ∈ ss -> ∀ x, x ∉ tl -> (sg0 (j + 1))[x]? = (sg0 j)[x]?) (hss00 : ∀ q ∈ ss, q.1 < n)
  (hE0 : ∀ t, (∀ k, k < n -> dstOf all k ≠ some t) -> eqR (lk E0 t) (lk E t))
  (hdata0 : ∀ j, j < n -> fl j = false -> ∃ o Ej p k, all[j]? = some o /\ fitsD N o.dst = true /\ Did P all o Ej (sg0 j) (sg0 (j + 1)) p k /\ (∀ tl, k = .wr tl -> (j, tl) ∈ ss) /\ (∀ x, k = .rd x -> (j, x) ∈ ds) /\ (∀ tl, (j, tl) ∈ ss -> k = .wr tl) /\
   (∀ t, (∀ k, j <= k -> k < n -> dstOf all k ≠ some t) -> eqR (lk Ej t) (lk E t)) /\
   (∀ t, (∀ k, k < j -> dstOf all k ≠ some t) -> eqR (lk E0 t) (lk Ej t)) /\
   (∀ t, o.dst = some t -> eqR p (lk E t)))
  (hQ : n = all.size -> (∀ k b, lo k = some b -> k < n -> b = true) -> ∀ β a W, Inv w0 L β σ N E a W -> Q .normal a W) (hP : n < all.size -> ∀ (fuel : Nat) (l : Array Bool) β a W, l.size = all.size -> ((List.range all.size).filter fun k => !l.getD k true).length <= fuel -> (∀ (j : Nat) (o : Oper), all[j]? = some o -> l.getD j false = true -> ∀ e ∈ o.after, Region.binds .any e = true -> l.getD e.on false = true) -> (∀ k, k < n -> l.getD k false = true) -> (∀ k, n <= k -> l.getD k false = false) -> (∀ k b, lo k = some b -> l.getD k false = b) -> Inv w0 L β σ N E a W -> wpAnyIn (Fr ro) nn P .any all Q fuel l a W)
  (hFl : ∀ j o, all[j]? = some o -> fl j = true -> j < n -> ∀ (fuel : Nat) (l : Array Bool) (β : List (Option Nat)) (a : Act) (W : World), l.size = all.size -> l.getD j false = false -> (∀ k b, lo k = some b -> l.getD k false = b) ->
   ((List.range all.size).filter fun k => !(l.setIfInBounds j true).getD k true).length <= fuel -> (∀ (k : Nat) (ok : Oper), all[k]? = some ok -> (l.setIfInBounds j true).getD k false = true -> ∀ e ∈ ok.after, Region.binds .any e = true -> (l.setIfInBounds j true).getD e.on false = true) -> (∀ k, n <= k -> (l.setIfInBounds j true).getD k false = false) ->
   Inv w0 L β (sg0 (min (top (si ss) l all.size) n)) N (maskE all E0 E l all.size) a W -> wpOpIn (Fr ro) nn P all Q j (fun a' W' => wpAnyIn (Fr ro) nn P .any all Q fuel (l.setIfInBounds j true) a' W') a W) : ∀ (fuel : Nat) (l : Array Bool), l.size = all.size -> ((List.range all.size).filter fun k => !l.getD k true).length <= fuel ->
   (∀ (j : Nat) (o : Oper), all[j]? = some o -> l.getD j false = true -> ∀ e ∈ o.after, Region.binds .any e = true -> l.getD e.on false = true) -> (∀ k, n <= k -> l.getD k false = false) -> (∀ k b, lo k = some b -> l.getD k false = b) ->
   ∀ β a W, Inv w0 L β (sg0 (min (top (si ss) l all.size) n)) N (maskE all E0 E l all.size) a W -> wpAnyIn (Fr ro) nn P .any all Q fuel l a W := by
 obtain ⟨sg, hsg⟩ : ∃ sg : Nat -> Sig, ∀ x, sg x = sg0 (min x n) := ⟨_, fun _ => rfl⟩
 simp only [<- hsg] at hFl ⊢
 have gi : sg all.size = σ := by rw [hsg, Nat.min_eq_right hn, gi0]
 have gc0 : ∀ j, j < all.size -> (∀ tl, (j, tl) ∉ ss) -> sg (j + 1) = sg j := fun j hj h => by
  rw [hsg, hsg]
  by_cases hjn : j < n
  ·rw [Nat.min_eq_left (by omega), Nat.min_eq_left (by omega)]; exact gc00 j hjn h
  ·rw [Nat.min_eq_right (by omega), Nat.min_eq_right (by omega)]
 have gt : ∀ j tl, (j, tl) ∈ ss -> ∀ x, x ∉ tl -> (sg (j + 1))[x]? = (sg j)[x]? := fun j tl h x hx => by
  have hj : j < n := hss00 _ h
  rw [hsg, hsg, Nat.min_eq_left (by omega), Nat.min_eq_left (by omega)]; exact gt0 j tl h x hx
 have hss0 : ∀ q ∈ ss, q.1 < all.size := fun q hq => Nat.lt_of_lt_of_le (hss00 q hq) hn
 have hdata : ∀ j, j < n -> fl j = false -> ∃ o Ej p k, all[j]? = some o /\ fitsD N o.dst = true /\ Did P all o Ej (sg j) (sg (j + 1)) p k /\ (∀ tl, k = .wr tl -> (j, tl) ∈ ss) /\ (∀ x, k = .rd x -> (j, x) ∈ ds) /\ (∀ tl, (j, tl) ∈ ss -> k = .wr tl) /\
   (∀ t, (∀ k, j <= k -> k < n -> dstOf all k ≠ some t) -> eqR (lk Ej t) (lk E t)) /\
   (∀ t, (∀ k, k < j -> dstOf all k ≠ some t) -> eqR (lk E0 t) (lk Ej t)) /\
   (∀ t, o.dst = some t -> eqR p (lk E t)) := fun j hj hf => by
  rw [hsg, hsg, Nat.min_eq_left (by omega), Nat.min_eq_left (by omega)]; exact hdata0 j hj hf
 have gc : ∀ j, j < all.size -> j ∉ si ss -> sg (j + 1) = sg j := fun j hj hn => gc0 j hj fun tl h => hn (mem_si.2 ⟨tl, h⟩)
 have hss : ∀ j ∈ si ss, j < all.size := fun j hj => by obtain ⟨tl, h⟩ := mem_si.1 hj; exact hss0 _ h
 have hdst : ∀ j k t, dstOf all j = some t -> dstOf all k = some t -> j = k := fun j k t hj hk => by
  cases hoj : all[j]? with
  | none => simp [dstOf, hoj] at hj
  | some o =>
   cases hok' : all[k]? with
   | none => simp [dstOf, hok'] at hk
   | some o' =>
    have hlt : k < all.size := (Array.getElem?_eq_some_iff.1 hok').1
    have hp := (okD_at hok hoj).2 k hlt
    unfold pairOk at hp
    rw [hk] at hp
    simp only [Bool.and_eq_true, Bool.or_eq_true, beq_iff_eq, bne_iff_ne, ne_eq] at hp
    rcases hp.1 with h | h
    ·exact h.symm
    ·exact absurd (by simpa [dstOf, hoj] using hj) h
 have getDs : ∀ (l : Array Bool) (k : Nat), l.size = all.size -> k < all.size -> l.getD k true = l.getD k false := fun l k hl hk => by
  simp [Array.getD_eq_getD_getElem?, hl, hk]
 have allListed : ∀ l : Array Bool, l.size = all.size -> Region.ready .any all l = [] -> ∀ j, j < all.size -> l.getD j false = true := fun l hl hr j => by
  induction j using Nat.strongRecOn with
  | _ j ih =>
   intro hj
   cases hlj : l.getD j false with
   | true => rfl
   | false =>
    have hoj : all[j]? = some all[j] := Array.getElem?_eq_getElem hj
    have hm : j ∈ Region.ready .any all l := mem_ready.2 ⟨by rw [getDs l j hl hj]; exact hlj, all[j], hoj, fun e he hb => by
     have := (okD_at hok hoj).1 e he hb
     exact ih e.on this (by omega)⟩
    rw [hr] at hm; cases hm
 have doneI : ∀ (l : Array Bool) (β : List (Option Nat)) (a : Act) (W : World), l.size = all.size -> (∀ j, j < n -> l.getD j false = true) -> (∀ k, n <= k -> l.getD k false = false) ->
   Inv w0 L β (sg (top (si ss) l all.size)) N (maskE all E0 E l all.size) a W -> Inv w0 L β σ N E a W := fun l β a W hl hall hnl hI => by
  have h1 : sg (top (si ss) l all.size) = σ := by
   rw [<- gi]
   refine (sg_const gc all.size (top_le _ _ _) (Nat.le_refl _) fun t h1 h2 h3 => ?_).symm
   have := top_none h1 h2 h3
   have h4 : t < n := by obtain ⟨tl, h⟩ := mem_si.1 h3; exact hss00 _ h
   rw [hall t h4] at this; cases this
  rw [h1] at hI
  exact hI.to fun t u hu => by
   by_cases hex : ∃ k, n <= k /\ k < all.size /\ dstOf all k = some t
   ·obtain ⟨k, hnk, hk, hkt⟩ := hex
    rw [(lk_mask hdst t all.size).2 k hk hkt (hnl k hnk)] at hu
    exact (hE0 t (fun k' hk' hk't => by have := hdst k' k t hk't hkt; omega) β L W u).1 hu
   ·rw [(lk_mask hdst t all.size).1 fun k hk hkt => hall k (Nat.lt_of_not_le fun h => hex ⟨k, h, hk, hkt⟩)] at hu; exact hu
 intro fuel
 induction fuel with
 | zero =>
  intro l hl hf hcl hnl hll β a W hI
  have hall : ∀ j, j < all.size -> l.getD j false = true := fun j hj => by
   have h0 := List.eq_nil_of_length_eq_zero (Nat.le_zero.1 hf)
   have : j ∉ (List.range all.size).filter fun k => !l.getD k true := by rw [h0]; simp
   rw [List.mem_filter] at this
   rw [<- getDs l j hl hj]
   cases hb : l.getD j true with
   | true => rfl
   | false => exact absurd ⟨by simpa using hj, by simp [hb]⟩ this
  have hsz : n = all.size := by
   rcases Nat.lt_or_ge n all.size with h | h
   ·have := hall n h; rw [hnl n (Nat.le_refl _)] at this; cases this
   ·omega
  refine ⟨?_, hQ hsz (fun k b hk hkn => by rw [<- hll k b hk]; exact hall k (by omega)) β a W (doneI l β a W hl (fun j hj => hall j (by omega)) hnl hI)⟩
  apply List.eq_nil_iff_forall_not_mem.2
  intro j hj
  obtain ⟨hun, o, ho, _⟩ := mem_ready.1 hj
  have hlt : j < all.size := (Array.getElem?_eq_some_iff.1 ho).1
  rw [getDs l j hl hlt, hall j hlt] at hun; cases hun
 | succ fuel ih =>
  intro l hl hf hcl hnl hll β a W hI
  by_cases hfull : n < all.size /\ ∀ k, k < n -> l.getD k false = true
  ·exact hP hfull.1 (fuel + 1) l β a W hl hf hcl hfull.2 hnl hll (doneI l β a W hl hfull.2 hnl hI)
  refine ⟨fun hr => ?_, fun j hj => ?_⟩
  ·have hall := allListed l hl hr
   have hsz : n = all.size := by
    rcases Nat.lt_or_ge n all.size with h | h
    ·have := hall n h; rw [hnl n (Nat.le_refl _)] at this; cases this
    ·omega
   exact hQ hsz (fun k b hk hkn => by rw [<- hll k b hk]; exact hall k (by omega)) β a W (doneI l β a W hl (fun j hj => hall j (by omega)) hnl hI)
  obtain ⟨hun, o, ho, hpre⟩ := mem_ready.1 hj
  have hlt : j < all.size := (Array.getElem?_eq_some_iff.1 ho).1
  rw [getDs l j hl hlt] at hun
  by_cases hjn : j < n
  case neg =>
   have hc := hcut.resolve_left (by omega)
   unfold cutOk at hc
   simp only [Bool.and_eq_true, List.all_eq_true, List.mem_range, Bool.or_eq_true, Bool.not_eq_true', decide_eq_false_iff_not] at hc
   exfalso
   rcases Nat.lt_or_ge n j with h | h
   ·have hr := (hc.2 j hlt).resolve_left (fun h' => h' h)
    have := reach_done hcl 12 j n hr fun o2 ho2 e he hb => by
     rw [ho] at ho2; cases ho2
     exact hpre e he hb
    rw [hnl n (Nat.le_refl _)] at this; cases this
   ·have hj : j = n := by omega
    subst hj
    exact hfull ⟨hlt, fun k hk => reach_done hcl 12 j k (hc.1 k hk) fun o2 ho2 e he hb => by
     rw [ho] at ho2; cases ho2
     exact hpre e he hb⟩
  have hback0 := (okD_at hok ho).1
  -- what stands behind
  have hl' : (l.setIfInBounds j true).size = all.size := by simp [hl]
  have hset : ∀ k, k < all.size -> (l.setIfInBounds j true).getD k false = if j = k then true else l.getD k false := fun k hk => by
   rw [Array.getD_eq_getD_getElem?, Array.getElem?_setIfInBounds]
   by_cases e : j = k
   ·subst e; simp [hl, hlt]
   ·rw [if_neg e, if_neg e, Array.getD_eq_getD_getElem?]
  have hf' : ((List.range all.size).filter fun k => !(l.setIfInBounds j true).getD k true).length <= fuel := by
   have hsub : ((List.range all.size).filter fun k => !(l.setIfInBounds j true).getD k true) = ((List.range all.size).filter fun k => !l.getD k true).filter fun k => k != j := by
    rw [List.filter_filter]
    apply List.filter_congr
    intro k hk
    have hk' : k < all.size := by simpa using hk
    rw [getDs _ k hl' hk', hset k hk', getDs l k hl hk']
    by_cases e : j = k
    ·subst e; simp
    ·have : (k != j) = true := by simpa using fun h => e h.symm
     simp [e, this]
   rw [hsub]
   have hmem : j ∈ (List.range all.size).filter fun k => !l.getD k true := by
    rw [List.mem_filter]; exact ⟨by simpa using hlt, by rw [getDs l j hl hlt, hun]; rfl⟩
   have hlt' : (((List.range all.size).filter fun k => !l.getD k true).filter fun k => k != j).length < ((List.range all.size).filter fun k => !l.getD k true).length := by
    refine Nat.lt_of_le_of_ne (List.length_filter_le _ _) fun he => ?_
    have := List.length_filter_eq_length_iff.1 he j hmem
    simp at this
   omega
  have hcl' : ∀ (k : Nat) (ok : Oper), all[k]? = some ok -> (l.setIfInBounds j true).getD k false = true -> ∀ e ∈ ok.after, Region.binds .any e = true -> (l.setIfInBounds j true).getD e.on false = true := fun k ok hok2 hk e he hb => by
   have hkl : k < all.size := (Array.getElem?_eq_some_iff.1 hok2).1
   have hel := (okD_at hok hok2).1 e he hb
   rw [hset k hkl] at hk
   rw [hset e.on (by omega)]
   by_cases e1 : j = e.on
   ·rw [if_pos e1]
   ·rw [if_neg e1]
    by_cases e2 : j = k
    ·subst e2
     have : ok = o := by rw [ho] at hok2; exact (Option.some.inj hok2).symm
     subst this
     exact hpre e he hb
    ·rw [if_neg e2] at hk
     exact hcl k ok hok2 hk e he hb
  have hnl' : ∀ k, n <= k -> (l.setIfInBounds j true).getD k false = false := fun k hk => by
   rcases Nat.lt_or_ge k all.size with h | h
   ·rw [hset k h, if_neg (by omega)]; exact hnl k hk
   ·simp [Array.getD_eq_getD_getElem?, hl, h]
  cases hfl : fl j with
  | true => exact hFl j o ho hfl hjn fuel l β a W hl hun hll hf' hcl' hnl' hI
  | false =>
  have hll' : ∀ k b, lo k = some b -> (l.setIfInBounds j true).getD k false = b := fun k b hk => by
   have hkj : j ≠ k := fun h => by subst h; rw [hlo j b hk] at hfl; cases hfl
   rw [Array.getD_eq_getD_getElem?, Array.getElem?_setIfInBounds, if_neg hkj, <- Array.getD_eq_getD_getElem?]
   exact hll k b hk
  obtain ⟨o', Ej, p, kd, ho', hd, hk, hk2, hk1, hks, hA, hB, hC⟩ := hdata j hjn hfl
  have : o' = o := by rw [ho] at ho'; exact (Option.some.inj ho').symm
  subst this
  have hpairs := (okD_at hok ho).2
  have hback := (okD_at hok ho).1
  have hdj : dstOf all j = o'.dst := by simp [dstOf, ho]
  have dir_l : ∀ k, dirP all j k = true -> k < j /\ l.getD k false = true := fun k hk => by
   obtain ⟨e, he, hb, heq⟩ := dirP_at ho hk
   subst heq
   exact ⟨hback e he hb, hpre e he hb⟩
  have dir_r : ∀ k, dirP all k j = true -> j < k /\ l.getD k false = false := fun k hk => by
   cases hok2 : all[k]? with
   | none => simp [dirP, hok2] at hk
   | some ok =>
    obtain ⟨e, he, hb, heq⟩ := dirP_at hok2 hk
    have hlt2 := (okD_at hok hok2).1 e he hb
    refine ⟨by omega, ?_⟩
    cases hlk : l.getD k false with
    | false => rfl
    | true =>
     have := hcl k ok hok2 hlk e he hb
     rw [heq, hun] at this; cases this
  -- the slots that the operation looks at
  have hslot : ∀ t ∈ slotsOf all o', ∀ u, R β L W (lk (maskE all E0 E l all.size) t) u -> R β L W (lk Ej t) u := fun t ht u hu => by
   by_cases hex : ∃ k, k < all.size /\ dstOf all k = some t
   ·obtain ⟨k, hk, hkt⟩ := hex
    have hp := hpairs k hk
    unfold pairOk at hp
    rw [hkt] at hp
    simp only [Bool.and_eq_true, Bool.or_eq_true, Bool.not_eq_true', decide_eq_true_eq] at hp
    have hc : (slotsOf all o').contains t = true := by simpa using ht
    rw [hc] at hp
    rcases hp.2 with (h | ⟨hkj, hdir⟩) | ⟨hjk, hdir⟩
    ·cases h
    ·rw [(lk_mask hdst t all.size).1 fun k' hk' hk't => by rw [hdst k' k t hk't hkt]; exact (dir_l k hdir).2] at hu
     exact (hA t (fun k' h1 h2 hk't => by have := hdst k' k t hk't hkt; omega) β L W u).2 hu
    ·rw [(lk_mask hdst t all.size).2 k hk hkt (dir_r k hdir).2] at hu
     exact (hB t (fun k' h1 hk't => by have := hdst k' k t hk't hkt; omega) β L W u).1 hu
   ·have hno : ∀ k, k < all.size -> dstOf all k ≠ some t := fun k hk hkt => hex ⟨k, hk, hkt⟩
    rw [(lk_mask hdst t all.size).1 fun k' hk' hk't => absurd hk't (hno k' hk')] at hu
    exact (hA t (fun k' h1 h2 => hno k' (by omega)) β L W u).2 hu
  let Eop : Env := keepE (slotsOf all o') Ej ++ maskE all E0 E l all.size
  have hlkop : ∀ t, (t ∈ slotsOf all o' -> lk Eop t = lk Ej t) /\ (t ∉ slotsOf all o' -> lk Eop t = lk (maskE all E0 E l all.size) t) := fun t => by
   show (t ∈ slotsOf all o' -> lk (keepE (slotsOf all o') Ej ++ maskE all E0 E l all.size) t = lk Ej t) /\ (t ∉ slotsOf all o' -> lk (keepE (slotsOf all o') Ej ++ maskE all E0 E l all.size) t = _)
   generalize slotsOf all o' = ss
   induction ss with
   | nil => exact ⟨fun h => by simp at h, fun _ => rfl⟩
   | cons x ss ihs =>
    constructor
    ·intro h
     show lk ((x, lk Ej x) :: (keepE ss Ej ++ maskE all E0 E l all.size)) t = lk Ej t
     simp only [lk]
     split
     ·rename_i e; rw [e]
     ·rename_i e
      rcases List.mem_cons.1 h with h | h
      ·exact absurd h.symm e
      ·exact ihs.1 h
    ·intro h
     show lk ((x, lk Ej x) :: (keepE ss Ej ++ maskE all E0 E l all.size)) t = _
     simp only [lk]
     rw [if_neg (fun e => h (by rw [e]; exact List.mem_cons_self ..))]
     exact ihs.2 fun h' => h (List.mem_cons_of_mem _ h')
  have hIop : Inv w0 L β (sg (top (si ss) l all.size)) N Eop a W := hI.to fun t u hu => by
   by_cases ht : t ∈ slotsOf all o'
   ·rw [(hlkop t).1 ht]; exact hslot t ht u hu
   ·rw [(hlkop t).2 ht]; exact hu
  have hev : ∀ x ∈ o'.op.operands, evA Eop x = evA Ej x := evA_congr (all := all) fun t ht => (hlkop t).1 ht
  have hgc : guardP all Eop o' = guardP all Ej o' := guard_congr fun t ht => (hlkop t).1 ht
  have next : ∀ (γ : List (Option Nat)) (u : Value) (W' : World), Inv w0 L γ (sg (top (si ss) (l.setIfInBounds j true) all.size)) N (putE Eop o'.dst p) (a.put o'.dst u) W' -> wpAnyIn (Fr ro) nn P .any all Q fuel (l.setIfInBounds j true) (a.put o'.dst u) W' := fun γ u W' hi => by
   refine ih _ hl' hf' hcl' hnl' hll' γ _ W' (hi.to fun t v hv => ?_)
   rw [lk_put] at hv
   by_cases e : o'.dst = some t
   ·rw [if_pos e] at hv
    have hu := (hC t e γ L W' v).1 hv
    rw [(lk_mask hdst t all.size).1 fun k hk hkt => by
     have : k = j := hdst k j t hkt (by rw [hdj]; exact e)
     rw [this, hset j hlt, if_pos rfl]]
    exact hu
   ·rw [if_neg e] at hv
    have hmid : R γ L W' (lk (maskE all E0 E l all.size) t) v \/ (t ∈ slotsOf all o' /\ R γ L W' (lk Ej t) v) := by
     by_cases ht : t ∈ slotsOf all o'
     ·rw [(hlkop t).1 ht] at hv; exact .inr ⟨ht, hv⟩
     ·rw [(hlkop t).2 ht] at hv; exact .inl hv
    have hmask : lk (maskE all E0 E (l.setIfInBounds j true) all.size) t = lk (maskE all E0 E l all.size) t := by
     by_cases hex : ∃ k, k < all.size /\ dstOf all k = some t /\ l.getD k false = false
     ·obtain ⟨k, hk, hkt, hkl⟩ := hex
      have hkj : j ≠ k := fun h => by subst h; rw [hdj] at hkt; exact e hkt
      rw [(lk_mask hdst t all.size).2 k hk hkt hkl, (lk_mask hdst t all.size).2 k hk hkt (by rw [hset k hk, if_neg hkj]; exact hkl)]
     ·have hno : ∀ k, k < all.size -> dstOf all k = some t -> l.getD k false = true := fun k hk hkt => by
       cases h : l.getD k false with
       | true => rfl
       | false => exact absurd ⟨k, hk, hkt, h⟩ hex
      rw [(lk_mask hdst t all.size).1 hno, (lk_mask hdst t all.size).1 fun k hk hkt => by rw [hset k hk]; split; rfl; exact hno k hk hkt]
    rw [hmask]
    rcases hmid with h | ⟨ht, h⟩
    ·exact h
    ·-- the slot was looked at: its two readings are the same
     have hc : (slotsOf all o').contains t = true := by simpa using ht
     by_cases hex : ∃ k, k < all.size /\ dstOf all k = some t /\ l.getD k false = false
     ·obtain ⟨k, hk, hkt, hkl⟩ := hex
      rw [(lk_mask hdst t all.size).2 k hk hkt hkl]
      have hp := hpairs k hk
      unfold pairOk at hp
      rw [hkt] at hp
      simp only [Bool.and_eq_true, Bool.or_eq_true, Bool.not_eq_true', decide_eq_true_eq] at hp
      rw [hc] at hp
      rcases hp.2 with (h' | ⟨hkj, hdir⟩) | ⟨hjk, hdir⟩
      ·cases h'
      ·have := (dir_l k hdir).2; rw [hkl] at this; cases this
      ·exact (hB t (fun k' h1 hk't => by have := hdst k' k t hk't hkt; omega) γ L W' v).2 h
     ·have hno : ∀ k, k < all.size -> dstOf all k = some t -> l.getD k false = true := fun k hk hkt => by
       cases h : l.getD k false with
       | true => rfl
       | false => exact absurd ⟨k, hk, hkt, h⟩ hex
      rw [(lk_mask hdst t all.size).1 hno]
      refine (hA t (fun k' h1 h2 hk't => ?_) γ L W' v).1 h
      have hp := hpairs k' (by omega)
      unfold pairOk at hp
      rw [hk't] at hp
      simp only [Bool.and_eq_true, Bool.or_eq_true, Bool.not_eq_true', decide_eq_true_eq] at hp
      rw [hc] at hp
      rcases hp.2 with (h' | ⟨hkj, hdir⟩) | ⟨hjk, hdir⟩
      ·cases h'
      ·omega
      ·have := (dir_r k' hdir).2; rw [hno k' (by omega) hk't] at this; cases this
  -- the blocks
  have same : j ∉ si ss -> sg (top (si ss) (l.setIfInBounds j true) all.size) = sg (top (si ss) l all.size) := fun hj => by
   rw [top_congr (l' := l) fun t ht => by
    rw [hset t (hss t ht), if_neg (fun e => hj (by rw [e]; exact ht))]]
  have notS : (∀ tl, kd ≠ .wr tl) -> j ∉ si ss := fun h hj => by
   obtain ⟨tl, h'⟩ := mem_si.1 hj
   exact h tl (hks tl h')
  -- what a direct or an indirect order tells
  have far : ∀ t, ordT all j t = true -> (t < j -> l.getD t false = true) /\ (j < t -> l.getD t false = false) := fun t h1 => by
   unfold ordT at h1
   simp only [Bool.or_eq_true] at h1
   rcases h1 with h1 | h1
   ·have := reach_lt hok 8 j t h1
    refine ⟨fun _ => reach_done hcl 8 j t h1 fun o2 ho2 e he hb => ?_, fun h => by omega⟩
    rw [ho] at ho2; cases ho2
    exact hpre e he hb
   ·have := reach_lt hok 8 t j h1
    refine ⟨fun h => by omega, fun _ => ?_⟩
    cases hlt' : l.getD t false with
    | false => rfl
    | true =>
     have hj' := reach_done hcl 8 t j h1 fun o2 ho2 => hcl t o2 ho2 hlt'
     rw [hun] at hj'; cases hj'
  have hS2 : ∀ q ∈ ss, (∀ q' ∈ ss, q'.1 = q.1 \/ ordT all q'.1 q.1 = true) /\ ∀ d ∈ ds, (∃ i, d.2 = some i /\ i ∉ q.2) \/ ordT all d.1 q.1 = true := fun q hq => by
   have h1 := List.all_eq_true.1 hS q hq
   simp only [Bool.and_eq_true] at h1
   refine ⟨fun q' hq' => ?_, fun d hd => ?_⟩
   ·have h2 := List.all_eq_true.1 h1.1 q' hq'
    simpa using h2
   ·have h2 := List.all_eq_true.1 h1.2 d hd
    simp only [Bool.or_eq_true] at h2
    rcases h2 with h2 | h2
    ·split at h2
     ·rename_i i hi; exact .inl ⟨i, hi, by simpa using h2⟩
     ·cases h2
    ·exact .inr h2
  have hord : ∀ t, t ∈ si ss -> t ≠ j -> (j ∈ si ss \/ (j, none) ∈ ds) -> (t < j -> l.getD t false = true) /\ (j < t -> l.getD t false = false) := fun t ht hne hj => by
   obtain ⟨tl, ht⟩ := mem_si.1 ht
   obtain ⟨q1, q2⟩ := hS2 _ ht
   refine far t ?_
   rcases hj with hj | hj
   ·obtain ⟨tl', hj⟩ := mem_si.1 hj
    exact (q1 _ hj).resolve_left (fun h => hne h.symm)
   ·rcases q2 _ hj with ⟨i, h, _⟩ | h
    ·cases h
    ·exact h
  have ord : (j ∈ si ss \/ (j, none) ∈ ds) -> sg (top (si ss) l all.size) = sg j := fun hj => by
   have hle : top (si ss) l all.size <= j := by
    cases hm : top (si ss) l all.size with
    | zero => exact Nat.zero_le _
    | succ m =>
     obtain ⟨m1, m2, m3⟩ := top_done hm
     rcases Nat.lt_trichotomy m j with h | h | h
     ·exact h
     ·subst h; rw [hun] at m2; cases m2
     ·have := (hord m m1 (by omega) hj).2 h; rw [m2] at this; cases this
   refine (sg_const gc j hle (by omega) fun t h1 h2 h3 => ?_).symm
   have h4 := top_none h1 (by omega) h3
   rw [(hord t h3 (by omega) hj).1 h2] at h4; cases h4
  have ordR : ∀ x, kd = .rd (some x) -> (sg (top (si ss) l all.size))[x]? = (sg j)[x]? := fun x hx => by
   have hj := hk1 _ hx
   have hjn : j ∉ si ss := notS fun tl h => by rw [hx] at h; cases h
   have keep : ∀ t, t < all.size -> (t < j -> t ∈ si ss -> l.getD t false = false) -> (j < t -> t ∈ si ss -> l.getD t false = true) -> (sg (t + 1))[x]? = (sg t)[x]? := fun t hts hn hy => by
    by_cases ht : t ∈ si ss
    ·obtain ⟨tl, htl⟩ := mem_si.1 ht
     refine gt t tl htl x ?_
     rcases (hS2 _ htl).2 _ hj with ⟨i, h, h'⟩ | h
     ·cases h; exact h'
     ·exfalso
      have hf := far t h
      rcases Nat.lt_trichotomy t j with h | h | h
      ·have := hf.1 h; rw [hn h ht] at this; cases this
      ·subst h; exact hjn ht
      ·have := hf.2 h; rw [hy h ht] at this; cases this
    ·rw [gc t hts ht]
   rcases Nat.le_total (top (si ss) l all.size) j with h | h
   ·exact (sg_at j h fun t h1 h2 => keep t (by omega) (fun _ ht => top_none h1 (by omega) ht) (fun h => by omega)).symm
   ·refine sg_at _ h fun t h1 h2 => keep t (by have := top_le (si ss) l all.size; omega) (fun h _ => by omega) fun hjt hts => ?_
    cases hm : top (si ss) l all.size with
    | zero => omega
    | succ m =>
     obtain ⟨m1, m2, m3⟩ := top_done hm
     by_cases e : t = m
     ·subst e; exact m2
     ·obtain ⟨tl, htl⟩ := mem_si.1 hts
      obtain ⟨tm, hmm⟩ := mem_si.1 m1
      have ho := ((hS2 _ htl).1 _ hmm).resolve_left (fun h => e h.symm)
      unfold ordT at ho
      simp only [Bool.or_eq_true] at ho
      rcases ho with ho | ho
      ·exact reach_done hcl 8 m t ho fun o2 ho2 => hcl m o2 ho2 m2
      ·have := reach_lt hok 8 t m ho; omega
  have new2 : j ∈ si ss -> sg (top (si ss) (l.setIfInBounds j true) all.size) = sg (j + 1) := fun hj => by
   rw [top_eq hj (by rw [hset j hlt, if_pos rfl]) (fun t ht hjt => by
    rw [hset t (hss t ht), if_neg (by omega)]
    exact (hord t ht (by omega) (.inl hj)).2 hjt) hlt]
  unfold wpOpIn
  simp only [ho]
  cases hk with
  | skip hg hp hσ =>
   have hw := guard_wanted hIop.ev (hgc.trans hg)
   rw [if_neg (by rw [hw]; simp)]
   refine ⟨fun _ _ => trivial, next β undef W ?_⟩
   rw [same (notS fun tl h => by cases h)]
   exact { hIop with ev := hIop.ev.put (by rw [hp, R]) hd, nod := hIop.nod.put _ _ }
  | q0 pre hg hq hp hi hσ =>
   have hw := guard_wanted hIop.ev (hgc.trans hg)
   rw [if_pos hw]
   refine op_in (noDef_at hnd ho) ?_
   have hq' : opQ P Eop (sg (top (si ss) l all.size)) o'.op = some (pre, p) := by
    rw [opQ_congr hev, opQ_sind (σ' := sg j) hi]; exact hq
   obtain ⟨u, hu, hr⟩ := opQ_run hIop.ev hIop.bx hq' hp
   unfold Oper.wp
   rw [hu]
   refine next β u W ?_
   rw [same (notS fun tl h => by cases h)]
   exact { hIop with ev := hIop.ev.put hr hd, nod := hIop.nod.put _ _ }
  | q1 pre hg hq hp x hx hσ =>
   have hw := guard_wanted hIop.ev (hgc.trans hg)
   rw [if_pos hw]
   refine op_in (noDef_at hnd ho) ?_
   have hq' : opQ P Eop (sg (top (si ss) l all.size)) o'.op = some (pre, p) := by
    rw [opQ_congr hev, hx _ (ordR x rfl)]; exact hq
   obtain ⟨u, hu, hr⟩ := opQ_run hIop.ev hIop.bx hq' hp
   unfold Oper.wp
   rw [hu]
   refine next β u W ?_
   rw [same (notS fun tl h => by cases h)]
   exact { hIop with ev := hIop.ev.put hr hd, nod := hIop.nod.put _ _ }
  | h x hg hx hσ =>
   have hw := guard_wanted hIop.ev (hgc.trans hg)
   rw [if_pos hw]
   refine op_in (noDef_at hnd ho) ?_
   obtain ⟨u, hu, hr⟩ := hx N β L W Eop _ a hev (ordR x rfl) hIop.ev hIop.bx
   unfold Oper.wp
   rw [hu]
   refine next β u W ?_
   rw [same (notS fun tl h => by cases h)]
   exact { hIop with ev := hIop.ev.put hr hd, nod := hIop.nod.put _ _ }
  | c0 g ps hg hc hp hspec hσ =>
   have hw := guard_wanted hIop.ev (hgc.trans hg)
   rw [if_pos hw]
   refine op_in (noDef_at hnd ho) ?_
   exact callOp (qs := ps) hIop hd ((opC_congr hev).trans hc) (.inl ⟨hp, rfl⟩) hspec _ _ fun u W' hi => next β u W' (by rw [same (notS fun tl h => by cases h)]; exact hi)
  | c1 g ps hg hc hf hspec hcc hσ =>
   have hw := guard_wanted hIop.ev (hgc.trans hg)
   rw [if_pos hw]
   refine op_in (noDef_at hnd ho) ?_
   exact callOp (qs := ps.map (fz 8 (sg j))) hIop hd ((opC_congr hev).trans hc) (.inr ⟨by rw [ord (.inr (hk1 _ rfl))], hf, by rw [ord (.inr (hk1 _ rfl))]; exact hcc⟩) hspec _ _ fun u W' hi => next β u W' (by rw [same (notS fun tl h => by cases h)]; exact hi)
  | b hg hb hσ =>
   have hw := guard_wanted hIop.ev (hgc.trans hg)
   rw [if_pos hw]
   refine op_in (noDef_at hnd ho) ?_
   exact opS_run hIop hd (opB_S ((opB_congr hev).trans hb)) trivial (.inr (opB_store hb)) _ _ fun γ u W' hi => next γ u W' (by rw [same (notS fun tl h => by cases h)]; exact hi)
  | s pre hg hss' hpre' hst tl htl =>
   have hw := guard_wanted hIop.ev (hgc.trans hg)
   rw [if_pos hw]
   refine op_in (noDef_at hnd ho) ?_
   have hj : j ∈ si ss := mem_si.2 ⟨tl, hk2 _ rfl⟩
   rw [ord (.inl hj)] at hIop
   exact opS_run hIop hd ((opS_congr hev).trans hss') hpre' hst _ _ fun γ u W' hi => next γ u W' (by rw [new2 hj]; exact hi)
  | m g ps is m σ0' σ1 qs r hg hc hs hρ h0 hq hp hσ tl htl =>
   have hw := guard_wanted hIop.ev (hgc.trans hg)
   rw [if_pos hw]
   refine op_in (noDef_at hnd ho) ?_
   have hj : j ∈ si ss := mem_si.2 ⟨tl, hk2 _ rfl⟩
   rw [ord (.inl hj)] at hIop
   exact callOpM hIop hd ((opC_congr hev).trans hc) hs hρ h0 hq _ _ fun γ u W' hi => next γ u W' (by rw [new2 hj, hσ, hp]; exact hi)
theorem drawn_any {ro : Option Nat} {nn n : Nat} (hn : n <= all.size) (hcut : n = all.size \/ cutOk all n = true) (hnd : noDef all = true) (hok : okD all = true) (hS : okS all ss ds = true) {sg0 : Nat -> Sig} (gi0 : sg0 n = σ) (gc00 : ∀ j, j < n -> (∀ tl, (j, tl) ∉ ss) -> sg0 (j + 1) = sg0 j) (gt0 : ∀ j tl, (j, tl) ∈ ss -> ∀ x, x ∉ tl -> (sg0 (j + 1))[x]? = (sg0 j)[x]?) (hss00 : ∀ q ∈ ss, q.1 < n)
  (hE0 : ∀ t, (∀ k, k < n -> dstOf all k ≠ some t) -> eqR (lk E0 t) (lk E t))
  (hdata0 : ∀ j, j < n -> ∃ o Ej p k, all[j]? = some o /\ fitsD N o.dst = true /\ Did P all o Ej (sg0 j) (sg0 (j + 1)) p k /\ (∀ tl, k = .wr tl -> (j, tl) ∈ ss) /\ (∀ x, k = .rd x -> (j, x) ∈ ds) /\ (∀ tl, (j, tl) ∈ ss -> k = .wr tl) /\
   (∀ t, (∀ k, j <= k -> k < n -> dstOf all k ≠ some t) -> eqR (lk Ej t) (lk E t)) /\
   (∀ t, (∀ k, k < j -> dstOf all k ≠ some t) -> eqR (lk E0 t) (lk Ej t)) /\
   (∀ t, o.dst = some t -> eqR p (lk E t)))
  (hQ : n = all.size -> ∀ β a W, Inv w0 L β σ N E a W -> Q .normal a W) (hP : n < all.size -> ∀ (fuel : Nat) (l : Array Bool) β a W, l.size = all.size -> ((List.range all.size).filter fun k => !l.getD k true).length <= fuel -> (∀ (j : Nat) (o : Oper), all[j]? = some o -> l.getD j false = true -> ∀ e ∈ o.after, Region.binds .any e = true -> l.getD e.on false = true) -> (∀ k, k < n -> l.getD k false = true) -> (∀ k, n <= k -> l.getD k false = false) -> Inv w0 L β σ N E a W -> wpAnyIn (Fr ro) nn P .any all Q fuel l a W) : ∀ (fuel : Nat) (l : Array Bool), l.size = all.size -> ((List.range all.size).filter fun k => !l.getD k true).length <= fuel ->
   (∀ (j : Nat) (o : Oper), all[j]? = some o -> l.getD j false = true -> ∀ e ∈ o.after, Region.binds .any e = true -> l.getD e.on false = true) -> (∀ k, n <= k -> l.getD k false = false) ->
   ∀ β a W, Inv w0 L β (sg0 (min (top (si ss) l all.size) n)) N (maskE all E0 E l all.size) a W -> wpAnyIn (Fr ro) nn P .any all Q fuel l a W := fun fuel l h1 h2 h3 h4 β a W =>
 drawn_fl (fun _ => false) (fun _ => none) (fun _ _ h => by cases h) hn hcut hnd hok hS gi0 gc00 gt0 hss00 hE0 (fun j hj _ => hdata0 j hj) (fun h _ => hQ h) (fun h fuel l β a W h1 h2 h3 h4 h5 _ => hP h fuel l β a W h1 h2 h3 h4 h5)
  (fun j o ho h => by cases h) fuel l h1 h2 h3 h4 (fun _ _ h => by cases h) β a W
theorem drawn_cut {ro : Option Nat} {nn n : Nat} {id : Nat} (hcut : n = all.size \/ cutOk all n = true) (hnd : noDef all = true) (hm : P.follows .mixedOrders = true) (hok : okD all = true) (hS : okS all ss ds = true) (hT : Tr P N all E0 σ0 n E σ ss ds)
  (hQ : n = all.size -> ∀ β a W, Inv w0 L β σ N E a W -> Q .normal a W) (hP : n < all.size -> ∀ (fuel : Nat) (l : Array Bool) β a W, l.size = all.size -> ((List.range all.size).filter fun k => !l.getD k true).length <= fuel -> (∀ (j : Nat) (o : Oper), all[j]? = some o -> l.getD j false = true -> ∀ e ∈ o.after, Region.binds .any e = true -> l.getD e.on false = true) -> (∀ k, k < n -> l.getD k false = true) -> (∀ k, n <= k -> l.getD k false = false) -> Inv w0 L β σ N E a W -> wpAnyIn (Fr ro) nn P .any all Q fuel l a W) (β : List (Option Nat)) (a : Act) (W : World) (hI : Inv w0 L β σ0 N E0 a W) : (Code.region id all true).wpIn (Fr ro) nn P Q a W := by
 refine wpIn_region_any hm ?_
 have hb : Below W.heap.size W W.drew := (Below.refl W.heap.size W).drew
 obtain ⟨hn, hE0, hss, sg, g0, gi, gc, gt, hdata⟩ := hT.data hok
 refine drawn_any hn hcut hnd hok hS gi gc gt hss hE0 hdata hQ hP all.size _ (by simp) (Nat.le_trans (List.length_filter_le _ _) (by simp)) (fun j o ho hl => ?_) (fun k hk => by rw [Array.getD_eq_getD_getElem?, Array.getElem?_replicate]; split <;> rfl) β a _ ?_
 ·have hj : j < all.size := (Array.getElem?_eq_some_iff.1 ho).1
  simp [Array.getD_eq_getD_getElem?, hj] at hl
 ·have hI' := hI.below hb
  have ht0 : top (si ss) (Array.replicate all.size false) all.size = 0 := by
   cases hm : top (si ss) (Array.replicate all.size false) all.size with
   | zero => rfl
   | succ m =>
    obtain ⟨_, h2, h3⟩ := top_done hm
    simp [Array.getD_eq_getD_getElem?, h3] at h2
  rw [ht0, Nat.zero_min, g0]
  refine hI'.to fun t u hu => ?_
  have hdst : ∀ j k t, dstOf all j = some t -> dstOf all k = some t -> j = k := fun j k t hj hk => by
   cases hoj : all[j]? with
   | none => simp [dstOf, hoj] at hj
   | some o =>
    cases hok' : all[k]? with
    | none => simp [dstOf, hok'] at hk
    | some o' =>
     have hlt : k < all.size := (Array.getElem?_eq_some_iff.1 hok').1
     have hp := (okD_at hok hoj).2 k hlt
     unfold pairOk at hp
     rw [hk] at hp
     simp only [Bool.and_eq_true, Bool.or_eq_true, beq_iff_eq, bne_iff_ne, ne_eq] at hp
     rcases hp.1 with h | h
     ·exact h.symm
     ·exact absurd (by simpa [dstOf, hoj] using hj) h
  by_cases hex : ∃ k, k < all.size /\ dstOf all k = some t
  ·obtain ⟨k, hk, hkt⟩ := hex
   rw [(lk_mask hdst t all.size).2 k hk hkt (by simp [Array.getD_eq_getD_getElem?, hk])]; exact hu
  ·rw [(lk_mask hdst t all.size).1 fun k hk hkt => absurd ⟨k, hk, hkt⟩ hex]
   exact (hE0 t fun k hk hkt => hex ⟨k, by omega, hkt⟩) _ _ _ u |>.1 hu
theorem drawn_ok {ro : Option Nat} {nn : Nat} {id : Nat} (hnd : noDef all = true) (hm : P.follows .mixedOrders = true) (hok : okD all = true) (hS : okS all ss ds = true) (hT : Tr P N all E0 σ0 all.size E σ ss ds)
  (hQ : ∀ β a W, Inv w0 L β σ N E a W -> Q .normal a W) (β : List (Option Nat)) (a : Act) (W : World) (hI : Inv w0 L β σ0 N E0 a W) : (Code.region id all true).wpIn (Fr ro) nn P Q a W :=
 drawn_cut (.inl rfl) hnd hm hok hS hT (fun _ => hQ) (fun h => absurd h (Nat.lt_irrefl _)) β a W hI
theorem cut_one {ro : Option Nat} {nn n : Nat} (hcut : cutOk all n = true) (hlt : n < all.size) (hP : ∀ (K : Act -> World -> Prop), wpOpIn (Fr ro) nn P all Q n K a W) (fuel : Nat) (l : Array Bool) (hl : l.size = all.size) (hf : ((List.range all.size).filter fun k => !l.getD k true).length <= fuel)
  (hcl : ∀ (j : Nat) (o : Oper), all[j]? = some o -> l.getD j false = true -> ∀ e ∈ o.after, Region.binds .any e = true -> l.getD e.on false = true) (hd : ∀ k, k < n -> l.getD k false = true) (hnl : ∀ k, n <= k -> l.getD k false = false) (hok : okD all = true) : wpAnyIn (Fr ro) nn P .any all Q fuel l a W := by
 have hg : l.getD n true = false := by have := hnl n (Nat.le_refl _); rw [Array.getD_eq_getD_getElem?] at this ⊢; simp [hl, hlt] at this ⊢; exact this
 have hmem : n ∈ (List.range all.size).filter fun k => !l.getD k true := by rw [List.mem_filter]; exact ⟨by simpa using hlt, by rw [hg]; rfl⟩
 have hon : all[n]? = some all[n] := Array.getElem?_eq_getElem hlt
 have hready : n ∈ Region.ready .any all l := mem_ready.2 ⟨hg, all[n], hon, fun e he hb => hd _ ((okD_at hok hon).1 e he hb)⟩
 cases fuel with
 | zero => rw [List.eq_nil_of_length_eq_zero (Nat.le_zero.1 hf)] at hmem; cases hmem
 | succ fuel =>
  refine ⟨fun hr => absurd hready (by rw [hr]; simp), fun j hj => ?_⟩
  obtain ⟨hun, o, ho, hpre⟩ := mem_ready.1 hj
  have hlt' : j < all.size := (Array.getElem?_eq_some_iff.1 ho).1
  have hun' : l.getD j false = false := by rw [Array.getD_eq_getD_getElem?] at hun ⊢; simp [hl, hlt'] at hun ⊢; exact hun
  have : j = n := by
   rcases Nat.lt_trichotomy j n with h | h | h
   ·rw [hd j h] at hun'; cases hun'
   ·exact h
   ·have hc := hcut
    unfold cutOk at hc
    simp only [Bool.and_eq_true, List.all_eq_true, List.mem_range, Bool.or_eq_true, Bool.not_eq_true', decide_eq_false_iff_not] at hc
    have := reach_done hcl 12 j n ((hc.2 j hlt').resolve_left (fun h' => h' h)) fun o2 ho2 e he hb => by
     rw [ho] at ho2; cases ho2
     exact hpre e he hb
    rw [hnl n (Nat.le_refl _)] at this; cases this
  subst this
  exact hP _
def chainOk (all : Array Oper) (n : Nat) : Bool := (List.range n).all (fun k => reachP all 12 n k) && (List.range all.size).all fun j => !decide (n < j) || reachP all 12 j (j - 1)
theorem chain_list {ro : Option Nat} {nn n : Nat} (hch : chainOk all n = true) (hok : okD all = true) : ∀ (fuel : Nat) (m : Nat) (l : Array Bool) (a : Act) (W : World), n <= m -> l.size = all.size -> ((List.range all.size).filter fun k => !l.getD k true).length <= fuel ->
  (∀ (j : Nat) (o : Oper), all[j]? = some o -> l.getD j false = true -> ∀ e ∈ o.after, Region.binds .any e = true -> l.getD e.on false = true) -> (∀ k, k < m -> k < all.size -> l.getD k false = true) -> (∀ k, m <= k -> l.getD k false = false) ->
  wpListIn (Fr ro) nn P all Q (all.toList.drop m) a W -> wpAnyIn (Fr ro) nn P .any all Q fuel l a W := by
 intro fuel
 induction fuel with
 | zero =>
  intro m l a W hnm hl hf hcl hd hnl h
  have hem := List.eq_nil_of_length_eq_zero (Nat.le_zero.1 hf)
  have hm : all.size <= m := by
   rcases Nat.lt_or_ge m all.size with h1 | h1
   ·have hg : l.getD m true = false := by have := hnl m (Nat.le_refl _); rw [Array.getD_eq_getD_getElem?] at this ⊢; simp [hl, h1] at this ⊢; exact this
    have hmem : m ∈ (List.range all.size).filter fun k => !l.getD k true := by rw [List.mem_filter]; exact ⟨by simpa using h1, by rw [hg]; rfl⟩
    rw [hem] at hmem; cases hmem
   ·exact h1
  rw [List.drop_eq_nil_of_le (by simpa using hm)] at h
  refine ⟨?_, h⟩
  apply List.eq_nil_iff_forall_not_mem.2
  intro j hj
  obtain ⟨hun, o, ho, _⟩ := mem_ready.1 hj
  have hlt : j < all.size := (Array.getElem?_eq_some_iff.1 ho).1
  have h2 := hd j (by omega) hlt
  rw [Array.getD_eq_getD_getElem?] at hun h2
  simp [hl, hlt] at hun h2
  rw [h2] at hun; cases hun
 | succ fuel ih =>
  intro m l a W hnm hl hf hcl hd hnl h
  have gd : ∀ k, k < all.size -> l.getD k true = l.getD k false := fun k hk => by simp [Array.getD_eq_getD_getElem?, hl, hk]
  rcases Nat.lt_or_ge m all.size with hm | hm
  ·have hg : l.getD m true = false := by rw [gd m hm]; exact hnl m (Nat.le_refl _)
   have hom : all[m]? = some all[m] := Array.getElem?_eq_getElem hm
   have hready : m ∈ Region.ready .any all l := mem_ready.2 ⟨hg, all[m], hom, fun e he hb => hd _ ((okD_at hok hom).1 e he hb) (by have := (okD_at hok hom).1 e he hb; omega)⟩
   refine ⟨fun hr => absurd hready (by rw [hr]; simp), fun j hj => ?_⟩
   obtain ⟨hun, o, ho, hpre⟩ := mem_ready.1 hj
   have hlt' : j < all.size := (Array.getElem?_eq_some_iff.1 ho).1
   have hun' : l.getD j false = false := by rw [<- gd j hlt']; exact hun
   have : j = m := by
    rcases Nat.lt_trichotomy j m with h1 | h1 | h1
    ·rw [hd j h1 hlt'] at hun'; cases hun'
    ·exact h1
    ·have hc := hch
     unfold chainOk at hc
     simp only [Bool.and_eq_true, List.all_eq_true, List.mem_range, Bool.or_eq_true, Bool.not_eq_true', decide_eq_false_iff_not] at hc
     have := reach_done hcl 12 j (j - 1) ((hc.2 j hlt').resolve_left (fun h' => h' (by omega))) fun o2 ho2 e he hb => by
      rw [ho] at ho2; cases ho2
      exact hpre e he hb
     rw [hnl (j - 1) (by omega)] at this; cases this
   subst this
   have hset : ∀ k, k < all.size -> (l.setIfInBounds j true).getD k false = if j = k then true else l.getD k false := fun k hk => by
    rw [Array.getD_eq_getD_getElem?, Array.getElem?_setIfInBounds]
    by_cases e : j = k
    ·subst e; simp [hl, hlt']
    ·rw [if_neg e, if_neg e, Array.getD_eq_getD_getElem?]
   have hdrop : all.toList.drop j = all[j] :: all.toList.drop (j + 1) := by
    rw [List.drop_eq_getElem_cons (by simpa using hlt')]; simp
   rw [hdrop] at h
   have hl' : (l.setIfInBounds j true).size = all.size := by simp [hl]
   have key : ∀ a' W', wpListIn (Fr ro) nn P all Q (all.toList.drop (j + 1)) a' W' -> wpAnyIn (Fr ro) nn P .any all Q fuel (l.setIfInBounds j true) a' W' := fun a' W' h' => by
    refine ih (j + 1) _ a' W' (by omega) hl' ?_ (fun k ok hok2 hk e he hb => ?_) (fun k hk hk2 => ?_) (fun k hk => ?_) h'
    ·have hsub : ((List.range all.size).filter fun k => !(l.setIfInBounds j true).getD k true) = ((List.range all.size).filter fun k => !l.getD k true).filter fun k => k != j := by
      rw [List.filter_filter]
      apply List.filter_congr
      intro k hk
      have hk' : k < all.size := by simpa using hk
      have g2 : (l.setIfInBounds j true).getD k true = (l.setIfInBounds j true).getD k false := by simp [Array.getD_eq_getD_getElem?, hl, hk']
      rw [g2, hset k hk', gd k hk']
      by_cases e : j = k
      ·subst e; simp
      ·have : (k != j) = true := by simpa using fun h => e h.symm
       simp [e, this]
     rw [hsub]
     have hmem : j ∈ (List.range all.size).filter fun k => !l.getD k true := by
      rw [List.mem_filter]; exact ⟨by simpa using hlt', by rw [hg]; rfl⟩
     have hlt2 : (((List.range all.size).filter fun k => !l.getD k true).filter fun k => k != j).length < ((List.range all.size).filter fun k => !l.getD k true).length := by
      refine Nat.lt_of_le_of_ne (List.length_filter_le _ _) fun he => ?_
      have := List.length_filter_eq_length_iff.1 he j hmem
      simp at this
     omega
    ·have hkl : k < all.size := (Array.getElem?_eq_some_iff.1 hok2).1
     have hel := (okD_at hok hok2).1 e he hb
     rw [hset k hkl] at hk
     rw [hset e.on (by omega)]
     by_cases e1 : j = e.on
     ·rw [if_pos e1]
     ·rw [if_neg e1]
      by_cases e2 : j = k
      ·subst e2
       have : ok = o := by rw [ho] at hok2; exact (Option.some.inj hok2).symm
       subst this
       exact hpre e he hb
      ·rw [if_neg e2] at hk
       exact hcl k ok hok2 hk e he hb
    ·rw [hset k hk2]
     by_cases e : j = k
     ·rw [if_pos e]
     ·rw [if_neg e]; exact hd k (by omega) hk2
    ·rcases Nat.lt_or_ge k all.size with h1 | h1
     ·rw [hset k h1, if_neg (by omega)]; exact hnl k (by omega)
     ·simp [Array.getD_eq_getD_getElem?, hl, h1]
   unfold wpListIn at h
   unfold wpOpIn
   rw [hom]
   simp only
   split
   ·rename_i hw; rw [if_pos hw] at h; exact Oper.wpIn_mono key h
   ·rename_i hw; rw [if_neg hw] at h; exact ⟨h.1, key _ _ h.2⟩
  ·rw [List.drop_eq_nil_of_le (by simpa using hm)] at h
   have hr : Region.ready .any all l = [] := by
    apply List.eq_nil_iff_forall_not_mem.2
    intro j hj
    obtain ⟨hun, o, ho, _⟩ := mem_ready.1 hj
    have hlt : j < all.size := (Array.getElem?_eq_some_iff.1 ho).1
    rw [gd j hlt, hd j (by omega) hlt] at hun; cases hun
   exact ⟨fun _ => h, by rw [hr]; simp⟩
end
end Go.Proofs.YtplpnfjccemdnaaGreatDoor
