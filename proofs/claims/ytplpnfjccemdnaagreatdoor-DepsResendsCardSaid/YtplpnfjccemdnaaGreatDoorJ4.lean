import Derived.Test.YtplpnfjccemdnaaGreatDoorJ3
import Derived.Laws.AppendOwn
import Derived.Laws.MakeOwn
set_option linter.unusedVariables false
set_option linter.unusedSimpArgs false
/- The texts V7b V7c of the proof, laid one behind the other. -/
namespace Go.Proofs.YtplpnfjccemdnaaGreatDoor
open Go.RowKit
theorem win_get {us : List Value} {x k i : Nat} : ((us.drop (x * k)).take k)[i]? = if i < k then us[x * k + i]? else none := by
 rw [List.getElem?_take]
 split
 ·rw [List.getElem?_drop]
 ·rfl
theorem splice_get {us vs : List Value} {a : Nat} (h : a + vs.length <= us.length) (i : Nat) : (us.take a ++ (vs ++ us.drop (a + vs.length)))[i]? = if i < a then us[i]? else if i < a + vs.length then vs[i - a]? else us[i]? := by
 by_cases h1 : i < a
 ·rw [if_pos h1, List.getElem?_append_left (by rw [List.length_take]; omega), List.getElem?_take, if_pos h1]
 ·rw [if_neg h1, List.getElem?_append_right (by rw [List.length_take]; omega), List.length_take, Nat.min_eq_left (by omega)]
  by_cases h2 : i < a + vs.length
  ·rw [if_pos h2, List.getElem?_append_left (by omega)]
  ·rw [if_neg h2, List.getElem?_append_right (by omega), List.getElem?_drop]
   congr 1; omega
theorem win_other {us vs : List Value} {j k c x : Nat} (h : j * k + c + vs.length <= us.length) (hc : c + vs.length <= k) (hx : x ≠ j) :
  ((us.take (j * k + c) ++ (vs ++ us.drop (j * k + c + vs.length))).drop (x * k)).take k = (us.drop (x * k)).take k := by
 apply List.ext_getElem?
 intro i
 rw [win_get, win_get]
 split
 ·rename_i hi
  rw [splice_get h]
  rcases Nat.lt_or_gt_of_ne hx with hlt | hgt
  ·have : x * k + k <= j * k := by rw [<- Nat.succ_mul]; exact Nat.mul_le_mul_right k hlt
   rw [if_pos (by omega)]
  ·have : j * k + k <= x * k := by rw [<- Nat.succ_mul]; exact Nat.mul_le_mul_right k hgt
   rw [if_neg (by omega), if_neg (by omega)]
 ·rfl
theorem win_self {us vs : List Value} {j k c : Nat} (h : j * k + k <= us.length) (hc : c + vs.length <= k) :
  ((us.take (j * k + c) ++ (vs ++ us.drop (j * k + c + vs.length))).drop (j * k)).take k = ((us.drop (j * k)).take k).take c ++ (vs ++ ((us.drop (j * k)).take k).drop (c + vs.length)) := by
 apply List.ext_getElem?
 intro i
 have hw : ((us.drop (j * k)).take k).length = k := by rw [List.length_take, List.length_drop]; omega
 rw [win_get, splice_get (us := us) (by omega), splice_get (us := (us.drop (j * k)).take k) (by omega)]
 split
 ·rename_i hi
  by_cases h1 : i < c
  ·rw [if_pos (by omega), if_pos h1, win_get, if_pos hi]
  ·rw [if_neg (by omega), if_neg h1]
   by_cases h2 : i < c + vs.length
   ·rw [if_pos (by omega), if_pos h2]; congr 1; omega
   ·rw [if_neg (by omega), if_neg h2, win_get, if_pos hi]
 ·rename_i hi
  rw [if_neg (by omega), if_neg (by omega), win_get, if_neg hi]
section
variable {w0 : W0} {W W' : World} {L : List Nat} {β : List (Option Nat)} {σ : Sig} {N : Nat} {E : Env} {a : Act} {P : Program}
theorem Inv.shift (h : Inv w0 L β σ N E a W) {i g : Nat} {cs : List PV} (hi : σ[i]? = some cs) (hg : β[i]? = some (some g)) : Inv w0 L (β ++ [some g]) (σ.set i [.dd] ++ [cs]) N E a W := by
 have hgm : some g ∈ β := List.mem_of_getElem? hg
 have hil : i < σ.length := (List.getElem?_eq_some_iff.1 hi).1
 have hsub : ∀ x ∈ β ++ [some g], x ∈ β := fun x hx => by
  rcases List.mem_append.1 hx with hx | hx
  ·exact hx
  ·simp at hx; subst hx; exact hgm
 have hβ : ∀ (i : Nat) (x : Option Nat), β[i]? = some x -> (β ++ [some g])[i]? = some x /\ ∀ g', x = some g' -> W.shape? g' = W.shape? g' := fun i x hg' => ⟨by rw [List.getElem?_append_left (List.getElem?_eq_some_iff.1 hg').1]; exact hg', fun _ _ => rfl⟩
 have hF : ∀ g', Fb (β ++ [some g]) L g' -> Fb β L g' \/ W.heap.size <= g' := fun g' hg' => .inl (hg'.imp (hsub _) id)
 have mvH : ∀ {x : Option Nat} {ds : List PV}, HoldO β L W x ds -> HoldO (β ++ [some g]) L W x ds := fun hh => hh.move (Nat.le_refl _) (fun _ _ => rfl) (fun _ _ _ => rfl) hβ hF
 have hback : ∀ (x g' : Nat) (ds : List PV), (β ++ [some g])[x]? = some (some g') -> (σ.set i [.dd] ++ [cs])[x]? = some ds -> (x = i /\ ds = [.dd]) \/ (x ≠ i /\ x < σ.length /\ β[x]? = some (some g') /\ σ[x]? = some ds) \/ (x = σ.length /\ g' = g /\ ds = cs) := fun x g' ds hx hd => by
  by_cases hxl : x < σ.length
  ·rw [List.getElem?_append_left (by simpa using hxl)] at hd
   rw [List.getElem?_append_left (by rw [h.bx.1]; exact hxl)] at hx
   by_cases e : x = i
   ·subst e
    rw [List.getElem?_set_self hil] at hd
    exact .inl ⟨rfl, (Option.some.inj hd).symm⟩
   ·rw [List.getElem?_set_ne (Ne.symm e)] at hd
    exact .inr (.inl ⟨e, hxl, hx, hd⟩)
  ·have hx0 : x = σ.length := by
    have := (List.getElem?_eq_some_iff.1 hd).1
    simp at this; omega
   subst hx0
   rw [List.getElem?_append_right (by simp)] at hd
   rw [List.getElem?_append_right (by rw [h.bx.1]; omega)] at hx
   simp [h.bx.1] at hd hx
   exact .inr (.inr ⟨rfl, hx.symm, hd.symm⟩)
 refine ⟨h.bel, fun x hx => h.new x (hsub _ hx), fun x hx => ⟨(h.old x hx).1, fun hc => (h.old x hx).2 (hsub _ hc)⟩, ⟨h.inc.1, fun x hx => (h.inc.2 x hx).imp (List.mem_append_left _) id⟩, ⟨by rw [List.take_append_of_le_length h.pre.2]; exact h.pre.1, by simp; have := h.pre.2; omega⟩,
  ⟨by simp [h.bx.1], fun x y g' c d hx hy hc hd lc ld => ?_, fun x hx => h.bx.2.2.1 x (hsub _ hx), fun x ds hd => ?_⟩, h.ev.move (Nat.le_refl _) (fun _ _ _ => rfl) hβ hF, h.nod, fun q hq => ⟨(h.gho q hq).1, R.move (Nat.le_refl _) _ _ _ _ _ _ (fun _ _ _ => rfl) hβ hF (h.gho q hq).2⟩, h.lim, h.glo⟩
 ·rcases hback x g' c hx hc with ⟨_, e⟩ | ⟨a1, a2, a3, a4⟩ | ⟨a1, a2, a3⟩
  ·rw [e] at lc; cases lc
  ·rcases hback y g' d hy hd with ⟨_, e⟩ | ⟨b1, b2, b3, b4⟩ | ⟨b1, b2, b3⟩
   ·rw [e] at ld; cases ld
   ·exact h.bx.2.1 x y g' c d a3 b3 a4 b4 lc ld
   ·subst b2; rw [b3] at ld
    exact absurd (h.bx.2.1 x i g' c cs a3 hg a4 hi lc ld) a1
  ·rcases hback y g' d hy hd with ⟨_, e⟩ | ⟨b1, b2, b3, b4⟩ | ⟨b1, b2, b3⟩
   ·rw [e] at ld; cases ld
   ·subst a2; rw [a3] at lc
    exact absurd (h.bx.2.1 y i g' d cs b3 hg b4 hi ld lc) b1
   ·omega
 ·by_cases hxl : x < σ.length
  ·rw [List.getElem?_append_left (by simpa using hxl)] at hd
   obtain ⟨g', hg', hh⟩ := h.bx.2.2.2 x σ[x] (List.getElem?_eq_getElem hxl)
   refine ⟨g', (hβ x g' hg').1, ?_⟩
   by_cases e : x = i
   ·subst e
    rw [List.getElem?_set_self hil] at hd
    cases hd; exact HoldO.dd
   ·rw [List.getElem?_set_ne (Ne.symm e), List.getElem?_eq_getElem hxl] at hd
    cases hd; exact mvH hh
  ·have hx0 : x = σ.length := by
    have := (List.getElem?_eq_some_iff.1 hd).1
    simp at this; omega
   subst hx0
   rw [List.getElem?_append_right (by simp)] at hd
   simp at hd
   subst hd
   obtain ⟨g', hg', hh⟩ := h.bx.2.2.2 i cs hi
   have : g' = some g := by rw [hg] at hg'; exact (Option.some.inj hg').symm
   subst this
   exact ⟨some g, by rw [<- h.bx.1]; simp, mvH hh⟩
theorem Inv.kill (h : Inv w0 L β σ N E a W) (i : Nat) : Inv w0 L β (σ.set i [.dd]) N E a W := by
 have old : ∀ (z : Nat) (c : List PV), (σ.set i [.dd])[z]? = some c -> isDd c = false -> z ≠ i /\ σ[z]? = some c := fun z c hz lz => by
  by_cases e : z = i
  ·subst e
   have hzl : z < σ.length := by have := (List.getElem?_eq_some_iff.1 hz).1; simpa using this
   rw [List.getElem?_set_self hzl] at hz; cases hz; cases lz
  ·rw [List.getElem?_set_ne (Ne.symm e)] at hz; exact ⟨e, hz⟩
 refine { h with bx := ⟨by simp [h.bx.1], fun x y g c d hx hy hc hd lc ld => h.bx.2.1 x y g c d hx hy (old x c hc lc).2 (old y d hd ld).2 lc ld, h.bx.2.2.1, fun x ds hd => ?_⟩ }
 have hxl : x < σ.length := by have := (List.getElem?_eq_some_iff.1 hd).1; simpa using this
 obtain ⟨g', hg', hh⟩ := h.bx.2.2.2 x σ[x] (List.getElem?_eq_getElem hxl)
 refine ⟨g', hg', ?_⟩
 by_cases e : x = i
 ·subst e; rw [List.getElem?_set_self hxl] at hd; cases hd; exact HoldO.dd
 ·rw [List.getElem?_set_ne (Ne.symm e), List.getElem?_eq_getElem hxl] at hd; cases hd; exact hh
theorem Inv.nilRow (h : Inv w0 L β σ N E a W) (k : Nat) (el : Nat -> List PV) : Inv w0 L (β ++ [none]) (σ ++ [[.rws k 0 el]]) N E a W := by
 have hsub : ∀ g, some g ∈ β ++ [none] -> some g ∈ β := fun g hg => by
  rcases List.mem_append.1 hg with hg | hg
  ·exact hg
  ·simp at hg
 have hβ : ∀ (i : Nat) (x : Option Nat), β[i]? = some x -> (β ++ [none])[i]? = some x /\ ∀ g', x = some g' -> W.shape? g' = W.shape? g' := fun i x hg' => ⟨by rw [List.getElem?_append_left (List.getElem?_eq_some_iff.1 hg').1]; exact hg', fun _ _ => rfl⟩
 have hF : ∀ g', Fb (β ++ [none]) L g' -> Fb β L g' \/ W.heap.size <= g' := fun g' hg' => .inl (hg'.imp (hsub g') id)
 have hback : ∀ (x g' : Nat) (ds : List PV), (β ++ [none])[x]? = some (some g') -> (σ ++ [[.rws k 0 el]])[x]? = some ds -> β[x]? = some (some g') /\ σ[x]? = some ds := fun x g' ds hx hd => by
  by_cases hxl : x < σ.length
  ·rw [List.getElem?_append_left hxl] at hd
   rw [List.getElem?_append_left (by rw [h.bx.1]; exact hxl)] at hx
   exact ⟨hx, hd⟩
  ·have hx0 : x = σ.length := by
    have := (List.getElem?_eq_some_iff.1 hd).1
    simp at this; omega
   subst hx0
   rw [<- h.bx.1] at hx
   simp at hx
 refine ⟨h.bel, fun x hx => h.new x (hsub _ hx), fun x hx => ⟨(h.old x hx).1, fun hc => (h.old x hx).2 (hsub _ hc)⟩, ⟨h.inc.1, fun x hx => (h.inc.2 x hx).imp (List.mem_append_left _) id⟩, ⟨by rw [List.take_append_of_le_length h.pre.2]; exact h.pre.1, by simp; have := h.pre.2; omega⟩,
  ⟨by simp [h.bx.1], fun x y g' c d hx hy hc hd lc ld => h.bx.2.1 x y g' c d (hback x g' c hx hc).1 (hback y g' d hy hd).1 (hback x g' c hx hc).2 (hback y g' d hy hd).2 lc ld, fun x hx => h.bx.2.2.1 x (hsub _ hx), fun x ds hd => ?_⟩, h.ev.move (Nat.le_refl _) (fun _ _ _ => rfl) hβ hF, h.nod, fun q hq => ⟨(h.gho q hq).1, R.move (Nat.le_refl _) _ _ _ _ _ _ (fun _ _ _ => rfl) hβ hF (h.gho q hq).2⟩, h.lim, h.glo⟩
 by_cases hxl : x < σ.length
 ·rw [List.getElem?_append_left hxl] at hd
  obtain ⟨g', hg', hh⟩ := h.bx.2.2.2 x ds hd
  exact ⟨g', (hβ x g' hg').1, hh.move (Nat.le_refl _) (fun _ _ => rfl) (fun _ _ _ => rfl) hβ hF⟩
 ·have hx0 : x = σ.length := by
   have := (List.getElem?_eq_some_iff.1 hd).1
   simp at this; omega
  subst hx0
  simp at hd
  subst hd
  exact ⟨none, by rw [<- h.bx.1]; simp, .inl ⟨k, el, rfl⟩⟩
theorem sl_flat {b off k : Nat} {el : Nat -> List PV} : ∀ m, (∀ j, j < m -> ∃ us : List Value, us.length = k /\ (∀ x ∈ us, x.oneCell' = true) /\ Rs β L W (el j) us /\ ∀ i x, us[i]? = some x -> W.cell? ⟨b, off + j * k + i, none⟩ = some x) ->
  ∃ news : List Value, news.length = m * k /\ (∀ x ∈ news, x.oneCell' = true) /\ (∀ j, j < m -> Rs β L W (el j) ((news.drop (j * k)).take k)) /\ ∀ i x, news[i]? = some x -> W.cell? ⟨b, off + i, none⟩ = some x
 | 0, _ => ⟨[], by simp, fun x hx => by simp at hx, fun j hj => absurd hj (Nat.not_lt_zero _), fun i x hx => by simp at hx⟩
 | m + 1, h => by
  obtain ⟨news, h1, h2, h3, h4⟩ := sl_flat m fun j hj => h j (Nat.lt_succ_of_lt hj)
  obtain ⟨us, q1, q2, q3, q4⟩ := h m (Nat.lt_succ_self m)
  refine ⟨news ++ us, by rw [List.length_append, h1, q1, Nat.succ_mul], fun x hx => (List.mem_append.1 hx).elim (h2 x) (q2 x), fun j hj => ?_, fun i x hx => ?_⟩
  ·by_cases e : j = m
   ·subst e
    have : ((news ++ us).drop (j * k)).take k = us := by
     rw [List.drop_append_of_le_length (by omega), List.drop_of_length_le (by omega), List.nil_append, List.take_of_length_le (by omega)]
    rw [this]; exact q3
   ·have hjm : j < m := by omega
    have hle : j * k + k <= m * k := by rw [<- Nat.succ_mul]; exact Nat.mul_le_mul_right k hjm
    have : ((news ++ us).drop (j * k)).take k = (news.drop (j * k)).take k := by
     rw [List.drop_append_of_le_length (by omega), List.take_append_of_le_length (by rw [List.length_drop]; omega)]
    rw [this]; exact h3 j hjm
  ·by_cases hi : i < news.length
   ·rw [List.getElem?_append_left hi] at hx; exact h4 i x hx
   ·rw [List.getElem?_append_right (by omega)] at hx
    have := q4 _ x hx
    rwa [show off + m * k + (i - news.length) = off + i by omega] at this
theorem win_join {xs news rest : List Value} {n m k : Nat} {el el' : Nat -> List PV} (hx : xs.length = n * k) (hm : news.length = m * k) (h1 : ∀ j, j < n -> Rs β L W (el j) ((xs.drop (j * k)).take k))
  (h2 : ∀ j, j < m -> Rs β L W (el' j) ((news.drop (j * k)).take k)) : ∀ j, j < n + m -> Rs β L W (if j < n then el j else el' (j - n)) (((xs ++ news ++ rest).drop (j * k)).take k) := by
 intro j hj
 by_cases hjn : j < n
 ·rw [if_pos hjn]
  have hle : j * k + k <= n * k := by rw [<- Nat.succ_mul]; exact Nat.mul_le_mul_right k hjn
  have : ((xs ++ news ++ rest).drop (j * k)).take k = (xs.drop (j * k)).take k := by
   rw [List.append_assoc, List.drop_append_of_le_length (by omega), List.take_append_of_le_length (by rw [List.length_drop]; omega)]
  rw [this]; exact h1 j hjn
 ·rw [if_neg hjn]
  have e : j * k = n * k + (j - n) * k := by rw [<- Nat.add_mul]; congr 1; omega
  have hle : (j - n) * k + k <= m * k := by rw [<- Nat.succ_mul]; exact Nat.mul_le_mul_right k (by omega)
  have : ((xs ++ news ++ rest).drop (j * k)).take k = (news.drop ((j - n) * k)).take k := by
   apply List.ext_getElem?
   intro i
   rw [win_get, win_get]
   split
   ·rename_i hi
    rw [List.append_assoc, List.getElem?_append_right (by omega), List.getElem?_append_left (by omega)]
    congr 1; omega
   ·rfl
  rw [this]; exact h2 _ (by omega)
def rowInfo (P : Program) (t : TypeId) : Option (TypeId × Nat × Nat × List Value) :=
 match P.underlying t with
 | some (.slice e) =>
  match P.info? e with
  | some i =>
   match i.zero with
   | some z => if z.cells.toList.all (·.oneCell') = true /\ z.cells.toList.length = i.size /\ 0 < i.size then some (e, i.size, i.bytes, z.cells.toList) else none
   | none => none
  | none => none
 | _ => none
theorem rowInfo_at {t e : TypeId} {k bytes : Nat} {zs : List Value} (h : rowInfo P t = some (e, k, bytes, zs)) : P.underlying t = some (.slice e) /\ 0 < k /\ zs.length = k /\ (∀ x ∈ zs, x.oneCell' = true) /\ ∃ i z, P.info? e = some i /\ i.zero = some z /\ i.size = k /\ i.bytes = bytes /\ z.cells = zs.toArray := by
 unfold rowInfo at h
 split at h
 ·rename_i e' hu
  split at h
  ·rename_i i hi
   split at h
   ·rename_i z hz
    split at h
    ·rename_i hc
     cases h
     exact ⟨hu, hc.2.2, hc.2.1, fun x hx => List.all_eq_true.1 hc.1 x hx, i, z, hi, hz, rfl, rfl, by simp⟩
    ·cases h
   ·cases h
  ·cases h
 ·cases h
def setEl (el : Nat -> List PV) (j c : Nat) (ds : List PV) : Nat -> List PV := fun x => if x = j then (el j).take c ++ (ds ++ (el j).drop (c + ds.length)) else el x
def joinEl (el : Nat -> List PV) (n : Nat) (el' : Nat -> List PV) : Nat -> List PV := fun j => if j < n then el j else el' (j - n)
def appP (P : Program) (σ : Sig) (t : TypeId) (p q : PV) : Option (Option Prop × PV × Sig) :=
 match rowInfo P t, p, q with
 | some (e, k, bytes, _), .v (.slice none 0 0), .sl k' m el' =>
  if k' = k then some (some (0 < m /\ m <= 9223372036854775807 /\ m * bytes <= 140737488355328), .os e σ.length k m, σ ++ [[.rws k m el']]) else none
 | some (e, k, bytes, _), .os e' i k1 n, .sl k' m el' =>
  match σ[i]? with
  | some [.rws k2 n2 el] =>
   if k' = k /\ k1 = k /\ k2 = k /\ e' = e then
    some (some (n = n2 /\ 0 < m /\ n + m <= 9223372036854775807 /\ (n + m) * bytes <= 140737488355328), .os e σ.length k (n + m), σ.set i [.dd] ++ [[.rws k (n + m) (joinEl el n el')]])
   else none
  | _ => none
 | some (e, k, bytes, _), .v (.slice none 0 0), .os _ i2 k' m =>
  match σ[i2]? with
  | some [.rws k2 m2 el'] => if k' = k /\ k2 = k then some (some (m <= m2 /\ 0 < m /\ m <= 9223372036854775807 /\ m * bytes <= 140737488355328), .os e σ.length k m, σ ++ [[.rws k m el']]) else none
  | _ => none
 | some (e, k, bytes, _), .os e' i k1 n, .os _ i2 k' m =>
  match σ[i]?, σ[i2]? with
  | some [.rws k2 n2 el], some [.rws k3 m2 el'] =>
   if k' = k /\ k1 = k /\ k2 = k /\ e' = e /\ k3 = k then
    some (some (m <= m2 /\ n = n2 /\ 0 < m /\ n + m <= 9223372036854775807 /\ (n + m) * bytes <= 140737488355328), .os e σ.length k (n + m), σ.set i [.dd] ++ [[.rws k (n + m) (joinEl el n el')]])
   else none
  | _, _ => none
 | some (e, k, bytes, _), .os e' i k1 n, .v (.slice _ 0 _) => some (none, .os e' i k1 n, σ)
 | _, _, _ => none
def makeP (P : Program) (σ : Sig) (t : TypeId) (p q : PV) : Option (Option Prop × PV × Sig) :=
 match rowInfo P t, intP p, intP q with
 | some (e, k, bytes, zs), some (_, l), some (_, c) =>
  some (some (0 <= l /\ l <= c /\ (bytes : Int) * c <= 281474976710656 /\ c <= 9223372036854775807), .os e σ.length k l.toNat, σ ++ [[.rws k l.toNat (fun _ => zs.map PV.v)]])
 | _, _, _ => none
def rowStP (P : Program) (σ : Sig) (t : TypeId) (i k j c : Nat) (q : PV) : Option (Option Prop × PV × Sig) :=
 match σ[i]?, cellsP q with
 | some [.rws k2 n el], some ds => if k2 = k /\ szP P t = some ds.length /\ c + ds.length <= k then some (some (j < n), .any, σ.set i [.rws k n (setEl el j c ds)]) else none
 | some [.rwf k2 n el jf cs], some ds => if k2 = k /\ szP P t = some ds.length /\ c + ds.length <= k then some (some (j < n /\ j = jf), .any, σ.set i [.rwf k n el jf (cs.take c ++ (ds ++ cs.drop (c + ds.length)))]) else none
 | _, _ => none
def ownSliceP (P : Program) (E : Env) (σ : Sig) (t : TypeId) (len : Nat) (parts : Array (Nat × Operand)) : Option (PV × Sig) :=
 match P.underlying t with
 | some (.slice e) =>
  match zeroP P e, szP P e with
  | some zs, some n =>
   if zs.length = n /\ 0 < n /\ len * n <= 16777216 then
    (fillP (fun i => some (i * n, n)) ((List.replicate len (zs.map PV.v)).flatten) (parts.toList.map fun q => (q.1, evA E q.2))).map fun ds => (.os e σ.length n len, σ ++ [[.rws n len (fun j => (ds.drop (j * n)).take n)]])
   else none
  | _, _ => none
 | _ => none
def opS1 (P : Program) (E : Env) (σ : Sig) : Op -> Option (Option Prop × PV × Sig)
 | .store t a x =>
  match evA E a with
  | .rr i k j c => rowStP P σ t i k j c (evA E x)
  | _ => (opS0 P E σ (.store t a x)).map fun q => (none, q.1, q.2)
 | .call { callee := .builtin .append, args, argTypes } =>
  match args.toList, argTypes.toList with
  | [s, x], [t, t'] => if t = t' then appP P σ t (evA E s) (evA E x) else none
  | _, _ => none
 | .makeSlice t l c => makeP P σ t (evA E l) (evA E c)
 | .buildSlice t len parts =>
  match opB P E (.buildSlice t len parts) with
  | some p => some (none, p, σ)
  | none => (ownSliceP P E σ t len parts).map fun q => (none, q.1, q.2)
 | op => (opS0 P E σ op).map fun q => (none, q.1, q.2)
theorem grown_one {z : Value} {zs : List Value} {n : Nat} (hz : z.cells = zs.toArray) (h1 : ∀ x ∈ zs, x.oneCell' = true) : ∀ x ∈ (Builtin.zeroCells z.cells n).toList, x.oneCell' = true := by
 intro x hx
 unfold Builtin.zeroCells at hx
 rw [hz] at hx
 simp only [Array.toList_map, Array.toList_range, List.mem_map, List.mem_range, List.size_toArray] at hx
 obtain ⟨i, hi, rfl⟩ := hx
 have hl : 0 < zs.length := by
  rcases Nat.eq_zero_or_pos zs.length with h | h
  ·rw [h, Nat.mul_zero] at hi; omega
  ·exact h
 have hm := Nat.mod_lt i hl
 simp only [getElem!_def, List.getElem?_toArray, List.getElem?_eq_getElem hm]
 exact h1 _ (List.getElem_mem _)
theorem rwf_out {g k n : Nat} {el : Nat -> List PV} {j : Nat} {cs : List PV} (h : Hold β L W g [.rwf k n el j cs]) : ∃ (t : TypeId) (us : List Value), W.heap[g]? = some (.cells us.toArray t (0, 0)) /\ (∀ x ∈ us, x.oneCell' = true) /\ n * k <= us.length /\ ∀ x, x < n -> Rs β L W (if x = j then cs else el x) ((us.drop (x * k)).take k) := by
 cases h with
 | cells _ t us hh h1 h2 => obtain ⟨u, us', rfl, hu, _⟩ := h2.uncons; rw [R] at hu; exact hu.elim
 | rwf _ _ _ _ _ t us hh h1 hl h2 => exact ⟨t, us, hh, h1, hl, h2⟩
theorem rws_out {g k n : Nat} {el : Nat -> List PV} (h : Hold β L W g [.rws k n el]) : ∃ (t : TypeId) (us : List Value), W.heap[g]? = some (.cells us.toArray t (0, 0)) /\ (∀ x ∈ us, x.oneCell' = true) /\ n * k <= us.length /\ ∀ j, j < n -> Rs β L W (el j) ((us.drop (j * k)).take k) := by
 cases h with
 | cells _ t us hh h1 h2 => obtain ⟨u, us', rfl, hu, _⟩ := h2.uncons; rw [R] at hu; exact hu.elim
 | rws _ _ _ t us hh h1 hl h2 => exact ⟨t, us, hh, h1, hl, h2⟩
structure News (W : World) (β : List (Option Nat)) (L : List Nat) (k m : Nat) (el : Nat -> List PV) (ad : Addr) (news : List Value) : Prop where
 len : news.length = m * k
 one : ∀ x ∈ news, x.oneCell' = true
 rs : ∀ j, j < m -> Rs β L W (el j) ((news.drop (j * k)).take k)
 cell : ∀ j v, news[j]? = some v -> W.cell? (ad.add j) = some v
theorem sl_news {k m : Nat} {el : Nat -> List PV} {y : Value} (hm : 0 < m) (hx : R β L W (.sl k m el) y) : ∃ ad c news, y = .slice (some ad) m c /\ News W β L k m el ad news := by
 rw [R] at hx
 obtain ⟨ad, c, rfl, _, _, hcells⟩ := hx
 obtain ⟨b, off, rfl, hb, hlt, hj⟩ := hcells hm
 obtain ⟨news, n1, n2, n3, n4⟩ := sl_flat (β := []) (L := bs β ++ L) m hj
 exact ⟨_, c, news, rfl, n1, n2, fun j hj => (n3 j hj).own, fun j v hv => by rw [add_addr]; exact n4 j v hv⟩
theorem os_news {σ : Sig} {e : TypeId} {i k m m2 : Nat} {el : Nat -> List PV} {y : Value} (hB : Bx β L W σ) (hs : σ[i]? = some [.rws k m2 el]) (hm2 : m <= m2) (hm : 0 < m) (hx : R β L W (.os e i k m) y) : ∃ ad c news, y = .slice (some ad) m c /\ News W β L k m el ad news := by
 rw [R] at hx
 rcases hx with ⟨g, c, hg, rfl, h1, h2, h3⟩ | ⟨_, h0, _⟩
 case inr => omega
 obtain ⟨t, us, hh, u1, ul, uw⟩ := rws_out (hB.hold hs hg)
 have hle : m * k <= m2 * k := Nat.mul_le_mul_right k hm2
 have hl : (us.take (m * k)).length = m * k := by rw [List.length_take]; omega
 refine ⟨_, c, us.take (m * k), rfl, hl, fun x hx => u1 x (List.mem_of_mem_take hx), fun j hj => ?_, fun j v hv => ?_⟩
 ·have hle : j * k + k <= m * k := by rw [<- Nat.succ_mul]; exact Nat.mul_le_mul_right _ hj
  have : ((us.take (m * k)).drop (j * k)).take k = (us.drop (j * k)).take k := by
   apply List.ext_getElem?
   intro q
   rw [win_get, win_get]
   split
   ·rw [List.getElem?_take, if_pos (by omega)]
   ·rfl
  rw [this]
  exact uw j (by omega)
 ·rw [List.getElem?_take] at hv
  split at hv
  ·rw [add_addr, Nat.zero_add]
   simp only [World.cell?, hh]; simpa using hv
  ·cases hv
theorem nil_app {e : TypeId} {i : TypeInfo} {z : Value} {zs : List Value} {t ty : TypeId} {m c : Nat} {el' : Nat -> List PV} {a0 : Option Addr} {ad : Addr} {news : List Value} (hI : Inv w0 L β σ N E a W) (hu : P.underlying t = some (.slice e)) (hi : P.info? e = some i) (hz : i.zero = some z)
  (hzl : zs.length = i.size) (hz1 : ∀ x ∈ zs, x.oneCell' = true) (hzc : z.cells = zs.toArray) (hm : 0 < m) (h63 : m <= 9223372036854775807) (hby : m * i.bytes <= 140737488355328) (hx : News W β L i.size m el' ad news) :
  ∃ v W', (Builtin.append_ #[t, t] ty #[.slice a0 0 0, .slice (some ad) m c]).run P W = .ok v W' /\ Inv w0 L (β ++ [some W.heap.size]) (σ ++ [[.rws i.size m el']]) N E a W' /\ R (β ++ [some W.heap.size]) L W' (.os e σ.length i.size m) v := by
 obtain ⟨n1, n2, n3, n4⟩ := hx
 have hr : (Builtin.append_ #[t, t] ty #[.slice a0 0 0, .slice (some ad) m c]).run P W = .ok (.slice (some ⟨W.heap.size, 0, none⟩) m (grownCap W m 0 e)) (W.drew.alloc (.cells (news.toArray ++ Builtin.zeroCells z.cells (grownCap W m 0 e - m)) e)) := by
  cases a0 with
  | none => exact run_append_nil (P := P) W t ty e i z hu hi hz ad m c news n1 n4 hm (by omega) (by omega)
  | some b0 =>
   have := run_append_grow (P := P) W t ty e i z hu hi hz b0 0 0 [] (by simp) (fun j v hv => by simp at hv) ad m c news n1 n4 (by omega) (by omega) (growslice_fits (by omega) (by simpa using (show m * i.bytes <= 140737488355328 from hby)))
   simpa using this
 have hcap := grownCap_ge W m 0 e
 have hcapm := grownCap_le_maxLen W m 0 e (by unfold maxLen; omega)
 have hb' : Below W.heap.size W W.drew := (Below.refl W.heap.size W).drew
 have hI' := hI.below hb'
 refine ⟨_, _, hr, ?_⟩
 rw [<- Array.toArray_toList (xs := Builtin.zeroCells z.cells (grownCap W m 0 e - m)), List.append_toArray]
 have hadd := hI'.add (cs := [.rws i.size m el']) (o := .cells (news ++ (Builtin.zeroCells z.cells (grownCap W m 0 e - m)).toList).toArray e) fun mv => by
  refine .rws _ _ _ e _ (heap_alloc_new W.drew _) (fun y hy => (List.mem_append.1 hy).elim (n2 y) (grown_one hzc hz1 y)) (by rw [List.length_append, n1]; omega) fun j hj => ?_
  have := win_join (β := β) (L := L) (W := W) (xs := []) (news := news) (rest := (Builtin.zeroCells z.cells (grownCap W m 0 e - m)).toList) (n := 0) (m := m) (k := i.size) (el := el') (el' := el') (by simp) n1 (fun j hj => absurd hj (Nat.not_lt_zero _)) n3 j (by omega)
  simp only [Nat.not_lt_zero, if_false, Nat.sub_zero, List.nil_append] at this
  exact mv _ _ (Rs.move hb'.size _ _ _ _ _ _ (fun k _ hk => hb'.block k hk) (fun _ _ h => ⟨h, fun _ _ => rfl⟩) (fun _ h => .inl h) this)
 refine ⟨hadd, ?_⟩
 rw [R]
 refine .inl ⟨W.heap.size, _, by rw [<- hI.bx.1]; simp, rfl, hcap, by unfold maxLen at hcapm; omega, ?_⟩
 simp only [World.shape?]
 rw [show W.heap.size = W.drew.heap.size from rfl, heap_alloc_new]
 simp only [List.size_toArray, List.length_append, n1, Array.length_toList, size_zeroCells, hzc, hzl, <- Nat.add_mul]
 rw [show m + (grownCap W m 0 e - m) = grownCap W m 0 e by omega]
theorem own_app {e : TypeId} {i : TypeInfo} {z : Value} {zs : List Value} {t ty : TypeId} {ii n m c : Nat} {el el' : Nat -> List PV} {v0 : Value} {ad : Addr} {news : List Value} (hI : Inv w0 L β σ N E a W) (hu : P.underlying t = some (.slice e)) (hi : P.info? e = some i) (hz : i.zero = some z)
  (hzl : zs.length = i.size) (hz1 : ∀ x ∈ zs, x.oneCell' = true) (hzc : z.cells = zs.toArray) (hm : 0 < m) (h63 : n + m <= 9223372036854775807) (hby : (n + m) * i.bytes <= 140737488355328) (hσ : σ[ii]? = some [.rws i.size n el]) (hs : R β L W (.os e ii i.size n) v0) (hx : News W β L i.size m el' ad news) :
  ∃ γ v W', (Builtin.append_ #[t, t] ty #[v0, .slice (some ad) m c]).run P W = .ok v W' /\ Inv w0 L γ (σ.set ii [.dd] ++ [[.rws i.size (n + m) (joinEl el n el')]]) N E a W' /\ R γ L W' (.os e σ.length i.size (n + m)) v := by
 have hx' := hx
 obtain ⟨n1, n2', n3, n4⟩ := hx
 rw [R] at hs
 rcases hs with hs | ⟨hg0, rfl, a0, rfl⟩
 case inr =>
  obtain ⟨v, W', hr, hi', hrv⟩ := nil_app (ty := ty) (a0 := a0) (c := c) hI hu hi hz hzl hz1 hzc hm (by omega) (by simpa using hby) hx'
  have hk' := hi'.kill ii
  rw [List.set_append_left _ _ (List.getElem?_eq_some_iff.1 hσ).1] at hk'
  have hje : joinEl el 0 el' = el' := by funext j; simp [joinEl]
  exact ⟨_, v, W', hr, by rw [hje, Nat.zero_add]; exact hk', by rw [Nat.zero_add]; exact hrv⟩
 obtain ⟨g, cap, hg, rfl, hnc, hcm, hsh⟩ := hs
 have hh := hI.bx.hold hσ hg
 obtain ⟨ty', us, hheap, u1, ul, uw⟩ := rws_out hh
 have hsh' := hsh
 simp only [World.shape?, hheap, Option.some.injEq, Prod.mk.injEq, List.size_toArray] at hsh'
 obtain ⟨rfl, husl⟩ := hsh'
 have hgl : g < W.heap.size := hI.bx.2.2.1 g (List.mem_of_getElem? hg)
 have hxl : (us.take (n * i.size)).length = n * i.size := by rw [List.length_take]; omega
 have uw' : ∀ j, j < n -> Rs β L W (el j) (((us.take (n * i.size)).drop (j * i.size)).take i.size) := fun j hj => by
  have hle : j * i.size + i.size <= n * i.size := by rw [<- Nat.succ_mul]; exact Nat.mul_le_mul_right _ hj
  have : ((us.take (n * i.size)).drop (j * i.size)).take i.size = (us.drop (j * i.size)).take i.size := by
   apply List.ext_getElem?
   intro q
   rw [win_get, win_get]
   split
   ·rw [List.getElem?_take, if_pos (by omega)]
   ·rfl
  rw [this]; exact uw j hj
 by_cases hroom : n + m <= cap
 ·have hfit : n * i.size + news.length <= us.toArray.size := by rw [n1, List.size_toArray, husl, <- Nat.add_mul]; exact Nat.mul_le_mul_right _ hroom
  have hr := run_append_room (P := P) W t ty ty' i hu hi g n cap us.toArray hheap ad m c news n1 n4 n2' hroom hfit
  simp only [List.toList_toArray] at hr
  have hset := setRow_heap W g us.toArray (us.take (n * i.size) ++ news ++ us.drop (n * i.size + news.length)).toArray ty' (0, 0) hheap
  have hw := hI.write (W' := W.setRow g (us.take (n * i.size) ++ news ++ us.drop (n * i.size + news.length)).toArray) (cs := [.rws i.size (n + m) (joinEl el n el')]) hσ rfl hg (by simp [World.setRow]) (fun k hk => setRow_other W g k _ hk)
   (by simp only [World.shape?, hset, hheap, List.size_toArray, List.length_append, List.length_take, List.length_drop]; simp at hfit; congr 2; omega) rfl rfl rfl
   (fun mv => .rws _ _ _ ty' _ hset (fun y hy => by
    rcases List.mem_append.1 hy with hy | hy
    ·rcases List.mem_append.1 hy with hy | hy
     ·exact u1 y (List.mem_of_mem_take hy)
     ·exact n2' y hy
    ·exact u1 y (List.mem_of_mem_drop hy)) (by rw [List.length_append, List.length_append, hxl, n1, Nat.add_mul]; omega)
    (fun j hj => mv _ _ (win_join hxl n1 uw' n3 j hj)))
  have hsf := hw.shift (i := ii) (g := g) (cs := [.rws i.size (n + m) (joinEl el n el')]) (by rw [List.getElem?_set_self (List.getElem?_eq_some_iff.1 hσ).1]) hg
  rw [List.set_set] at hsf
  refine ⟨_, _, _, hr, hsf, ?_⟩
  rw [R]
  refine .inl ⟨g, cap, by rw [<- hI.bx.1]; simp, rfl, hroom, hcm, ?_⟩
  simp only [World.shape?, hset, List.size_toArray, List.length_append, List.length_take, List.length_drop]
  simp at hfit
  congr 2; omega
 ·have hr := run_append_grow (P := P) W t ty ty' i z hu hi hz ⟨g, 0, none⟩ n cap (us.take (n * i.size)) hxl (fun j v hv => by
   rw [add_addr, Nat.zero_add]
   rw [List.getElem?_take] at hv
   split at hv
   ·simp only [World.cell?, hheap]; simpa using hv
   ·cases hv) ad m c news n1 n4 (by omega) (by omega) (growslice_fits (by omega) hby)
  have hcap := grownCap_ge W (n + m) cap ty'
  have hcapm := grownCap_le_maxLen W (n + m) cap ty' (by unfold maxLen; omega)
  have hb' : Below W.heap.size W W.drew := (Below.refl W.heap.size W).drew
  have hI' := hI.below hb'
  rw [List.append_toArray, <- Array.toArray_toList (xs := Builtin.zeroCells z.cells (grownCap W (n + m) cap ty' - (n + m))), List.append_toArray] at hr
  have hadd := hI'.add (cs := [.rws i.size (n + m) (joinEl el n el')]) (o := .cells (us.take (n * i.size) ++ news ++ (Builtin.zeroCells z.cells (grownCap W (n + m) cap ty' - (n + m))).toList).toArray ty') fun mv => by
   refine .rws _ _ _ ty' _ (heap_alloc_new W.drew _) (fun y hy => by
    rcases List.mem_append.1 hy with hy | hy
    ·rcases List.mem_append.1 hy with hy | hy
     ·exact u1 y (List.mem_of_mem_take hy)
     ·exact n2' y hy
    ·exact grown_one hzc hz1 y hy) (by rw [List.length_append, List.length_append, hxl, n1, Nat.add_mul]; omega) fun j hj => ?_
   exact mv _ _ (Rs.move hb'.size _ _ _ _ _ _ (fun k _ hk => hb'.block k hk) (fun _ _ h => ⟨h, fun _ _ => rfl⟩) (fun _ h => .inl h) (win_join hxl n1 uw' n3 j hj))
  have hkl := hadd.kill ii
  rw [List.set_append_left _ _ (List.getElem?_eq_some_iff.1 hσ).1] at hkl
  refine ⟨_, _, _, hr, hkl, ?_⟩
  rw [R]
  refine .inl ⟨W.heap.size, _, by rw [<- hI.bx.1]; simp, rfl, hcap, by unfold maxLen at hcapm; omega, ?_⟩
  simp only [World.shape?]
  rw [show W.heap.size = W.drew.heap.size from rfl, heap_alloc_new]
  simp only [List.size_toArray, List.length_append, hxl, n1, Array.length_toList, size_zeroCells, hzc, hzl, <- Nat.add_mul]
  rw [show n + m + (grownCap W (n + m) cap ty' - (n + m)) = grownCap W (n + m) cap ty' by omega]
theorem app_run {o : Oper} {s x : Operand} {t : TypeId} {p : PV} {σ' : Sig} {pre : Option Prop} (hI : Inv w0 L β σ N E a W) (hd : fitsD N o.dst = true) (ho : o.op = .call { callee := .builtin .append, args := #[s, x], argTypes := #[t, t] })
  (h : appP P σ t (evA E s) (evA E x) = some (pre, p, σ')) (hp : Pre pre) (K : Act -> World -> Prop) (Q : Exit -> Act -> World -> Prop)
  (hK : ∀ γ u W', Inv w0 L γ σ' N (putE E o.dst p) (a.put o.dst u) W' -> K (a.put o.dst u) W') : Oper.wp P o a W K Q := by
 have exec : ∀ (v y r : Value) (W' : World), a.eval s = v -> a.eval x = y -> (Builtin.append_ #[t, t] o.type #[v, y]).run P W = .ok r W' -> K (a.put o.dst r) W' -> Oper.wp P o a W K Q := fun v y r W' h1 h2 hr hk => by
  unfold Oper.wp execOp
  simp only [ho, resolve, invoke, builtin, Sem.run_bind, Sem.run_pure, Result.andThen_ok, List.map_toArray, List.map_cons, List.map_nil, h1, h2, hr]
  exact hk
 have fin : ∀ (γ : List (Option Nat)) (u : Value) (W' : World), Inv w0 L γ σ' N E a W' -> R γ L W' p u -> K (a.put o.dst u) W' := fun γ u W' hi hr =>
  hK γ u W' { hi with ev := hi.ev.put hr hd, nod := hi.nod.put _ _ }
 have hs := evA_R hI.ev s
 have hx := evA_R hI.ev x
 unfold appP at h
 split at h
 ·rename_i e k bytes zs k' m el' hri hps hpx
  split at h
  ·rename_i hk
   subst hk
   simp only [Option.some.injEq, Prod.mk.injEq] at h
   obtain ⟨rfl, rfl, rfl⟩ := h
   simp only [Pre] at hp
   obtain ⟨hm, h63, hby⟩ := hp
   obtain ⟨hu, hk0, hzl, hz1, i, z, hi, hz, hsz, hbb, hzc⟩ := rowInfo_at hri
   rw [hps, R] at hs
   rw [hpx] at hx
   subst hsz
   subst hbb
   obtain ⟨ad, c, news, ex, hn⟩ := sl_news hm hx
   obtain ⟨v, W', hr, hi', hrv⟩ := nil_app (ty := o.type) (a0 := none) (c := c) hI hu hi hz hzl hz1 hzc hm h63 hby hn
   exact exec _ _ _ _ hs ex hr (fin _ _ _ hi' hrv)
  ·cases h
 ·rename_i e k bytes zs e' ii k1 n k' m el' hri hps hpx
  split at h
  ·rename_i k2 n2 el hσ
   split at h
   ·rename_i hc
    obtain ⟨rfl, rfl, rfl, rfl⟩ := hc
    simp only [Option.some.injEq, Prod.mk.injEq] at h
    obtain ⟨rfl, rfl, rfl⟩ := h
    simp only [Pre] at hp
    obtain ⟨rfl, hm, h63, hby⟩ := hp
    obtain ⟨hu, hk0, hzl, hz1, i, z, hi, hz, hsz, hbb, hzc⟩ := rowInfo_at hri
    subst hsz
    subst hbb
    rw [hps] at hs
    rw [hpx] at hx
    obtain ⟨ad, c, news, ex, hn⟩ := sl_news hm hx
    obtain ⟨γ, v, W', hr, hi', hrv⟩ := own_app (ty := o.type) (c := c) hI hu hi hz hzl hz1 hzc hm h63 hby hσ hs hn
    exact exec _ _ _ _ rfl ex hr (fin _ _ _ hi' hrv)
   ·cases h
  ·cases h
 ·rename_i e k bytes zs e2 i2 k' m hri hps hpx
  split at h
  ·rename_i k2 m2 el' hσ2
   split at h
   ·rename_i hk
    obtain ⟨rfl, rfl⟩ := hk
    simp only [Option.some.injEq, Prod.mk.injEq] at h
    obtain ⟨rfl, rfl, rfl⟩ := h
    simp only [Pre] at hp
    obtain ⟨hm2, hm, h63, hby⟩ := hp
    obtain ⟨hu, hk0, hzl, hz1, i, z, hi, hz, hsz, hbb, hzc⟩ := rowInfo_at hri
    rw [hps, R] at hs
    rw [hpx] at hx
    subst hsz
    subst hbb
    obtain ⟨ad, c, news, ex, hn⟩ := os_news hI.bx hσ2 hm2 hm hx
    obtain ⟨v, W', hr, hi', hrv⟩ := nil_app (ty := o.type) (a0 := none) (c := c) hI hu hi hz hzl hz1 hzc hm h63 hby hn
    exact exec _ _ _ _ hs ex hr (fin _ _ _ hi' hrv)
   ·cases h
  ·cases h
 ·rename_i e k bytes zs e' ii k1 n e2 i2 k' m hri hps hpx
  split at h
  ·rename_i k2 n2 el k3 m2 el' hσ hσ2
   split at h
   ·rename_i hc
    obtain ⟨rfl, rfl, rfl, rfl, rfl⟩ := hc
    simp only [Option.some.injEq, Prod.mk.injEq] at h
    obtain ⟨rfl, rfl, rfl⟩ := h
    simp only [Pre] at hp
    obtain ⟨hm2, rfl, hm, h63, hby⟩ := hp
    obtain ⟨hu, hk0, hzl, hz1, i, z, hi, hz, hsz, hbb, hzc⟩ := rowInfo_at hri
    subst hsz
    subst hbb
    rw [hps] at hs
    rw [hpx] at hx
    obtain ⟨ad, c, news, ex, hn⟩ := os_news hI.bx hσ2 hm2 hm hx
    obtain ⟨γ, v, W', hr, hi', hrv⟩ := own_app (ty := o.type) (c := c) hI hu hi hz hzl hz1 hzc hm h63 hby hσ hs hn
    exact exec _ _ _ _ rfl ex hr (fin _ _ _ hi' hrv)
   ·cases h
  ·cases h
 ·rename_i e k bytes zs e' ii k1 n a0 c0 hri hps hpx
  simp only [Option.some.injEq, Prod.mk.injEq] at h
  obtain ⟨rfl, rfl, rfl⟩ := h
  obtain ⟨hu, hk0, hzl, hz1, i, z, hi, hz, hsz, hbb, hzc⟩ := rowInfo_at hri
  rw [hps] at hs
  rw [hpx, R] at hx
  have hs' := hs
  have hv : ∃ a1 c1, a.eval s = .slice a1 n c1 /\ n <= c1 := by
   rw [R] at hs
   rcases hs with ⟨g, c, _, e, h1, _⟩ | ⟨_, rfl, a1, e⟩
   ·exact ⟨_, c, e, h1⟩
   ·exact ⟨a1, 0, e, Nat.le_refl _⟩
  obtain ⟨a1, c1, hv, hnc⟩ := hv
  have hr : (Builtin.append_ #[t, t] o.type #[.slice a1 n c1, .slice a0 0 c0]).run P W = .ok (.slice a1 n c1) W := by
   cases a0 <;> cases a1 <;> simp [Builtin.append_, run_underlying hu, sizeOf, typeInfo, hi, Builtin.lenOf, Builtin.firstCells, hnc, loadCells, loadCellsFrom, storeCells]
  refine exec _ _ _ _ hv hx hr (fin β _ _ hI (by rw [<- hv]; exact hs'))
 ·cases h
end
section
variable {w0 : W0} {W W' : World} {L : List Nat} {β : List (Option Nat)} {σ : Sig} {N : Nat} {E : Env} {a : Act} {P : Program}
theorem make_one {z : Value} {zs : List Value} {n : Nat} (hz : z.cells = zs.toArray) (h1 : ∀ x ∈ zs, x.oneCell' = true) (h0 : 0 < zs.length) : ∀ x ∈ (madeCells z.cells n).toList, x.oneCell' = true := by
 intro x hx
 unfold madeCells at hx
 rw [hz] at hx
 simp only [Array.toList_map, Array.toList_range, List.mem_map, List.mem_range, List.size_toArray] at hx
 obtain ⟨i, hi, rfl⟩ := hx
 have hm := Nat.mod_lt i h0
 simp only [getElem!_def, List.getElem?_toArray, List.getElem?_eq_getElem hm]
 exact h1 _ (List.getElem_mem _)
theorem make_win {z : Value} {zs : List Value} {n c j : Nat} (hz : z.cells = zs.toArray) (hl : zs.length = n) (h0 : 0 < n) (hj : j < c) : (((madeCells z.cells (c * n)).toList.drop (j * n)).take n) = zs := by
 have hle : j * n + n <= c * n := by rw [<- Nat.succ_mul]; exact Nat.mul_le_mul_right n hj
 apply List.ext_getElem?
 intro i
 rw [win_get]
 split
 ·rename_i hi
  unfold madeCells
  rw [hz]
  simp only [Array.toList_map, Array.toList_range, List.getElem?_map, List.size_toArray, hl]
  rw [List.getElem?_range (by omega)]
  have : (j * n + i) % n = i := by rw [Nat.mul_add_mod_self_right, Nat.mod_eq_of_lt hi]
  simp [this, getElem!_def, hl, hi]
 ·rename_i hi
  rw [List.getElem?_eq_none (by omega)]
theorem ownSlice_run {t : TypeId} {len : Nat} {parts : Array (Nat × Operand)} {p : PV} {σ' : Sig} (hI : Inv w0 L β σ N E a W) (h : ownSliceP P E σ t len parts = some (p, σ')) :
  ∃ γ u W', (Instr.buildSlice t len (parts.map fun q => (q.1, a.eval q.2))).run P W = .ok u W' /\ Inv w0 L γ σ' N E a W' /\ R γ L W' p u := by
 unfold ownSliceP at h
 split at h
 ·rename_i el hu
  split at h
  ·rename_i zs n hz hn
   split at h
   ·rename_i hcond
    obtain ⟨hzl, hn0, hlim⟩ := hcond
    cases hf : fillP (fun i => some (i * n, n)) ((List.replicate len (zs.map PV.v)).flatten) (parts.toList.map fun q => (q.1, evA E q.2)) with
    | none => rw [hf] at h; cases h
    | some ds =>
     rw [hf] at h
     cases h
     obtain ⟨z, hzr, hzc, hz1⟩ := zero_run hz W
     have hflat : Rs β L W ((List.replicate len (zs.map PV.v)).flatten) ((List.replicate len zs).flatten) := by
      have : (List.replicate len (zs.map PV.v)).flatten = ((List.replicate len zs).flatten).map PV.v := by
       rw [List.map_flatten, List.map_replicate]
      rw [this]; exact plain_Rs _
     obtain ⟨ws, hw, hw1, hw2⟩ := fill_run _ (parts.toList.map fun q => (q.1, a.eval q.2)) _ ds _ hf (by simp) (parts_get hI.ev parts.toList) (fun x hx => by
      simp only [List.mem_flatten, List.mem_replicate] at hx
      obtain ⟨l, ⟨_, rfl⟩, hx⟩ := hx
      exact hz1 x hx) hflat
     have hwl : ws.length = ds.length := hw2.length
     have hdl : ds.length = len * n := by rw [fillP_len _ _ _ hf]; simp [hzl]
     have hadd := hI.add (cs := [.rws n len (fun j => (ds.drop (j * n)).take n)]) (o := .cells ws.toArray el) fun mv =>
      .rws _ _ _ el ws (heap_alloc_new W _) hw1 (by rw [hwl, hdl]; exact Nat.le_refl _) fun j hj => ((mv _ _ hw2).drop (j * n)).take n
     have hparts : parts.map (fun q => (q.1, a.eval q.2)) = (parts.toList.map fun q => (q.1, a.eval q.2)).toArray := by apply Array.ext'; simp
     refine ⟨_, .slice (some ⟨W.heap.size, 0, none⟩) len len, _, ?_, hadd, ?_⟩
     ·rw [hparts]
      unfold Instr.buildSlice
      simp only [Sem.run_bind, underlying_run hu, Result.andThen_ok, sizeOf_run' hn]
      rw [if_neg (by omega)]
      by_cases h0 : len * n = 0
      ·have hl0 : len = 0 := by rcases Nat.mul_eq_zero.1 h0 with h | h <;> omega
       subst hl0
       rw [if_pos h0]
       have hw' : Instr.fill (fun i => some (i * n, n)) (Array.map (fun x => (#[] : Array Value)[x % (#[] : Array Value).size]!) (Array.range (0 * n))) (parts.toList.map fun q => (q.1, a.eval q.2)) = some ws.toArray := by rw [<- hw]; congr 1; rw [Nat.zero_mul]; apply Array.ext'; simp [Array.toList_range]
       simp only [Sem.run_bind, Sem.run_pure, Result.andThen_ok, hw']
       simp [newRow, newObj, Sem.run_bind, Sem.run, Sem.run_pure]
      ·rw [if_neg h0]
       simp only [Sem.run_bind, hzr, Result.andThen_ok, Sem.run_pure, hzc, flat_zero zs n hzl hn0 len, hw]
       simp [newRow, newObj, Sem.run_bind, Sem.run, Sem.run_pure]
     ·rw [R]
      refine .inl ⟨W.heap.size, len, by rw [<- hI.bx.1]; simp, rfl, Nat.le_refl _, by have := Nat.le_mul_of_pos_right len hn0; omega, ?_⟩
      simp only [World.shape?]
      rw [heap_alloc_new]
      simp [hwl, hdl]
   ·cases h
  ·cases h
 ·cases h
theorem opS1_run {o : Oper} {p : PV} {σ' : Sig} {pre : Option Prop} (hI : Inv w0 L β σ N E a W) (hd : fitsD N o.dst = true) (h : opS1 P E σ o.op = some (pre, p, σ')) (hp : Pre pre) (hst : o.dst = none \/ ∀ t x y, o.op ≠ .store t x y) (K : Act -> World -> Prop) (Q : Exit -> Act -> World -> Prop)
  (hK : ∀ γ u W', Inv w0 L γ σ' N (putE E o.dst p) (a.put o.dst u) W' -> K (a.put o.dst u) W') : Oper.wp P o a W K Q := by
 have elder : ∀ op, o.op = op -> ((opS0 P E σ op).map fun q => ((none : Option Prop), q.1, q.2)) = some (pre, p, σ') -> Oper.wp P o a W K Q := fun op e h => by
  cases hq : opS0 P E σ op with
  | none => rw [hq] at h; cases h
  | some q =>
   rw [hq] at h
   cases h
   exact opS0_run hI hd (by rw [e]; exact hq) hst K Q hK
 unfold opS1 at h
 split at h
 ·rename_i t x y e
  split at h
  ·rename_i i k j c hx
   unfold rowStP at h
   split at h
   ·rename_i k2 n el ds hσ hcs
    split at h
    ·rename_i hc
     obtain ⟨rfl, hsz, hck⟩ := hc
     simp only [Option.some.injEq, Prod.mk.injEq] at h
     obtain ⟨rfl, rfl, rfl⟩ := h
     simp only [Pre] at hp
     obtain ⟨vs, e1, v1, v2⟩ := cells_R hcs (evA_R hI.ev y)
     have hr := evA_R hI.ev x
     rw [hx, R] at hr
     obtain ⟨g, hg, ex⟩ := hr
     have hh := hI.bx.hold hσ hg
     obtain ⟨ty, us, hheap, u1, ul, uw⟩ := rws_out hh
     have hvl : vs.length = ds.length := v2.length
     have hle : j * k2 + k2 <= n * k2 := by rw [<- Nat.succ_mul]; exact Nat.mul_le_mul_right k2 hp
     obtain ⟨W', hrun', hs, ho, hn, o1, o2, o3⟩ := storeCells_run (P := P) (g := g) (off := j * k2 + c) vs 0 us W hheap (by omega) v1
     simp only [Nat.add_zero] at hn
     have hw := hI.write (W' := W') (cs := [.rws k2 n (setEl el j c ds)]) hσ rfl hg hs ho (by simp only [World.shape?, hn, hheap]; simp; omega) o1 o2 o3 (fun mv => .rws _ _ _ ty _ hn (fun z hz => by
       simp only [List.mem_append] at hz
       rcases hz with hz | hz | hz
       ·exact u1 z (List.mem_of_mem_take hz)
       ·exact v1 z hz
       ·exact u1 z (List.mem_of_mem_drop hz)) (by simp only [List.length_append, List.length_take, List.length_drop]; omega) fun x hxn => by
       by_cases ex : x = j
       ·subst ex
        rw [win_self (by omega) (by omega)]
        unfold setEl
        rw [if_pos rfl]
        refine mv _ _ (((uw x hxn).take c).append (v2.append ?_))
        rw [hvl]; exact (uw x hxn).drop _
       ·rw [win_other (by omega) (by omega) ex]
        unfold setEl
        rw [if_neg ex]
        exact mv _ _ (uw x hxn))
     have hrun : (execOp a.eval o).run P W = .ok .skip W' := by
      unfold execOp
      rw [e]
      simp only [Instr.storeAt, ex, Instr.sureAddr, storeVar, Sem.run_bind, Sem.run_pure, Result.andThen_ok, sizeOf_run' hsz, e1, List.size_toArray, hvl, ne_eq, not_true_eq_false, if_false, hrun']
     unfold Oper.wp
     rw [hrun]
     rcases hst with hst | hst
     ·have hk := hK β undef W'
      rw [hst] at hk
      show K (a.put o.dst undef) W'
      rw [hst]
      exact hk hw
     ·exact absurd e (hst t x y)
    ·cases h
   ·rename_i k2 n el jf cs ds hσ hcs
    split at h
    ·rename_i hc
     obtain ⟨rfl, hsz, hck⟩ := hc
     simp only [Option.some.injEq, Prod.mk.injEq] at h
     obtain ⟨rfl, rfl, rfl⟩ := h
     simp only [Pre] at hp
     obtain ⟨vs, e1, v1, v2⟩ := cells_R hcs (evA_R hI.ev y)
     have hr := evA_R hI.ev x
     rw [hx, R] at hr
     obtain ⟨g, hg, ex⟩ := hr
     have hh := hI.bx.hold hσ hg
     obtain ⟨ty, us, hheap, u1, ul, uw⟩ := rwf_out hh
     have hvl : vs.length = ds.length := v2.length
     have hle : j * k2 + k2 <= n * k2 := by rw [<- Nat.succ_mul]; exact Nat.mul_le_mul_right k2 hp.1
     obtain ⟨W', hrun', hs, ho, hn, o1, o2, o3⟩ := storeCells_run (P := P) (g := g) (off := j * k2 + c) vs 0 us W hheap (by omega) v1
     simp only [Nat.add_zero] at hn
     have hw := hI.write (W' := W') (cs := [.rwf k2 n el jf (cs.take c ++ (ds ++ cs.drop (c + ds.length)))]) hσ rfl hg hs ho (by simp only [World.shape?, hn, hheap]; simp; omega) o1 o2 o3 (fun mv => .rwf _ _ _ _ _ ty _ hn (fun z hz => by
       simp only [List.mem_append] at hz
       rcases hz with hz | hz | hz
       ·exact u1 z (List.mem_of_mem_take hz)
       ·exact v1 z hz
       ·exact u1 z (List.mem_of_mem_drop hz)) (by simp only [List.length_append, List.length_take, List.length_drop]; omega) fun x hxn => by
       by_cases ex : x = j
       ·subst ex
        rw [win_self (by omega) (by omega)]
        have hw := uw x hxn
        rw [if_pos hp.2] at hw ⊢
        refine mv _ _ ((hw.take c).append (v2.append ?_))
        rw [hvl]; exact hw.drop _
       ·rw [win_other (by omega) (by omega) ex]
        have hw := uw x hxn
        rw [if_neg (by rw [<- hp.2]; exact ex)] at hw ⊢
        exact mv _ _ hw)
     have hrun : (execOp a.eval o).run P W = .ok .skip W' := by
      unfold execOp
      rw [e]
      simp only [Instr.storeAt, ex, Instr.sureAddr, storeVar, Sem.run_bind, Sem.run_pure, Result.andThen_ok, sizeOf_run' hsz, e1, List.size_toArray, hvl, ne_eq, not_true_eq_false, if_false, hrun']
     unfold Oper.wp
     rw [hrun]
     rcases hst with hst | hst
     ·have hk := hK β undef W'
      rw [hst] at hk
      show K (a.put o.dst undef) W'
      rw [hst]
      exact hk hw
     ·exact absurd e (hst t x y)
    ·cases h
   ·cases h
  ·exact elder _ e h
 ·rename_i args argTypes e
  split at h
  ·rename_i s x t t' ha ht
   split at h
   ·rename_i htt
    subst htt
    have ea : args = #[s, x] := by apply Array.ext'; simpa using ha
    have et : argTypes = #[t, t] := by apply Array.ext'; simpa using ht
    subst ea et
    exact app_run hI hd e h hp K Q hK
   ·cases h
  ·cases h
 ·rename_i t l c e
  unfold makeP at h
  split at h
  ·rename_i ty k bytes zs kl lv kc cv hri hl hc
   simp only [Option.some.injEq, Prod.mk.injEq] at h
   obtain ⟨rfl, rfl, rfl⟩ := h
   simp only [Pre] at hp
   obtain ⟨h0, hlc, hby, h63⟩ := hp
   obtain ⟨hu, hk0, hzl, hz1, i, z, hi, hz, hsz, hbb, hzc⟩ := rowInfo_at hri
   subst hsz
   subst hbb
   have hr := run_make (P := P) W t ty i z hu hi hz kl kc lv cv h0 hlc hby h63
   have hadd := hI.add (cs := [.rws i.size lv.toNat (fun _ => zs.map PV.v)]) (o := .cells (madeCells z.cells (cv.toNat * i.size)) ty) fun mv => by
    have hm : madeCells z.cells (cv.toNat * i.size) = ((madeCells z.cells (cv.toNat * i.size)).toList).toArray := by simp
    refine .rws _ _ _ ty (madeCells z.cells (cv.toNat * i.size)).toList (by rw [<- hm]; exact heap_alloc_new W _) (make_one hzc hz1 (by omega)) (by
     rw [Array.length_toList, size_madeCells]; exact Nat.mul_le_mul_right _ (by omega)) fun j hj => ?_
    rw [make_win hzc hzl hk0 (by omega)]
    exact mv _ _ (plain_Rs zs)
   have hrun : (execOp a.eval o).run P W = .ok (.value (.slice (some ⟨W.heap.size, 0, none⟩) lv.toNat cv.toNat)) (W.alloc (.cells (madeCells z.cells (cv.toNat * i.size)) ty)) := by
    unfold execOp
    rw [e]
    simp only [intP_R hl (evA_R hI.ev l), intP_R hc (evA_R hI.ev c), Sem.run_bind, hr, Result.andThen_ok, Sem.run_pure]
   unfold Oper.wp
   rw [hrun]
   refine hK _ _ _ { hadd with ev := hadd.ev.put ?_ hd, nod := hadd.nod.put _ _ }
   rw [R]
   refine .inl ⟨W.heap.size, _, by rw [<- hI.bx.1]; simp, rfl, by omega, by omega, ?_⟩
   simp only [World.shape?]
   rw [heap_alloc_new]
   simp [size_madeCells]
  ·cases h
 ·rename_i t len parts e
  cases hb : opB P E (.buildSlice t len parts) with
  | some q =>
   rw [hb] at h
   cases h
   exact elder _ e (by simp only [opS0, hb]; rfl)
  | none =>
   rw [hb] at h
   cases hq : ownSliceP P E σ t len parts with
   | none => rw [hq] at h; cases h
   | some q =>
    obtain ⟨q1, q2⟩ := q
    rw [hq] at h
    cases h
    obtain ⟨γ, u, W', hr, hi, hv⟩ := ownSlice_run hI hq
    have hrun : (execOp a.eval o).run P W = .ok (.value u) W' := by
     unfold execOp
     rw [e]
     simp only [Sem.run_bind, hr, Result.andThen_ok, Sem.run_pure]
    unfold Oper.wp
    rw [hrun]
    exact hK _ _ _ { hi with ev := hi.ev.put hv hd, nod := hi.nod.put _ _ }
 ·exact elder _ rfl h
end
end Go.Proofs.YtplpnfjccemdnaaGreatDoor
