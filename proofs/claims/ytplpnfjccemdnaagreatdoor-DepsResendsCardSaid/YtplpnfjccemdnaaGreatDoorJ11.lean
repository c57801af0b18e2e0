import Derived.Test.YtplpnfjccemdnaaGreatDoorJ10
set_option linter.unusedVariables false
set_option linter.unusedSimpArgs false
/- The texts V21 V22 of the proof, laid one behind the other. -/
namespace Go.Proofs.YtplpnfjccemdnaaGreatDoor
open Go.RowKit
section
variable {P : Program} {fn : Func} {Q : Exit -> Act -> World -> Prop} {c : Cfg}
theorem Ok.loopW {ι : Type} (E : ι -> Env) (S : ι -> Sig) (m : ι -> Nat) (Iv : ι -> W0 -> List Nat -> Prop) {w0 : W0} {L : List Nat} (x0 : ι) (h0 : Iv x0 w0 L) {ps : List Prop} (h : viewOf P fn c = .loop ps) (hp : All ps)
  (hE : keepE ((E x0).map (·.1)) (stop P fn.ntmps c).2.E = E x0) (hS : (stop P fn.ntmps c).2.σ = S x0)
  (round : ∀ x w0 L, Iv x w0 L -> (∀ y w0' L', m y < m x -> Iv y w0' L' -> OkF P fn w0' L' Q ⟨E y, S y, (stop P fn.ntmps c).2.todo, none⟩) -> OkF P fn w0 L Q (roundC P fn c (E x) (S x))) : OkF P fn w0 L Q c := by
 obtain ⟨e1, hdr, body, k, ht⟩ := view_loop h
 refine Ok.back (T := .lp body :: k) ?_ e1 hp hE hS ht hdr
 have key : ∀ n x w0 L, Iv x w0 L -> m x = n -> OkF P fn w0 L Q ⟨E x, S x, .lp body :: k, none⟩ := by
  intro n
  induction n using Nat.strongRecOn with
  | _ n ih =>
   intro x w0 L hi hx β a W hI
   have hr := round x w0 L hi (fun y w0' L' hy hi' => by rw [ht]; exact ih (m y) (hx ▸ hy) y w0' L' hi' rfl)
   unfold roundC at hr
   rw [ht] at hr
   refine LW.unroll (wpIn_mono (hr β a W hI) fun e a w h => wpK_lp h)
 exact key _ x0 w0 L h0 rfl
theorem M.loopW {ι : Type} (E : ι -> Env) (S : ι -> Sig) (m : ι -> Nat) (Iv : ι -> W0 -> List Nat -> Prop) {w0 : W0} {L : List Nat} (x0 : ι) (h0 : Iv x0 w0 L) (ps : List Prop) (h : viewOf P fn c = .loop ps) (hp : All ps)
  (hE : keepE ((E x0).map (·.1)) (stop P fn.ntmps c).2.E = E x0) (hS : (stop P fn.ntmps c).2.σ = S x0)
  (round : ∀ x w0 L, Iv x w0 L -> (∀ y w0' L', m y < m x -> Iv y w0' L' -> M P fn w0' L' Q ⟨E y, S y, (stop P fn.ntmps c).2.todo, none⟩) -> M P fn w0 L Q (roundC P fn c (E x) (S x))) : M P fn w0 L Q c :=
 ⟨Ok.loopW E S m Iv x0 h0 h hp hE hS fun x w0 L hi ih => (round x w0 L hi fun y w0' L' hy hi' => ⟨ih y w0' L' hy hi'⟩).out⟩
end
section
variable {w0 : W0} {W : World} {L : List Nat} {β : List (Option Nat)} {σ : Sig} {N : Nat} {E : Env} {a : Act}
theorem Inv.reb (h : Inv w0 L β σ N E a W) {D : Nat} (hD : D ∈ L) (o : Obj) {s : Nat} (hs : s <= β.length) (ro : Option Nat) {gh : List (PV × Value)} (hg : ∀ q ∈ gh, refOk s q.1 = true /\ R β L W q.1 q.2) (hgl : ∀ q ∈ ghosts, q ∈ gh) :
  Inv ⟨W.putObj D o, β, s, L, a.defers, ro, gh, false⟩ L β σ N E a (W.putObj D o) := by
 have hsz : (W.putObj D o).heap.size = W.heap.size := World.putObj_size
 have ho : ∀ k, k ≠ D -> (W.putObj D o).heap[k]? = W.heap[k]? := fun k hk => World.putObj_heap_other hk
 have hle : W.heap.size <= (W.putObj D o).heap.size := by omega
 have hk : ∀ k, ¬ Fb β L k -> k < W.heap.size -> (W.putObj D o).heap[k]? = W.heap[k]? := fun k hk _ => ho k (fun e => hk (.inr (by rw [e]; exact hD)))
 have hne : ∀ g, some g ∈ β -> g ≠ D := fun g hg e => (h.old D hD).2 (by rw [<- e]; exact hg)
 have hβ : ∀ (i : Nat) (x : Option Nat), β[i]? = some x -> β[i]? = some x /\ ∀ g, x = some g -> (W.putObj D o).shape? g = W.shape? g := fun i x hx => ⟨hx, fun g e => shape_eq (ho g (hne g (by rw [<- e]; exact List.mem_of_getElem? hx)))⟩
 refine ⟨Near.refl _ _ _ _ _ _ _ _, fun g hg => .inl hg, fun g hg => by rw [hsz]; exact h.old g hg, ⟨fun _ h => h, fun g hg => .inl hg⟩, ⟨rfl, hs⟩,
  ⟨h.bx.1, h.bx.2.1, fun g hg => by rw [hsz]; exact h.bx.2.2.1 g hg, fun i cs hi => ?_⟩, h.ev.move hle hk hβ (fun _ h => .inl h), Nod.nil rfl, fun q hq => ⟨(hg q hq).1, R.move hle _ _ _ _ _ _ hk hβ (fun _ h => .inl h) (hg q hq).2⟩, fun g hg => .inl hg, hgl⟩
 obtain ⟨x, hg, hh⟩ := h.bx.2.2.2 i cs hi
 exact ⟨x, hg, hh.move hle (fun g e => ho g (hne g (by rw [<- e]; exact List.mem_of_getElem? hg))) hk hβ (fun _ h => .inl h)⟩
theorem Inv.more (h : Inv w0 L β σ N E a W) {W' : World} (hb : Below W.heap.size W W') {Ln : List Nat} (hn : ∀ g ∈ Ln, W.heap.size <= g /\ g < W'.heap.size) {a' : Act} (ht : a'.tmps = a.tmps) (hnod : Nod w0 (Ln ++ L) a' W') : Inv w0 (Ln ++ L) β σ N E a' W' := by
 have hs := hb.size
 have hk : ∀ k, ¬ Fb β L k -> k < W.heap.size -> W'.heap[k]? = W.heap[k]? := fun k _ hk => hb.block k hk
 have hlt : ∀ i g : Nat, β[i]? = some (some g) -> g < W.heap.size := fun i g hg => h.bx.2.2.1 g (List.mem_of_getElem? hg)
 have hβ : ∀ (i : Nat) (x : Option Nat), β[i]? = some x -> β[i]? = some x /\ ∀ g, x = some g -> W'.shape? g = W.shape? g := fun i x hx => ⟨hx, fun g e => shape_eq (hb.block g (hlt i g (by rw [hx, e])))⟩
 have hF : ∀ g, Fb β (Ln ++ L) g -> Fb β L g \/ W.heap.size <= g := fun g hg => by
  rcases hg with hg | hg
  ·exact .inl (.inl hg)
  ·rcases List.mem_append.1 hg with hg | hg
   ·exact .inr (hn g hg).1
   ·exact .inl (.inr hg)
 refine ⟨h.bel.below hb, h.new, fun g hg => ?_, ⟨fun g hg => List.mem_append_right _ (h.inc.1 g hg), fun g hg => (h.inc.2 g hg).imp id (List.mem_append_right _)⟩, h.pre, ⟨h.bx.1, h.bx.2.1, fun g hg => Nat.lt_of_lt_of_le (h.bx.2.2.1 g hg) hs, fun i cs hi => ?_⟩, ?_, hnod, fun q hq => ⟨(h.gho q hq).1, R.move hs _ _ _ _ _ _ hk hβ hF (h.gho q hq).2⟩, fun g hg => ?_, h.glo⟩
 ·rcases List.mem_append.1 hg with hg | hg
  ·exact ⟨(hn g hg).2, fun hc => by have := h.bx.2.2.1 g hc; have := (hn g hg).1; omega⟩
  ·exact ⟨Nat.lt_of_lt_of_le (h.old g hg).1 hs, (h.old g hg).2⟩
 ·obtain ⟨x, hg, hh⟩ := h.bx.2.2.2 i cs hi
  exact ⟨x, hg, hh.move hs (fun g e => hb.block g (hlt i g (by rw [hg, e]))) hk hβ hF⟩
 ·exact ⟨by rw [ht]; exact h.ev.1, fun t => by rw [ht]; exact R.move hs _ _ _ _ _ _ hk hβ hF (h.ev.2 t)⟩
 ·rcases List.mem_append.1 hg with hg | hg
  ·exact .inr (.inr (Nat.le_trans h.bel.size (hn g hg).1))
  ·exact h.lim g hg
def putPs : List Tmp -> List PV -> Env -> Env
 | t :: ts, p :: ps, E => putPs ts ps ((t, p) :: E)
 | _, _, E => E
theorem Ev.puts : ∀ (ts : List Tmp) (ps : List PV) (us : List Value) (E : Env) (tm : Array Value), ts.all (fun t => decide (t < N)) = true -> Rs β L W ps us -> Ev β L W N E ⟨tm, []⟩ ->
  Ev β L W N (putPs ts ps E) ⟨(ts.zip us).foldl (fun tm q => tm.setIfInBounds q.1 q.2) tm, []⟩
 | [], ps, us, E, tm, _, _, h => by cases ps <;> exact h
 | t :: ts, [], us, E, tm, _, hr, h => by rw [Rs] at hr; subst hr; exact h
 | t :: ts, p :: ps, us, E, tm, ht, hr, h => by
  obtain ⟨u, us', rfl, h1, h2⟩ := hr.uncons
  simp only [List.all_cons, Bool.and_eq_true] at ht
  exact Ev.puts ts ps us' _ _ ht.2 h2 (h.put (d := some t) h1 (by simpa [fitsD] using ht.1))
def asgC (P : Program) (fn : Func) (E : Env) (prm : Array Tmp) (xs : List PV) (σ : Sig) (asg : Code) : List Prop × Cfg := stop P fn.ntmps ⟨putPs prm.toList xs E, σ, [.code asg], none⟩
def Qr {ι ζ : Type} (N : Nat) (S : ι -> Sig) (next : ι -> Prop) (T : ζ -> Sig) (jump : ζ -> Code) (w0 : W0) : Exit -> Act -> World -> Prop
 | .normal, a, W => ∃ y β L, next y /\ Inv w0 L β (S y) N [] a W
 | .ret, a, W => ∃ z β L, jump z = .ret /\ Inv w0 L β (T z) N [] a W
 | .exit id, a, W => ∃ z β L, jump z = .exit id /\ Inv w0 L β (T z) N [] a W
 | _, _, _ => False
theorem Inv.bare (h : Inv w0 L β σ N E a W) : Inv w0 L β σ N [] a W := { h with ev := ⟨h.ev.1, fun t => by rw [lk, R]; trivial⟩ }
structure ChgB (B : List Nat) (W : World) (B' : List Nat) (W' : World) : Prop where
 size : W.heap.size <= W'.heap.size
 same : ∀ k, k < W.heap.size -> k ∉ B -> W'.heap[k]? = W.heap[k]?
 new : ∀ g ∈ B', g ∈ B \/ W.heap.size <= g
 lt : ∀ g ∈ B', g < W'.heap.size
theorem Inv.reL (h : Inv w0 L β σ N E a W) {L' : List Nat} (hl : ∀ g, g ∈ L' ↔ g ∈ L) : Inv w0 L' β σ N E a W := by
 have hF : ∀ g, Fb β L' g -> Fb β L g \/ W.heap.size <= g := fun g hg => .inl (hg.imp id (hl g).1)
 have hβ : ∀ (i : Nat) (x : Option Nat), β[i]? = some x -> β[i]? = some x /\ ∀ g, x = some g -> W.shape? g = W.shape? g := fun i x hx => ⟨hx, fun _ _ => rfl⟩
 refine ⟨h.bel, h.new, fun g hg => h.old g ((hl g).1 hg), ⟨fun g hg => (hl g).2 (h.inc.1 g hg), fun g hg => (h.inc.2 g hg).imp id (hl g).2⟩, h.pre, ⟨h.bx.1, h.bx.2.1, h.bx.2.2.1, fun i cs hi => ?_⟩, ⟨h.ev.1, fun t => R.move (Nat.le_refl _) _ _ _ _ _ _ (fun _ _ _ => rfl) hβ hF (h.ev.2 t)⟩, h.nod.keep (fun g hg => (hl g).2 hg) (fun _ _ => rfl), fun q hq => ⟨(h.gho q hq).1, R.move (Nat.le_refl _) _ _ _ _ _ _ (fun _ _ _ => rfl) hβ hF (h.gho q hq).2⟩, fun g hg => h.lim g ((hl g).1 hg), h.glo⟩
 obtain ⟨x, hg, hh⟩ := h.bx.2.2.2 i cs hi
 exact ⟨x, hg, hh.move (Nat.le_refl _) (fun _ _ => rfl) (fun _ _ _ => rfl) hβ hF⟩
theorem Inv.istep' {Z Z' L0 : List Nat} {W' : World} (h : Inv w0 (Z ++ L0) β σ N E a W) (hs : IStep Z W Z' W') (h0 : ∀ g ∈ Z', w0.w.heap.size <= g) (hz : ∀ g ∈ Z, w0.w.heap.size <= g) (hinc : (∀ g ∈ w0.lock, g ∈ L0) /\ ∀ g, some g ∈ w0.own -> Fb β L0 g) (hnod : Nod w0 (Z' ++ L0) a W') : Inv w0 (Z' ++ L0) β σ N E a W' := by
 have hk : ∀ k, ¬ Fb β (Z ++ L0) k -> k < W.heap.size -> W'.heap[k]? = W.heap[k]? := fun k hk hkl => hs.same k hkl fun hc => hk (.inr (List.mem_append_left _ hc))
 have hlt : ∀ i g : Nat, β[i]? = some (some g) -> g < W.heap.size := fun i g hg => h.bx.2.2.1 g (List.mem_of_getElem? hg)
 have hsame : ∀ g, some g ∈ β -> W'.heap[g]? = W.heap[g]? := fun g hg => hs.same g (h.bx.2.2.1 g hg) fun hc => (h.old g (List.mem_append_left _ hc)).2 hg
 have hβ : ∀ (i : Nat) (x : Option Nat), β[i]? = some x -> β[i]? = some x /\ ∀ g, x = some g -> W'.shape? g = W.shape? g := fun i x hx => ⟨hx, fun g e => shape_eq (hsame g (by rw [<- e]; exact List.mem_of_getElem? hx))⟩
 have hF : ∀ g, Fb β (Z' ++ L0) g -> Fb β (Z ++ L0) g \/ W.heap.size <= g := fun g hg => by
  rcases hg with hg | hg
  ·exact .inl (.inl hg)
  ·rcases List.mem_append.1 hg with hg | hg
   ·exact (hs.own g hg).1.imp (fun h => .inr (List.mem_append_left _ h)) id
   ·exact .inl (.inr (List.mem_append_right _ hg))
 refine ⟨⟨hs.os.trans h.bel.os, hs.tape.trans h.bel.tape, hs.output.trans h.bel.output, Nat.le_trans h.bel.size hs.size, fun k hk hko => ?_, fun k hk => (hs.shape k (Nat.lt_of_lt_of_le hk h.bel.size)).trans (h.bel.shape k hk)⟩, h.new, fun g hg => ?_, ⟨fun g hg => List.mem_append_right _ (hinc.1 g hg), fun g hg => (hinc.2 g hg).imp id (List.mem_append_right _)⟩, h.pre,
  ⟨h.bx.1, h.bx.2.1, fun g hg => Nat.lt_of_lt_of_le (h.bx.2.2.1 g hg) hs.size, fun i cs hi => ?_⟩, ⟨h.ev.1, fun t => R.move hs.size _ _ _ _ _ _ hk hβ hF (h.ev.2 t)⟩, hnod, fun q hq => ⟨(h.gho q hq).1, R.move hs.size _ _ _ _ _ _ hk hβ hF (h.gho q hq).2⟩, fun g hg => ?_, h.glo⟩
 ·exact (hs.same k (Nat.lt_of_lt_of_le hk h.bel.size) fun hc => by have := hz k hc; omega).trans (h.bel.block k hk hko)
 ·rcases List.mem_append.1 hg with hg | hg
  ·refine ⟨(hs.own g hg).2, fun hc => ?_⟩
   rcases (hs.own g hg).1 with h' | h'
   ·exact (h.old g (List.mem_append_left _ h')).2 hc
   ·have := h.bx.2.2.1 g hc; omega
  ·have := h.old g (List.mem_append_right _ hg)
   exact ⟨Nat.lt_of_lt_of_le this.1 hs.size, this.2⟩
 ·obtain ⟨x, hg, hh⟩ := h.bx.2.2.2 i cs hi
  exact ⟨x, hg, hh.move hs.size (fun g e => hsame g (by rw [<- e]; exact List.mem_of_getElem? hg)) hk hβ hF⟩
 ·rcases List.mem_append.1 hg with hg | hg
  ·exact .inr (.inr (h0 g hg))
  ·exact h.lim g (List.mem_append_right _ hg)
theorem Inv.round {w1 w2 : W0} {β' β1 β3 : List (Option Nat)} {L' L3 : List Nat} {σ' σ1 σ3 : Sig} {E1 : Env} {a' a1 a3 : Act} {W2 Wa W3 : World} {l s : Nat} {o1 o2 : Obj}
  (hI2 : Inv w0 L' β' σ' N E a' W2) (h1 : Inv w1 L' β1 σ1 N E1 a1 Wa) (e1 : w1.w = W2 /\ w1.own = β' /\ w1.stay = s /\ w1.lock = L')
  (h3 : Inv w2 L3 β3 σ3 N [] a3 W3) (e2 : w2.w = Wa.putObj l o1 /\ w2.own = β1 /\ w2.stay = s /\ w2.lock = L')
  (hgh : ∀ t, lk E t = .any \/ (lk E t, a'.tmps.getD t undef) ∈ w2.gh) (hgw : ∀ q ∈ w0.gh, q ∈ w2.gh)
  (hl : l ∈ L') (hls : w0.w.heap.size <= l) (hst : w0.stay <= s) (hnl : W2.heap[l]? ≠ some (.deferred (some []))) :
  Inv w0 L3 β3 σ3 N E a' (W3.putObj l o2) /\ ChgB (bs β' ++ L') W2 (bs β3 ++ L3) (W3.putObj l o2) /\ β3.take s = β'.take s /\ (∀ k, k < W2.heap.size -> some k ∉ β' -> k ≠ l -> (W3.putObj l o2).heap[k]? = W2.heap[k]?) := by
 obtain ⟨e1w, e1o, e1s, e1l⟩ := e1
 obtain ⟨e2w, e2o, e2s, e2l⟩ := e2
 have hl3 : l ∈ L3 := h3.inc.1 l (by rw [e2l]; exact hl)
 have ho : ∀ k, k ≠ l -> (W3.putObj l o2).heap[k]? = W3.heap[k]? := fun k hk => World.putObj_heap_other hk
 have ho1 : ∀ k, k ≠ l -> (Wa.putObj l o1).heap[k]? = Wa.heap[k]? := fun k hk => World.putObj_heap_other hk
 have hsz3 : (W3.putObj l o2).heap.size = W3.heap.size := World.putObj_size
 have hsa : (Wa.putObj l o1).heap.size = Wa.heap.size := World.putObj_size
 have s1 : W2.heap.size <= Wa.heap.size := by have := h1.bel.size; rw [e1w] at this; exact this
 have s3 : Wa.heap.size <= W3.heap.size := by have := h3.bel.size; rw [e2w, hsa] at this; exact this
 have n1 : ∀ g, some g ∈ β1 -> some g ∈ β' \/ W2.heap.size <= g := fun g hg => by have := h1.new g hg; rw [e1o, e1w] at this; exact this
 have n3 : ∀ g, some g ∈ β3 -> some g ∈ β1 \/ Wa.heap.size <= g := fun g hg => by have := h3.new g hg; rw [e2o, e2w, hsa] at this; exact this
 have n13 : ∀ g, some g ∈ β3 -> some g ∈ β' \/ W2.heap.size <= g := fun g hg => by
  rcases n3 g hg with h | h
  ·exact n1 g h
  ·exact .inr (Nat.le_trans s1 h)
 have l3 : ∀ g ∈ L3, g ∈ L' \/ some g ∈ β' \/ W2.heap.size <= g := fun g hg => by
  have := h3.lim g hg
  rw [e2l, e2o, e2w, hsa] at this
  rcases this with h | h | h
  ·exact .inl h
  ·exact .inr (n1 g h)
  ·exact .inr (.inr (Nat.le_trans s1 h))
 -- what lies elsewhere lies as it lay
 have same : ∀ k, k < W2.heap.size -> some k ∉ β' -> k ≠ l -> (W3.putObj l o2).heap[k]? = W2.heap[k]? := fun k hk hb hkl => by
  have a3 : W3.heap[k]? = (Wa.putObj l o1).heap[k]? := by
   have := h3.bel.block k (by rw [e2w, hsa]; omega) (by
    rw [e2o]; intro hc
    rcases n1 k hc with h | h
    ·exact hb h
    ·omega)
   rw [e2w] at this; exact this
  have a1' : Wa.heap[k]? = W2.heap[k]? := by
   have := h1.bel.block k (by rw [e1w]; exact hk) (by rw [e1o]; exact hb)
   rw [e1w] at this; exact this
  exact (ho k hkl).trans (a3.trans ((ho1 k hkl).trans a1'))
 have shp : ∀ k, k < W2.heap.size -> k ≠ l -> (W3.putObj l o2).shape? k = W2.shape? k := fun k hk hkl => by
  have a3 : W3.shape? k = (Wa.putObj l o1).shape? k := by have := h3.bel.shape k (by rw [e2w, hsa]; omega); rw [e2w] at this; exact this
  have a1' : Wa.shape? k = W2.shape? k := by have := h1.bel.shape k (by rw [e1w]; exact hk); rw [e1w] at this; exact this
  exact (shape_eq (ho k hkl)).trans (a3.trans ((shape_eq (ho1 k hkl)).trans a1'))
 have hle : W3.heap.size <= (W3.putObj l o2).heap.size := by omega
 have hk : ∀ k, ¬ Fb β3 L3 k -> k < W3.heap.size -> (W3.putObj l o2).heap[k]? = W3.heap[k]? := fun k hk _ => ho k (fun e => hk (.inr (by rw [e]; exact hl3)))
 have hne : ∀ g, some g ∈ β3 -> g ≠ l := fun g hg e => (h3.old l hl3).2 (by rw [<- e]; exact hg)
 have hβ : ∀ (i : Nat) (x : Option Nat), β3[i]? = some x -> β3[i]? = some x /\ ∀ g, x = some g -> (W3.putObj l o2).shape? g = W3.shape? g := fun i x hx => ⟨hx, fun g e => shape_eq (ho g (hne g (by rw [<- e]; exact List.mem_of_getElem? hx)))⟩
 have mv : ∀ (p : PV) (u : Value), R β3 L3 W3 p u -> R β3 L3 (W3.putObj l o2) p u := fun p u h => R.move hle _ _ _ _ _ _ hk hβ (fun _ h => .inl h) h
 have pre : β3.take s = β'.take s := by
  have p1 := h1.pre.1; have p3 := h3.pre.1
  rw [e1s, e1o] at p1; rw [e2s, e2o] at p3
  exact p3.trans p1
 have hs3 : s <= β3.length := by have := h3.pre.2; rw [e2s] at this; exact this
 refine ⟨⟨⟨?_, ?_, ?_, ?_, fun k hk hko => ?_, fun k hk => ?_⟩, fun g hg => ?_, fun g hg => by rw [hsz3]; exact h3.old g hg, ⟨fun g hg => h3.inc.1 g (by rw [e2l]; exact hI2.inc.1 g hg), fun g hg => ?_⟩, ?_,
  ⟨h3.bx.1, h3.bx.2.1, fun g hg => by rw [hsz3]; exact h3.bx.2.2.1 g hg, fun i cs hi => ?_⟩, ⟨hI2.ev.1, fun t => ?_⟩, ?_, fun q hq => ⟨(hI2.gho q hq).1, mv _ _ (h3.gho q (hgw q hq)).2⟩, fun g hg => ?_, hI2.glo⟩, ⟨by omega, fun k hk hkn => ?_, fun g hg => ?_, fun g hg => ?_⟩, pre, same⟩
 ·have a := h3.bel.os; have b := h1.bel.os; have c := hI2.bel.os
  rw [e2w] at a; rw [e1w] at b; exact a.trans (b.trans c)
 ·have a := h3.bel.tape; have b := h1.bel.tape; have c := hI2.bel.tape
  rw [e2w] at a; rw [e1w] at b; exact a.trans (b.trans c)
 ·have a := h3.bel.output; have b := h1.bel.output; have c := hI2.bel.output
  rw [e2w] at a; rw [e1w] at b; exact a.trans (b.trans c)
 ·have := hI2.bel.size; omega
 ·refine (same k (Nat.lt_of_lt_of_le hk hI2.bel.size) (fun hc => ?_) (by omega)).trans (hI2.bel.block k hk hko)
  rcases hI2.new k hc with h | h
  ·exact hko h
  ·omega
 ·exact (shp k (Nat.lt_of_lt_of_le hk hI2.bel.size) (by omega)).trans (hI2.bel.shape k hk)
 ·rcases n13 g hg with h | h
  ·exact hI2.new g h
  ·exact .inr (Nat.le_trans hI2.bel.size h)
 ·rcases hI2.inc.2 g hg with h | h
  ·rcases h1.inc.2 g (by rw [e1o]; exact h) with h | h
   ·exact h3.inc.2 g (by rw [e2o]; exact h)
   ·exact .inr (h3.inc.1 g (by rw [e2l]; exact h))
  ·exact .inr (h3.inc.1 g (by rw [e2l]; exact h))
 ·refine ⟨?_, by omega⟩
  have := congrArg (List.take w0.stay) pre
  rw [List.take_take, List.take_take, Nat.min_eq_left hst] at this
  rw [this]; exact hI2.pre.1
 ·obtain ⟨x, hg, hh⟩ := h3.bx.2.2.2 i cs hi
  exact ⟨x, hg, hh.move hle (fun g e => ho g (hne g (by rw [<- e]; exact List.mem_of_getElem? hg))) hk hβ (fun _ h => .inl h)⟩
 ·rcases hgh t with h | h
  ·rw [h, R]; trivial
  ·exact mv _ _ (h3.gho _ h).2
 ·obtain ⟨Ds, d1, d0, d2, d3⟩ := hI2.nod
  refine ⟨Ds, d1, d0, d2, fun D hD => ?_⟩
  obtain ⟨q1, q2, q3⟩ := d3 D hD
  refine ⟨h3.inc.1 D (by rw [e2l]; exact q1), q2, (same D (hI2.oldW D q1) (hI2.old D q1).2 (fun e => ?_)).trans q3⟩
  rw [e] at q3; exact hnl q3
 ·rcases l3 g hg with h | h | h
  ·exact hI2.lim g h
  ·exact .inr (hI2.new g h)
  ·exact .inr (.inr (Nat.le_trans hI2.bel.size h))
 ·refine same k hk (fun hc => hkn (List.mem_append_left _ (mem_bs.2 hc))) (fun e => hkn (List.mem_append_right _ (by rw [e]; exact hl)))
 ·rcases List.mem_append.1 hg with hg | hg
  ·rcases n13 g (mem_bs.1 hg) with h | h
   ·exact .inl (List.mem_append_left _ (mem_bs.2 h))
   ·exact .inr h
  ·rcases l3 g hg with h | h | h
   ·exact .inl (List.mem_append_right _ h)
   ·exact .inl (List.mem_append_left _ (mem_bs.2 h))
   ·exact .inr h
 ·rcases List.mem_append.1 hg with hg | hg
  ·rw [hsz3]; exact h3.bx.2.2.1 g (mem_bs.1 hg)
  ·rw [hsz3]; exact h3.oldW g hg
theorem refOk_mono {s s' : Nat} (h : s <= s') {p : PV} (hp : refOk s p = true) : refOk s' p = true := by
 have both : (∀ p : PV, refOk s p = true -> refOk s' p = true) := by
  intro p
  induction p using PV.rec (motive_2 := fun ps => refOk.refOks s ps = true -> refOk.refOks s' ps = true) <;> intros <;> simp_all [refOk, refOk.refOks] <;> omega
 exact both p hp
theorem lk_all {s : Nat} : ∀ {E : Env}, E.all (fun q => refOk s q.2) = true -> ∀ t, refOk s (lk E t) = true
 | [], _, t => rfl
 | q :: E, h, t => by
  simp only [List.all_cons, Bool.and_eq_true] at h
  simp only [lk]
  split
  ·exact h.1
  ·exact lk_all h.2 t
theorem lk_keys (t : Nat) : ∀ (E : Env), lk E t = .any \/ t ∈ E.map (·.1)
 | [] => .inl rfl
 | q :: E => by
  simp only [lk]
  split
  ·rename_i e; exact .inr (by simp [e])
  ·rcases lk_keys t E with h | h
   ·exact .inl h
   ·exact .inr (by simp only [List.map_cons]; exact List.mem_cons_of_mem _ h)
end
def JW (w0 : W0) (N : Nat) (E' : Env) (a' : Act) (l base : Nat) (fst : List (Option Nat)) (s : Nat) (σ : Sig) (o : Obj) (Z B : List Nat) (W : World) : Prop :=
 ∃ (β' : List (Option Nat)) (L0 : List Nat), B = bs β' ++ L0 /\ Inv w0 (Z ++ L0) β' σ N E' a' W /\ (∀ z ∈ Z, base <= z /\ z ∉ L0) /\ l ∈ L0 /\ (∀ g ∈ w0.lock, g ∈ L0) /\ (∀ g, some g ∈ w0.own -> Fb β' L0 g) /\ Nod w0 L0 a' W /\ β'.take s = fst /\ W.heap[l]? = some o /\ base <= W.heap.size
theorem JW.step {w0 : W0} {N : Nat} {E' : Env} {a' : Act} {l base : Nat} {fst : List (Option Nat)} {s : Nat} {σ : Sig} {o : Obj} {Z B Z' : List Nat} {W W' : World} (hb : w0.w.heap.size <= base) (h : JW w0 N E' a' l base fst s σ o Z B W) (hs : IStep Z W Z' W') : JW w0 N E' a' l base fst s σ o Z' B W' := by
 obtain ⟨β', L0, q1, q2, q3, q4, q5, q6, q7, q8, q9, q10⟩ := h
 have hold : ∀ g ∈ L0, g < W.heap.size := fun g hg => (q2.old g (List.mem_append_right _ hg)).1
 have hz' : ∀ z ∈ Z', base <= z /\ z ∉ L0 := fun z hz => by
  rcases (hs.own z hz).1 with h | h
  ·exact q3 z h
  ·exact ⟨Nat.le_trans q10 h, fun hc => by have := hold z hc; omega⟩
 have hsame : ∀ g ∈ L0, W'.heap[g]? = W.heap[g]? := fun g hg => hs.same g (hold g hg) fun hc => (q3 g hc).2 hg
 have q7' : Nod w0 L0 a' W' := q7.keep (fun _ h => h) hsame
 exact ⟨β', L0, q1, q2.istep' hs (fun g hg => Nat.le_trans hb (hz' g hg).1) (fun g hg => Nat.le_trans hb (q3 g hg).1) ⟨q5, q6⟩ (q7'.keep (fun g hg => List.mem_append_right _ hg) fun _ _ => rfl), hz', q4, q5, q6, q7', q8, (hsame l q4).trans q9, Nat.le_trans q10 hs.size⟩
section
variable {w0 : W0} {L : List Nat} {P : Program} {fn : Func} {Q : Exit -> Act -> World -> Prop} {c : Cfg}
theorem wpK_panic {ro : Option Nat} {ch : List PanicEntry} {a : Act} {w : World} : ∀ {k : List It}, Q (.panic ch) a w -> wpK P ro Q k (.panic ch) a w
 | [], h => by unfold wpK; exact h
 | .code _ :: k, h => by unfold wpK; exact wpK_panic h
 | .ops _ _ :: k, h => by unfold wpK; exact wpK_panic h
 | .blk _ :: k, h => by unfold wpK; exact wpK_panic h
 | .lp _ :: k, h => by unfold wpK; exact wpK_panic h
 | .sco :: k, h => by unfold wpK; exact wpK_panic h
def OkP (fn : Func) (w0 : W0) (Q : Exit -> Act -> World -> Prop) (σ : Sig) (E : Env) (x : PV) : Prop :=
 ∀ L β a W u, Inv w0 L β σ fn.ntmps E a W -> R β L W x u -> Q (.panic [{ v := u, recovered := false }]) a W
theorem Ok.range {ι ζ : Type} (S : ι -> Sig) (pos : ι -> Nat) (x0 : ι) (T : ζ -> Sig) (jump : ζ -> Code) (E' : Env) (s : Nat) {gf : FuncId} {caps : List PV} {n : Nat} {xs : Nat -> List PV} {fin : Option PV} (hI : Iter P gf caps n xs fin)
  {ps : List Prop} {g : Operand} {prm : Array Tmp} {asg body : Code} {k : List It} (E1 : ι -> Env) (S1 : ι -> Sig)
  (h : (stop P fn.ntmps c).1 = ps) (hp : All ps) (hdr : (stop P fn.ntmps c).2.dr = none) (ht : (stop P fn.ntmps c).2.todo = .code (.rangeFunc g prm asg body) :: k)
  (hg : evA (stop P fn.ntmps c).2.E g = .fn gf caps) (hgc : noRef.noRefs caps = true)
  (hE : keepE (E'.map (·.1)) (stop P fn.ntmps c).2.E = E') (hS : (stop P fn.ntmps c).2.σ = S x0) (h0 : pos x0 = 0)
  (hs : E'.all (fun q => refOk s q.2) = true) (hst : w0.stay <= s) (hro : w0.ro = none) (hmk : w0.mrk = true) (hlS : s <= (S x0).length)
  (hfl : ∀ x, fin = some x -> flatP x = true) (hxs : ∀ i, (xs i).length = prm.size) (hpt : prm.toList.all (fun t => decide (t < fn.ntmps)) = true)
  (hasg : ∀ x, pos x < n -> asgC P fn E' prm (xs (pos x)) (S x) asg = ([], ⟨E1 x, S1 x, [], none⟩))
  (round : ∀ x w1 L1, pos x < n -> w1.stay = s -> OkF P fn w1 L1 (Qr fn.ntmps S (fun y => pos y = pos x + 1) T jump w1) ⟨E1 x, S1 x, [.code body], none⟩)
  (done : ∀ x L', fin = none -> pos x = n -> OkF P fn w0 L' Q ⟨E', S x, k, none⟩) (pan : ∀ x v, fin = some v -> pos x = n -> OkP fn w0 Q (S x) E' v) (out : ∀ z L', OkF P fn w0 L' Q ⟨E', T z, .code (jump z) :: k, none⟩) : OkF P fn w0 L Q c := by
 refine run_ok 3000 c (by rw [show (runC P fn.ntmps 3000 c).1 = ps from h]; exact hp) ?_
 show OkF P fn w0 L Q (stop P fn.ntmps c).2
 clear h
 generalize (stop P fn.ntmps c).2 = d at hdr ht hg hE hS
 obtain ⟨E, σ, todo, dr⟩ := d
 simp only at hdr ht hg hE hS
 subst hdr; subst ht; subst hS
 intro β a W hI0
 show (Code.rangeFunc g prm asg body).wpIn (Fr w0.ro) 0 P (wpK P w0.ro Q k) a W
 have hI1 : Inv w0 L β (S x0) fn.ntmps E' a W := by have := hI0.keep (E'.map (·.1)); rw [hE] at this; exact this
 have hgv := evA_R hI0.ev g
 rw [hg, R] at hgv
 obtain ⟨us, hga, hus⟩ := hgv
 have hus := Rs.bare caps us hgc hus
 have hrof : (Fr w0.ro).round = none := hro
 refine wpIn_rangeFunc ?_
 intro fnid _
 rw [hrof]
 obtain ⟨rec, hrec⟩ : ∃ rec : LoopState -> Option Code -> Loop, rec = fun st pe => { state := st, pending := pe, fn := fnid, tmps := a.tmps, params := prm, assign := asg, body, defers := W.heap.size } := ⟨_, rfl⟩
 obtain ⟨W1, hW1⟩ : ∃ W1, (W.alloc (.deferred (some []))).alloc (.loop (rec .ready none)) = W1 := ⟨_, rfl⟩
 obtain ⟨l, hl⟩ : ∃ l, W.heap.size + 1 = l := ⟨_, rfl⟩
 have hsz1 : W1.heap.size = W.heap.size + 2 := by rw [<- hW1]; simp
 have hL1 : W1.heap[l]? = some (.loop (rec .ready none)) := by
  rw [<- hW1, <- hl]; have := World.alloc_heap_new (W.alloc (.deferred (some []))) (.loop (rec .ready none)); rwa [World.size_alloc] at this
 have hK1 : W1.heap[W.heap.size]? = some (.deferred (some [])) := by
  rw [<- hW1]; exact (Below.heap_alloc _ _ _ (by simp)).trans (World.alloc_heap_new W _)
 have hb1 : Below W.heap.size W W1 := by
  rw [<- hW1]; exact ((Below.refl _ W).alloc (Nat.le_refl _) _).alloc (by simp) _
 obtain ⟨a', ha'⟩ : ∃ a' : Act, { a with defers := [mk W.heap.size] ++ a.defers } = a' := ⟨_, rfl⟩
 have ht' : a'.tmps = a.tmps := by rw [<- ha']
 have hI2 : Inv w0 ([l, W.heap.size] ++ L) β (S x0) fn.ntmps E' a' W1 := by
  refine hI1.more hb1 (fun g hg => ?_) ht' ?_
  ·simp at hg; omega
  ·obtain ⟨Ds, d1, d0, d2, d3⟩ := hI1.nod
   refine ⟨W.heap.size :: Ds, by rw [<- ha']; simp [d1], fun e => (by rw [hmk] at e; cases e), List.nodup_cons.2 ⟨fun hm => ?_, d2⟩, fun D hD => ?_⟩
   ·have := hI1.oldW _ (d3 _ hm).1; omega
   ·rcases List.mem_cons.1 hD with rfl | hD
    ·exact ⟨by simp, hI1.bel.size, hK1⟩
    ·obtain ⟨q1, q2, q3⟩ := d3 D hD
     exact ⟨List.mem_append_right _ q1, q2, (hb1.block D (hI1.oldW D q1)).trans q3⟩
 have hls : w0.w.heap.size <= l := by have := hI1.bel.size; omega
 have hsl : s <= β.length := by rw [hI1.bx.1]; exact hlS
 refine ⟨l, [mk W.heap.size], W1, { target := .fn (.func gf) us.toArray, args := #[.func (.yield l) #[] #[]] }, W1, gf, #[.func (.yield l) #[] #[]] ++ us.toArray, W1, ?_, ?_, fun _ _ => trivial, ?_, fun e => (by cases e), ?_⟩
 ·rw [<- hW1, <- hl, hrec]; exact run_enterLoop_outer _ _ _ _ _
 ·simp only [resolve, hga]
  simp [Deferred.ofValue, Sem.run_pure, Act.eval]
 ·simp only [invoke]
  exact enters_run hI.1 _ _
 ·rw [ha']
  have hbase : w0.w.heap.size <= W1.heap.size := Nat.le_trans hI1.bel.size hb1.size
  have hlb : l < W1.heap.size := by omega
  let J : Nat -> List Nat -> List Nat -> World -> Prop := fun i Z B W' => ∃ x, pos x = i /\ JW w0 fn.ntmps E' a' l W1.heap.size (β.take s) s (S x) (.loop (rec .ready none)) Z B W'
  let X : List Nat -> List Nat -> World -> Prop := fun Z B W' => ∃ z, JW w0 fn.ntmps E' a' l W1.heap.size (β.take s) s (T z) (.loop (rec .done (some (jump z)))) Z B W'
  have hY : Yl P l J X n xs := by
   refine ⟨fun i Z B A Z' A' ⟨x, q1, q2⟩ hb => ⟨x, q1, q2.step hbase hb⟩, fun Z B A Z' A' ⟨z, q2⟩ hb => ⟨z, q2.step hbase hb⟩, ?_⟩
   rintro i Z B W2 vs hi ⟨x, hpx, β', L0, hBe, hx, hzb, hlL0, hlk, hown, hnod0, htk, hrl, hbw⟩ hBd hZlt hRs
   subst hpx
   subst hBe
   obtain ⟨L', hL'⟩ : ∃ L', Z ++ L0 = L' := ⟨_, rfl⟩
   rw [hL'] at hx
   have hlL : l ∈ L' := by rw [<- hL']; exact List.mem_append_right _ hlL0
   have hvl : vs.length = prm.size := by rw [hRs.length]; exact hxs _
   have hRv : Rs β' L' W2 (xs (pos x)) vs := Rs.move (Nat.le_refl _) _ _ [] (Z ++ (bs β' ++ L0)) _ _ (fun _ _ _ => rfl) (fun _ _ h => by simp at h) (fun g hg => .inl (.inr (by
    rcases hg with hg | hg
    ·exact List.mem_append_right _ (List.mem_append_left _ (mem_bs.2 hg))
    ·rw [<- hL'] at hg
     rcases List.mem_append.1 hg with hg | hg
     ·exact List.mem_append_left _ hg
     ·exact List.mem_append_right _ (List.mem_append_right _ hg)))) hRs
   have hy := run_yield (P := P) (args := vs.toArray) hrl (by rw [hrec]; simpa using hvl)
   rw [hrec] at hy
   refine ⟨fnid, _, asg, body, hy, roundIn_of_wpIn trivial ?_⟩
   have hsb : s <= β'.length := by
    have := congrArg List.length htk
    simp at this; omega
   obtain ⟨gh, hgh⟩ : ∃ gh, (E'.map fun q => (lk E' q.1, a'.tmps.getD q.1 undef)) ++ w0.gh = gh := ⟨_, rfl⟩
   have hghR : ∀ q ∈ gh, refOk s q.1 = true /\ R β' L' W2 q.1 q.2 := fun q hq => by
    rw [<- hgh] at hq
    rcases List.mem_append.1 hq with hq | hq
    ·obtain ⟨e, he, rfl⟩ := List.mem_map.1 hq
     exact ⟨lk_all hs _, hx.ev.2 _⟩
    ·exact ⟨refOk_mono hst (hx.gho q hq).1, (hx.gho q hq).2⟩
   -- the beginning of the round
   have hi1 : Inv ⟨W2, β', s, L', [], some l, gh, false⟩ L' β' (S x) fn.ntmps (putPs prm.toList (xs (pos x)) E') ⟨(prm.zip vs.toArray).foldl (fun tm q => tm.setIfInBounds q.1 q.2) a.tmps, []⟩ W2 := by
    refine ⟨Near.refl _ _ _ _ _ _ _ _, fun g hg => .inl hg, hx.old, ⟨fun _ h => h, fun g hg => .inl hg⟩, ⟨rfl, hsb⟩, hx.bx, ?_, Nod.nil rfl, hghR, fun g hg => .inl hg, fun q hq => (by rw [<- hgh]; exact List.mem_append_right _ (hx.glo q hq))⟩
    have := Ev.puts prm.toList (xs (pos x)) vs E' a.tmps hpt hRv ⟨by rw [<- ht']; exact hx.ev.1, fun t => by rw [<- ht']; exact hx.ev.2 t⟩
    have e : (prm.zip vs.toArray).foldl (fun tm q => tm.setIfInBounds q.1 q.2) a.tmps = (prm.toList.zip vs).foldl (fun tm q => tm.setIfInBounds q.1 q.2) a.tmps := by
     rw [<- Array.foldl_toList]; simp
    rw [e]; exact this
   have ha1 := hasg x hi
   obtain ⟨w1, hw1⟩ : ∃ w1 : W0, (⟨W2, β', s, L', [], some l, gh, false⟩ : W0) = w1 := ⟨_, rfl⟩
   have hw1' : w1.w = W2 /\ w1.own = β' /\ w1.stay = s /\ w1.lock = L' := by rw [<- hw1]; exact ⟨rfl, rfl, rfl, rfl⟩
   have hw1r : w1.ro = some l /\ w1.gh = gh := by rw [<- hw1]; exact ⟨rfl, rfl⟩
   rw [hw1] at hi1
   obtain ⟨RP, hRP⟩ : ∃ RP : Ending -> World -> Prop, (fun e W' => ∃ b B', e = .returned (.bool b) /\ (b = true -> J (pos x + 1) Z B' W') /\ (b = false -> X Z B' W') /\ Chg Z (bs β' ++ L0) W2 B' W') = RP := ⟨_, rfl⟩
   have hnl : W2.heap[l]? ≠ some (.deferred (some [])) := by rw [hrl]; intro e; cases e
   have hl2 : l < W2.heap.size := (Array.getElem?_eq_some_iff.1 hrl).1
   have fin' : Ok P fn.ntmps w1 L' (Exit.then (fun a₁ w₁ => ∃ w₂, (Instr.beginRound l).run P w₁ = .ok () w₂ /\ body.wpIn (Fr (some l)) 0 P (roundPost P l RP) a₁ w₂) (fun _ _ _ => False)) ⟨E1 x, S1 x, [], none⟩ := by
    intro β1 a1 Wa hIa
    show ∃ w₂, (Instr.beginRound l).run P Wa = .ok () w₂ /\ body.wpIn (Fr (some l)) 0 P (roundPost P l RP) a1 w₂
    have hrla : Wa.heap[l]? = some (.loop (rec .ready none)) := by
     have := hIa.bel.block l (by rw [hw1'.1]; exact hl2) (by rw [hw1'.2.1]; exact (hx.old l hlL).2)
     rw [hw1'.1] at this; exact this.trans hrl
    have hla : l < Wa.heap.size := (Array.getElem?_eq_some_iff.1 hrla).1
    refine ⟨Wa.putObj l (.loop { rec .ready none with state := .busy }), run_beginRound hrla (by rw [hrec]), ?_⟩
    have hs1 : s <= β1.length := by have := hIa.pre.2; rw [hw1'.2.2.1] at this; exact this
    have hi2 := hIa.reb hlL (.loop { rec .ready none with state := .busy }) hs1 (some l) (gh := gh) (fun q hq => by have := hIa.gho q (by rw [hw1r.2]; exact hq); rw [hw1'.2.2.1] at this; exact this) (fun q hq => by rw [<- hgh]; exact List.mem_append_right _ (hx.glo q hq))
    have hr := round x _ L' hi rfl β1 a1 _ hi2
    have hbusy : (Wa.putObj l (.loop { rec .ready none with state := .busy })).heap[l]? = some (.loop { rec .ready none with state := .busy }) := World.putObj_heap_same hla
    have rd : ∀ {a3 W3 β3 L3 σ3} (o2 : Obj), Inv ⟨Wa.putObj l (.loop { rec .ready none with state := .busy }), β1, s, L', a1.defers, some l, gh, false⟩ L3 β3 σ3 fn.ntmps [] a3 W3 ->
      W3.heap[l]? = some (.loop { rec .ready none with state := .busy }) /\ ∃ B', JW w0 fn.ntmps E' a' l W1.heap.size (β.take s) s σ3 o2 Z B' (W3.putObj l o2) /\ Chg Z (bs β' ++ L0) W2 B' (W3.putObj l o2) := fun {a3 W3 β3 L3 σ3} o2 h3 => by
     have hl3 : W3.heap[l]? = some (.loop { rec .ready none with state := .busy }) := by
      have := h3.bel.block l (by show l < (Wa.putObj l _).heap.size; rw [World.putObj_size]; exact hla) (hIa.old l hlL).2
      exact this.trans hbusy
     obtain ⟨r1, r2, r3, r4⟩ := hx.round (o2 := o2) hIa hw1' h3 ⟨rfl, rfl, rfl, rfl⟩ (fun t => by
      rcases lk_keys t E' with h | h
      ·exact .inl h
      ·obtain ⟨e, he, rfl⟩ := List.mem_map.1 h
       exact .inr (by rw [<- hgh]; exact List.mem_append_left _ (List.mem_map.2 ⟨e, he, rfl⟩))) (fun q hq => by rw [<- hgh]; exact List.mem_append_right _ hq) hlL hls hst hnl
     have hLL : ∀ g ∈ L', g ∈ L3 := h3.inc.1
     have hZL : ∀ g ∈ Z, g ∈ L' := fun g hg => by rw [<- hL']; exact List.mem_append_left _ hg
     have hL0L : ∀ g ∈ L0, g ∈ L' := fun g hg => by rw [<- hL']; exact List.mem_append_right _ hg
     have hlZ : l ∉ Z := fun hc => by have := (hzb l hc).1; omega
     have hsz : W2.heap.size <= (W3.putObj l o2).heap.size := r2.size
     have mem0 : ∀ g, g ∈ L3.filter (fun g => decide (g ∉ Z)) ↔ g ∈ L3 /\ g ∉ Z := fun g => by rw [List.mem_filter, decide_eq_true_eq]
     refine ⟨hl3, bs β3 ++ L3.filter (fun g => decide (g ∉ Z)), ⟨β3, _, rfl, r1.reL (fun g => ?_), fun z hz => ⟨(hzb z hz).1, fun hc => ((mem0 z).1 hc).2 hz⟩, (mem0 l).2 ⟨hLL l hlL, hlZ⟩, fun g hg => (mem0 g).2 ⟨hLL g (hL0L g (hlk g hg)), fun hc => (hzb g hc).2 (hlk g hg)⟩, fun g hg => ?_, ?_, r3.trans htk, World.putObj_heap_same (Array.getElem?_eq_some_iff.1 hl3).1, Nat.le_trans hbw hsz⟩, ⟨hsz, fun k hk hkn => ?_, fun k hk => ?_, fun g hg => ?_, fun g hg => ?_⟩⟩
     ·rw [List.mem_append, mem0]
      constructor
      ·rintro (h | h)
       ·exact hLL g (hZL g h)
       ·exact h.1
      ·intro h
       by_cases hz : g ∈ Z
       ·exact .inl hz
       ·exact .inr ⟨h, hz⟩
     ·have hgZ : g ∉ Z := fun hc => by
       rcases hown g hg with h | h
       ·exact (hx.old g (hZL g hc)).2 h
       ·exact (hzb g hc).2 h
      rcases r1.inc.2 g hg with h | h
      ·exact .inl h
      ·exact .inr ((mem0 g).2 ⟨h, hgZ⟩)
     ·obtain ⟨Ds, d1, d0, d2, d3⟩ := hnod0
      refine ⟨Ds, d1, d0, d2, fun D hD => ?_⟩
      obtain ⟨p1, p2, p3⟩ := d3 D hD
      refine ⟨(mem0 D).2 ⟨hLL D (hL0L D p1), fun hc => (hzb D hc).2 p1⟩, p2, (r4 D (hx.oldW D (hL0L D p1)) (hx.old D (hL0L D p1)).2 fun e => ?_).trans p3⟩
      rw [e] at p3; exact hnl p3
     ·exact r4 k hk (fun hc => hkn (List.mem_append_left _ (mem_bs.2 hc))) (fun e => hkn (List.mem_append_right _ (by rw [e]; exact hlL0)))
     ·exact r4 k (hZlt k hk) (hx.old k (hZL k hk)).2 (fun e => hlZ (by rw [<- e]; exact hk))
     ·have hgZ : g ∉ Z := fun hc => by
       rcases List.mem_append.1 hg with h | h
       ·exact (h3.old g (hLL g (hZL g hc))).2 (mem_bs.1 h)
       ·exact ((mem0 g).1 h).2 hc
      have hg' : g ∈ bs β3 ++ L3 := by
       rcases List.mem_append.1 hg with h | h
       ·exact List.mem_append_left _ h
       ·exact List.mem_append_right _ ((mem0 g).1 h).1
      refine (r2.new g hg').imp (fun h => ?_) id
      rcases List.mem_append.1 h with h | h
      ·exact List.mem_append_left _ h
      ·rw [<- hL'] at h
       rcases List.mem_append.1 h with h | h
       ·exact absurd h hgZ
       ·exact List.mem_append_right _ h
     ·rcases List.mem_append.1 hg with h | h
      ·exact r2.lt g (List.mem_append_left _ h)
      ·exact r2.lt g (List.mem_append_right _ ((mem0 g).1 h).1)
    refine wpIn_mono hr fun e a3 W3 hq => ?_
    unfold wpK at hq
    cases e with
    | normal =>
     obtain ⟨y, β3, L3, hy', h3⟩ := hq
     obtain ⟨hl3, B', r1, r2⟩ := rd (.loop (rec .ready none)) h3
     have he := run_endRound (P := P) none hl3
     rw [hrec] at he
     refine ⟨_, _, he, ?_⟩
     rw [<- hRP]
     have e4 : (W3.putObj l (.loop { state := if (none : Option Code).isNone then .ready else .done, pending := none, fn := fnid, tmps := a.tmps, params := prm, assign := asg, body := body, defers := W.heap.size })) = W3.putObj l (.loop (rec .ready none)) := by rw [hrec]; rfl
     rw [e4]
     exact ⟨true, B', rfl, fun _ => ⟨y, hy', r1⟩, fun h => (by cases h), r2⟩
    | ret =>
     obtain ⟨z, β3, L3, hz, h3⟩ := hq
     obtain ⟨hl3, B', r1, r2⟩ := rd (.loop (rec .done (some .ret))) h3
     have he := run_endRound (P := P) (some .ret) hl3
     rw [hrec] at he
     refine ⟨_, _, he, ?_⟩
     rw [<- hRP]
     have e4 : (W3.putObj l (.loop { state := if (some Code.ret).isNone then .ready else .done, pending := some .ret, fn := fnid, tmps := a.tmps, params := prm, assign := asg, body := body, defers := W.heap.size })) = W3.putObj l (.loop (rec .done (some .ret))) := by rw [hrec]; rfl
     rw [e4]
     exact ⟨false, B', rfl, fun h => (by cases h), fun _ => ⟨z, by rw [hz]; exact r1⟩, r2⟩
    | exit id =>
     obtain ⟨z, β3, L3, hz, h3⟩ := hq
     obtain ⟨hl3, B', r1, r2⟩ := rd (.loop (rec .done (some (.exit id)))) h3
     have he := run_endRound (P := P) (some (.exit id)) hl3
     rw [hrec] at he
     refine ⟨_, _, he, ?_⟩
     rw [<- hRP]
     have e4 : (W3.putObj l (.loop { state := if (some (Code.exit id)).isNone then .ready else .done, pending := some (.exit id), fn := fnid, tmps := a.tmps, params := prm, assign := asg, body := body, defers := W.heap.size })) = W3.putObj l (.loop (rec .done (some (.exit id)))) := by rw [hrec]; rfl
     rw [e4]
     exact ⟨false, B', rfl, fun h => (by cases h), fun _ => ⟨z, by rw [hz]; exact r1⟩, r2⟩
    | goto t => exact hq.elim
    | panic ch => exact hq.elim
    | outgrown => exact hq.elim
   have go := run_ok (P := P) (N := fn.ntmps) (w0 := w1) (L := L') 3000 ⟨putPs prm.toList (xs (pos x)) E', S x, [.code asg], none⟩ (by rw [show (runC P fn.ntmps 3000 _).1 = [] from congrArg Prod.fst ha1]; trivial)
    (by rw [show (runC P fn.ntmps 3000 _).2 = _ from congrArg Prod.snd ha1]; exact fin')
   have go1 := go β' _ W2 hi1
   rw [hw1r.1] at go1
   refine wpIn_mono (c := asg) go1 fun e a1 Wa hq => ?_
   unfold wpK at hq
   rw [hRP]
   exact hq
  have eargs : (#[.func (.yield l) #[] #[]] ++ us.toArray : Array Value) = (.func (.yield l) #[] #[] :: us).toArray := by apply Array.ext'; simp
  rw [eargs]
  have hB1 : ∀ g ∈ bs β ++ ([l, W.heap.size] ++ L), g < W1.heap.size := fun g hg => by
   rcases List.mem_append.1 hg with hg | hg
   ·exact hI2.bx.2.2.1 g (mem_bs.1 hg)
   ·exact hI2.oldW g hg
  have hus1 : Rs [] (bs β ++ ([l, W.heap.size] ++ L)) W1 caps us := Rs.move hb1.size _ _ [] (bs β ++ L) _ _ (fun k _ hk => hb1.block k hk) (fun _ _ h => by simp at h) (fun g hg => by
   rcases hg with hg | hg
   ·simp at hg
   ·rcases List.mem_append.1 hg with hg | hg
    ·exact .inl (.inr (List.mem_append_left _ hg))
    ·rcases List.mem_append.1 hg with hg | hg
     ·right; simp at hg; omega
     ·exact .inl (.inr (List.mem_append_right _ hg))) hus
  have hnodI : Nod w0 ([l, W.heap.size] ++ L) a' W1 := hI2.nod
  refine callsFr ((hI.2 l J X hY _ W1 us ⟨x0, h0, β, _, rfl, hI2, fun z hz => (by simp at hz), by simp, hI2.inc.1, hI2.inc.2, hnodI, rfl, hL1, Nat.le_refl _⟩ hB1 hI2.gl hus1).mono fun e W3 ⟨Z, B', hh⟩ => ?_)
  -- the loop's record is shut
  have shut : ∀ {σ3 : Sig} {st : LoopState} {pe : Option Code}, st ≠ .busy -> JW w0 fn.ntmps E' a' l W1.heap.size (β.take s) s σ3 (.loop (rec st pe)) Z B' W3 ->
    ∃ β' L' W4, Inv w0 L' β' σ3 fn.ntmps E' a' W4 /\ (Instr.endLoop l).run P W3 = .ok pe W4 := fun {σ3 st pe} hst' ⟨β', L0, _, hx, hzb, hlL0, _, _, hnod0, _, hrl, _⟩ => by
   have hlL : l ∈ Z ++ L0 := List.mem_append_right _ hlL0
   have hnod : Nod w0 (Z ++ L0) a' (W3.putObj l (.loop { rec st pe with state := .exhausted })) := by
    obtain ⟨Ds, d1, d0, d2, d3⟩ := hnod0
    exact ⟨Ds, d1, d0, d2, fun D hD => ⟨List.mem_append_right _ (d3 D hD).1, (d3 D hD).2.1, (World.putObj_heap_other fun e => by have := (d3 D hD).2.2; rw [e, hrl] at this; cases this).trans (d3 D hD).2.2⟩⟩
   have hel := run_endLoop (P := P) hrl (by rw [hrec]; exact hst')
   have hpe : (rec st pe).pending = pe := by rw [hrec]
   have ht4 := hx.turn hlL hls _ rfl hnod
   generalize W3.putObj l (.loop { rec st pe with state := .exhausted }) = W4 at hel ht4
   exact ⟨β', _, W4, ht4, hel.trans (by rw [hpe])⟩
  have hX : ∀ {u : Value}, X Z B' W3 -> rangePost (Fr w0.ro) 0 P l (wpK P w0.ro Q k) a' (.returned u) W3 := fun {u} ⟨z, hz⟩ => by
   obtain ⟨β', L', W4, h1, h2⟩ := shut (by simp) hz
   exact ⟨_, W4, h2, out z L' β' a' W4 h1⟩
  cases hf : fin with
  | none =>
   rw [hf] at hh
   obtain ⟨⟨u, rfl⟩, hh | hh⟩ := hh
   ·obtain ⟨x, hpx, hx⟩ := hh
    obtain ⟨β', L', W4, h1, h2⟩ := shut (by simp) hx
    exact ⟨_, W4, h2, done x L' hf hpx β' a' W4 h1⟩
   ·exact hX hh
  | some v =>
   rw [hf] at hh
   rcases hh with ⟨u, rfl, hv, x, hpx, β', L0, _, hx, _⟩ | ⟨⟨u, rfl⟩, hh⟩
   ·exact wpK_panic (pan x v hf hpx _ β' a' W3 u hx (R.flat v u (hfl v hf) hv))
   ·exact hX hh
theorem M.range {ι ζ : Type} (S : ι -> Sig) (pos : ι -> Nat) (x0 : ι) (T : ζ -> Sig) (jump : ζ -> Code) (E' : Env) (s : Nat) {gf : FuncId} {caps : List PV} {n : Nat} {xs : Nat -> List PV} {fin : Option PV} (hI : Iter P gf caps n xs fin)
  (ps : List Prop) {g : Operand} {prm : Array Tmp} {asg body : Code} {k : List It} (E1 : ι -> Env) (S1 : ι -> Sig)
  (h : (stop P fn.ntmps c).1 = ps) (hp : All ps) (hdr : (stop P fn.ntmps c).2.dr = none) (ht : (stop P fn.ntmps c).2.todo = .code (.rangeFunc g prm asg body) :: k)
  (hg : evA (stop P fn.ntmps c).2.E g = .fn gf caps) (hgc : noRef.noRefs caps = true)
  (hE : keepE (E'.map (·.1)) (stop P fn.ntmps c).2.E = E') (hS : (stop P fn.ntmps c).2.σ = S x0) (h0 : pos x0 = 0)
  (hs : E'.all (fun q => refOk s q.2) = true) (hst : w0.stay <= s) (hro : w0.ro = none) (hmk : w0.mrk = true) (hlS : s <= (S x0).length)
  (hfl : ∀ x, fin = some x -> flatP x = true) (hxs : ∀ i, (xs i).length = prm.size) (hpt : prm.toList.all (fun t => decide (t < fn.ntmps)) = true)
  (hasg : ∀ x, pos x < n -> asgC P fn E' prm (xs (pos x)) (S x) asg = ([], ⟨E1 x, S1 x, [], none⟩))
  (round : ∀ x w1 L1, pos x < n -> w1.stay = s -> M P fn w1 L1 (Qr fn.ntmps S (fun y => pos y = pos x + 1) T jump w1) ⟨E1 x, S1 x, [.code body], none⟩)
  (done : ∀ x L', fin = none -> pos x = n -> M P fn w0 L' Q ⟨E', S x, k, none⟩) (pan : ∀ x v, fin = some v -> pos x = n -> OkP fn w0 Q (S x) E' v) (out : ∀ z L', M P fn w0 L' Q ⟨E', T z, .code (jump z) :: k, none⟩) : M P fn w0 L Q c :=
 ⟨Ok.range S pos x0 T jump E' s hI E1 S1 h hp hdr ht hg hgc hE hS h0 hs hst hro hmk hlS hfl hxs hpt hasg (fun x w1 L1 h1 h2 => (round x w1 L1 h1 h2).out) (fun x L' h0 h => (done x L' h0 h).out) pan (fun z L' => (out z L').out)⟩
theorem Ok.rndEnd {ι ζ : Type} {S : ι -> Sig} {next : ι -> Prop} {T : ζ -> Sig} {jump : ζ -> Code} {ps : List Prop} {σ : Sig} {t : List It} (h : (stop P fn.ntmps c).1 = ps) (hp : All ps) (hdr : (stop P fn.ntmps c).2.dr = none) (hσ : (stop P fn.ntmps c).2.σ = σ) (ht : (stop P fn.ntmps c).2.todo = t)
  (k : ∀ β a W, Inv w0 L β σ fn.ntmps [] a W -> wpK P w0.ro (Qr fn.ntmps S next T jump w0) t .normal a W) : OkF P fn w0 L (Qr fn.ntmps S next T jump w0) c := by
 refine run_ok 3000 c (by rw [show (runC P fn.ntmps 3000 c).1 = ps from h]; exact hp) ?_
 show OkF P fn w0 L _ (stop P fn.ntmps c).2
 clear h
 generalize (stop P fn.ntmps c).2 = d at hdr hσ ht
 obtain ⟨E, σ', todo, dr⟩ := d
 simp only at hdr hσ ht
 subst hdr; subst hσ; subst ht
 intro β a W hI
 exact k β a W hI.bare
theorem M.next {ι ζ : Type} {S : ι -> Sig} {next : ι -> Prop} {T : ζ -> Sig} {jump : ζ -> Code} (y : ι) (hy : next y) (ps : List Prop) (h : (stop P fn.ntmps c).1 = ps) (hp : All ps) (hdr : (stop P fn.ntmps c).2.dr = none) (hσ : (stop P fn.ntmps c).2.σ = S y) (ht : (stop P fn.ntmps c).2.todo = []) :
  M P fn w0 L (Qr fn.ntmps S next T jump w0) c := ⟨Ok.rndEnd h hp hdr hσ ht fun β a W hI => ⟨y, β, L, hy, hI⟩⟩
theorem M.stopr {ι ζ : Type} {S : ι -> Sig} {next : ι -> Prop} {T : ζ -> Sig} {jump : ζ -> Code} (z : ζ) (ps : List Prop) {k : List It} (h : (stop P fn.ntmps c).1 = ps) (hp : All ps) (hdr : (stop P fn.ntmps c).2.dr = none) (hσ : (stop P fn.ntmps c).2.σ = T z) (ht : (stop P fn.ntmps c).2.todo = .code .ret :: k) (hz : jump z = .ret := by rfl) :
  M P fn w0 L (Qr fn.ntmps S next T jump w0) c := ⟨Ok.rndEnd h hp hdr hσ ht fun β a W hI => wpIn_ret (wpK_ret ⟨z, β, L, hz, hI⟩)⟩
end
theorem bif_t {α : Type} {b : Bool} {t e r : α} (h : b = true) (hq : (bif b then t else e) = r) : t = r := by rw [h] at hq; exact hq
theorem bif_f {α : Type} {b : Bool} {t e r : α} (h : b = false) (hq : (bif b then t else e) = r) : e = r := by rw [h] at hq; exact hq
section
variable {P : Program} {fn : Func} {w0 : W0} {L : List Nat} {Q : Exit -> Act -> World -> Prop} {c : Cfg} {α β : Type}
theorem M.tq {b : Bool} {t e r : α} (hq : (bif b then t else e) = r) (h1 : b = true -> t = r -> M P fn w0 L Q (assumeC P fn c true)) (h2 : b = false -> e = r -> M P fn w0 L Q (assumeC P fn c false)) (h : viewOf P fn c = .test [] b := by kernel_rfl) : M P fn w0 L Q c :=
 M.test b h (fun e => h1 e (bif_t e hq)) (fun e => h2 e (bif_f e hq))
theorem M.tqp (ps : List Prop) (hp : All ps) {b : Bool} {t e r : α} (hq : (bif b then t else e) = r) (h1 : b = true -> t = r -> M P fn w0 L Q (assumeC P fn c true)) (h2 : b = false -> e = r -> M P fn w0 L Q (assumeC P fn c false)) (h : viewOf P fn c = .test ps b := by kernel_rfl) : M P fn w0 L Q c :=
 M.testp ps b h hp (fun e => h1 e (bif_t e hq)) (fun e => h2 e (bif_f e hq))
theorem M.rq {enc : α -> PV} {v r : α} (hq : v = r) (h : viewOf P fn c = .ret [] (enc v) := by kernel_rfl) : M P fn w0 L (Qf P fn w0 (enc r)) c := M.ret _ h (congrArg enc hq)
theorem M.rqp (ps : List Prop) (hp : All ps) {enc : α -> PV} {v r : α} (hq : v = r) (h : viewOf P fn c = .ret ps (enc v) := by kernel_rfl) : M P fn w0 L (Qf P fn w0 (enc r)) c := M.retp ps _ h hp (congrArg enc hq)
theorem M.cl {g : FuncId} {qs : List PV} {r : PV} (hs : Spec P g qs r) (k : M P fn w0 L Q (afterC P fn c r)) (h : viewOf P fn c = .call [] g qs := by kernel_rfl) (hr : resOk P fn c r = true := by kernel_rfl) : M P fn w0 L Q c := M.call hs h hr k
theorem M.clp (ps : List Prop) (hp : All ps) {g : FuncId} {qs : List PV} {r : PV} (hs : Spec P g qs r) (k : M P fn w0 L Q (afterC P fn c r)) (h : viewOf P fn c = .call ps g qs := by kernel_rfl) (hr : resOk P fn c r = true := by kernel_rfl) : M P fn w0 L Q c := M.callp ps hs h hp hr k
theorem M.len (t : Nat) {n : Nat} (k : n <= 9223372036854775807 -> M P fn w0 L Q (stop P fn.ntmps c).2) (h : (match lk (stop P fn.ntmps c).2.E t with | .sl _ m _ => some m | _ => none) = some n := by kernel_rfl) (h1 : (stop P fn.ntmps c).1 = [] := by kernel_rfl) (hdr : (stop P fn.ntmps c).2.dr = none := by kernel_rfl) : M P fn w0 L Q c := by
 refine ⟨run_ok 3000 c (by rw [show (runC P fn.ntmps 3000 c).1 = [] from h1]; trivial) ?_⟩
 show OkF P fn w0 L Q (stop P fn.ntmps c).2
 generalize (stop P fn.ntmps c).2 = d at h hdr k
 obtain ⟨E, σ, todo, dr⟩ := d
 simp only at h hdr
 subst hdr
 intro β a W hI
 split at h
 ·rename_i kk' m el he
  cases h
  have hr := hI.ev.2 t
  rw [he, R] at hr
  obtain ⟨x, cp, _, h2, h3, _⟩ := hr
  exact (k (by omega)).out β a W hI
 ·cases h
theorem loop_cons {α : Type} [Inhabited α] {l : List α} {i : Nat} (h : i < l.length) : l.drop i = l.getD (i : Int).toNat default :: l.drop (i + 1) := by
 rw [getD_nat h, List.drop_eq_getElem_cons h]
theorem loop_nil {α : Type} {l : List α} {i : Nat} (h : ¬ i < l.length) : l.drop i = [] := List.drop_eq_nil_of_le (by omega)
theorem nlt_of_dec {a b : Nat} (h : decide ((a : Int) < (b : Int)) = false) : ¬ a < b := by simpa using h
end
def oneP : PV -> Bool
 | .v x => x.oneCell'
 | .sb _ => true
 | .sl _ _ _ => true
 | .ptr _ => true
 | .fn _ _ => true
 | .fm _ _ => true
 | .o _ => true
 | _ => false
theorem oneP_R {L : List Nat} {W : World} {p : PV} {u : Value} (h : oneP p = true) (hr : R [] L W p u) : u.oneCell' = true := by
 cases p <;> simp only [oneP] at h <;> first | cases h | skip
 ·rw [R] at hr; rw [hr]; exact h
 ·rw [R] at hr; rw [hr]; rfl
 ·rw [R] at hr; obtain ⟨a, c, rfl, _⟩ := hr; rfl
 ·rw [R] at hr; obtain ⟨b, off, us, rfl, _⟩ := hr; rfl
 ·rw [R] at hr; obtain ⟨us, rfl, _⟩ := hr; rfl
 ·rw [R] at hr; exact hr.1
 ·rw [R] at hr; obtain ⟨_, _, _, rfl, _⟩ := hr; rfl
theorem caps_o {L : List Nat} {W : World} : ∀ {qs : List PV} {us : List Value}, qs.all oneP = true -> Rs [] L W qs us -> Rs [] L W (qs.map PV.o) us
 | [], us, _, h => by rw [Rs] at h; subst h; exact Rs.nil
 | q :: qs, us, h1, h => by
  obtain ⟨u, us', rfl, a, b⟩ := h.uncons
  simp only [List.all_cons, Bool.and_eq_true] at h1
  exact Rs.cons (by rw [R]; exact ⟨oneP_R h1.1 a, a⟩) (caps_o h1.2 b)
theorem caps_un {L : List Nat} {W : World} : ∀ {qs : List PV} {us : List Value}, Rs [] L W (qs.map PV.o) us -> Rs [] L W qs us
 | [], us, h => h
 | q :: qs, us, h => by
  obtain ⟨u, us', rfl, a, b⟩ := h.uncons
  rw [R] at a
  exact Rs.cons a.2 (caps_un b)
theorem Rs.un_app {L : List Nat} {W : World} : ∀ {ps qs : List PV} {us : List Value}, Rs [] L W (ps ++ qs) us -> ∃ vs ws, us = vs ++ ws /\ Rs [] L W ps vs /\ Rs [] L W qs ws
 | [], qs, us, h => ⟨[], us, rfl, Rs.nil, h⟩
 | p :: ps, qs, us, h => by
  obtain ⟨u, us', rfl, a, b⟩ := Rs.uncons h
  obtain ⟨vs, ws, rfl, c, d⟩ := Rs.un_app b
  exact ⟨u :: vs, ws, rfl, Rs.cons a c, d⟩
theorem Spec.capO {P : Program} {f : FuncId} {g : Nat} {ax qs bs : List PV} {r : PV} (h1 : qs.all oneP = true) (h : Spec P f (ax ++ (.fn g (qs.map PV.o) :: bs)) r) : Spec P f (ax ++ (.fn g qs :: bs)) r :=
 Spec.conv h (fun L W vs hv => by
  obtain ⟨us, ws, rfl, a, b⟩ := Rs.un_app hv
  obtain ⟨u, us', rfl, c, d⟩ := b.uncons
  refine a.append (Rs.cons ?_ d)
  rw [R] at c ⊢
  obtain ⟨cs, e, hc⟩ := c
  exact ⟨cs, e, caps_o h1 hc⟩) (fun L W u h => h)
theorem Spec.unO {P : Program} {f : FuncId} {ax qs : List PV} {r : PV} (h : Spec P f (ax ++ qs) r) : Spec P f (ax ++ qs.map PV.o) r :=
 Spec.conv h (fun L W vs hv => by
  obtain ⟨us, ws, rfl, a, b⟩ := Rs.un_app hv
  exact a.append (caps_un b)) (fun L W u h => h)
instance (x : Int) : Decidable (In64 x) := by unfold In64; infer_instance
section
variable {w0 : W0} {L : List Nat} {P : Program} {Q : Exit -> Act -> World -> Prop} {fn : Func} {c : Cfg}
def undrawOk (d : Cfg) : Bool :=
 match d.dr with
 | some q => okS q.all q.ss q.ds && (decide (q.i < q.all.size) && (cutOk q.all q.i && chainOk q.all q.i))
 | none => false
def undrawC (P : Program) (fn : Func) (c : Cfg) : Cfg :=
 let d := (stop P fn.ntmps c).2
 match d.dr with
 | some q => ⟨d.E, d.σ, .ops q.all (q.all.toList.drop q.i) :: d.todo, none⟩
 | none => d
theorem M.undrawp (ps : List Prop) (h : (stop P fn.ntmps c).1 = ps) (hp : All ps) (k : M P fn w0 L Q (undrawC P fn c)) (hok : undrawOk (stop P fn.ntmps c).2 = true := by kernel_rfl) : M P fn w0 L Q c := by
 refine ⟨run_ok 3000 c (by rw [show (runC P fn.ntmps 3000 c).1 = ps from h]; exact hp) ?_⟩
 have k := k.out
 unfold undrawC at k
 show OkF P fn w0 L Q (stop P fn.ntmps c).2
 simp only at k
 generalize (stop P fn.ntmps c).2 = d at hok k
 obtain ⟨E, σ, todo, dr⟩ := d
 unfold undrawOk at hok
 cases dr with
 | none => cases hok
 | some q =>
  simp only [Bool.and_eq_true, decide_eq_true_eq] at hok
  simp only at k
  intro hnd hokD hm hT β a W hI
  exact drawn_cut (.inr hok.2.2.1) hnd hm hokD hok.1 hT (fun h => absurd hok.2.1 (by omega)) (fun _ fuel l β a W hl hf hcl hd hnl hI => chain_list hok.2.2.2 hokD fuel q.i l a W (Nat.le_refl _) hl hf hcl (fun k hk _ => hd k hk) hnl (k β a W hI)) β a W hI
theorem M.undraw (k : M P fn w0 L Q (undrawC P fn c)) (h : (stop P fn.ntmps c).1 = [] := by kernel_rfl) (hok : undrawOk (stop P fn.ntmps c).2 = true := by kernel_rfl) : M P fn w0 L Q c := M.undrawp [] h trivial k hok
end
end Go.Proofs.YtplpnfjccemdnaaGreatDoor
