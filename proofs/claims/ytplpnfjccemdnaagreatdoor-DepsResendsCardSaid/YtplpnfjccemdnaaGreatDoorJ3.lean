import Derived.Test.YtplpnfjccemdnaaGreatDoorJ1
import Derived.Lib.LaidTab
import Derived.Lib.ItoaNum
import Derived.Test.YtplpnfjccemdnaaGreatDoorJ2
set_option linter.unusedVariables false
set_option linter.unusedSimpArgs false
/- The texts V1g V6 V7 of the proof, laid one behind the other. -/
namespace Go.Proofs.YtplpnfjccemdnaaGreatDoor
open Go.RowKit
def absCells (g : Nat) (p : Array Value -> Prop) : AbsRel where
 rel F W _ := ¬ F g /\ g < W.heap.size /\ ∃ cs t fr, W.heap[g]? = some (.cells cs t fr) /\ p cs
 move := fun {F F' W W' u} h hs hk hF => by
  obtain ⟨h1, h2, cs, t, fr, h3, h4⟩ := h
  refine ⟨fun hc => ?_, Nat.lt_of_lt_of_le h2 hs, cs, t, fr, (hk g h1 h2).trans h3, h4⟩
  rcases hF g hc with h | h
  ·exact h1 h
  ·omega
def gPow : Nat := 0
def gErr : Nat := 2
def ghosts : List (PV × Value) := [(.abs (absCells gPow fun cs => cs = (Lib.pow10Tab.map fun z => Value.int .u64 z).toArray), undef), (.abs (absCells gErr fun cs => ∃ tp p, cs = #[.iface tp p]), undef)]
theorem ghosts_bare : ∀ q ∈ ghosts, noRef q.1 = true := by
 intro q hq
 simp only [ghosts, List.mem_cons, List.not_mem_nil, or_false] at hq
 rcases hq with rfl | rfl <;> rfl
def Gl (L : List Nat) (W : World) : Prop := ∀ q ∈ ghosts, R [] L W q.1 q.2
theorem Gl.pow {L : List Nat} {W : World} (h : Gl L W) : ∃ t fr, W.heap[gPow]? = some (.cells (Lib.pow10Tab.map fun z => Value.int .u64 z).toArray t fr) := by
 have := h _ (by unfold ghosts; exact List.mem_cons_self ..)
 rw [R] at this
 obtain ⟨_, _, cs, t, fr, h3, rfl⟩ := this
 exact ⟨t, fr, h3⟩
theorem Gl.err {L : List Nat} {W : World} (h : Gl L W) : ∃ tp p t fr, W.heap[gErr]? = some (.cells #[.iface tp p] t fr) := by
 have := h _ (by unfold ghosts; exact List.mem_cons_of_mem _ (List.mem_cons_self ..))
 rw [R] at this
 obtain ⟨_, _, cs, t, fr, h3, tp, p, rfl⟩ := this
 exact ⟨tp, p, t, fr, h3⟩
def refOk (s : Nat) : PV -> Bool
  | .ref i _ => decide (i < s)
  | .os _ i _ _ => decide (i < s)
  | .rr i _ _ _ => decide (i < s)
  | .mr i => decide (i < s)
  | .bm _ i => decide (i < s)
  | .mp _ _ => false
  | .rws _ _ _ => false
  | .mps _ _ => false
  | .rwf _ _ _ _ _ => false
  | .dd => false
  | .agg cs => refOks s cs
  | .tup cs => refOks s cs
  | .fn _ cs => refOks s cs
  | _ => true
 where refOks (s : Nat) : List PV -> Bool
  | [] => true
  | p :: ps => refOk s p && refOks s ps
theorem R.old {β β' : List (Option Nat)} {L L' : List Nat} {W : World} {p : PV} {u : Value} (hn : noRef p = true) (hF : ∀ g, Fb β' L' g -> Fb β L g) (h : R β L W p u) : R β' L' W p u :=
 R.move (Nat.le_refl _) p u [] (bs β ++ L) β' L' (fun _ _ _ => rfl) (fun _ _ h => by simp at h) (fun g hg => .inl (fb_app.2 (hF g hg))) (R.bare p u hn h)
mutual
theorem R.firsts {s : Nat} {W : World} {β β' : List (Option Nat)} {L L' : List Nat} (hβ : ∀ (i : Nat) (x : Option Nat), i < s -> β[i]? = some x -> β'[i]? = some x) (hF : ∀ g, Fb β' L' g -> Fb β L g) : ∀ (p : PV) (u : Value), refOk s p = true -> R β L W p u -> R β' L' W p u
 | .any, _, _, _ => by rw [R]; trivial
 | .v x, u, _, h => by rw [R] at h ⊢; exact h
 | .sb c, u, _, h => by rw [R] at h ⊢; exact h
 | .agg cs, u, hn, h => by
  rw [R] at h ⊢
  obtain ⟨us, e, h1, h2⟩ := h
  exact ⟨us, e, h1, Rs.firsts hβ hF cs us hn h2⟩
 | .tup cs, u, hn, h => by
  rw [R] at h ⊢
  obtain ⟨us, e, h2⟩ := h
  exact ⟨us, e, Rs.firsts hβ hF cs us hn h2⟩
 | .fn g caps, u, hn, h => by
  rw [R] at h ⊢
  obtain ⟨us, e, h2⟩ := h
  exact ⟨us, e, Rs.firsts hβ hF caps us hn h2⟩
 | .ref i off, u, hn, h => by
  rw [R] at h ⊢
  obtain ⟨g, hg, e⟩ := h
  exact ⟨g, hβ i _ (by simpa [refOk] using hn) hg, e⟩
 | .os e i k n, u, hn, h => by
  rw [R] at h ⊢
  rcases h with ⟨g, c, hg, e, h⟩ | ⟨hg, e⟩
  ·exact .inl ⟨g, c, hβ i _ (by simpa [refOk] using hn) hg, e, h⟩
  ·exact .inr ⟨hβ i _ (by simpa [refOk] using hn) hg, e⟩
 | .rr i k j c, u, hn, h => by
  rw [R] at h ⊢
  obtain ⟨g, hg, e⟩ := h
  exact ⟨g, hβ i _ (by simpa [refOk] using hn) hg, e⟩
 | .mr i, u, hn, h => by
  rw [R] at h ⊢
  obtain ⟨g, hg, e⟩ := h
  exact ⟨g, hβ i _ (by simpa [refOk] using hn) hg, e⟩
 | .bm q i, u, hn, h => by
  rw [R] at h ⊢
  obtain ⟨g, hg, e⟩ := h
  exact ⟨g, hβ i _ (by simpa [refOk] using hn) hg, e⟩
 | .mp _ _, u, hn, _ => by simp [refOk] at hn
 | .rws _ _ _, u, hn, _ => by simp [refOk] at hn
 | .mps _ _, u, hn, _ => by simp [refOk] at hn
 | .rwf _ _ _ _ _, u, hn, _ => by simp [refOk] at hn
 | .dd, u, hn, _ => by simp [refOk] at hn
 | .sl k n el, u, _, h => R.old rfl hF h
 | .ptr cs, u, _, h => R.old rfl hF h
 | .abs S, u, _, h => R.old rfl hF h
 | .o p, u, _, h => R.old rfl hF h
 | .fm ks mf, u, _, h => R.old rfl hF h
theorem Rs.firsts {s : Nat} {W : World} {β β' : List (Option Nat)} {L L' : List Nat} (hβ : ∀ (i : Nat) (x : Option Nat), i < s -> β[i]? = some x -> β'[i]? = some x) (hF : ∀ g, Fb β' L' g -> Fb β L g) : ∀ (ps : List PV) (us : List Value), refOk.refOks s ps = true -> Rs β L W ps us -> Rs β' L' W ps us
 | [], us, _, h => by rw [Rs] at h ⊢; exact h
 | p :: ps, us, hn, h => by
  obtain ⟨u, us', rfl, h1, h2⟩ := h.uncons
  simp only [refOk.refOks, Bool.and_eq_true] at hn
  exact Rs.cons (R.firsts hβ hF p u hn.1 h1) (Rs.firsts hβ hF ps us' hn.2 h2)
end
structure W0 where
 w : World
 own : List (Option Nat)
 stay : Nat
 lock : List Nat
 dfs : List Deferred
 ro : Option Nat
 gh : List (PV × Value)
 mrk : Bool
structure Near (w0 : W0) (W : World) : Prop where
 os : W.os = w0.w.os
 tape : W.tape = w0.w.tape
 output : W.output = w0.w.output
 size : w0.w.heap.size <= W.heap.size
 block : ∀ k, k < w0.w.heap.size -> some k ∉ w0.own -> W.heap[k]? = w0.w.heap[k]?
 shape : ∀ k, k < w0.w.heap.size -> W.shape? k = w0.w.shape? k
theorem shape_eq {W W' : World} {g : Nat} (h : W'.heap[g]? = W.heap[g]?) : W'.shape? g = W.shape? g := by unfold World.shape?; rw [h]
theorem Near.refl (w : World) (l : List (Option Nat)) (m : Nat) (k : List Nat) (ds : List Deferred) (ro : Option Nat) (gh : List (PV × Value)) (mrk : Bool) : Near ⟨w, l, m, k, ds, ro, gh, mrk⟩ w := ⟨rfl, rfl, rfl, Nat.le_refl _, fun _ _ _ => rfl, fun _ _ => rfl⟩
theorem Near.below {w0 : W0} {W W' : World} (h : Near w0 W) (hb : Below W.heap.size W W') : Near w0 W' :=
 ⟨hb.os.trans h.os, hb.tape.trans h.tape, hb.output.trans h.output, Nat.le_trans h.size hb.size, fun k hk ho => (hb.block k (Nat.lt_of_lt_of_le hk h.size)).trans (h.block k hk ho), fun k hk => (shape_eq (hb.block k (Nat.lt_of_lt_of_le hk h.size))).trans (h.shape k hk)⟩
theorem Near.plain {w W : World} {m : Nat} {k : List Nat} {ds : List Deferred} {ro : Option Nat} {gh : List (PV × Value)} {mrk : Bool} (h : Near ⟨w, [], m, k, ds, ro, gh, mrk⟩ W) : Below w.heap.size w W := ⟨h.os, h.tape, h.output, h.size, fun k hk => h.block k hk (by simp)⟩
def mk (D : Nat) : Deferred := { target := .collected D, args := #[] }
def Nod (w0 : W0) (L : List Nat) (a : Act) (W : World) : Prop :=
 ∃ Ds : List Nat, a.defers = Ds.map mk ++ w0.dfs /\ (w0.mrk = false -> Ds = []) /\ Ds.Nodup /\ ∀ D ∈ Ds, D ∈ L /\ w0.w.heap.size <= D /\ W.heap[D]? = some (.deferred (some []))
theorem Nod.put {w0 : W0} {L : List Nat} {a : Act} {W : World} (h : Nod w0 L a W) (d : Option Tmp) (u : Value) : Nod w0 L (a.put d u) W := by
 cases d <;> exact h
theorem Nod.keep {w0 : W0} {L L' : List Nat} {a : Act} {W W' : World} (h : Nod w0 L a W) (hl : ∀ g ∈ L, g ∈ L') (hh : ∀ g ∈ L, W'.heap[g]? = W.heap[g]?) : Nod w0 L' a W' := by
 obtain ⟨Ds, h1, h0, h2, h3⟩ := h
 exact ⟨Ds, h1, h0, h2, fun D hD => ⟨hl D (h3 D hD).1, (h3 D hD).2.1, (hh D (h3 D hD).1).trans (h3 D hD).2.2⟩⟩
theorem Nod.nil {w0 : W0} {L : List Nat} {a : Act} {W : World} (h : a.defers = w0.dfs) : Nod w0 L a W := ⟨[], h, fun _ => rfl, List.nodup_nil, fun D hD => by simp at hD⟩
structure Inv (w0 : W0) (L : List Nat) (β : List (Option Nat)) (σ : Sig) (N : Nat) (E : Env) (a : Act) (W : World) : Prop where
 bel : Near w0 W
 new : ∀ g, some g ∈ β -> some g ∈ w0.own \/ w0.w.heap.size <= g
 old : ∀ g ∈ L, g < W.heap.size /\ some g ∉ β
 inc : (∀ g ∈ w0.lock, g ∈ L) /\ ∀ g, some g ∈ w0.own -> Fb β L g
 pre : β.take w0.stay = w0.own.take w0.stay /\ w0.stay <= β.length
 bx : Bx β L W σ
 ev : Ev β L W N E a
 nod : Nod w0 L a W
 gho : ∀ q ∈ w0.gh, refOk w0.stay q.1 = true /\ R β L W q.1 q.2
 lim : ∀ g ∈ L, g ∈ w0.lock \/ some g ∈ w0.own \/ w0.w.heap.size <= g
 glo : ∀ q ∈ ghosts, q ∈ w0.gh
theorem Inv.gl {w0 : W0} {L : List Nat} {β : List (Option Nat)} {σ : Sig} {N : Nat} {E : Env} {a : Act} {W : World} (h : Inv w0 L β σ N E a W) : Gl (bs β ++ L) W := fun q hq => R.bare _ _ (ghosts_bare q hq) (h.gho q (h.glo q hq)).2
theorem Gl.sub {L L' : List Nat} {W : World} (h : Gl L W) (hF : ∀ g ∈ L', g ∈ L) : Gl L' W := fun q hq => R.old (ghosts_bare q hq) (fun g hg => hg.imp (fun h => by simp at h) (hF g)) (h q hq)
theorem Gl.ren {β γ : List (Option Nat)} {L L' : List Nat} {W : World} (h : Gl (bs β ++ L) W) (hF : ∀ g, Fb γ L' g -> Fb β L g) : Gl (bs γ ++ L') W := h.sub fun g hg => by
 rw [List.mem_append, mem_bs] at hg ⊢
 exact hF g hg
mutual
theorem refOk_bare {s : Nat} : ∀ {p : PV}, noRef p = true -> refOk s p = true
 | .agg cs, h => by rw [refOk]; rw [noRef] at h; exact refOks_bare h
 | .tup cs, h => by rw [refOk]; rw [noRef] at h; exact refOks_bare h
 | .fn _ cs, h => by rw [refOk]; rw [noRef] at h; exact refOks_bare h
 | .any, _ => rfl
 | .v _, _ => rfl
 | .sb _, _ => rfl
 | .sl _ _ _, _ => rfl
 | .ptr _, _ => rfl
 | .abs _, _ => rfl
 | .o _, _ => rfl
 | .fm _ _, _ => rfl
 | .ref _ _, h => by cases h
 | .os _ _ _ _, h => by cases h
 | .rr _ _ _ _, h => by cases h
 | .mr _, h => by cases h
 | .bm _ _, h => by cases h
 | .mp _ _, h => by cases h
 | .rws _ _ _, h => by cases h
 | .mps _ _, h => by cases h
 | .rwf _ _ _ _ _, h => by cases h
 | .dd, h => by cases h
theorem refOks_bare {s : Nat} : ∀ {ps : List PV}, noRef.noRefs ps = true -> refOk.refOks s ps = true
 | [], _ => rfl
 | p :: ps, h => by
  rw [noRef.noRefs, Bool.and_eq_true] at h
  rw [refOk.refOks, Bool.and_eq_true]
  exact ⟨refOk_bare h.1, refOks_bare h.2⟩
end
theorem Gl.gho {β : List (Option Nat)} {L : List Nat} {W : World} {s : Nat} (h : Gl (bs β ++ L) W) : ∀ q ∈ ghosts, refOk s q.1 = true /\ R β L W q.1 q.2 := fun q hq => ⟨refOk_bare (ghosts_bare q hq), R.own (h q hq)⟩
theorem Inv.dis {w0 : W0} {L : List Nat} {β : List (Option Nat)} {σ : Sig} {N : Nat} {E : Env} {a : Act} {W : World} (h : Inv w0 L β σ N E a W) : ∀ g, some g ∈ β -> g ∉ L := fun g hg hl => (h.old g hl).2 hg
theorem Inv.oldW {w0 : W0} {L : List Nat} {β : List (Option Nat)} {σ : Sig} {N : Nat} {E : Env} {a : Act} {W : World} (h : Inv w0 L β σ N E a W) : ∀ g ∈ L, g < W.heap.size := fun g hg => (h.old g hg).1
def putE (E : Env) (d : Option Tmp) (p : PV) : Env :=
 match d with
 | some t => (t, p) :: E
 | none => E
def fitsD (N : Nat) : Option Tmp -> Bool
 | some t => decide (t < N)
 | none => true
section
variable {w0 : W0} {W W' : World} {L : List Nat} {β γ : List (Option Nat)} {σ : Sig} {N : Nat} {E : Env} {a : Act} {P : Program}
theorem Ev.put {d : Option Tmp} {p : PV} {u : Value} (h : Ev β L W N E a) (hp : R β L W p u) (hd : fitsD N d = true) : Ev β L W N (putE E d p) (a.put d u) := by
 cases d with
 | none => exact h
 | some t =>
  have ht : t < N := by simpa [fitsD] using hd
  refine ⟨by simp [Act.put, h.1], fun s => ?_⟩
  simp only [putE, lk, Act.put]
  by_cases e : t = s
  ·subst e
   rw [if_pos rfl]
   have : (a.tmps.setIfInBounds t u).getD t undef = u := by
    rw [Array.getD_eq_getD_getElem?, Array.getElem?_setIfInBounds]
    simp [h.1, ht]
   rw [this]; exact hp
  ·rw [if_neg e]
   have : (a.tmps.setIfInBounds t u).getD s undef = a.tmps.getD s undef := by
    rw [Array.getD_eq_getD_getElem?, Array.getD_eq_getD_getElem?, Array.getElem?_setIfInBounds, if_neg e]
   rw [this]; exact h.2 s
theorem Ev.move (h : Ev β L W N E a) (hs : W.heap.size <= W'.heap.size) (hk : ∀ k, ¬ Fb β L k -> k < W.heap.size -> W'.heap[k]? = W.heap[k]?)
  (hβ : ∀ (i : Nat) (x : Option Nat), β[i]? = some x -> γ[i]? = some x /\ ∀ g, x = some g -> W'.shape? g = W.shape? g) (hF : ∀ g, Fb γ L g -> Fb β L g \/ W.heap.size <= g) : Ev γ L W' N E a :=
 ⟨h.1, fun t => R.move hs _ _ _ _ _ _ hk hβ hF (h.2 t)⟩
theorem Inv.below (h : Inv w0 L β σ N E a W) (hb : Below W.heap.size W W') : Inv w0 L β σ N E a W' := by
 have hs := hb.size
 have hk : ∀ k, ¬ Fb β L k -> k < W.heap.size -> W'.heap[k]? = W.heap[k]? := fun k _ hk => hb.block k hk
 have hlt : ∀ i g : Nat, β[i]? = some (some g) -> g < W.heap.size := fun i g hg => h.bx.2.2.1 g (List.mem_of_getElem? hg)
 have hβ : ∀ (i : Nat) (x : Option Nat), β[i]? = some x -> β[i]? = some x /\ ∀ g, x = some g -> W'.shape? g = W.shape? g := fun i x hx => ⟨hx, fun g e => shape_eq (hb.block g (hlt i g (by rw [hx, e])))⟩
 refine ⟨h.bel.below hb, h.new, fun g hg => ⟨Nat.lt_of_lt_of_le (h.old g hg).1 hs, (h.old g hg).2⟩, h.inc, h.pre, ⟨h.bx.1, h.bx.2.1, fun g hg => Nat.lt_of_lt_of_le (h.bx.2.2.1 g hg) hs, fun i cs hi => ?_⟩, h.ev.move hs hk hβ (fun _ h => .inl h), h.nod.keep (fun _ h => h) fun g hg => hb.block g (h.old g hg).1, fun q hq => ⟨(h.gho q hq).1, R.move hs _ _ _ _ _ _ hk hβ (fun _ h => .inl h) (h.gho q hq).2⟩, h.lim, h.glo⟩
 obtain ⟨x, hg, hh⟩ := h.bx.2.2.2 i cs hi
 exact ⟨x, hg, hh.move hs (fun g e => hb.block g (hlt i g (by rw [hg, e]))) hk hβ (fun _ h => .inl h)⟩
theorem Inv.add (h : Inv w0 L β σ N E a W) {cs : List PV} {o : Obj} (hn : (∀ ps vs, Rs β L W ps vs -> Rs (β ++ [some W.heap.size]) L (W.alloc o) ps vs) -> Hold (β ++ [some W.heap.size]) L (W.alloc o) W.heap.size cs) :
  Inv w0 L (β ++ [some W.heap.size]) (σ ++ [cs]) N E a (W.alloc o) := by
 have hb : Below W.heap.size W (W.alloc o) := (Below.refl _ _).alloc (Nat.le_refl _) _
 have hs := hb.size
 have hk : ∀ k, ¬ Fb β L k -> k < W.heap.size -> (W.alloc o).heap[k]? = W.heap[k]? := fun k _ hk => hb.block k hk
 have hlt : ∀ i g : Nat, β[i]? = some (some g) -> g < W.heap.size := fun i g hg => h.bx.2.2.1 g (List.mem_of_getElem? hg)
 have happ : ∀ (i : Nat) (x : Option Nat), β[i]? = some x -> (β ++ [some W.heap.size])[i]? = some x := fun i x hg => by
  rw [List.getElem?_append_left (List.getElem?_eq_some_iff.1 hg).1]; exact hg
 have hβ : ∀ (i : Nat) (x : Option Nat), β[i]? = some x -> (β ++ [some W.heap.size])[i]? = some x /\ ∀ g, x = some g -> (W.alloc o).shape? g = W.shape? g := fun i x hg => ⟨happ i x hg, fun g e => shape_eq (hb.block g (hlt i g (by rw [hg, e])))⟩
 have hF : ∀ g, Fb (β ++ [some W.heap.size]) L g -> Fb β L g \/ W.heap.size <= g := fun g hg => by
  rcases hg with hg | hg
  ·rcases List.mem_append.1 hg with hg | hg
   ·exact .inl (.inl hg)
   ·simp at hg; subst hg; exact .inr (Nat.le_refl _)
  ·exact .inl (.inr hg)
 have hback : ∀ (i g : Nat) (ds : List PV), (β ++ [some W.heap.size])[i]? = some (some g) -> (σ ++ [cs])[i]? = some ds -> (β[i]? = some (some g) /\ σ[i]? = some ds) \/ (i = σ.length /\ g = W.heap.size /\ ds = cs) := fun i g ds hg hd => by
  by_cases hil : i < σ.length
  ·rw [List.getElem?_append_left hil] at hd
   rw [List.getElem?_append_left (by rw [h.bx.1]; exact hil)] at hg
   exact .inl ⟨hg, hd⟩
  ·have hi0 : i = σ.length := by
    have := (List.getElem?_eq_some_iff.1 hd).1
    simp at this; omega
   subst hi0
   rw [<- h.bx.1] at hg
   simp at hg hd
   exact .inr ⟨rfl, hg.symm, hd.symm⟩
 refine ⟨h.bel.below hb, fun g hg => ?_, fun g hg => ⟨Nat.lt_of_lt_of_le (h.old g hg).1 hs, fun hm => ?_⟩, ⟨h.inc.1, fun g hg => (h.inc.2 g hg).imp (fun h => List.mem_append_left _ h) id⟩, ⟨by rw [List.take_append_of_le_length h.pre.2]; exact h.pre.1, by simp; have := h.pre.2; omega⟩, ⟨by simp [h.bx.1], fun i j g c d hi hj hc hd lc ld => ?_, fun g hg => ?_, fun i ds hi => ?_⟩, h.ev.move hs hk hβ hF, h.nod.keep (fun _ h => h) fun g hg => hb.block g (h.old g hg).1, fun q hq => ⟨(h.gho q hq).1, R.move hs _ _ _ _ _ _ hk hβ hF (h.gho q hq).2⟩, h.lim, h.glo⟩
 ·rcases List.mem_append.1 hg with hg | hg
  ·exact h.new g hg
  ·simp at hg; subst hg; exact .inr h.bel.size
 ·rcases List.mem_append.1 hm with hm | hm
  ·exact (h.old g hg).2 hm
  ·simp at hm; have := (h.old g hg).1; omega
 ·rcases hback i g c hi hc with ⟨hi, hc⟩ | ⟨hi, hg, hc⟩
  ·rcases hback j g d hj hd with ⟨hj, hd⟩ | ⟨hj, hg, hd⟩
   ·exact h.bx.2.1 i j g c d hi hj hc hd lc ld
   ·have := hlt i g hi; omega
  ·rcases hback j g d hj hd with ⟨hj, hd⟩ | ⟨hj, hg', hd⟩
   ·have := hlt j g hj; omega
   ·rw [hi, hj]
 ·rcases List.mem_append.1 hg with hg | hg
  ·exact Nat.lt_of_lt_of_le (h.bx.2.2.1 g hg) hs
  ·simp at hg; subst hg; simp
 ·by_cases hil : i < σ.length
  ·rw [List.getElem?_append_left hil] at hi
   obtain ⟨x, hg, hh⟩ := h.bx.2.2.2 i ds hi
   exact ⟨x, happ i x hg, hh.move hs (fun g e => hb.block g (hlt i g (by rw [hg, e]))) hk hβ hF⟩
  ·have hi0 : i = σ.length := by
    have := (List.getElem?_eq_some_iff.1 hi).1
    simp at this; omega
   subst hi0
   simp at hi
   subst hi
   exact ⟨some W.heap.size, by rw [<- h.bx.1]; simp, hn fun ps vs hr => Rs.move hs _ _ _ _ _ _ hk hβ hF hr⟩
theorem Inv.alloc (h : Inv w0 L β σ N E a W) {cs : List PV} {us : List Value} {t : TypeId} (h1 : ∀ x ∈ us, x.oneCell' = true) (h2 : Rs β L W cs us) :
  Inv w0 L (β ++ [some W.heap.size]) (σ ++ [cs]) N E a (W.alloc (.cells us.toArray t)) :=
 h.add fun mv => .cells _ t us (heap_alloc_new W _) h1 (mv _ _ h2)
theorem Inv.write (h : Inv w0 L β σ N E a W) {i g : Nat} {cs ds : List PV} (hi : σ[i]? = some ds) (hdd : isDd ds = false) (hg : β[i]? = some (some g))
  (hs : W'.heap.size = W.heap.size) (ho : ∀ k, k ≠ g -> W'.heap[k]? = W.heap[k]?) (hsh : W'.shape? g = W.shape? g) (hos : W'.os = W.os) (htp : W'.tape = W.tape) (hout : W'.output = W.output)
  (hn : (∀ ps vs, Rs β L W ps vs -> Rs β L W' ps vs) -> Hold β L W' g cs) : Inv w0 L β (σ.set i cs) N E a W' := by
 have hgm : some g ∈ β := List.mem_of_getElem? hg
 have hil : i < σ.length := (List.getElem?_eq_some_iff.1 hi).1
 have hk : ∀ k, ¬ Fb β L k -> k < W.heap.size -> W'.heap[k]? = W.heap[k]? := fun k hk _ => ho k (fun e => hk (.inl (by subst e; exact hgm)))
 have hle : W.heap.size <= W'.heap.size := by omega
 have hβ : ∀ (i : Nat) (x : Option Nat), β[i]? = some x -> β[i]? = some x /\ ∀ g, x = some g -> W'.shape? g = W.shape? g := fun i x hx => ⟨hx, fun g' _ => by
  by_cases e : g' = g
  ·subst e; exact hsh
  ·exact shape_eq (ho g' e)⟩
 have mv : ∀ (ps : List PV) (vs : List Value), Rs β L W ps vs -> Rs β L W' ps vs := fun ps vs h => Rs.move hle _ _ _ _ _ _ hk hβ (fun _ h => .inl h) h
 refine ⟨?_, h.new, fun g hg => by rw [hs]; exact h.old g hg, h.inc, h.pre, ⟨by simp [h.bx.1], fun x y g' c d hx hy hc hd lc ld => ?_, fun x hx => by rw [hs]; exact h.bx.2.2.1 x hx, fun j es hj => ?_⟩, h.ev.move hle hk hβ (fun _ h => .inl h), h.nod.keep (fun _ h => h) fun x hx => ho x (fun e => (h.old x hx).2 (by subst e; exact hgm)), fun q hq => ⟨(h.gho q hq).1, R.move hle _ _ _ _ _ _ hk hβ (fun _ h => .inl h) (h.gho q hq).2⟩, h.lim, h.glo⟩
 ·refine ⟨hos.trans h.bel.os, htp.trans h.bel.tape, hout.trans h.bel.output, by rw [hs]; exact h.bel.size, fun k hk hno => ?_, fun k hk => ?_⟩
  case refine_2 =>
   refine Eq.trans ?_ (h.bel.shape k hk)
   by_cases e : k = g
   ·subst e; exact hsh
   ·exact shape_eq (ho k e)
  refine (ho k fun e => ?_).trans (h.bel.block k hk hno)
  subst e
  rcases h.new k hgm with h | h
  ·exact hno h
  ·omega
 ·have old : ∀ (z : Nat) (c : List PV), (σ.set i cs)[z]? = some c -> isDd c = false -> ∃ c', σ[z]? = some c' /\ isDd c' = false := fun z c hz lz => by
   by_cases e : z = i
   ·subst e; exact ⟨ds, hi, hdd⟩
   ·rw [List.getElem?_set_ne (Ne.symm e)] at hz; exact ⟨c, hz, lz⟩
  obtain ⟨c', hc', lc'⟩ := old x c hc lc
  obtain ⟨d', hd', ld'⟩ := old y d hd ld
  exact h.bx.2.1 x y g' c' d' hx hy hc' hd' lc' ld'
 ·by_cases e : j = i
  ·subst e
   rw [List.getElem?_set_self hil] at hj
   cases hj
   exact ⟨some g, hg, hn mv⟩
  ·rw [List.getElem?_set_ne (Ne.symm e)] at hj
   obtain ⟨x, hg', hh⟩ := h.bx.2.2.2 j es hj
   refine ⟨x, hg', ?_⟩
   cases hed : isDd es with
   | true => exact hh.dead hed
   | false =>
    refine hh.move hle (fun g' ex => ho g' fun eg => ?_) hk hβ (fun _ h => .inl h)
    subst eg; subst ex
    exact e (h.bx.2.1 j i g' es ds hg' hg hj hi hed hdd)
end
theorem storeCells_run {P : Program} {g off : Nat} {t : TypeId} : ∀ (vs : List Value) (i : Nat) (us : List Value) (W : World), W.heap[g]? = some (.cells us.toArray t (0, 0)) -> off + i + vs.length <= us.length -> (∀ x ∈ vs, x.oneCell' = true) ->
  ∃ W', (storeCells ⟨g, off, none⟩ vs i).run P W = .ok () W' /\ W'.heap.size = W.heap.size /\ (∀ k, k ≠ g -> W'.heap[k]? = W.heap[k]?) /\
   W'.heap[g]? = some (.cells (us.take (off + i) ++ (vs ++ us.drop (off + i + vs.length))).toArray t (0, 0)) /\ W'.os = W.os /\ W'.tape = W.tape /\ W'.output = W.output
 | [], i, us, W, hh, hl, h1 => ⟨W, rfl, rfl, fun _ _ => rfl, by simpa using hh, rfl, rfl, rfl⟩
 | v :: vs, i, us, W, hh, hl, h1 => by
  simp only [List.length_cons] at hl
  have hc : W.cell? ⟨g, off + i, none⟩ = some (us[off + i]'(by omega)) := by
   simp only [World.cell?, hh]
   simp
  have hf : W.frozen? ⟨g, off + i, none⟩ = false := by
   simp only [World.frozen?, hh]
   simp
  have hset : (W.setCell ⟨g, off + i, none⟩ v).heap[g]? = some (.cells (us.set (off + i) v).toArray t (0, 0)) := by
   simp [World.setCell, Array.getElem?_modify, hh]
  obtain ⟨W', hr, hs, ho, hn, e1, e2, e3⟩ := storeCells_run (P := P) (g := g) (off := off) vs (i + 1) (us.set (off + i) v) (W.setCell ⟨g, off + i, none⟩ v) hset (by simp; omega) (fun x hx => h1 x (List.mem_cons_of_mem _ hx))
  refine ⟨W', ?_, hs.trans (by simp), fun k hk => (ho k hk).trans (Below.heap_setCell W ⟨g, off + i, none⟩ v k hk), ?_, e1.trans rfl, e2.trans rfl, e3.trans rfl⟩
  ·unfold storeCells
   simp only [Sem.run_bind, add_addr, run_store P W _ v _ (h1 v (List.mem_cons_self ..)), hc, hf, Bool.false_eq_true, if_false, Result.andThen_ok]
   exact hr
  ·rw [hn]
   congr 3
   have q1 : (us.set (off + i) v).take (off + (i + 1)) = us.take (off + i) ++ [v] := by
    rw [show off + (i + 1) = off + i + 1 by omega]
    rw [List.take_set, List.take_succ_eq_append_getElem (by omega), List.set_append_right _ _ (by simp; omega)]
    simp [Nat.min_eq_left (show off + i <= us.length by omega)]
   have q2 : (us.set (off + i) v).drop (off + (i + 1) + vs.length) = us.drop (off + i + (vs.length + 1)) := by
    rw [List.drop_set_of_lt (by omega)]
    congr 1; omega
   simp only [q1, q2, List.length_cons]
   simp
def opB (P : Program) (E : Env) : Op -> Option PV
 | .buildSlice t len parts =>
  match P.underlying t with
  | some (.slice e) =>
   match zeroP P e, szP P e with
   | some zs, some n =>
    if zs.length = n /\ 0 < n /\ len * n <= 16777216 /\ 0 < len then
     (fillP (fun i => some (i * n, n)) ((List.replicate len (zs.map PV.v)).flatten) (parts.toList.map fun q => (q.1, evA E q.2))).bind fun ds => if noRef.noRefs ds then some (.sl n len (fun j => (ds.drop (j * n)).take n)) else none
    else none
   | _, _ => none
  | _ => none
 | _ => none
def opS0 (P : Program) (E : Env) (σ : Sig) : Op -> Option (PV × Sig)
 | .box _ x => (cellsP (evA E x)).map fun cs => (.ref σ.length 0, σ ++ [cs])
 | .alloc t => (zeroP P t).map fun zs => (.ref σ.length 0, σ ++ [zs.map PV.v])
 | .store t a x =>
  match evA E a, cellsP (evA E x) with
  | .ref i off, some ds =>
   match σ[i]? with
   | some cs => if isCells cs = true /\ szP P t = some ds.length /\ off + ds.length <= cs.length then some (.any, σ.set i (cs.take off ++ (ds ++ cs.drop (off + ds.length)))) else none
   | none => none
  | _, _ => none
 | .buildSlice t len parts => (opB P E (.buildSlice t len parts)).map fun p => (p, σ)
 | _ => none
theorem flat_zero (zs : List Value) (n : Nat) (hz : zs.length = n) (hn : 0 < n) : ∀ len, ((Array.range (len * n)).map (zs.toArray[· % zs.toArray.size]!)) = ((List.replicate len zs).flatten).toArray := by
 intro len
 apply Array.ext'
 simp only [Array.toList_map, Array.toList_range]
 induction len with
 | zero => simp
 | succ m ih =>
  rw [Nat.succ_mul, List.range_add, List.map_append, ih, List.replicate_succ', List.flatten_append]
  congr 1
  simp only [List.flatten_cons, List.flatten_nil, List.append_nil, List.map_map]
  apply List.ext_getElem
  ·simp [hz]
  ·intro i h1 h2
   simp only [List.length_map, List.length_range] at h1
   simp only [List.getElem_map, List.getElem_range, Function.comp_apply, List.size_toArray, hz]
   have : (m * n + i) % n = i := by rw [Nat.mul_add_mod_self_right, Nat.mod_eq_of_lt h1]
   rw [this]
   simp [getElem!_def, hz, h1]
theorem fillP_len {pl : Nat -> Option (Nat × Nat)} : ∀ (parts : List (Nat × PV)) (cs ds : List PV), fillP pl cs parts = some ds -> ds.length = cs.length
 | [], cs, ds, h => by simp [fillP] at h; subst h; rfl
 | (i, p) :: parts, cs, ds, h => by
  unfold fillP at h
  split at h
  ·split at h
   ·rename_i hc
    rw [fillP_len parts _ _ h]
    simp only [List.length_append, List.length_take, List.length_drop]
    omega
   ·cases h
  ·cases h
section
variable {w0 : W0} {W : World} {L : List Nat} {β : List (Option Nat)} {σ σ' : Sig} {N : Nat} {E : Env} {a : Act} {P : Program}
theorem opS0_run {o : Oper} {p : PV} (hI : Inv w0 L β σ N E a W) (hd : fitsD N o.dst = true) (h : opS0 P E σ o.op = some (p, σ')) (hst : o.dst = none \/ ∀ t x y, o.op ≠ .store t x y) (K : Act -> World -> Prop) (Q : Exit -> Act -> World -> Prop)
  (hK : ∀ γ u W', Inv w0 L γ σ' N (putE E o.dst p) (a.put o.dst u) W' -> K (a.put o.dst u) W') : Oper.wp P o a W K Q := by
 unfold Oper.wp
 unfold opS0 at h
 split at h
 ·rename_i t x e
  cases hc : cellsP (evA E x) with
  | none => rw [hc] at h; cases h
  | some cs =>
   rw [hc] at h
   cases h
   obtain ⟨us, e1, h1, h2⟩ := cells_R hc (evA_R hI.ev x)
   have hi := hI.alloc (t := t) h1 h2
   have hrun : (execOp a.eval o).run P W = .ok (.value (.pointer (some ⟨W.heap.size, 0, none⟩))) (W.alloc (.cells us.toArray t)) := by
    unfold execOp
    rw [e]
    simp [Instr.box, newVar, newRow, newObj, Sem.run_bind, Sem.run, Sem.run_pure, e1]
   rw [hrun]
   exact hK _ _ _ { hi with ev := hi.ev.put (by rw [R]; exact ⟨W.heap.size, by rw [<- hI.bx.1]; simp, rfl⟩) hd, nod := hi.nod.put _ _ }
 ·rename_i t e
  cases hc : zeroP P t with
  | none => rw [hc] at h; cases h
  | some zs =>
   rw [hc] at h
   cases h
   obtain ⟨z, hz, hzc, h1⟩ := zero_run hc W
   have hi := hI.alloc (t := t) h1 (plain_Rs (β := β) (L := L) (W := W) zs)
   have hrun : (execOp a.eval o).run P W = .ok (.value (.pointer (some ⟨W.heap.size, 0, none⟩))) (W.alloc (.cells zs.toArray t)) := by
    unfold execOp
    rw [e]
    simp [Instr.alloc, newVar, newRow, newObj, Sem.run_bind, Sem.run, Sem.run_pure, hz, hzc]
   rw [hrun]
   exact hK _ _ _ { hi with ev := hi.ev.put (by rw [R]; exact ⟨W.heap.size, by rw [<- hI.bx.1]; simp, rfl⟩) hd, nod := hi.nod.put _ _ }
 ·rename_i t x y e
  split at h
  ·rename_i i off ds ha hc
   split at h
   ·rename_i cs hs
    split at h
    ·rename_i hcond
     cases h
     obtain ⟨us, e1, h1, h2⟩ := cells_R hc (evA_R hI.ev y)
     have hx := evA_R hI.ev x
     rw [ha, R] at hx
     obtain ⟨g, hg, ex⟩ := hx
     obtain ⟨g', t', vs, hg', hh, q1, q2⟩ := hI.bx.cells hs hcond.1
     have : g' = g := by rw [hg] at hg'; exact (Option.some.inj (Option.some.inj hg')).symm
     subst this
     have hul : us.length = ds.length := h2.length
     have hvl : vs.length = cs.length := q2.length
     obtain ⟨W', hr, hsz, ho, hn, o1, o2, o3⟩ := storeCells_run (P := P) (g := g') (off := off) us 0 vs W hh (by omega) h1
     simp only [Nat.add_zero] at hn
     have hi := hI.write (cs := cs.take off ++ (ds ++ cs.drop (off + ds.length))) hs (isDd_cells hcond.1) hg hsz ho (by simp only [World.shape?, hn, hh]; simp; omega) o1 o2 o3
      (fun mv => .cells _ t' _ hn (fun z hz => by
       simp only [List.mem_append] at hz
       rcases hz with hz | hz | hz
       ·exact q1 z (List.mem_of_mem_take hz)
       ·exact h1 z hz
       ·exact q1 z (List.mem_of_mem_drop hz))
      (mv _ _ ((q2.take off).append (h2.append (by rw [hul]; exact q2.drop _)))))
     have hrun : (execOp a.eval o).run P W = .ok .skip W' := by
      unfold execOp
      rw [e]
      simp only [Instr.storeAt, ex, Instr.sureAddr, storeVar, Sem.run_bind, Sem.run_pure, Result.andThen_ok, sizeOf_run' hcond.2.1, e1, List.size_toArray, hul, ne_eq, not_true_eq_false, if_false, hr]
     rw [hrun]
     rcases hst with hst | hst
     ·have hk := hK β undef W'
      rw [hst] at hk
      show K (a.put o.dst undef) W'
      rw [hst]
      exact hk hi
     ·exact absurd e (hst t x y)
    ·cases h
   ·cases h
  ·cases h
 ·rename_i t len parts e
  cases hbb : opB P E (.buildSlice t len parts) with
  | none => rw [hbb] at h; cases h
  | some r =>
  rw [hbb] at h
  cases h
  have h := hbb
  unfold opB at h
  simp only at h
  split at h
  ·rename_i el hu
   split at h
   ·rename_i zs n hz hn
    split at h
    ·rename_i hcond
     obtain ⟨hzl, hn0, hlim, _⟩ := hcond
     cases hf : fillP (fun i => some (i * n, n)) ((List.replicate len (zs.map PV.v)).flatten) (parts.toList.map fun q => (q.1, evA E q.2)) with
     | none => rw [hf] at h; cases h
     | some ds =>
      rw [hf] at h
      simp only [Option.bind_some] at h
      split at h
      case isFalse => cases h
      rename_i hnr
      cases h
      obtain ⟨z, hzr, hzc, hz1⟩ := zero_run hz W
      have hflat : Rs β L W ((List.replicate len (zs.map PV.v)).flatten) ((List.replicate len zs).flatten) := by
       have : (List.replicate len (zs.map PV.v)).flatten = ((List.replicate len zs).flatten).map PV.v := by
        rw [List.map_flatten, List.map_replicate]
       rw [this]; exact plain_Rs _
      obtain ⟨ws, hw, hw1, hw2⟩ := fill_run _ (parts.toList.map fun q => (q.1, a.eval q.2)) _ ds _ hf (by simp) (parts_get hI.ev parts.toList) (fun x hx => by
       simp only [List.mem_flatten, List.mem_replicate] at hx
       obtain ⟨l, ⟨_, rfl⟩, hx⟩ := hx
       exact hz1 x hx) hflat
      have hwl : ws.length = ds.length := hw2.length
      have hb : Below W.heap.size W (W.alloc (.cells ws.toArray el)) := (Below.refl _ _).alloc (Nat.le_refl _) _
      have hi := hI.below hb
      have hdl : ds.length = len * n := by rw [fillP_len _ _ _ hf]; simp [hzl]
      have hrun : (execOp a.eval o).run P W = .ok (.value (.slice (some ⟨W.heap.size, 0, none⟩) len len)) (W.alloc (.cells ws.toArray el)) := by
       have hparts : parts.map (fun q => (q.1, a.eval q.2)) = (parts.toList.map fun q => (q.1, a.eval q.2)).toArray := by apply Array.ext'; simp
       have hbs : (Instr.buildSlice t len ((parts.toList.map fun q => (q.1, a.eval q.2)).toArray)).run P W = .ok (.slice (some ⟨W.heap.size, 0, none⟩) len len) (W.alloc (.cells ws.toArray el)) := by
        unfold Instr.buildSlice
        simp only [Sem.run_bind, underlying_run hu, Result.andThen_ok, sizeOf_run' hn]
        rw [if_neg (by omega)]
        by_cases h0 : len * n = 0
        ·have hl0 : len = 0 := by rcases Nat.mul_eq_zero.1 h0 with h | h <;> omega
         subst hl0
         rw [if_pos h0]
         have hw' : Instr.fill (fun i => some (i * n, n)) (Array.map (fun x => (#[] : Array Value)[x % (#[] : Array Value).size]!) (Array.range (0 * n))) (parts.toList.map fun q => (q.1, a.eval q.2)) = some ws.toArray := by rw [<- hw]; congr 1; rw [Nat.zero_mul]; apply Array.ext'; simp [Array.toList_range]
         simp only [Sem.run_bind, Sem.run_pure, Result.andThen_ok, hw']
         simp [newRow, newObj, Sem.run_bind, Sem.run, Sem.run_pure]
        ·rw [if_neg h0]
         simp only [Sem.run_bind, hzr, Result.andThen_ok, Sem.run_pure, hzc, flat_zero zs n hzl hn0 len, hw]
         simp [newRow, newObj, Sem.run_bind, Sem.run, Sem.run_pure]
       unfold execOp
       rw [e]
       simp only [hparts, Sem.run_bind, hbs, Result.andThen_ok, Sem.run_pure]
      rw [hrun]
      refine hK _ _ _ { hi with ev := hi.ev.put ?_ hd, nod := hi.nod.put _ _ }
      rw [R]
      refine ⟨_, _, rfl, Nat.le_refl _, by have := Nat.le_mul_of_pos_right len hn0; omega, fun hlen => ⟨W.heap.size, 0, rfl, ?_, by simp, fun j hj => ?_⟩⟩
      ·rintro (hm | hm)
       ·have := hI.bx.2.2.1 _ hm; omega
       ·have := hI.oldW _ hm; omega
      ·refine ⟨(ws.drop (j * n)).take n, ?_, fun x hx => hw1 x (List.mem_of_mem_drop (List.mem_of_mem_take hx)), ?_, fun i x hx => ?_⟩
       ·rw [List.length_take, List.length_drop, hwl, hdl]
        have : j * n + n <= len * n := by rw [<- Nat.succ_mul]; exact Nat.mul_le_mul_right n hj
        omega
       ·exact Rs.move hb.size _ _ _ _ _ _ (fun k _ hk => hb.block k hk) (fun _ _ h => by simp at h) (fun _ h => .inl h) (((Rs.bare ds ws hnr hw2).drop (j * n)).take n)
       ·rw [List.getElem?_take] at hx
        split at hx
        ·rw [List.getElem?_drop] at hx
         have := heap_alloc_new W (.cells ws.toArray el)
         simp only [World.cell?, this]
         simpa using hx
        ·cases hx
    ·cases h
   ·cases h
  ·cases h
 ·cases h
end
end Go.Proofs.YtplpnfjccemdnaaGreatDoor
