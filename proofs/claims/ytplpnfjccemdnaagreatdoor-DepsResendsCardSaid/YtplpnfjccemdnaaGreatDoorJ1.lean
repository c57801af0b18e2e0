import Derived.WalkKit
import Derived.KernelRfl
import Derived.Lib.Hide
import Derived.Below
import Derived.Laws.OwnMore
import Derived.Laws.Sem
import Derived.Deep.Draws
import Derived.IntWalk
set_option linter.unusedVariables false
set_option linter.unusedSimpArgs false
/- The texts V1 V2 V3 of the proof, laid one behind the other. -/
namespace Go.Proofs.YtplpnfjccemdnaaGreatDoor
open Go.RowKit
structure AbsRel where
 rel : (Nat -> Prop) -> World -> Value -> Prop
 move : ∀ {F F' W W' u}, rel F W u -> W.heap.size <= W'.heap.size -> (∀ k, ¬ F k -> k < W.heap.size -> W'.heap[k]? = W.heap[k]?) -> (∀ g, F' g -> F g \/ W.heap.size <= g) -> rel F' W' u
inductive KK where
 | int (k : IntKind)
 | str
 | val
 deriving DecidableEq
inductive Atom where
 | i (n : Int)
 | s (b : List UInt8)
 | t (k n : Int) (b : List UInt8)
 deriving DecidableEq
inductive MF where
 | b (f : Atom -> Option Bool)
 | i (k : IntKind) (f : Atom -> Option Int)
 | v (f : Atom -> Bool)
def keyL : List Value -> Option Atom
 | [.int .i64 k, .int .i64 n, .string s] => some (.t k n s.data.toList)
 | _ => none
def keyAt : KK -> Value -> Option Atom
 | .int k, .int k' n => if k = k' then some (.i n) else none
 | .str, .string s => some (.s s.data.toList)
 | .val, .agg cs => keyL cs.toList
 | _, _ => none
def MF.at : MF -> Atom -> Option Value
 | .b f, a => (f a).map .bool
 | .i k f, a => (f a).map (.int k)
 | .v f, a => if f a then some (.agg #[]) else none
def MapHold (ks : KK) (es : Array MapEntry) (mf : MF) : Prop :=
 (∀ e ∈ es.toList, ∃ a, keyAt ks e.key = some a) /\ ∀ a, mf.at a = (es.toList.find? fun e => keyAt ks e.key == some a).map (·.val)
inductive PV where
 | any
 | v (x : Value)
 | sb (c : Bool)
 | agg (cs : List PV)
 | tup (cs : List PV)
 | sl (k n : Nat) (el : Nat -> List PV)
 | ptr (cs : List PV)
 | ref (i off : Nat)
 | fn (g : Nat) (caps : List PV)
 | abs (S : AbsRel)
 | o (p : PV)
 | os (e : TypeId) (i k n : Nat)
 | rr (i k j c : Nat)
 | mr (i : Nat)
 | bm (g i : Nat)
 | fm (ks : KK) (mf : MF)
 | mp (ks : KK) (mf : MF)
 | rws (k n : Nat) (el : Nat -> List PV)
 | mps (ks : KK) (f : Atom -> List PV)
 | rwf (k n : Nat) (el : Nat -> List PV) (j : Nat) (cs : List PV)
 | dd
def Fb (β : List (Option Nat)) (L : List Nat) (g : Nat) : Prop := some g ∈ β \/ g ∈ L
def bs (β : List (Option Nat)) : List Nat := β.filterMap id
theorem mem_bs {β : List (Option Nat)} {g : Nat} : g ∈ bs β ↔ some g ∈ β := by simp [bs]
mutual
def R (β : List (Option Nat)) (L : List Nat) (W : World) : PV -> Value -> Prop
 | .any, _ => True
 | .v x, u => u = x
 | .sb c, u => u = .bool c
 | .agg cs, u => ∃ us : List Value, u = .agg us.toArray /\ (∀ x ∈ us, x.oneCell' = true) /\ Rs β L W cs us
 | .tup cs, u => ∃ us : List Value, u = .tuple us.toArray /\ Rs β L W cs us
 | .sl k n el, u => ∃ a c, u = .slice a n c /\ n <= c /\ c <= 9223372036854775807 /\ (0 < n -> ∃ b off, a = some ⟨b, off, none⟩ /\ ¬ Fb β L b /\ b < W.heap.size /\
   ∀ j, j < n -> ∃ us : List Value, us.length = k /\ (∀ x ∈ us, x.oneCell' = true) /\ Rs [] (bs β ++ L) W (el j) us /\ ∀ i x, us[i]? = some x -> W.cell? ⟨b, off + j * k + i, none⟩ = some x)
 | .ptr cs, u => ∃ (b off : Nat) (us : List Value), u = .pointer (some ⟨b, off, none⟩) /\ ¬ Fb β L b /\ b < W.heap.size /\ (∀ x ∈ us, x.oneCell' = true) /\ Rs [] (bs β ++ L) W cs us /\ ∀ i x, us[i]? = some x -> W.cell? ⟨b, off + i, none⟩ = some x
 | .ref i off, u => ∃ g, β[i]? = some (some g) /\ u = .pointer (some ⟨g, off, none⟩)
 | .fn g caps, u => ∃ us : List Value, u = .func (.func g) #[] us.toArray /\ Rs β L W caps us
 | .abs S, u => S.rel (Fb β L) W u
 | .o p, u => u.oneCell' = true /\ R [] (bs β ++ L) W p u
 | .os e i k n, u => (∃ g c, β[i]? = some (some g) /\ u = .slice (some ⟨g, 0, none⟩) n c /\ n <= c /\ c <= 9223372036854775807 /\ W.shape? g = some (e, c * k)) \/ (β[i]? = some none /\ n = 0 /\ ∃ a, u = .slice a 0 0)
 | .rr i k j c, u => ∃ g, β[i]? = some (some g) /\ u = .pointer (some ⟨g, j * k + c, none⟩)
 | .mr i, u => ∃ g, β[i]? = some (some g) /\ u = .map (some g)
 | .bm q i, u => ∃ g, β[i]? = some (some g) /\ u = .func (.func q) #[.pointer (some ⟨g, 0, none⟩)] #[]
 | .fm ks mf, u => ∃ g es clock, u = .map (some g) /\ ¬ Fb β L g /\ g < W.heap.size /\ W.heap[g]? = some (.map es clock) /\ MapHold ks es mf
 | .mp _ _, _ => False
 | .rws _ _ _, _ => False
 | .mps _ _, _ => False
 | .rwf _ _ _ _ _, _ => False
 | .dd, _ => False
def Rs (β : List (Option Nat)) (L : List Nat) (W : World) : List PV -> List Value -> Prop
 | [], us => us = []
 | p :: ps, us => ∃ u us', us = u :: us' /\ R β L W p u /\ Rs β L W ps us'
end
theorem cell_blocks {W W' : World} {b o : Nat} {v : Value} (h : W'.heap[b]? = W.heap[b]?) (hc : W.cell? ⟨b, o, none⟩ = some v) : W'.cell? ⟨b, o, none⟩ = some v := by
 simp only [World.cell?, h] at hc ⊢; exact hc
theorem Rs.nil {β : List (Option Nat)} {L : List Nat} {W : World} : Rs β L W [] [] := by rw [Rs]
theorem Rs.cons {β : List (Option Nat)} {L : List Nat} {W : World} {p : PV} {u : Value} {ps : List PV} {us : List Value} (h : R β L W p u) (hs : Rs β L W ps us) : Rs β L W (p :: ps) (u :: us) := by
 rw [Rs]; exact ⟨u, us, rfl, h, hs⟩
theorem Rs.uncons {β : List (Option Nat)} {L : List Nat} {W : World} {p : PV} {ps : List PV} {us : List Value} (h : Rs β L W (p :: ps) us) : ∃ u us', us = u :: us' /\ R β L W p u /\ Rs β L W ps us' := by
 rw [Rs] at h; exact h
theorem Rs.length {β : List (Option Nat)} {L : List Nat} {W : World} : ∀ {ps : List PV} {us : List Value}, Rs β L W ps us -> us.length = ps.length
 | [], us, h => by rw [Rs] at h; subst h; rfl
 | p :: ps, us, h => by
  obtain ⟨u, us', rfl, _, h'⟩ := h.uncons
  simp [Rs.length h']
theorem Rs.get {β : List (Option Nat)} {L : List Nat} {W : World} : ∀ {ps : List PV} {us : List Value}, Rs β L W ps us -> ∀ {i : Nat} {p : PV}, ps[i]? = some p -> ∃ u, us[i]? = some u /\ R β L W p u
 | [], us, h, i, p, hp => by simp at hp
 | q :: ps, us, h, i, p, hp => by
  obtain ⟨u, us', rfl, hu, h'⟩ := h.uncons
  cases i with
  | zero => simp at hp; subst hp; exact ⟨u, rfl, hu⟩
  | succ i => simp at hp; obtain ⟨x, hx, hr⟩ := Rs.get h' hp; exact ⟨x, by simpa using hx, hr⟩
theorem Rs.take {β : List (Option Nat)} {L : List Nat} {W : World} : ∀ (n : Nat) {ps : List PV} {us : List Value}, Rs β L W ps us -> Rs β L W (ps.take n) (us.take n)
 | 0, _, _, _ => Rs.nil
 | n + 1, [], us, h => by rw [Rs] at h; subst h; exact Rs.nil
 | n + 1, p :: ps, us, h => by obtain ⟨u, us', rfl, hu, h'⟩ := h.uncons; exact Rs.cons hu (Rs.take n h')
theorem Rs.drop {β : List (Option Nat)} {L : List Nat} {W : World} : ∀ (n : Nat) {ps : List PV} {us : List Value}, Rs β L W ps us -> Rs β L W (ps.drop n) (us.drop n)
 | 0, _, _, h => h
 | n + 1, [], us, h => by rw [Rs] at h; subst h; exact Rs.nil
 | n + 1, p :: ps, us, h => by obtain ⟨u, us', rfl, hu, h'⟩ := h.uncons; exact Rs.drop n h'
theorem Rs.append {β : List (Option Nat)} {L : List Nat} {W : World} : ∀ {ps : List PV} {us : List Value}, Rs β L W ps us -> ∀ {qs : List PV} {vs : List Value}, Rs β L W qs vs -> Rs β L W (ps ++ qs) (us ++ vs)
 | [], us, h, _, _, h' => by rw [Rs] at h; subst h; exact h'
 | p :: ps, us, h, _, _, h' => by obtain ⟨u, us', rfl, hu, h''⟩ := h.uncons; exact Rs.cons hu (Rs.append h'' h')
theorem fb_app {β : List (Option Nat)} {L : List Nat} {g : Nat} : Fb [] (bs β ++ L) g ↔ Fb β L g := by unfold Fb; simp [mem_bs]
mutual
theorem R.move {W W' : World} (hs : W.heap.size <= W'.heap.size) : ∀ (p : PV) (u : Value) (β : List (Option Nat)) (L : List Nat) (β' : List (Option Nat)) (L' : List Nat), (∀ k, ¬ Fb β L k -> k < W.heap.size -> W'.heap[k]? = W.heap[k]?) ->
  (∀ (i : Nat) (x : Option Nat), β[i]? = some x -> β'[i]? = some x /\ ∀ g, x = some g -> W'.shape? g = W.shape? g) -> (∀ g, Fb β' L' g -> Fb β L g \/ W.heap.size <= g) -> R β L W p u -> R β' L' W' p u
 | .any, _, _, _, _, _, _, _, _, _ => by rw [R]; trivial
 | .v x, u, _, _, _, _, _, _, _, h => by rw [R] at h ⊢; exact h
 | .sb c, u, _, _, _, _, _, _, _, h => by rw [R] at h ⊢; exact h
 | .agg cs, u, β, L, β', L', hk, hβ, hF, h => by
  rw [R] at h ⊢
  obtain ⟨us, e, h1, h2⟩ := h
  exact ⟨us, e, h1, Rs.move hs cs us β L β' L' hk hβ hF h2⟩
 | .tup cs, u, β, L, β', L', hk, hβ, hF, h => by
  rw [R] at h ⊢
  obtain ⟨us, e, h2⟩ := h
  exact ⟨us, e, Rs.move hs cs us β L β' L' hk hβ hF h2⟩
 | .sl k n el, u, β, L, β', L', hk, hβ, hF, h => by
  rw [R] at h ⊢
  obtain ⟨a, c, e, h1, h2, h3⟩ := h
  refine ⟨a, c, e, h1, h2, fun hn => ?_⟩
  obtain ⟨b, off, ea, hb, hlt, hj⟩ := h3 hn
  refine ⟨b, off, ea, fun hm => ?_, Nat.lt_of_lt_of_le hlt hs, fun j hl => ?_⟩
  ·rcases hF b hm with h | h
   ·exact hb h
   ·omega
  ·obtain ⟨us, q1, q2, q3, q4⟩ := hj j hl
   exact ⟨us, q1, q2, Rs.move hs (el j) us [] (bs β ++ L) [] (bs β' ++ L') (fun g hg => hk g (fun h => hg (fb_app.2 h))) (fun _ _ h => by simp at h) (fun g hg => (hF g (fb_app.1 hg)).imp fb_app.2 id) q3, fun i x hx => cell_blocks (hk b hb hlt) (q4 i x hx)⟩
 | .ptr cs, u, β, L, β', L', hk, hβ, hF, h => by
  rw [R] at h ⊢
  obtain ⟨b, off, us, e, hb, hlt, h1, h2, h3⟩ := h
  refine ⟨b, off, us, e, fun hm => ?_, Nat.lt_of_lt_of_le hlt hs, h1, Rs.move hs cs us [] (bs β ++ L) [] (bs β' ++ L') (fun g hg => hk g (fun h => hg (fb_app.2 h))) (fun _ _ h => by simp at h) (fun g hg => (hF g (fb_app.1 hg)).imp fb_app.2 id) h2, fun i x hx => cell_blocks (hk b hb hlt) (h3 i x hx)⟩
  rcases hF b hm with h | h
  ·exact hb h
  ·omega
 | .ref i off, u, β, L, β', L', hk, hβ, hF, h => by
  rw [R] at h ⊢
  obtain ⟨g, hg, e⟩ := h
  exact ⟨g, (hβ i _ hg).1, e⟩
 | .fn g caps, u, β, L, β', L', hk, hβ, hF, h => by
  rw [R] at h ⊢
  obtain ⟨us, e, h2⟩ := h
  exact ⟨us, e, Rs.move hs caps us β L β' L' hk hβ hF h2⟩
 | .abs S, u, β, L, β', L', hk, hβ, hF, h => by
  rw [R] at h ⊢
  exact S.move h hs hk hF
 | .o p, u, β, L, β', L', hk, hβ, hF, h => by
  rw [R] at h ⊢
  exact ⟨h.1, R.move hs p u [] (bs β ++ L) [] (bs β' ++ L') (fun g hg => hk g (fun h => hg (fb_app.2 h))) (fun _ _ h => by simp at h) (fun g hg => (hF g (fb_app.1 hg)).imp fb_app.2 id) h.2⟩
 | .os t i k n, u, β, L, β', L', hk, hβ, hF, h => by
  rw [R] at h ⊢
  rcases h with ⟨g, c, hg, e, h1, h2, h3⟩ | ⟨hg, e⟩
  ·exact .inl ⟨g, c, (hβ i _ hg).1, e, h1, h2, ((hβ i _ hg).2 g rfl).trans h3⟩
  ·exact .inr ⟨(hβ i _ hg).1, e⟩
 | .rr i k j c, u, β, L, β', L', hk, hβ, hF, h => by
  rw [R] at h ⊢
  obtain ⟨g, hg, e⟩ := h
  exact ⟨g, (hβ i _ hg).1, e⟩
 | .mr i, u, β, L, β', L', hk, hβ, hF, h => by
  rw [R] at h ⊢
  obtain ⟨g, hg, e⟩ := h
  exact ⟨g, (hβ i _ hg).1, e⟩
 | .bm q i, u, β, L, β', L', hk, hβ, hF, h => by
  rw [R] at h ⊢
  obtain ⟨g, hg, e⟩ := h
  exact ⟨g, (hβ i _ hg).1, e⟩
 | .fm ks mf, u, β, L, β', L', hk, hβ, hF, h => by
  rw [R] at h ⊢
  obtain ⟨g, es, c, e, hb, hlt, hh, hm⟩ := h
  refine ⟨g, es, c, e, fun hm' => ?_, Nat.lt_of_lt_of_le hlt hs, (hk g hb hlt).trans hh, hm⟩
  rcases hF g hm' with h | h
  ·exact hb h
  ·omega
 | .mp _ _, _, _, _, _, _, _, _, _, h => by rw [R] at h; exact h.elim
 | .rws _ _ _, _, _, _, _, _, _, _, _, h => by rw [R] at h; exact h.elim
 | .mps _ _, _, _, _, _, _, _, _, _, h => by rw [R] at h; exact h.elim
 | .rwf _ _ _ _ _, _, _, _, _, _, _, _, _, h => by rw [R] at h; exact h.elim
 | .dd, _, _, _, _, _, _, _, _, h => by rw [R] at h; exact h.elim
theorem Rs.move {W W' : World} (hs : W.heap.size <= W'.heap.size) : ∀ (ps : List PV) (us : List Value) (β : List (Option Nat)) (L : List Nat) (β' : List (Option Nat)) (L' : List Nat), (∀ k, ¬ Fb β L k -> k < W.heap.size -> W'.heap[k]? = W.heap[k]?) ->
  (∀ (i : Nat) (x : Option Nat), β[i]? = some x -> β'[i]? = some x /\ ∀ g, x = some g -> W'.shape? g = W.shape? g) -> (∀ g, Fb β' L' g -> Fb β L g \/ W.heap.size <= g) -> Rs β L W ps us -> Rs β' L' W' ps us
 | [], us, _, _, _, _, _, _, _, h => by rw [Rs] at h ⊢; exact h
 | p :: ps, us, β, L, β', L', hk, hβ, hF, h => by
  obtain ⟨u, us', rfl, h1, h2⟩ := h.uncons
  exact Rs.cons (R.move hs p u β L β' L' hk hβ hF h1) (Rs.move hs ps us' β L β' L' hk hβ hF h2)
end
def noRef : PV -> Bool
  | .ref _ _ => false
  | .os _ _ _ _ => false
  | .rr _ _ _ _ => false
  | .mr _ => false
  | .bm _ _ => false
  | .mp _ _ => false
  | .rws _ _ _ => false
  | .mps _ _ => false
  | .rwf _ _ _ _ _ => false
  | .dd => false
  | .agg cs => noRefs cs
  | .tup cs => noRefs cs
  | .fn _ cs => noRefs cs
  | _ => true
 where noRefs : List PV -> Bool
  | [] => true
  | p :: ps => noRef p && noRefs ps
def flatP : PV -> Bool
  | .v _ => true
  | .sb _ => true
  | .any => true
  | .agg cs => flats cs
  | .tup cs => flats cs
  | _ => false
 where flats : List PV -> Bool
  | [] => true
  | p :: ps => flatP p && flats ps
section
variable {β : List (Option Nat)} {L : List Nat} {W : World}
theorem R.own {p : PV} {u : Value} (h : R [] (bs β ++ L) W p u) : R β L W p u :=
 R.move (Nat.le_refl _) p u [] (bs β ++ L) β L (fun _ _ _ => rfl) (fun _ _ h => by simp at h) (fun g hg => .inl (fb_app.2 hg)) h
theorem Rs.own {ps : List PV} {us : List Value} (h : Rs [] (bs β ++ L) W ps us) : Rs β L W ps us :=
 Rs.move (Nat.le_refl _) ps us [] (bs β ++ L) β L (fun _ _ _ => rfl) (fun _ _ h => by simp at h) (fun g hg => .inl (fb_app.2 hg)) h
mutual
theorem R.bare : ∀ (p : PV) (u : Value), noRef p = true -> R β L W p u -> R [] (bs β ++ L) W p u
 | .any, _, _, _ => by rw [R]; trivial
 | .v x, u, _, h => by rw [R] at h ⊢; exact h
 | .sb c, u, _, h => by rw [R] at h ⊢; exact h
 | .agg cs, u, hn, h => by
  rw [R] at h ⊢
  obtain ⟨us, e, h1, h2⟩ := h
  exact ⟨us, e, h1, Rs.bare cs us hn h2⟩
 | .tup cs, u, hn, h => by
  rw [R] at h ⊢
  obtain ⟨us, e, h2⟩ := h
  exact ⟨us, e, Rs.bare cs us hn h2⟩
 | .sl k n el, u, _, h => by
  rw [R] at h ⊢
  obtain ⟨a, c, e, h1, h2, h3⟩ := h
  refine ⟨a, c, e, h1, h2, fun hn => ?_⟩
  obtain ⟨b, off, ea, hb, hlt, hj⟩ := h3 hn
  exact ⟨b, off, ea, fun h => hb (fb_app.1 h), hlt, hj⟩
 | .ptr cs, u, _, h => by
  rw [R] at h ⊢
  obtain ⟨b, off, us, e, hb, hlt, h1, h2, h3⟩ := h
  exact ⟨b, off, us, e, fun h => hb (fb_app.1 h), hlt, h1, h2, h3⟩
 | .ref i off, u, hn, _ => by simp [noRef] at hn
 | .os _ i k n, u, hn, _ => by simp [noRef] at hn
 | .rr i k j c, u, hn, _ => by simp [noRef] at hn
 | .mr i, u, hn, _ => by simp [noRef] at hn
 | .bm _ i, u, hn, _ => by simp [noRef] at hn
 | .mp _ _, u, hn, _ => by simp [noRef] at hn
 | .rws _ _ _, u, hn, _ => by simp [noRef] at hn
 | .mps _ _, u, hn, _ => by simp [noRef] at hn
 | .rwf _ _ _ _ _, u, hn, _ => by simp [noRef] at hn
 | .dd, u, hn, _ => by simp [noRef] at hn
 | .fn g caps, u, hn, h => by
  rw [R] at h ⊢
  obtain ⟨us, e, h2⟩ := h
  exact ⟨us, e, Rs.bare caps us hn h2⟩
 | .abs S, u, _, h => by
  rw [R] at h ⊢
  exact S.move h (Nat.le_refl _) (fun _ _ _ => rfl) (fun g hg => .inl (fb_app.1 hg))
 | .o p, u, _, h => by
  rw [R] at h ⊢
  exact h
 | .fm ks mf, u, _, h => by
  rw [R] at h ⊢
  obtain ⟨g, es, c, e, hb, q⟩ := h
  exact ⟨g, es, c, e, fun h => hb (fb_app.1 h), q⟩
theorem Rs.bare : ∀ (ps : List PV) (us : List Value), noRef.noRefs ps = true -> Rs β L W ps us -> Rs [] (bs β ++ L) W ps us
 | [], us, _, h => by rw [Rs] at h ⊢; exact h
 | p :: ps, us, hn, h => by
  obtain ⟨u, us', rfl, h1, h2⟩ := h.uncons
  simp only [noRef.noRefs, Bool.and_eq_true] at hn
  exact Rs.cons (R.bare p u hn.1 h1) (Rs.bare ps us' hn.2 h2)
end
mutual
theorem R.flat {β' : List (Option Nat)} {L' : List Nat} {W' : World} : ∀ (p : PV) (u : Value), flatP p = true -> R β L W p u -> R β' L' W' p u
 | .any, _, _, _ => by rw [R]; trivial
 | .v x, u, _, h => by rw [R] at h ⊢; exact h
 | .sb c, u, _, h => by rw [R] at h ⊢; exact h
 | .agg cs, u, hn, h => by
  rw [R] at h ⊢
  obtain ⟨us, e, h1, h2⟩ := h
  exact ⟨us, e, h1, Rs.flat cs us hn h2⟩
 | .tup cs, u, hn, h => by
  rw [R] at h ⊢
  obtain ⟨us, e, h2⟩ := h
  exact ⟨us, e, Rs.flat cs us hn h2⟩
 | .sl k n el, u, hn, _ => by simp [flatP] at hn
 | .ptr cs, u, hn, _ => by simp [flatP] at hn
 | .ref i off, u, hn, _ => by simp [flatP] at hn
 | .os _ i k n, u, hn, _ => by simp [flatP] at hn
 | .rr i k j c, u, hn, _ => by simp [flatP] at hn
 | .mr i, u, hn, _ => by simp [flatP] at hn
 | .bm _ i, u, hn, _ => by simp [flatP] at hn
 | .fm _ _, u, hn, _ => by simp [flatP] at hn
 | .mp _ _, u, hn, _ => by simp [flatP] at hn
 | .rws _ _ _, u, hn, _ => by simp [flatP] at hn
 | .mps _ _, u, hn, _ => by simp [flatP] at hn
 | .rwf _ _ _ _ _, u, hn, _ => by simp [flatP] at hn
 | .dd, u, hn, _ => by simp [flatP] at hn
 | .fn g caps, u, hn, _ => by simp [flatP] at hn
 | .abs S, u, hn, _ => by simp [flatP] at hn
 | .o p, u, hn, _ => by simp [flatP] at hn
theorem Rs.flat {β' : List (Option Nat)} {L' : List Nat} {W' : World} : ∀ (ps : List PV) (us : List Value), flatP.flats ps = true -> Rs β L W ps us -> Rs β' L' W' ps us
 | [], us, _, h => by rw [Rs] at h ⊢; exact h
 | p :: ps, us, hn, h => by
  obtain ⟨u, us', rfl, h1, h2⟩ := h.uncons
  simp only [flatP.flats, Bool.and_eq_true] at hn
  exact Rs.cons (R.flat p u hn.1 h1) (Rs.flat ps us' hn.2 h2)
end
end
abbrev Env := List (Nat × PV)
abbrev Sig := List (List PV)
def lk : Env -> Nat -> PV
 | [], _ => .any
 | (s, p) :: E, t => if s = t then p else lk E t
def evA (E : Env) : Operand -> PV
 | .tmp t => lk E t
 | .const v => .v v
 | .func f => .fn f []
 | .global _ => .any
def MapS (β : List (Option Nat)) (L : List Nat) (W : World) (ks : KK) (es : Array MapEntry) (f : Atom -> List PV) : Prop :=
 (∀ e ∈ es.toList, ∃ a, keyAt ks e.key = some a) /\ ∀ a, (f a = [] /\ (es.toList.find? fun e => keyAt ks e.key == some a).map (·.val) = none) \/
  ∃ us : List Value, (es.toList.find? fun e => keyAt ks e.key == some a).map (·.val) = some (.agg us.toArray) /\ (∀ x ∈ us, x.oneCell' = true) /\ f a ≠ [] /\ Rs β L W (f a) us
theorem MapS.imp {β β' : List (Option Nat)} {L L' : List Nat} {W W' : World} {ks : KK} {es : Array MapEntry} {f f' : Atom -> List PV} (h : MapS β L W ks es f) (he : ∀ a, f a = [] -> f' a = []) (hn : ∀ a, f a ≠ [] -> f' a ≠ []) (hr : ∀ a us, Rs β L W (f a) us -> Rs β' L' W' (f' a) us) : MapS β' L' W' ks es f' := by
 refine ⟨h.1, fun a => ?_⟩
 rcases h.2 a with ⟨h1, h2⟩ | ⟨us, h1, h2, h3, h4⟩
 ·exact .inl ⟨he a h1, h2⟩
 ·exact .inr ⟨us, h1, h2, hn a h3, hr a us h4⟩
inductive Hold (β : List (Option Nat)) (L : List Nat) (W : World) (g : Nat) : List PV -> Prop where
 | cells (cs : List PV) (t : TypeId) (us : List Value) (hh : W.heap[g]? = some (.cells us.toArray t (0, 0))) (h1 : ∀ x ∈ us, x.oneCell' = true) (h2 : Rs β L W cs us) : Hold β L W g cs
 | rws (k n : Nat) (el : Nat -> List PV) (t : TypeId) (us : List Value) (hh : W.heap[g]? = some (.cells us.toArray t (0, 0))) (h1 : ∀ x ∈ us, x.oneCell' = true) (hl : n * k <= us.length)
   (h2 : ∀ j, j < n -> Rs β L W (el j) ((us.drop (j * k)).take k)) : Hold β L W g [.rws k n el]
 | mp (has : KK) (val : MF) (es : Array MapEntry) (clock : Nat) (hh : W.heap[g]? = some (.map es clock)) (h2 : MapHold has es val) : Hold β L W g [.mp has val]
 | dd : Hold β L W g [.dd]
 | mps (ks : KK) (f : Atom -> List PV) (es : Array MapEntry) (clock : Nat) (hh : W.heap[g]? = some (.map es clock)) (h2 : MapS β L W ks es f) : Hold β L W g [.mps ks f]
 | rwf (k n : Nat) (el : Nat -> List PV) (j : Nat) (cs : List PV) (t : TypeId) (us : List Value) (hh : W.heap[g]? = some (.cells us.toArray t (0, 0))) (h1 : ∀ x ∈ us, x.oneCell' = true) (hl : n * k <= us.length)
   (h2 : ∀ x, x < n -> Rs β L W (if x = j then cs else el x) ((us.drop (x * k)).take k)) : Hold β L W g [.rwf k n el j cs]
def isCells : List PV -> Bool
 | .rws _ _ _ :: _ => false
 | .mp _ _ :: _ => false
 | .dd :: _ => false
 | .mps _ _ :: _ => false
 | .rwf _ _ _ _ _ :: _ => false
 | _ => true
def isDd : List PV -> Bool
 | .dd :: _ => true
 | _ => false
theorem isDd_cells {cs : List PV} (h : isCells cs = true) : isDd cs = false := by
 unfold isDd; split
 ·simp [isCells] at h
 ·rfl
theorem Hold.out {β : List (Option Nat)} {L : List Nat} {W : World} {g : Nat} {cs : List PV} (h : Hold β L W g cs) (hc : isCells cs = true) : ∃ (t : TypeId) (us : List Value), W.heap[g]? = some (.cells us.toArray t (0, 0)) /\ (∀ x ∈ us, x.oneCell' = true) /\ Rs β L W cs us := by
 cases h with
 | cells _ t us hh h1 h2 => exact ⟨t, us, hh, h1, h2⟩
 | rws => simp [isCells] at hc
 | mp => simp [isCells] at hc
 | dd => simp [isCells] at hc
 | mps => simp [isCells] at hc
 | rwf => simp [isCells] at hc
theorem Hold.move {W W' : World} {β β' : List (Option Nat)} {L L' : List Nat} {g : Nat} {cs : List PV} (h : Hold β L W g cs) (hs : W.heap.size <= W'.heap.size) (hg : W'.heap[g]? = W.heap[g]?)
  (hk : ∀ k, ¬ Fb β L k -> k < W.heap.size -> W'.heap[k]? = W.heap[k]?) (hβ : ∀ (i : Nat) (x : Option Nat), β[i]? = some x -> β'[i]? = some x /\ ∀ g, x = some g -> W'.shape? g = W.shape? g) (hF : ∀ g, Fb β' L' g -> Fb β L g \/ W.heap.size <= g) : Hold β' L' W' g cs := by
 cases h with
 | cells _ t us hh h1 h2 => exact .cells _ t us (hg.trans hh) h1 (Rs.move hs _ _ _ _ _ _ hk hβ hF h2)
 | rws k n el t us hh h1 hl h2 => exact .rws _ _ _ t us (hg.trans hh) h1 hl fun j hj => Rs.move hs _ _ _ _ _ _ hk hβ hF (h2 j hj)
 | mp has val es c hh h2 => exact .mp _ _ es c (hg.trans hh) h2
 | dd => exact .dd
 | mps ks f es c hh h2 => exact .mps _ _ es c (hg.trans hh) (h2.imp (fun _ h => h) (fun _ h => h) fun a us h => Rs.move hs _ _ _ _ _ _ hk hβ hF h)
 | rwf k n el j cs t us hh h1 hl h2 => exact .rwf _ _ _ _ _ t us (hg.trans hh) h1 hl fun x hx => Rs.move hs _ _ _ _ _ _ hk hβ hF (h2 x hx)
theorem Hold.dead {W W' : World} {β β' : List (Option Nat)} {L L' : List Nat} {g g' : Nat} {cs : List PV} (h : Hold β L W g cs) (hd : isDd cs = true) : Hold β' L' W' g' cs := by
 cases h with
 | cells _ t us hh h1 h2 =>
  unfold isDd at hd
  split at hd
  ·obtain ⟨u, us', rfl, hu, _⟩ := h2.uncons
   rw [R] at hu; exact hu.elim
  ·cases hd
 | rws => simp [isDd] at hd
 | mp => simp [isDd] at hd
 | dd => exact .dd
 | mps => simp [isDd] at hd
 | rwf => simp [isDd] at hd
def HoldO (β : List (Option Nat)) (L : List Nat) (W : World) : Option Nat -> List PV -> Prop
 | some g, cs => Hold β L W g cs
 | none, cs => (∃ k el, cs = [.rws k 0 el]) \/ isDd cs = true
theorem HoldO.move {W W' : World} {β β' : List (Option Nat)} {L L' : List Nat} {x : Option Nat} {cs : List PV} (h : HoldO β L W x cs) (hs : W.heap.size <= W'.heap.size) (hg : ∀ g, x = some g -> W'.heap[g]? = W.heap[g]?)
  (hk : ∀ k, ¬ Fb β L k -> k < W.heap.size -> W'.heap[k]? = W.heap[k]?) (hβ : ∀ (i : Nat) (x : Option Nat), β[i]? = some x -> β'[i]? = some x /\ ∀ g, x = some g -> W'.shape? g = W.shape? g) (hF : ∀ g, Fb β' L' g -> Fb β L g \/ W.heap.size <= g) : HoldO β' L' W' x cs := by
 cases x with
 | none => exact h
 | some g => exact Hold.move h hs (hg g rfl) hk hβ hF
theorem HoldO.dead {W W' : World} {β β' : List (Option Nat)} {L L' : List Nat} {x : Option Nat} {cs : List PV} (h : HoldO β L W x cs) (hd : isDd cs = true) : HoldO β' L' W' x cs := by
 cases x with
 | none => exact h
 | some g => exact Hold.dead h hd
theorem HoldO.dd {W : World} {β : List (Option Nat)} {L : List Nat} {x : Option Nat} : HoldO β L W x [.dd] := by
 cases x with
 | none => exact .inr rfl
 | some g => exact Hold.dd
def Bx (β : List (Option Nat)) (L : List Nat) (W : World) (σ : Sig) : Prop :=
 β.length = σ.length /\ (∀ (i j g : Nat) (cs ds : List PV), β[i]? = some (some g) -> β[j]? = some (some g) -> σ[i]? = some cs -> σ[j]? = some ds -> isDd cs = false -> isDd ds = false -> i = j) /\ (∀ g, some g ∈ β -> g < W.heap.size) /\
  ∀ (i : Nat) (cs : List PV), σ[i]? = some cs -> ∃ x : Option Nat, β[i]? = some x /\ HoldO β L W x cs
theorem Bx.hold {β : List (Option Nat)} {L : List Nat} {W : World} {σ : Sig} (h : Bx β L W σ) {i g : Nat} {cs : List PV} (hi : σ[i]? = some cs) (hg : β[i]? = some (some g)) : Hold β L W g cs := by
 obtain ⟨x, hx, hh⟩ := h.2.2.2 i cs hi
 rw [hg] at hx; cases hx; exact hh
theorem Bx.cells {β : List (Option Nat)} {L : List Nat} {W : World} {σ : Sig} (h : Bx β L W σ) {i : Nat} {cs : List PV} (hi : σ[i]? = some cs) (hc : isCells cs = true) :
  ∃ (g : Nat) (t : TypeId) (us : List Value), β[i]? = some (some g) /\ W.heap[g]? = some (.cells us.toArray t (0, 0)) /\ (∀ x ∈ us, x.oneCell' = true) /\ Rs β L W cs us := by
 obtain ⟨x, hx, hh⟩ := h.2.2.2 i cs hi
 cases x with
 | none =>
  rcases hh with ⟨k, el, rfl⟩ | hh
  ·simp [isCells] at hc
  ·rw [isDd_cells hc] at hh; cases hh
 | some g =>
  obtain ⟨t, us, q⟩ := Hold.out hh hc
  exact ⟨g, t, us, hx, q⟩
def Ev (β : List (Option Nat)) (L : List Nat) (W : World) (N : Nat) (E : Env) (a : Act) : Prop := a.tmps.size = N /\ ∀ t, R β L W (lk E t) (a.tmps.getD t undef)
theorem evA_R {β : List (Option Nat)} {L : List Nat} {W : World} {N : Nat} {E : Env} {a : Act} (h : Ev β L W N E a) (x : Operand) : R β L W (evA E x) (a.eval x) := by
 cases x with
 | tmp t => exact h.2 t
 | const v => show R β L W (.v v) v; rw [R]
 | global g => show R β L W .any _; rw [R]; trivial
 | func f => show R β L W (.fn f []) (.func (.func f) #[] #[]); rw [R]; exact ⟨[], rfl, Rs.nil⟩
def boolP : PV -> Option Bool
 | .v (.bool b) => some b
 | .sb c => some c
 | _ => none
def intP : PV -> Option (IntKind × Int)
 | .v (.int k n) => some (k, n)
 | _ => none
def strP : PV -> Option ByteArray
 | .v (.string s) => some s
 | _ => none
section
variable {β : List (Option Nat)} {L : List Nat} {W : World} {p q : PV} {u : Value}
theorem boolP_R {c : Bool} (h : boolP p = some c) (hr : R β L W p u) : u = .bool c := by
 unfold boolP at h
 split at h
 ·rw [R] at hr; cases h; exact hr
 ·rw [R] at hr; cases h; exact hr
 ·cases h
theorem intP_R {k : IntKind} {n : Int} (h : intP p = some (k, n)) (hr : R β L W p u) : u = .int k n := by
 unfold intP at h
 split at h
 ·rw [R] at hr; cases h; exact hr
 ·cases h
theorem strP_R {s : ByteArray} (h : strP p = some s) (hr : R β L W p u) : u = .string s := by
 unfold strP at h
 split at h
 ·rw [R] at hr; cases h; exact hr
 ·cases h
end
def behindP (σ : Sig) : PV -> Option (List PV)
 | .ptr cs => some cs
 | .ref i off =>
  match σ[i]? with
  | some cs => if isCells cs then some (cs.drop off) else none
  | none => none
 | _ => none
theorem behind_R {β : List (Option Nat)} {L : List Nat} {W : World} {σ : Sig} {p : PV} {u : Value} {cs : List PV} (hB : Bx β L W σ) (h : behindP σ p = some cs) (hr : R β L W p u) :
  ∃ (b off : Nat) (us : List Value), u = .pointer (some ⟨b, off, none⟩) /\ (∀ x ∈ us, x.oneCell' = true) /\ Rs β L W cs us /\ ∀ i x, us[i]? = some x -> W.cell? ⟨b, off + i, none⟩ = some x := by
 unfold behindP at h
 split at h
 ·rw [R] at hr
  cases h
  obtain ⟨b, off, us, e, _, _, h1, h2, h3⟩ := hr
  exact ⟨b, off, us, e, h1, h2.own, h3⟩
 ·rename_i i off
  rw [R] at hr
  obtain ⟨g, hg, e⟩ := hr
  cases hs : σ[i]? with
  | none => rw [hs] at h; cases h
  | some ds =>
   rw [hs] at h
   simp only at h
   split at h
   case isFalse => cases h
   rename_i hic
   obtain ⟨g', t, us, hg', hh, h1, h2⟩ := hB.cells hs hic
   have : g' = g := by rw [hg] at hg'; exact (Option.some.inj (Option.some.inj hg')).symm
   subst this
   cases h
   refine ⟨g', off, us.drop off, e, fun x hx => h1 x (List.mem_of_mem_drop hx), h2.drop off, fun j x hx => ?_⟩
   rw [List.getElem?_drop] at hx
   simp only [World.cell?, hh]
   simpa using hx
 ·cases h
def isAggP (P : Program) (t : TypeId) : Option Bool :=
 match P.underlying t with
 | some (.struct _) => some true
 | some (.array _ _) => some true
 | some _ => some false
 | none => none
theorem isAgg_run {P : Program} {t : TypeId} {b : Bool} (h : isAggP P t = some b) (W : World) : (isAgg t).run P W = .ok b W := by
 unfold isAggP at h
 unfold isAgg underlying
 cases hu : P.underlying t with
 | none => rw [hu] at h; cases h
 | some d =>
  rw [hu] at h
  cases d <;> simp at h <;> subst h <;> simp [hu, program, Sem.run_bind, Sem.run_pure, Sem.run]
def szP (P : Program) (t : TypeId) : Option Nat := (P.info? t).map (·.size)
theorem sizeOf_run' {P : Program} {t : TypeId} {n : Nat} (h : szP P t = some n) (W : World) : (sizeOf t).run P W = .ok n W := by
 unfold szP at h
 unfold sizeOf typeInfo
 cases hi : P.info? t with
 | none => rw [hi] at h; cases h
 | some i =>
  rw [hi] at h
  simp at h
  subst h
  simp [hi, program, Sem.run_bind, Sem.run_pure, Sem.run]
theorem loadCells_run {P : Program} {W : World} {b off : Nat} : ∀ (n i : Nat) (acc : Array Value) (us : List Value), us.length = n -> (∀ j x, us[j]? = some x -> W.cell? ⟨b, off + (i + j), none⟩ = some x) ->
  (loadCellsFrom ⟨b, off, none⟩ i n acc).run P W = .ok (acc ++ us.toArray) W
 | 0, i, acc, us, hl, h => by
  have : us = [] := List.eq_nil_of_length_eq_zero hl
  subst this
  simp [loadCellsFrom]
 | n + 1, i, acc, us, hl, h => by
  match us, hl with
  | x :: us, hl =>
   have h0 := h 0 x rfl
   have ha : (⟨b, off, none⟩ : Addr).add i = ⟨b, off + i, none⟩ := by unfold Addr.add; split <;> simp_all
   have ih := loadCells_run (P := P) (W := W) (b := b) (off := off) n (i + 1) (acc.push x) us (by simpa using hl) (fun j y hy => by
    have := h (j + 1) y (by simpa using hy)
    rwa [show off + (i + (j + 1)) = off + (i + 1 + j) by omega] at this)
   unfold loadCellsFrom
   simp only [Sem.run_bind, load, ha, Sem.run]
   simp only [Nat.add_zero] at h0
   rw [h0]
   simp only [Sem.run_pure, Result.andThen_ok]
   rw [ih]
   simp
def loadP (P : Program) (t : TypeId) (cs : List PV) : Option PV :=
 match isAggP P t, szP P t with
 | some true, some n => if n <= cs.length then some (.agg (cs.take n)) else none
 | some false, _ => cs.head?
 | _, _ => none
theorem load_run {P : Program} {β : List (Option Nat)} {L : List Nat} {W : World} {t : TypeId} {cs : List PV} {p : PV} {b off : Nat} {us : List Value} (h : loadP P t cs = some p)
  (h1 : ∀ x ∈ us, x.oneCell' = true) (h2 : Rs β L W cs us) (h3 : ∀ i x, us[i]? = some x -> W.cell? ⟨b, off + i, none⟩ = some x) :
  ∃ u, (loadVar t ⟨b, off, none⟩).run P W = .ok u W /\ R β L W p u := by
 unfold loadP at h
 split at h
 ·rename_i n ha hn
  split at h
  ·rename_i hle
   cases h
   refine ⟨.agg (us.take n).toArray, ?_, ?_⟩
   ·have hl : (us.take n).length = n := by rw [List.length_take, h2.length]; omega
    have := loadCells_run (P := P) (W := W) (b := b) (off := off) n 0 #[] (us.take n) hl (fun j x hx => by
     rw [Nat.zero_add]
     rw [List.getElem?_take] at hx
     split at hx
     ·exact h3 j x hx
     ·cases hx)
    unfold loadVar
    simp only [Sem.run_bind, isAgg_run ha, Result.andThen_ok, if_true, sizeOf_run' hn, loadCells, this, Sem.run_pure, List.nil_append, Array.empty_append]
   ·rw [R]
    exact ⟨_, rfl, fun x hx => h1 x (List.mem_of_mem_take hx), h2.take n⟩
  ·cases h
 ·rename_i ha
  match cs, h with
  | q :: cs, h =>
   cases h
   obtain ⟨u, us', rfl, hu, _⟩ := h2.uncons
   refine ⟨u, ?_, hu⟩
   have h0 := h3 0 u rfl
   unfold loadVar
   simp only [Sem.run_bind, isAgg_run ha, Result.andThen_ok, Bool.false_eq_true, if_false, load, Sem.run]
   simp only [Nat.add_zero] at h0
   rw [h0]
 ·cases h
def cmpP (op : BinOp) (a b : Int) : Option PV :=
 match op with
 | .eql => some (.sb (a == b))
 | .neq => some (.sb (a != b))
 | .lss => some (.sb (decide (a < b)))
 | .leq => some (.sb (decide (a <= b)))
 | .gtr => some (.sb (decide (a > b)))
 | .geq => some (.sb (decide (a >= b)))
 | _ => none
def Pre : Option Prop -> Prop
 | none => True
 | some p => p
def In64 (n : Int) : Prop := -9223372036854775808 <= n /\ n <= 9223372036854775807
theorem wrap_in {n : Int} (h : In64 n) : IntKind.i64.wrap n = n := by
 have := IntWalk.i64_in n ⟨h.1, h.2⟩
 exact this
def arithP (op : BinOp) (k : IntKind) (a b : Int) : Option (Option Prop × PV) :=
 match op with
 | .add => if k = .i64 then some (some (In64 (a + b)), .v (.int .i64 (a + b))) else some (none, .v (.int k (k.wrap (a + b))))
 | .sub => if k = .i64 then some (some (In64 (a - b)), .v (.int .i64 (a - b))) else some (none, .v (.int k (k.wrap (a - b))))
 | .mul => if k = .i64 then some (some (In64 (a * b)), .v (.int .i64 (a * b))) else some (none, .v (.int k (k.wrap (a * b))))
 | .quo => some (some (b ≠ 0), .v (.int k (k.wrap (a.tdiv b))))
 | .rem => some (some (b ≠ 0), .v (.int k (a.tmod b)))
 | .shr => some (some (0 <= b), .v (.int k (a.fdiv (2 ^ (min b.toNat k.bits)))))
 | op => (cmpP op a b).map fun p => (none, p)
def strCmpP (op : BinOp) (x y : ByteArray) : Option (Option Prop × PV) :=
 match op with
 | .add => some (some (((x.data.toList.length + y.data.toList.length : Nat) : Int) <= 9223372036854775807), .v (.string ⟨(x.data.toList ++ y.data.toList).toArray⟩))
 | .eql => some (none, .sb (x.data.toList == y.data.toList))
 | .neq => some (none, .sb (!(x.data.toList == y.data.toList)))
 | .lss => some (none, .sb (Op.bytesLess x.data.toList y.data.toList))
 | .geq => some (none, .sb (!Op.bytesLess x.data.toList y.data.toList))
 | _ => none
theorem bytes_add (x y : ByteArray) : x ++ y = ⟨(x.data.toList ++ y.data.toList).toArray⟩ := by
 apply ByteArray.ext; simp
theorem bytes_size (x : ByteArray) : x.size = x.data.toList.length := by rw [Array.length_toList]; rfl
def isNilPtr : PV -> Bool
 | .v (.pointer none) => true
 | _ => false
def isSomePtr : PV -> Bool
 | .ptr _ => true
 | .ref _ _ => true
 | .rr _ _ _ _ => true
 | _ => false
def ifP : PV -> Option Bool
 | .v .nilIface => some true
 | .v (.iface _ _) => some false
 | _ => none
def slNil : PV -> Option (Option Prop × Bool)
 | .v (.slice none _ _) => some (none, true)
 | .v (.slice (some _) _ _) => some (none, false)
 | .sl _ n _ => some (some (0 < n), false)
 | .os _ _ _ n => some (some (0 < n), false)
 | _ => none
def nilSl : PV -> Bool
 | .v (.slice none _ _) => true
 | _ => false
def overP (op : BinOp) (p q : PV) : Option PV :=
 match p, q with
 | .o (.v (.int .i64 a)), .v (.int .i64 b) =>
  match op with
  | .sub => some (.v (.int .i64 (IntKind.i64.wrap (a - b))))
  | .eql => some (.sb (a == b))
  | _ => none
 | _, _ => none
def binP (P : Program) (op : BinOp) (t : TypeId) (p q : PV) : Option (Option Prop × PV) :=
 match overP op p q with
 | some r => some (none, r)
 | none =>
 match intP p, intP q with
 | some (k, a), some (k', b) => if k = k' then arithP op k a b else none
 | _, _ =>
 match strP p, strP q with
 | some x, some y => strCmpP op x y
 | _, _ =>
 match boolP p, boolP q with
 | some a, some b =>
  match P.underlying t, op with
  | some .bool, .eql => some (none, .sb (a == b))
  | some .bool, .neq => some (none, .sb (a != b))
  | _, _ => none
 | _, _ =>
 match P.underlying t with
 | some (.pointer _) =>
  match op with
  | .eql => if isSomePtr p && isNilPtr q then some (none, .v (.bool false)) else if isNilPtr p && isNilPtr q then some (none, .v (.bool true)) else none
  | .neq => if isSomePtr p && isNilPtr q then some (none, .v (.bool true)) else if isNilPtr p && isNilPtr q then some (none, .v (.bool false)) else none
  | _ => none
 | some (.interface ms) =>
  if ms.toList.isEmpty then
   match op, ifP p, ifP q with
   | .eql, some a, some true => some (none, .v (.bool a))
   | .neq, some a, some true => some (none, .v (.bool !a))
   | _, _, _ => none
  else none
 | some (.slice _) =>
  if nilSl q then
   match op, slNil p with
   | .eql, some (pre, b) => some (pre, .v (.bool b))
   | .neq, some (pre, b) => some (pre, .v (.bool !b))
   | _, _ => none
  else none
 | _ => none
theorem isNil_R {β : List (Option Nat)} {L : List Nat} {W : World} {p : PV} {u : Value} (h : isNilPtr p = true) (hr : R β L W p u) : u = .pointer none := by
 unfold isNilPtr at h
 split at h
 ·rw [R] at hr; exact hr
 ·cases h
theorem isSome_R {β : List (Option Nat)} {L : List Nat} {W : World} {p : PV} {u : Value} (h : isSomePtr p = true) (hr : R β L W p u) : ∃ a, u = .pointer (some a) := by
 unfold isSomePtr at h
 split at h
 ·rw [R] at hr; obtain ⟨b, off, us, e, _⟩ := hr; exact ⟨_, e⟩
 ·rw [R] at hr; obtain ⟨g, _, e⟩ := hr; exact ⟨_, e⟩
 ·rw [R] at hr; obtain ⟨g, _, e⟩ := hr; exact ⟨_, e⟩
 ·cases h
theorem underlying_run {P : Program} {t : TypeId} {d : TypeDesc} (h : P.underlying t = some d) (W : World) : (underlying t).run P W = .ok d W := by
 simp [underlying, h, program, Sem.run_bind, Sem.run_pure, Sem.run]
theorem arith_run {P : Program} {op : BinOp} {k : IntKind} {a b : Int} {t : TypeId} {pre : Option Prop} {p : PV} (h : arithP op k a b = some (pre, p)) (hp : Pre pre) (W : World) {β : List (Option Nat)} {L : List Nat} :
  ∃ u, (binOp op t (.int k a) (.int k b)).run P W = .ok u W /\ R β L W p u := by
 have big : ∀ (op' : BinOp) (x : Int), (binOp op' t (.int k a) (.int k b)).run P W = .ok (.int k (k.wrap x)) W -> (if k = .i64 then some (some (In64 x), PV.v (.int .i64 x)) else some (none, PV.v (.int k (k.wrap x)))) = some (pre, p) ->
   ∃ u, (binOp op' t (.int k a) (.int k b)).run P W = .ok u W /\ R β L W p u := fun op' x hx h2 => by
  by_cases hk : k = .i64
  ·subst hk
   rw [if_pos rfl] at h2
   cases h2
   rw [wrap_in (show In64 x from hp)] at hx
   exact ⟨_, hx, by rw [R]⟩
  ·rw [if_neg hk] at h2
   cases h2
   exact ⟨_, hx, by rw [R]⟩
 cases op
 case add => exact big .add (a + b) (by simp only [binOp, ne_eq, not_true_eq_false, if_false, Op.intArith]; rfl) h
 case sub => exact big .sub (a - b) (by simp only [binOp, ne_eq, not_true_eq_false, if_false, Op.intArith]; rfl) h
 case mul => exact big .mul (a * b) (by simp only [binOp, ne_eq, not_true_eq_false, if_false, Op.intArith]; rfl) h
 case shr =>
  simp only [arithP, Option.some.injEq, Prod.mk.injEq] at h
  obtain ⟨rfl, rfl⟩ := h
  simp only [Pre] at hp
  refine ⟨_, ?_, by rw [R]⟩
  simp only [binOp, Op.shift]
  rw [if_neg (by omega)]
  rfl
 all_goals simp only [arithP, cmpP, Option.map_some, Option.map_none, Option.some.injEq, Prod.mk.injEq, reduceCtorEq] at h
 all_goals (obtain ⟨rfl, rfl⟩ := h)
 all_goals (try simp only [Pre] at hp)
 all_goals first
  | exact ⟨_, by simp only [binOp, ne_eq, not_true_eq_false, if_false, Op.intArith, Op.intCmp]; rfl, by rw [R]⟩
  | exact ⟨_, by simp only [binOp, ne_eq, not_true_eq_false, if_false, Op.intDiv]; rw [if_neg hp]; rfl, by rw [R]⟩
theorem equalIn_bool {P : Program} {t : TypeId} (hu : P.underlying t = some .bool) (d : Nat) (a b : Bool) (W : World) : (Op.equalIn (d + 1) t (.bool a) (.bool b)).run P W = .ok (a == b) W := by
 simp only [Op.equalIn, Sem.run_bind, underlying_run hu, Result.andThen_ok]; rfl
theorem equalIn_nil {P : Program} {t e : TypeId} (hu : P.underlying t = some (.pointer e)) (d : Nat) (W : World) : (Op.equalIn (d + 1) t (.pointer none) (.pointer none)).run P W = .ok true W := by
 simp only [Op.equalIn, Sem.run_bind, underlying_run hu, Result.andThen_ok]; rfl
theorem equalIn_some {P : Program} {t e : TypeId} (hu : P.underlying t = some (.pointer e)) (d : Nat) (a : Addr) (W : World) : (Op.equalIn (d + 1) t (.pointer (some a)) (.pointer none)).run P W = .ok false W := by
 simp only [Op.equalIn, Sem.run_bind, underlying_run hu, Result.andThen_ok]; rfl
theorem eql_run {P : Program} {t : TypeId} {x y : Value} {b : Bool} {W : World} (h : (Op.equalIn (9999 + 1) t x y).run P W = .ok b W) :
  ((do pure (Value.bool (<- Op.equal t x y))) : Sem Value).run P W = .ok (.bool b) W := by
 have h' : (Op.equal t x y).run P W = .ok b W := h
 simp only [Sem.run_bind, h', Result.andThen_ok]; rfl
theorem neq_run {P : Program} {t : TypeId} {x y : Value} {b : Bool} {W : World} (h : (Op.equalIn (9999 + 1) t x y).run P W = .ok b W) :
  ((do pure (Value.bool (!(<- Op.equal t x y)))) : Sem Value).run P W = .ok (.bool (!b)) W := by
 have h' : (Op.equal t x y).run P W = .ok b W := h
 simp only [Sem.run_bind, h', Result.andThen_ok]; rfl
theorem guard_run {P : Program} {op : BinOp} {t : TypeId} {o1 o2 : Operand} {x y : Value} {W : World} {s : Sem Value} {r : Result Value} (hx : (∃ b, x = .bool b) \/ ∃ a, x = .pointer a) (h : s.run P W = r) :
  ((do eqGuard op t o1 o2 x y; s) : Sem Value).run P W = r := by
 have : (eqGuard op t o1 o2 x y).run P W = .ok () W := by
  rcases hx with ⟨b, rfl⟩ | ⟨a, rfl⟩
  ·unfold eqGuard; cases op <;> rfl
  ·unfold eqGuard; cases op <;> rfl
 simp only [Sem.run_bind, this, Result.andThen_ok]; exact h
theorem ifP_R {β : List (Option Nat)} {L : List Nat} {W : World} {p : PV} {u : Value} {b : Bool} (h : ifP p = some b) (hr : R β L W p u) : (b = true /\ u = .nilIface) \/ (b = false /\ ∃ t x, u = .iface t x) := by
 unfold ifP at h
 split at h
 ·rw [R] at hr; cases h; exact .inl ⟨rfl, hr⟩
 ·rw [R] at hr; cases h; exact .inr ⟨rfl, _, _, hr⟩
 ·cases h
theorem if_run {P : Program} {op : BinOp} {t : TypeId} {ms : Array (String × TypeId)} {x : Value} {b : Bool} (hu : P.underlying t = some (.interface ms)) (hms : ms = #[]) (hx : (b = true /\ x = .nilIface) \/ (b = false /\ ∃ t x', x = .iface t x')) (W : World) (o1 o2 : Operand) :
  ((do eqGuard .eql t o1 o2 x .nilIface; binOp .eql t x .nilIface) : Sem Value).run P W = .ok (.bool b) W /\ ((do eqGuard .neq t o1 o2 x .nilIface; binOp .neq t x .nilIface) : Sem Value).run P W = .ok (.bool !b) W := by
 rcases hx with ⟨rfl, rfl⟩ | ⟨rfl, t', x', rfl⟩
 ·have hg : ∀ op, (eqGuard op t o1 o2 .nilIface .nilIface).run P W = .ok () W := fun op => by
   have h1 : (Op.eqGuardIn Op.maxDepth t .nilIface .nilIface).run P W = .ok false W := by
    unfold Op.maxDepth Op.eqGuardIn
    simp only [Sem.run_bind, underlying_run hu, Result.andThen_ok, Sem.run_pure, hms]
    rfl
   unfold eqGuard
   cases op <;> simp only [Bool.not_true, Bool.not_false, if_true, if_false, Bool.false_eq_true, Sem.run_pure] <;>
    (try rfl) <;> (split <;> simp [Sem.run_pure, Sem.run_bind, h1, Result.andThen])
  simp only [Sem.run_bind, hg, Result.andThen_ok]
  unfold binOp Op.equal Op.maxDepth Op.equalIn
  simp only [Sem.run_bind, underlying_run hu, Result.andThen_ok, Sem.run_pure]
  exact ⟨by first | rfl | trivial, by first | rfl | trivial⟩
 ·have hg : ∀ op, (eqGuard op t o1 o2 (.iface t' x') .nilIface).run P W = .ok () W := fun op => by
   unfold eqGuard
   cases op <;> rfl
  simp only [Sem.run_bind, hg, Result.andThen_ok]
  unfold binOp Op.equal Op.maxDepth Op.equalIn
  simp only [Sem.run_bind, underlying_run hu, Result.andThen_ok, Sem.run_pure]
  exact ⟨by first | rfl | trivial, by first | rfl | trivial⟩
theorem slNil_R {β : List (Option Nat)} {L : List Nat} {W : World} {p : PV} {u : Value} {pre : Option Prop} {b : Bool} (h : slNil p = some (pre, b)) (hp : Pre pre) (hr : R β L W p u) : (b = true /\ ∃ n c, u = .slice none n c) \/ (b = false /\ ∃ a n c, u = .slice (some a) n c) := by
 unfold slNil at h
 split at h
 ·rw [R] at hr; cases h; exact .inl ⟨rfl, _, _, hr⟩
 ·rw [R] at hr; cases h; exact .inr ⟨rfl, _, _, _, hr⟩
 ·simp only [Option.some.injEq, Prod.mk.injEq] at h
  obtain ⟨rfl, rfl⟩ := h
  rw [R] at hr
  obtain ⟨a, c, rfl, _, _, h3⟩ := hr
  obtain ⟨b, off, rfl, _⟩ := h3 hp
  exact .inr ⟨rfl, _, _, _, rfl⟩
 ·simp only [Option.some.injEq, Prod.mk.injEq] at h
  obtain ⟨rfl, rfl⟩ := h
  rw [R] at hr
  rcases hr with ⟨g, c, _, e, _⟩ | ⟨_, e, _⟩
  ·exact .inr ⟨rfl, _, _, _, e⟩
  ·exact absurd hp (by rw [e]; exact Nat.lt_irrefl _)
 ·cases h
theorem nilSl_R {β : List (Option Nat)} {L : List Nat} {W : World} {p : PV} {u : Value} (h : nilSl p = true) (hr : R β L W p u) : ∃ n c, u = .slice none n c := by
 unfold nilSl at h
 split at h
 ·rw [R] at hr; exact ⟨_, _, hr⟩
 ·cases h
theorem sl_run {P : Program} {t e : TypeId} {x y : Value} {b : Bool} (hu : P.underlying t = some (.slice e)) (hx : (b = true /\ ∃ n c, x = .slice none n c) \/ (b = false /\ ∃ a n c, x = .slice (some a) n c)) (hy : ∃ n c, y = .slice none n c) (W : World) (o1 o2 : Operand) :
  ((do eqGuard .eql t o1 o2 x y; binOp .eql t x y) : Sem Value).run P W = .ok (.bool b) W /\ ((do eqGuard .neq t o1 o2 x y; binOp .neq t x y) : Sem Value).run P W = .ok (.bool !b) W := by
 obtain ⟨n', c', rfl⟩ := hy
 rcases hx with ⟨rfl, n, c, rfl⟩ | ⟨rfl, a, n, c, rfl⟩
 ·have hg : ∀ op, (eqGuard op t o1 o2 (.slice none n c) (.slice none n' c')).run P W = .ok () W := fun op => by
   unfold eqGuard
   cases op <;> rfl
  simp only [Sem.run_bind, hg, Result.andThen_ok]
  unfold binOp Op.equal Op.maxDepth Op.equalIn
  simp only [Sem.run_bind, underlying_run hu, Result.andThen_ok, Sem.run_pure]
  exact ⟨by first | rfl | trivial, by first | rfl | trivial⟩
 ·have hg : ∀ op, (eqGuard op t o1 o2 (.slice (some a) n c) (.slice none n' c')).run P W = .ok () W := fun op => by
   unfold eqGuard
   cases op <;> rfl
  simp only [Sem.run_bind, hg, Result.andThen_ok]
  unfold binOp Op.equal Op.maxDepth Op.equalIn
  simp only [Sem.run_bind, underlying_run hu, Result.andThen_ok, Sem.run_pure]
  exact ⟨by first | rfl | trivial, by first | rfl | trivial⟩
theorem bin_run {P : Program} {op : BinOp} {t : TypeId} {p q r : PV} {x y : Value} {pre : Option Prop} {β : List (Option Nat)} {L : List Nat} {W : World} (h : binP P op t p q = some (pre, r)) (hp : Pre pre) (hx : R β L W p x) (hy : R β L W q y) (o1 o2 : Operand) :
    ∃ u, ((do eqGuard op t o1 o2 x y; binOp op t x y) : Sem Value).run P W = .ok u W /\ R β L W r u := by
  unfold binP at h
  split at h
  · rename_i r' ho
    simp only [Option.some.injEq, Prod.mk.injEq] at h
    obtain ⟨_, rfl⟩ := h
    unfold overP at ho
    split at ho
    · rename_i a b
      rw [R] at hx
      rw [R] at hy
      obtain ⟨_, hx⟩ := hx
      rw [R] at hx
      subst hx; subst hy
      have hg : (eqGuard op t o1 o2 (.int .i64 a) (.int .i64 b)).run P W = .ok () W := by
        unfold eqGuard; cases op <;> rfl
      split at ho
      · cases ho
        refine ⟨.int .i64 (IntKind.i64.wrap (a - b)), ?_, by rw [R]⟩
        simp only [Sem.run_bind, hg, Result.andThen_ok]
        simp only [binOp, ne_eq, not_true_eq_false, if_false, Op.intArith]; rfl
      · cases ho
        refine ⟨.bool (a == b), ?_, by rw [R]⟩
        simp only [Sem.run_bind, hg, Result.andThen_ok]
        simp only [binOp, ne_eq, not_true_eq_false, if_false, Op.intArith, Op.intCmp]; rfl
      · cases ho
    · cases ho
  rename_i hov
  clear hov
  split at h
  · rename_i k a k' b h1 h2
    split at h
    · rename_i hk
      subst hk
      rw [intP_R h1 hx, intP_R h2 hy]
      obtain ⟨u, hu, hr⟩ := arith_run (t := t) h hp W (P := P) (β := β) (L := L)
      refine ⟨u, ?_, hr⟩
      simp only [Sem.run_bind]
      have : (eqGuard op t o1 o2 (.int k a) (.int k b)).run P W = .ok () W := by
        unfold eqGuard; cases op <;> rfl
      rw [this]; exact hu
    · cases h
  · split at h
    · rename_i s s' h1 h2
      rw [strP_R h1 hx, strP_R h2 hy]
      have : (eqGuard op t o1 o2 (.string s) (.string s')).run P W = .ok () W := by
        unfold eqGuard; cases op <;> rfl
      simp only [Sem.run_bind, this, Result.andThen_ok]
      cases op <;> simp only [strCmpP, Option.some.injEq, Prod.mk.injEq, reduceCtorEq] at h
      all_goals (obtain ⟨rfl, rfl⟩ := h)
      all_goals (try simp only [Pre] at hp)
      · refine ⟨.string (s ++ s'), ?_, by rw [R, bytes_add]⟩
        simp only [binOp, Op.stringOp]
        rw [if_neg (by have : IntKind.i64.max = 9223372036854775807 := by decide
                       rw [this, bytes_size, bytes_size]; omega)]
        rfl
      all_goals exact ⟨_, rfl, by rw [R]; simp only [ByteArray.toList_eq]⟩
    · split at h
      · rename_i a b h1 h2
        rw [boolP_R h1 hx, boolP_R h2 hy]
        split at h
        · rename_i hu
          cases h
          exact ⟨.bool (a == b), guard_run (.inl ⟨_, rfl⟩) (eql_run (equalIn_bool hu 9999 a b W)), by rw [R]⟩
        · rename_i hu
          cases h
          exact ⟨.bool (!(a == b)), guard_run (.inl ⟨_, rfl⟩) (neq_run (equalIn_bool hu 9999 a b W)), by rw [R]; cases a <;> cases b <;> rfl⟩
        · cases h
      · split at h
        · rename_i e hu
          split at h
          · split at h
            · rename_i hc
              simp only [Bool.and_eq_true] at hc
              obtain ⟨a, rfl⟩ := isSome_R hc.1 hx
              obtain rfl := isNil_R hc.2 hy
              cases h
              exact ⟨.bool false, guard_run (.inr ⟨_, rfl⟩) (eql_run (equalIn_some hu 9999 a W)), by rw [R]⟩
            · split at h
              · rename_i hc
                simp only [Bool.and_eq_true] at hc
                obtain rfl := isNil_R hc.1 hx
                obtain rfl := isNil_R hc.2 hy
                cases h
                exact ⟨.bool true, guard_run (.inr ⟨_, rfl⟩) (eql_run (equalIn_nil hu 9999 W)), by rw [R]⟩
              · cases h
          · split at h
            · rename_i hc
              simp only [Bool.and_eq_true] at hc
              obtain ⟨a, rfl⟩ := isSome_R hc.1 hx
              obtain rfl := isNil_R hc.2 hy
              cases h
              exact ⟨.bool true, guard_run (.inr ⟨_, rfl⟩) (neq_run (equalIn_some hu 9999 a W)), by rw [R]⟩
            · split at h
              · rename_i hc
                simp only [Bool.and_eq_true] at hc
                obtain rfl := isNil_R hc.1 hx
                obtain rfl := isNil_R hc.2 hy
                cases h
                exact ⟨.bool false, guard_run (.inr ⟨_, rfl⟩) (neq_run (equalIn_nil hu 9999 W)), by rw [R]⟩
              · cases h
          · cases h
        · rename_i ms hu
          split at h
          · rename_i hms
            have hms' : ms = #[] := Array.toList_eq_nil_iff.1 (by simpa using hms)
            split at h
            · rename_i b h1 h2
              cases h
              have hy' : y = .nilIface := (ifP_R h2 hy).elim (fun h => h.2) (fun h => absurd h.1 (by simp))
              subst hy'
              exact ⟨_, (if_run (op := .eql) hu hms' (ifP_R h1 hx) W o1 o2).1, by rw [R]⟩
            · rename_i b h1 h2
              cases h
              have hy' : y = .nilIface := (ifP_R h2 hy).elim (fun h => h.2) (fun h => absurd h.1 (by simp))
              subst hy'
              exact ⟨_, (if_run (op := .eql) hu hms' (ifP_R h1 hx) W o1 o2).2, by rw [R]⟩
            · cases h
          · cases h
        · rename_i e hu
          split at h
          · rename_i hn
            split at h
            · rename_i pr b h1
              cases h
              exact ⟨_, (sl_run hu (slNil_R h1 hp hx) (nilSl_R hn hy) W o1 o2).1, by rw [R]⟩
            · rename_i pr b h1
              cases h
              exact ⟨_, (sl_run hu (slNil_R h1 hp hx) (nilSl_R hn hy) W o1 o2).2, by rw [R]⟩
            · cases h
          · cases h
        · cases h
end Go.Proofs.YtplpnfjccemdnaaGreatDoor
