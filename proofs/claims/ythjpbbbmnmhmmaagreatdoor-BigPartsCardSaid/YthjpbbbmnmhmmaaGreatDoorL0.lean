import Derived.Deep.RegionHeld3
set_option linter.unusedVariables false
set_option linter.unusedSimpArgs false
/- A region that draws its order, in which some operations come late (a store that waits for all that is read): a condition on the world that holds till a late operation has come up; what is read under it may be taken first. -/
namespace Go.Proofs.YthjpbbbmnmhmmaaGreatDoor
open Go

section
variable {P : Program} {ops : Array Oper} {Q : Exit → Act → World → Prop} {md : Region.Mode} {S : World → Prop} {late : Nat → Bool}

/-- No late operation has come up. -/
def Clean (late : Nat → Bool) (l : Array Bool) : Prop := ∀ s, late s = true → l.getD s true = false

/-- Whatever order is picked: S holds till a late operation has come up. -/
def anyLate (P : Program) (md : Region.Mode) (ops : Array Oper) (Q : Exit → Act → World → Prop) (S : World → Prop) (late : Nat → Bool) : Nat → Array Bool → Act → World → Prop
  | 0, listed, a, w => Region.ready md ops listed = [] ∧ Q .normal a w
  | fuel + 1, listed, a, w =>
    (Region.ready md ops listed = [] → Q .normal a w) ∧
    ∀ i ∈ Region.ready md ops listed, wpOp P ops Q i (fun a' w' => (Clean late (listed.setIfInBounds i true) → S w') ∧ anyLate P md ops Q S late fuel (listed.setIfInBounds i true) a' w') a w

theorem anyLate.any : ∀ (fuel : Nat) (listed : Array Bool) (a : Act) (w : World), anyLate P md ops Q S late fuel listed a w → wpAny P md ops Q fuel listed a w
  | 0, _, _, _, h => h
  | fuel + 1, _, _, _, h => ⟨h.1, fun i hi => wpOp_mono (fun a' w' h' => anyLate.any fuel _ a' w' h'.2) (h.2 i hi)⟩

/-- Every late operation waits for number i. -/
def LateWaits (md : Region.Mode) (ops : Array Oper) (late : Nat → Bool) (i : Nat) : Prop :=
  ∀ (j : Nat) (oj : Oper), ops[j]? = some oj → late j = true → ∃ e, e ∈ oj.after ∧ Region.binds md e = true ∧ e.on = i

def lateWaits (md : Region.Mode) (ops : Array Oper) (late : Nat → Bool) (i : Nat) : Bool :=
  (List.range ops.size).all fun j => !late j || match ops[j]? with | some oj => oj.after.any fun e => Region.binds md e && e.on == i | none => true

theorem lateWaits_spec {i : Nat} (h : lateWaits md ops late i = true) : LateWaits md ops late i := by
  intro j oj hj hl
  have hlt : j < ops.size := by
    rcases Nat.lt_or_ge j ops.size with h' | h'
    · exact h'
    · rw [Array.getElem?_eq_none h'] at hj; cases hj
  have := List.all_eq_true.1 h j (by simpa using hlt)
  rw [hj, hl] at this
  simp at this
  obtain ⟨k, hk, hb, ho⟩ := this
  exact ⟨oj.after[k], Array.getElem_mem hk, hb, ho⟩

theorem clean_set {l : Array Bool} {i : Nat} (hi : late i = false) (h : Clean late l) : Clean late (l.setIfInBounds i true) := fun s hs => by
  have hne : i ≠ s := fun e => by subst e; rw [hi] at hs; cases hs
  rw [getD_set_ne true hne]; exact h s hs
theorem clean_of_set {l : Array Bool} {i : Nat} (hi : late i = false) (h : Clean late (l.setIfInBounds i true)) : Clean late l := fun s hs => by
  have hne : i ≠ s := fun e => by subst e; rw [hi] at hs; cases hs
  have := h s hs
  rw [getD_set_ne true hne] at this; exact this
theorem clean_late {l : Array Bool} {i : Nat} (hi : late i = true) (h : Clean late (l.setIfInBounds i true)) : False := by
  have := h i hi
  rw [Array.getD_eq_getD_getElem?, Array.getElem?_setIfInBounds] at this
  simp at this
  split at this <;> simp at this

theorem anyLate_first {S' : World → Prop} {i : Nat} {oi : Oper} {v : Value} (hi : ops[i]? = some oi) (hsel : ∀ (j : Nat) (o : Oper) cs b, ops[j]? = some o → o.op ≠ .select cs b)
    (hQ : ∀ c a w, Q (.panic c) (a.put oi.dst v) w → Q (.panic c) a w) (hli : late i = false) (hL : (∀ w, S' w) ∨ (LateWaits md ops late i ∧ ∀ w, S w → S' w)) :
    ∀ (fuel : Nat) (listed : Array Bool) (a : Act) (w : World),
      (∀ j oj, ops[j]? = some oj → j ≠ i → listed.getD j true = false → (∀ e ∈ oj.after, Region.binds md e = true → e.on ≠ i) → oi.apart ops oj = true) →
      i ∈ Region.ready md ops listed → YieldsIf P ops S' oi v a → S' w → (Clean late listed → S w) → ((∀ w, S' w) ∨ Clean late listed) →
      anyLate P md ops Q S late fuel (listed.setIfInBounds i true) (a.put oi.dst v) w → anyLate P md ops Q S late (fuel + 1) listed a w := by
  intro fuel
  induction fuel with
  | zero =>
    intro listed a w _ hr hy hS hS0 _ H
    refine ⟨fun h => (by rw [h] at hr; cases hr), fun j hj => ?_⟩
    by_cases hji : j = i
    · subst hji; exact hy.wpOp hi hS ⟨fun hc => hS0 (clean_of_set hli hc), H⟩
    · have := ready_mono hj hji
      rw [H.1] at this
      cases this
  | succ fuel ih =>
    intro listed a w hfree hr hy hS hS0 hcl H
    refine ⟨fun h => (by rw [h] at hr; cases hr), fun j hj => ?_⟩
    by_cases hji : j = i
    · subst hji; exact hy.wpOp hi hS ⟨fun hc => hS0 (clean_of_set hli hc), H⟩
    · have h1 := H.2 j (ready_mono hj hji)
      obtain ⟨hjun, oj, hoj, hall⟩ := mem_ready.1 hj
      have hnot : ∀ e ∈ oj.after, Region.binds md e = true → e.on ≠ i := fun e he hb heq => by
        have h1 := hall e he hb
        have h0 := (mem_ready.1 hr).1
        rw [heq] at h1
        rcases Nat.lt_or_ge i listed.size with h' | h'
        · simp [h'] at h0 h1; rw [h0] at h1; cases h1
        · simp [Array.getElem?_eq_none h'] at h1
      have h2 := wpOp_putIf hoj (hfree j oj hoj hji hjun hnot) (fun cs b => hsel i oi cs b hi) (fun cs b => hsel j oj cs b hoj) hQ hy h1
      have hfree' : ∀ k ok, ops[k]? = some ok → k ≠ i → (listed.setIfInBounds j true).getD k true = false →
          (∀ e ∈ ok.after, Region.binds md e = true → e.on ≠ i) → oi.apart ops ok = true := fun k ok hk hki hun hno => by
        refine hfree k ok hk hki ?_ hno
        by_cases hjk : j = k
        · subst hjk; exact hjun
        · rw [getD_set_ne true hjk] at hun; exact hun
      have hcomm : (listed.setIfInBounds i true).setIfInBounds j true = (listed.setIfInBounds j true).setIfInBounds i true := Array.setIfInBounds_comm _ _ (Ne.symm hji)
      rw [hcomm] at h2
      have hkeep : ∀ w', (Clean late ((listed.setIfInBounds j true).setIfInBounds i true) → S w') → (Clean late (listed.setIfInBounds j true) → S w') := fun w' h hc => h (clean_set hli hc)
      refine wpOp_mono (fun a' w' h3 => ⟨hkeep w' h3.2.1, ih (listed.setIfInBounds j true) a' w' hfree' (ready_mono hr (Ne.symm hji)) h3.1 ?_ (hkeep w' h3.2.1) ?_ h3.2.2⟩) h2
      · rcases hL with hL | ⟨hL, hSS⟩
        · exact hL w'
        · rcases hcl with hcl | hcl
          · exact hcl w'
          · have hlj : late j = false := by
              cases hl : late j with
              | false => rfl
              | true =>
                obtain ⟨e, he, hb, ho⟩ := hL j oj hoj hl
                exact absurd ho (hnot e he hb)
            exact hSS w' (hkeep w' h3.2.1 (clean_set hlj hcl))
      · rcases hL with hL | ⟨hL, _⟩
        · exact .inl hL
        · rcases hcl with hcl | hcl
          · exact .inl hcl
          · have hlj : late j = false := by
              cases hl : late j with
              | false => rfl
              | true =>
                obtain ⟨e, he, hb, ho⟩ := hL j oj hoj hl
                exact absurd ho (hnot e he hb)
            exact .inr (clean_set hlj hcl)

/-- What is read under S, ahead of all late operations. -/
theorem late_take {i : Nat} {oi : Oper} {v : Value} {fuel : Nat} {listed : Array Bool} {a : Act} {w : World} (hi : ops[i]? = some oi)
    (hli : late i = false) (hL : lateWaits md ops late i = true) (hs : Region.noSelect ops = true) (hf : Region.free md ops listed i = true) (hr : (Region.ready md ops listed).contains i = true)
    (hQ : ∀ c a w, Q (.panic c) (a.put oi.dst v) w → Q (.panic c) a w) (hc : Clean late listed) (hy : YieldsIf P ops S oi v a) (hS : S w)
    (h : anyLate P md ops Q S late fuel (listed.setIfInBounds i true) (a.put oi.dst v) w) : anyLate P md ops Q S late (fuel + 1) listed a w :=
  anyLate_first hi (Region.noSelect_spec hs) hQ hli (.inr ⟨lateWaits_spec hL, fun _ h => h⟩) fuel listed a w (Region.free_spec hi hf) (by simpa using hr) hy hS (fun _ => hS) (.inr hc) h

/-- What asks nothing of the world. -/
theorem late_pure {i : Nat} {oi : Oper} {v : Value} {fuel : Nat} {listed : Array Bool} {a : Act} {w : World} (hi : ops[i]? = some oi)
    (hli : late i = false) (hs : Region.noSelect ops = true) (hf : Region.free md ops listed i = true) (hr : (Region.ready md ops listed).contains i = true)
    (hQ : ∀ c a w, Q (.panic c) (a.put oi.dst v) w → Q (.panic c) a w) (hy : YieldsIf P ops (fun _ => True) oi v a) (hS : Clean late listed → S w)
    (h : anyLate P md ops Q S late fuel (listed.setIfInBounds i true) (a.put oi.dst v) w) : anyLate P md ops Q S late (fuel + 1) listed a w :=
  anyLate_first hi (Region.noSelect_spec hs) hQ hli (.inl fun _ => trivial) fuel listed a w (Region.free_spec hi hf) (by simpa using hr) hy trivial hS (.inl fun _ => trivial) h

theorem late_done {listed : Array Bool} {a : Act} {w : World} (hr : Region.ready md ops listed = []) (h : Q .normal a w) :
    ∀ fuel, anyLate P md ops Q S late fuel listed a w
  | 0 => ⟨hr, h⟩
  | _ + 1 => ⟨fun _ => h, by rw [hr]; simp⟩

/-- Each of the operations comes up next. -/
def AllLate (P : Program) (md : Region.Mode) (ops : Array Oper) (Q : Exit → Act → World → Prop) (S : World → Prop) (late : Nat → Bool) (fuel : Nat) (listed : Array Bool) (a : Act) (w : World) (rs : List Nat) : Prop :=
  ∀ i ∈ rs, wpOp P ops Q i (fun a' w' => (Clean late (listed.setIfInBounds i true) → S w') ∧ anyLate P md ops Q S late fuel (listed.setIfInBounds i true) a' w') a w

theorem AllLate.nil {fuel : Nat} {listed : Array Bool} {a : Act} {w : World} : AllLate P md ops Q S late fuel listed a w [] := fun _ h => by cases h

theorem AllLate.cons {fuel : Nat} {listed : Array Bool} {a : Act} {w : World} {i : Nat} {o : Oper} {rs : List Nat} (ho : ops[i]? = some o)
    (h : ∀ K' : Act → World → Prop, Shut (∀ a w, (Clean late (listed.setIfInBounds i true) → S w) → anyLate P md ops Q S late fuel (listed.setIfInBounds i true) a w → K' a w) → if Region.wanted o (yielded ops a.tmps) = true then Oper.wp P o a w K' Q else K' (a.put o.dst undef) w)
    (hs : AllLate P md ops Q S late fuel listed a w rs) : AllLate P md ops Q S late fuel listed a w (i :: rs) := fun j hj => by
  rcases List.mem_cons.1 hj with rfl | hj
  · exact wpOp_step ho (fun K' hK => h K' (fun a w hS hW => hK a w ⟨hS, hW⟩))
  · exact hs j hj

theorem late_ready {rs : List Nat} {fuel : Nat} {listed : Array Bool} {a : Act} {w : World} (hr : Region.ready md ops listed = rs) (hne : rs ≠ [])
    (h : AllLate P md ops Q S late fuel listed a w rs) : anyLate P md ops Q S late (fuel + 1) listed a w :=
  ⟨fun h0 => absurd (hr ▸ h0) hne, hr ▸ h⟩

theorem region_late {id : Nat} {a : Act} {w : World} (S : World → Prop) (late : Nat → Bool) (hm : P.follows .mixedOrders = true)
    (h : anyLate P .any ops Q S late ops.size (Array.replicate ops.size false) a w.drew) : (Code.region id ops true).wp P Q a w :=
  wp_region_any hm (anyLate.any _ _ _ _ h)

/-- The one late operation has come up. -/
theorem not_clean {l : Array Bool} (s : Nat) (hs : late s = true) (hl : l.getD s true = true) {p : Prop} (h : Clean late l) : p := by
  have := h s hs; rw [hl] at this; cases this
/-- It has not: the only late one is number s. -/
theorem clean_one {l : Array Bool} {s : Nat} (hl : l.getD s true = false) : Clean (fun i => i == s) l := fun t ht => by
  have : t = s := by simpa using ht
  rw [this]; exact hl
theorem clean_none {l : Array Bool} : Clean (fun _ => false) l := fun t ht => by cases ht
/-- The same two, the slot written out. -/
theorem late_take_at {i : Nat} {oi : Oper} {v : Value} {fuel : Nat} {listed : Array Bool} {a : Act} {w : World} (d : Option Tmp) (hi : ops[i]? = some oi) (hd : oi.dst = d)
    (hli : late i = false) (hL : lateWaits md ops late i = true) (hs : Region.noSelect ops = true) (hf : Region.free md ops listed i = true) (hr : (Region.ready md ops listed).contains i = true)
    (hQ : ∀ c a w, Q (.panic c) (a.put d v) w → Q (.panic c) a w) (hc : Clean late listed) (hy : YieldsIf P ops S oi v a) (hS : S w)
    (h : anyLate P md ops Q S late fuel (listed.setIfInBounds i true) (a.put d v) w) : anyLate P md ops Q S late (fuel + 1) listed a w := by
  subst hd; exact late_take hi hli hL hs hf hr hQ hc hy hS h
theorem late_pure_at {i : Nat} {oi : Oper} {v : Value} {fuel : Nat} {listed : Array Bool} {a : Act} {w : World} (d : Option Tmp) (hi : ops[i]? = some oi) (hd : oi.dst = d)
    (hli : late i = false) (hs : Region.noSelect ops = true) (hf : Region.free md ops listed i = true) (hr : (Region.ready md ops listed).contains i = true)
    (hQ : ∀ c a w, Q (.panic c) (a.put d v) w → Q (.panic c) a w) (hy : YieldsIf P ops (fun _ => True) oi v a) (hS : Clean late listed → S w)
    (h : anyLate P md ops Q S late fuel (listed.setIfInBounds i true) (a.put d v) w) : anyLate P md ops Q S late (fuel + 1) listed a w := by
  subst hd; exact late_pure hi hli hs hf hr hQ hy hS h
end
end Go.Proofs.YthjpbbbmnmhmmaaGreatDoor
