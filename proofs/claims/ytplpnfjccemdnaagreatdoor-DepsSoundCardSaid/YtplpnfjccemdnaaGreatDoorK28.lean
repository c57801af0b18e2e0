import Derived.Test.YtplpnfjccemdnaaGreatDoorK27
set_option linter.unusedVariables false
set_option linter.unusedSimpArgs false
/- The texts H2 H3 H4 H6 H7 of the proof, laid one behind the other. -/
namespace Go.Proofs.YtplpnfjccemdnaaGreatDoor
open Go.RowKit
theorem mpEq_iff {a b : Mp} : mpEq a b = true ↔ a = b := by
 obtain ⟨k, l⟩ := a; obtain ⟨k', l'⟩ := b
 simp [mpEq, eqFrom_iff slEq_iff]
theorem atN_mem (l : List Ob) (n : Int) : ∀ i, i <= l.length -> (atN l i (.i n)).isSome = true -> ∃ o ∈ l, o.oid = n
 | 0, _, h => by cases h
 | i + 1, hi, h => by
  unfold atN at h
  split at h
  ·rename_i e
   exact ⟨_, getD_mem (p := (i : Int).toNat) (by omega), by injection e with e; exact e.symm⟩
  ·exact atN_mem l n i (by omega) h
def Has (w : Wd) (n : Int) : Prop := ∃ o ∈ w.objs, o.oid = n
theorem objAt_has {w : Wd} {n : Int} (h : (objAt w n).isSome = true) : Has w n := by
 refine atN_mem w.objs n w.objs.length (Nat.le_refl _) ?_
 unfold objAt at h
 split at h
 ·rename_i i hi; rw [hi]; rfl
 ·cases h
theorem Has.objT {w : Wd} (hs : Sorted w) {n : Int} (h : Has w n) : (objT w n).2 = true /\ (objT w n).1 ∈ w.objs /\ (objT w n).1.oid = n := by
 obtain ⟨o, ho, rfl⟩ := h
 rw [objT_mem_of hs ho]
 exact ⟨rfl, ho, rfl⟩
theorem has_of_objT {w : Wd} (hl : w.objs.length <= 1000000000) {n : Int} (h : (objT w n).2 = true) : Has w n := by
 cases hf : objF w n with
 | true => exact ⟨_, (objT_true hl hf).1, (objT_true hl hf).2.1⟩
 | false => unfold objT at h; rw [hf] at h; cases h
theorem bif_and {a b : Bool} (h : (bif a then b else false) = true) : a = true /\ b = true := by cases a <;> simp_all
theorem bif_nor {a b : Bool} (h : (bif a then false else b) = true) : a = false /\ b = true := by cases a <;> simp_all
structure Parts (w : Wd) : Prop where
 roots : rootsW w 10 1 = true
 objs : ∀ o ∈ w.objs, objectW w o = true
theorem valid_parts {w : Wd} (h : wcheckW w = 0) : Parts w := by
 unfold wcheckW at h
 have hv : validW w = true := by
  cases hx : validW w with
  | true => rfl
  | false => rw [hx] at h; exact absurd h (by decide)
 unfold validW at hv
 have h1 := (bif_nor (bif_nor (bif_nor (bif_nor (bif_nor hv).2).2).2).2).2
 have h2 := bif_nor h1
 have h3 := (bif_nor (bif_nor h2.2).2).2
 refine ⟨by simpa using h2.1, fun o ho => ?_⟩
 have h4 : w.objs.any (nobjectW w) = false := by simpa using h3
 rw [List.any_eq_false] at h4
 have h5 := h4 o ho
 unfold nobjectW at h5
 simpa using h5
theorem slotsW_all {w : Wd} {o : Ob} : ∀ (l : List Sl) (i : Nat), slotsW w o l i = true -> ∀ s ∈ l, slotW w o s = true
 | [], _, _, s, hs => by cases hs
 | x :: t, i, h, s, hs => by
  unfold slotsW at h
  have h1 := bif_nor h
  have h2 := bif_nor h1.2
  rcases List.mem_cons.1 hs with rfl | hs
  ·simpa using h1.1
  ·exact slotsW_all t _ h2.2 s hs
theorem root_has {w : Wd} (h : Parts w) : Has w 5 /\ Has w 6 := by
 have step : ∀ (n : Nat) (k : Int), rootsW w (n + 1) k = true -> (objAt w k).isSome = true /\ rootsW w n (k + 1) = true := fun n k h => by
  unfold rootsW at h
  have := bif_nor h
  exact ⟨by simpa using this.1, this.2⟩
 have h2 := (step _ _ h.roots).2
 have h3 := (step _ _ h2).2
 have h4 := (step _ _ h3).2
 have h5 := (step _ _ h4).2
 exact ⟨objAt_has (step _ _ h5).1, objAt_has (step _ _ (step _ _ h5).2).1⟩
theorem start_has {w : Wd} (h : Parts w) {v : Vl} (hv : v.k = 4 -> Has w v.n) : Has w (startF v) := by
 unfold startF
 split
 ·rename_i e; exact hv e
 ·split
  ·exact (root_has h).2
  ·exact (root_has h).1
theorem object_slots {w : Wd} {o : Ob} (h : objectW w o = true) : ∀ s ∈ o.sl, slotW w o s = true := by
 unfold objectW at h
 exact slotsW_all _ _ (bif_nor (bif_nor (bif_nor (bif_nor h).2).2).2).2
theorem slot_meth {w : Wd} {o : Ob} {s : Sl} (h : slotW w o s = true) (hk : s.v.k = 5) : s.kd = 1 := by
 unfold slotW at h
 rw [show (s.v.k != 5) = false by simp [hk], cond_false] at h
 simpa using (bif_nor h).1
theorem slot_ref {w : Wd} {o : Ob} {s : Sl} (h : slotW w o s = true) (hk : s.v.k = 4) : Has w s.v.n := by
 unfold slotW at h
 rw [show (s.v.k != 5) = true by simp [hk], cond_true] at h
 have h1 := (bif_and (bif_and (bif_and h).2).2).2
 unfold hasW at h1
 have h2 := (bif_nor h1).2
 rw [show (s.v.k != 4) = false by simp [hk], cond_false] at h2
 exact objAt_has h2
theorem par_has {w : Wd} (h : Parts w) {o : Ob} (ho : o ∈ w.objs) {v : Vl} (hv : v ∈ parL o.sl) : Has w (startF v) := by
 obtain ⟨s, hs, -, rfl⟩ := par_mem hv
 exact start_has h fun hk => slot_ref (object_slots (h.objs o ho) s hs) hk
theorem ofF_map {s t : Sl} (hs : s.v.k = 5 -> s.kd = 1) (ht : t.v.k = 5 -> t.kd = 1) (h : mslot s = mslot t) (x : Fo) : ofF s x = ofF t x := by
 have e1 : ∀ q : Sl, (mslot q).nm = q.nm := fun q => by unfold mslot; split <;> rfl
 have e2 : ∀ q : Sl, (mslot q).kd = q.kd := fun q => by unfold mslot; split <;> rfl
 have hnm : s.nm = t.nm /\ s.kd = t.kd := ⟨by rw [<- e1 s, h, e1], by rw [<- e2 s, h, e2]⟩
 unfold mslot at h
 unfold ofF
 have ha : assignB s = assignB t := by unfold assignB; rw [hnm.2]
 rw [<- ha]
 cases hx : assignB s with
 | true =>
  have nk : ∀ q : Sl, assignB q = true -> (q.v.k = 5 -> q.kd = 1) -> (q.v.k == 5) = false := fun q h1 h2 => by
   rw [beq_eq_false_iff_ne]
   intro e
   have := h2 e
   unfold assignB at h1
   rw [this] at h1; cases h1
  rw [nk s hx hs, nk t (by rw [<- ha]; exact hx) ht]
  rfl
 | false =>
  rw [<- ha, hx] at h
  simp only [Bool.false_eq_true, if_false] at h
  rw [h]
theorem map_nm {l m : List Sl} (h : l.map mslot = m.map mslot) : l.map (fun s => (s.nm, s.kd)) = m.map (fun s => (s.nm, s.kd)) := by
 have e : ∀ s : Sl, ((mslot s).nm, (mslot s).kd) = (s.nm, s.kd) := fun s => by unfold mslot; split <;> rfl
 have h2 := congrArg (List.map fun s : Sl => (s.nm, s.kd)) h
 simpa [List.map_map, Function.comp_def, e] using h2
theorem fstI_map {α β : Type} (f : α -> β) (p : β -> Bool) (l : List α) : fstI (fun x => p (f x)) l = fstI p (l.map f) := by
 unfold fstI
 rw [List.findIdx?_map]; rfl
theorem match_map {l m : List Sl} (h : l.map mslot = m.map mslot) (sel : List UInt8) : matchF l sel = matchF m sel := by
 have h := map_nm h
 have e1 : ∀ l : List Sl, fstI (fun x => matchA x sel) l = fstI (fun q : List UInt8 × Int => q.1 == sel) (l.map fun s => (s.nm, s.kd)) := fun l => by
  rw [<- fstI_map]; rfl
 have e2 : ∀ l : List Sl, fstI (fun x => matchB x sel) l = fstI (fun q : List UInt8 × Int => bif (q.2 == 2 || q.2 == 4) then q.1 ++ [58] == sel else false) (l.map fun s => (s.nm, s.kd)) := fun l => by
  rw [<- fstI_map]; rfl
 unfold matchF
 rw [e1 l, e1 m, e2 l, e2 m, h]
theorem contL_at (o : Ob) : ∀ (l : List Sl) (i j : Nat) (s : Sl), l[j]? = some s -> s.kd = 4 -> (⟨o.oid, false, ⟨0, []⟩, (i + j : Nat), s.v⟩ : Dp) ∈ contL o l i
 | [], i, j, s, h, _ => by simp at h
 | x :: t, i, j, s, h, hk => by
  unfold contL
  cases j with
  | zero =>
   simp at h; subst h
   rw [show (x.kd == 4) = true by simp [hk], cond_true]
   exact List.mem_cons_self ..
  | succ j =>
   have := contL_at o t (i + 1) j s (by simpa using h) hk
   rw [show i + 1 + j = i + (j + 1) by omega] at this
   cases x.kd == 4 with
   | true => exact List.mem_cons_of_mem _ this
   | false => exact this
theorem slots_same {o o' : Ob} (hid : o'.oid = o.oid) : ∀ (l l' : List Sl) (i : Nat), l'.map mslot = l.map mslot -> (∀ (j : Nat) (s s' : Sl), l[j]? = some s -> l'[j]? = some s' -> s.kd = 4 -> s'.v = s.v) -> parL l' = parL l /\ contL o' l' i = contL o l i
 | [], [], i, _, _ => ⟨rfl, rfl⟩
 | [], x :: t, i, h, _ => by cases h
 | x :: t, [], i, h, _ => by cases h
 | x :: t, x' :: t', i, h, hc => by
  simp only [List.map_cons, List.cons.injEq] at h
  obtain ⟨ih1, ih2⟩ := slots_same hid t t' (i + 1) h.2 fun j s s' h1 h2 hk => hc (j + 1) s s' (by simpa using h1) (by simpa using h2) hk
  have hkd : x'.kd = x.kd := by
   have := congrArg Sl.kd h.1
   have e : ∀ s : Sl, (mslot s).kd = s.kd := fun s => by unfold mslot; split <;> rfl
   rwa [e, e] at this
  have hv : isPar x = true -> x'.v = x.v := fun hp => by
   by_cases h4 : x.kd = 4
   ·exact hc 0 x x' rfl rfl h4
   ·have h3 : x.kd = 3 := by unfold isPar at hp; simpa [h4] using hp
    have hm := h.1
    unfold mslot at hm
    have na : ∀ q : Sl, q.kd = 3 -> assignB q = false := fun q hq => by unfold assignB; rw [hq]; rfl
    rw [na x h3, na x' (by rw [hkd]; exact h3)] at hm
    simp only [Bool.false_eq_true, if_false] at hm
    rw [hm]
  have hpar : isPar x' = isPar x := by unfold isPar; rw [hkd]
  refine ⟨?_, ?_⟩
  ·unfold parL at ih1 ⊢
   rw [List.filter_cons, List.filter_cons, hpar]
   cases hp : isPar x with
   | true => simp only [if_true, List.map_cons, hv hp, ih1]
   | false => simpa using ih1
  ·unfold contL
   rw [hkd, ih2]
   cases h4 : x.kd == 4 with
   | true =>
    rw [cond_true, cond_true, hid, hv (by unfold isPar; rw [h4]; simp)]
   | false => rfl
theorem holdsT_whole {w : Wd} {o : Ob} : holdsT w (wholeD o) = true ↔ (objT w o.oid).2 = true /\ mapOfF (objT w o.oid).1 = mapOfF o := by
 unfold holdsT wholeD
 cases (objT w o.oid).2 with
 | false => simp
 | true => simp [mpEq_iff]
theorem holdsT_cont {w : Wd} {n : Int} {j : Nat} {v : Vl} : holdsT w ⟨n, false, ⟨0, []⟩, (0 + j : Nat), v⟩ = true ↔ (objT w n).2 = true /\ ∃ s, (objT w n).1.sl[j]? = some s /\ s.v = v := by
 unfold holdsT
 simp only [Nat.zero_add]
 cases (objT w n).2 with
 | false => simp
 | true =>
  simp only [Bool.not_true, cond_false, true_and]
  rw [show decide ((j : Int) >= 0) = true by simp, cond_true]
  by_cases hj : j < (objT w n).1.sl.length
  ·rw [show decide ((j : Int) < ((objT w n).1.sl.length : Int)) = true by simpa using hj, cond_true, List.getElem?_eq_getElem hj, vlEq_iff, List.getD_eq_getElem?_getD, Int.toNat_natCast, List.getElem?_eq_getElem hj]
   simp
  ·rw [show decide ((j : Int) < ((objT w n).1.sl.length : Int)) = false by simpa using hj, cond_false, List.getElem?_eq_none (by omega)]
   simp
section
variable {w u : Wd} {sel : List UInt8}
theorem upT_pre {f : Nat} {d : Dp} (hv : ∀ s n, d ∈ s.2.1 -> d ∈ (visT w sel f s n).2.1) : ∀ (l : List Vl) (s : St), d ∈ s.2.1 -> d ∈ (upT w sel f l s).2.1
 | [], s, h => h
 | v :: l, s, h => upT_pre hv l _ (hv s _ h)
theorem visT_pre {d : Dp} : ∀ (f : Nat) (s : St) (n : Int), d ∈ s.2.1 -> d ∈ (visT w sel f s n).2.1
 | 0, s, n, h => h
 | f + 1, s, n, h => by
  unfold visT
  cases (s.1 (.i n)).getD false with
  | true => exact h
  | false =>
   cases decide ((matchF (objT w n).1.sl sel).1 >= 0) with
   | true => exact List.mem_append_left _ h
   | false => exact upT_pre (visT_pre f) _ _ (List.mem_append_left _ (List.mem_append_left _ h))
theorem upT_keep {P : St -> Prop} {f : Nat} (hp : Parts w) (hv : ∀ s n, Has w n -> P s -> P (visT w sel f s n)) : ∀ (l : List Vl) (s : St), (∀ v ∈ l, Has w (startF v)) -> P s -> P (upT w sel f l s)
 | [], s, _, h => h
 | v :: l, s, hl, h => upT_keep hp hv l _ (fun x hx => hl x (List.mem_cons_of_mem _ hx)) (hv s _ (hl v (List.mem_cons_self ..)) h)
abbrev HoldsAll (u : Wd) (s : St) : Prop := ∀ d ∈ s.2.1, holdsT u d = true
def OutD (w : Wd) (s : St) : Prop := ∀ x ∈ s.2.2, Has w x.holder /\ wholeD (objT w x.holder).1 ∈ s.2.1
theorem visT_outd (hs : Sorted w) (hp : Parts w) : ∀ (f : Nat) (s : St) (n : Int), Has w n -> OutD w s -> OutD w (visT w sel f s n)
 | 0, s, n, _, h => h
 | f + 1, s, n, hn, h => by
  unfold visT
  cases (s.1 (.i n)).getD false with
  | true => exact h
  | false =>
   cases decide ((matchF (objT w n).1.sl sel).1 >= 0) with
   | true =>
    intro x hx
    rcases List.mem_append.1 hx with hx | hx
    ·exact ⟨(h x hx).1, List.mem_append_left _ (h x hx).2⟩
    ·rw [List.mem_singleton.1 hx]
     exact ⟨hn, List.mem_append_right _ (List.mem_singleton.2 rfl)⟩
   | false => exact upT_keep hp (visT_outd hs hp f) _ _ (fun v hv => par_has hp (hn.objT hs).2.1 hv) fun x hx => ⟨(h x hx).1, List.mem_append_left _ (List.mem_append_left _ (h x hx).2)⟩
theorem upT_same {f : Nat} (hv : ∀ s n, Has w n -> HoldsAll u (visT w sel f s n) -> visT u sel f s n = visT w sel f s n) : ∀ (l : List Vl) (s : St), (∀ v ∈ l, Has w (startF v)) -> HoldsAll u (upT w sel f l s) -> upT u sel f l s = upT w sel f l s
 | [], s, _, _ => rfl
 | v :: l, s, hl, h => by
  have h1 : visT u sel f s (startF v) = visT w sel f s (startF v) := hv s _ (hl v (List.mem_cons_self ..)) fun d hd => h d (upT_pre (fun s n => visT_pre f s n) l _ hd)
  show upT u sel f l (visT u sel f s (startF v)) = upT w sel f l (visT w sel f s (startF v))
  rw [h1]
  exact upT_same hv l _ (fun x hx => hl x (List.mem_cons_of_mem _ hx)) h
theorem whole_same (hs : Sorted w) (hu : Sorted u) {n : Int} (hn : Has w n) (h : holdsT u (wholeD (objT w n).1) = true) : Has u n /\ (objT u n).1.oid = n /\ (objT w n).1.oid = n /\ mapOfF (objT u n).1 = mapOfF (objT w n).1 := by
 obtain ⟨h1, h2, h3⟩ := hn.objT hs
 rw [holdsT_whole, h3] at h
 have hh := has_of_objT hu.2 h.1
 exact ⟨hh, (hh.objT hu).2.2, h3, h.2⟩
theorem visT_same (hs : Sorted w) (hu : Sorted u) (hp : Parts w) : ∀ (f : Nat) (s : St) (n : Int), Has w n -> HoldsAll u (visT w sel f s n) -> visT u sel f s n = visT w sel f s n
 | 0, s, n, _, _ => rfl
 | f + 1, s, n, hn, h => by
  unfold visT at h ⊢
  cases hse : (s.1 (.i n)).getD false with
  | true => rfl
  | false =>
   rw [hse, cond_false] at h
   rw [cond_false, cond_false]
   have hw0 : holdsT u (wholeD (objT w n).1) = true := by
    cases hm : decide ((matchF (objT w n).1.sl sel).1 >= 0) with
    | true => rw [hm] at h; exact h _ (List.mem_append_right _ (List.mem_singleton.2 rfl))
    | false => rw [hm] at h; exact h _ (upT_pre (fun s n => visT_pre f s n) _ _ (List.mem_append_left _ (List.mem_append_right _ (List.mem_singleton.2 rfl))))
   obtain ⟨hun, e1, e2, e3⟩ := whole_same hs hu hn hw0
   have e4 : (objT u n).1.sl.map mslot = (objT w n).1.sl.map mslot := congrArg Mp.sl e3
   have e5 : wholeD (objT u n).1 = wholeD (objT w n).1 := by unfold wholeD; rw [e1, e2, e3]
   rw [match_map e4 sel, e5]
   cases hm : decide ((matchF (objT w n).1.sl sel).1 >= 0) with
   | true => rfl
   | false =>
    rw [hm, cond_false] at h
    rw [cond_false, cond_false]
    obtain ⟨q1, q2⟩ := slots_same (o := (objT w n).1) (o' := (objT u n).1) (by rw [e1, e2]) (objT w n).1.sl (objT u n).1.sl 0 e4 fun j s1 s2 h1 h2 hk => by
     have hd := contL_at (objT w n).1 _ 0 j s1 h1 hk
     have hh := h _ (upT_pre (fun s n => visT_pre f s n) _ _ (List.mem_append_right _ hd))
     rw [e2, holdsT_cont] at hh
     obtain ⟨-, s3, h3, h4⟩ := hh
     rw [h2] at h3; cases h3
     exact h4
    rw [q1, q2]
    exact upT_same (visT_same hs hu hp f) _ _ (fun v hv => par_has hp (hn.objT hs).2.1 hv) h
theorem getD_map {l m : List Sl} (h : l.map mslot = m.map mslot) (k : Nat) : mslot (l.getD k default) = mslot (m.getD k default) := by
 have e : ∀ l : List Sl, mslot (l.getD k default) = (l.map mslot).getD k default := fun l => by
  simp only [List.getD_eq_getElem?_getD, List.getElem?_map]
  cases l[k]? with
  | none => rfl
  | some x => rfl
 rw [e l, e m, h]
theorem getD_meth {w : Wd} (hp : Parts w) {n : Int} (hs : Sorted w) (h : Has w n) (k : Nat) : ((objT w n).1.sl.getD k default).v.k = 5 -> ((objT w n).1.sl.getD k default).kd = 1 := by
 intro hk
 by_cases hl : k < (objT w n).1.sl.length
 ·exact slot_meth (object_slots (hp.objs _ (h.objT hs).2.1) _ (getD_mem hl)) hk
 ·rw [List.getD_eq_getElem?_getD, List.getElem?_eq_none (by omega)] at hk
  exact absurd (show (0 : Int) = 5 from hk) (by decide)
theorem targT_same (hs : Sorted w) (hu : Sorted u) (hp : Parts w) (hpu : Parts u) {s : St} (ho : OutD w s) (h : HoldsAll u s) : targT u s.2.2 = targT w s.2.2 := by
 obtain ⟨sf, D, O⟩ := s
 match O, ho with
 | [], _ => rfl
 | [x], ho =>
  obtain ⟨h1, h2⟩ := ho x (List.mem_singleton.2 rfl)
  obtain ⟨hun, e1, e2, e3⟩ := whole_same hs hu h1 (h _ h2)
  exact ofF_map (getD_meth hpu hu hun _) (getD_meth hp hs h1 _) (getD_map (congrArg Mp.sl e3) _) x
 | x :: y :: l, _ => rfl
theorem fromT_same (hs : Sorted w) (hu : Sorted u) (hp : Parts w) (hpu : Parts u) {f : Nat} {n : Int} (hn : Has w n) (h : HoldsAll u (visT w sel f (sf0, [], []) n)) : fromT u sel f sf0 [] n = fromT w sel f sf0 [] n /\ visT u sel f (sf0, [], []) n = visT w sel f (sf0, [], []) n := by
 have e := visT_same (sel := sel) hs hu hp f (sf0, [], []) n hn h
 refine ⟨?_, e⟩
 unfold fromT
 rw [e]
 exact targT_same hs hu hp hpu (visT_outd hs hp f _ n hn fun x hx => by cases hx) h
structure Begins (w : Wd) (maps : List Mp) (y : Ty) : Prop where
 st : y.k = 1 -> Has w (startF y.v)
 mp : y.k = 2 -> ∀ v ∈ parL (maps.getD y.n.toNat default).sl, Has w (startF v)
end
section
variable {w v : Wd} {d s : PV}
structure Grows (w v : Wd) : Prop where
 has : ∀ n, (objT w n).2 = true -> (objT v n).2 = true
 cds : v.cds = w.cds
theorem Grows.hasT (h : Grows w v) {x : Vl} (hx : hasT w d s x = true) : hasT v d s x = true := by
 unfold Go.Proofs.YtplpnfjccemdnaaGreatDoor.hasT at hx ⊢
 have h1 := bif_nor hx
 rw [h1.1, cond_false]
 cases hk : x.k != 4 with
 | true => rfl
 | false =>
  have h2 := h1.2
  rw [hk, cond_false] at h2
  exact h.has _ h2
theorem Grows.slotT (h : Grows w v) {x : Sl} (hx : slotT w d s x = true) : slotT v d s x = true := by
 unfold Go.Proofs.YtplpnfjccemdnaaGreatDoor.slotT at hx ⊢
 rw [h.cds]
 have h1 := bif_nor hx
 have h2 := bif_nor h1.2
 rw [h1.1, cond_false, h2.1, cond_false]
 have h3 := h2.2
 cases ha : assignB x with
 | true => rw [ha] at h3; exact h3
 | false =>
  rw [ha, cond_false] at h3
  rw [cond_false]
  cases hk : x.v.k != 5 with
  | true =>
   rw [hk, cond_true] at h3
   have h4 := bif_and h3
   rw [cond_true, h.hasT h4.1]; exact h4.2
  | false => rw [hk] at h3; exact h3
theorem Grows.slotsT (h : Grows w v) {m : Mp} : ∀ (l : List Sl) (i : Nat), slotsT w d s m l i = true -> slotsT v d s m l i = true
 | [], _, _ => rfl
 | x :: t, i, hx => by
  unfold Go.Proofs.YtplpnfjccemdnaaGreatDoor.slotsT at hx ⊢
  have h1 := bif_nor hx
  have h2 := bif_nor h1.2
  rw [h.slotT (x := x) (by simpa using h1.1), h2.1]
  exact h.slotsT t _ h2.2
theorem Grows.mapT (h : Grows w v) {m : Mp} (hx : mapT w d s m = true) : mapT v d s m = true := by
 unfold Go.Proofs.YtplpnfjccemdnaaGreatDoor.mapT at hx ⊢
 have h1 := bif_nor hx
 have h2 := bif_nor h1.2
 have h3 := bif_nor h2.2
 rw [h1.1, h2.1, h3.1]
 exact h.slotsT _ _ h3.2
theorem Grows.mapsT (h : Grows w v) {maps : List Mp} : ∀ (l : List Mp) (i : Nat), mapsT w d s maps l i = true -> mapsT v d s maps l i = true
 | [], _, _ => rfl
 | x :: t, i, hx => by
  unfold Go.Proofs.YtplpnfjccemdnaaGreatDoor.mapsT at hx ⊢
  have h1 := bif_nor hx
  have h2 := bif_nor h1.2
  rw [h.mapT (m := x) (by simpa using h1.1), h2.1]
  exact h.mapsT t _ h2.2
theorem Grows.typeT (h : Grows w v) {y : Ty} {n : Int} (hx : typeT w d s y n = true) : typeT v d s y n = true := by
 unfold Go.Proofs.YtplpnfjccemdnaaGreatDoor.typeT at hx ⊢
 cases h1 : y.k == 1 with
 | true =>
  rw [h1, cond_true] at hx
  have h2 := bif_and hx
  rw [cond_true, h2.1, cond_true]; exact h.hasT h2.2
 | false => rw [h1] at hx; exact hx
theorem Grows.factsT (h : Grows w v) {maps : List Mp} {types : List Ty} (hx : factsT w d s maps types = true) : factsT v d s maps types = true := by
 unfold Go.Proofs.YtplpnfjccemdnaaGreatDoor.factsT at hx ⊢
 have h1 := bif_nor hx
 have h2 := bif_nor h1.2
 rw [h1.1, h.mapsT maps 0 (by simpa using h2.1)]
 have h3 := h2.2
 simp only [Bool.not_true, cond_false, Bool.not_eq_true', List.any_eq_false, ntypeT] at h3 ⊢
 intro y hy
 have := h3 y hy
 rw [h.typeT (by simpa using this)]
 simp
theorem mapsT_all {maps : List Mp} : ∀ (l : List Mp) (i : Nat), mapsT w d s maps l i = true -> ∀ m ∈ l, mapT w d s m = true
 | [], _, _, m, hm => by cases hm
 | x :: t, i, hx, m, hm => by
  unfold mapsT at hx
  have h1 := bif_nor hx
  rcases List.mem_cons.1 hm with rfl | hm
  ·simpa using h1.1
  ·exact mapsT_all t _ (bif_nor h1.2).2 m hm
theorem slotsT_all {m : Mp} : ∀ (l : List Sl) (i : Nat), slotsT w d s m l i = true -> ∀ x ∈ l, slotT w d s x = true
 | [], _, _, x, hx => by cases hx
 | y :: t, i, h, x, hx => by
  unfold slotsT at h
  have h1 := bif_nor h
  rcases List.mem_cons.1 hx with rfl | hx
  ·simpa using h1.1
  ·exact slotsT_all t _ (bif_nor h1.2).2 x hx
theorem hasT_ref (hl : w.objs.length <= 1000000000) {x : Vl} (h : hasT w d s x = true) (hk : x.k = 4) : Has w x.n := by
 unfold hasT at h
 have h1 := (bif_nor h).2
 rw [show (x.k != 4) = false by simp [hk], cond_false] at h1
 exact has_of_objT hl h1
theorem slotT_start (hp : Parts w) (hl : w.objs.length <= 1000000000) {x : Sl} (h : slotT w d s x = true) (hx : isPar x = true) : Has w (startF x.v) := by
 unfold slotT at h
 have h3 := (bif_nor (bif_nor h).2).2
 cases ha : assignB x with
 | true =>
  rw [ha, cond_true] at h3
  have h4 := (bif_and h3).1
  refine start_has hp fun hk => ?_
  rw [hk] at h4; cases h4
 | false =>
  rw [ha, cond_false] at h3
  cases hk : x.v.k != 5 with
  | true =>
   rw [hk, cond_true] at h3
   exact start_has hp fun e => hasT_ref hl (bif_and h3).1 e
  | false =>
   rw [hk, cond_false] at h3
   have h4 := (bif_and h3).1
   have h5 : x.kd = 1 := by simpa using h4
   unfold isPar at hx
   rw [h5] at hx; cases hx
theorem facts_begin (hp : Parts w) (hl : w.objs.length <= 1000000000) {maps : List Mp} {y : Ty} (h : factsT w d s maps [y] = true) : Begins w maps y := by
 unfold factsT at h
 have h1 := (bif_nor h).2
 have h2 := bif_nor h1
 have hm := mapsT_all maps 0 (by simpa using h2.1)
 have ht : typeT w d s y (maps.length : Int) = true := by simpa [ntypeT] using h2.2
 refine ⟨fun hk => start_has hp fun e => ?_, fun hk x hx => ?_⟩
 ·unfold typeT at ht
  rw [show (y.k == 1) = true by simp [hk], cond_true] at ht
  exact hasT_ref hl (bif_and ht).2 e
 ·unfold typeT at ht
  rw [show (y.k == 1) = false by simp [hk], cond_false, show (y.k == 2) = true by simp [hk], cond_true] at ht
  have h3 := bif_and (bif_and ht).2
  have q1 := of_decide_eq_true h3.1
  have q2 := of_decide_eq_true h3.2
  have hmm := hm _ (getD_mem (p := y.n.toNat) (l := maps) (by omega))
  unfold mapT at hmm
  have h5 := slotsT_all _ _ (bif_nor (bif_nor (bif_nor hmm).2).2).2
  obtain ⟨z, hz, hpz, rfl⟩ := par_mem hx
  exact slotT_start hp hl (h5 z hz) hpz
end
abbrev seenB (sf : Atom -> Option Bool) (n : Int) : Bool := (sf (.i n)).getD false
theorem seen_upd {sf : Atom -> Option Bool} {n m : Int} : seenB (updS sf n) m = true ↔ m = n \/ seenB sf m = true := by
 unfold seenB updS
 by_cases e : m = n
 ·subst e; simp
 ·rw [if_neg (fun h => e (Atom.i.inj h))]; simp [e]
section
variable (w : Wd) (sel : List UInt8)
abbrev Answers (n : Int) : Prop := (matchF (objT w n).1.sl sel).1 >= 0
inductive Leads : Int -> Int -> Prop where
 | here (n : Int) : Leads n n
 | step {n m : Int} {v : Vl} (hn : ¬ Answers w sel n) (hv : v ∈ parL (objT w n).1.sl) (h : Leads (startF v) m) : Leads n m
structure Walked (n : Int) (s s' : St) : Prop where
 grows : ∀ m, seenB s.1 m = true -> seenB s'.1 m = true
 here : seenB s'.1 n = true
 closed : ∀ m, seenB s'.1 m = true -> seenB s.1 m = false -> ¬ Answers w sel m -> ∀ v ∈ parL (objT w m).1.sl, seenB s'.1 (startF v) = true
 reach : ∀ m, seenB s'.1 m = true -> seenB s.1 m = false -> Leads w sel n m
structure WalkedL (l : List Vl) (s s' : St) : Prop where
 grows : ∀ m, seenB s.1 m = true -> seenB s'.1 m = true
 here : ∀ v ∈ l, seenB s'.1 (startF v) = true
 closed : ∀ m, seenB s'.1 m = true -> seenB s.1 m = false -> ¬ Answers w sel m -> ∀ v ∈ parL (objT w m).1.sl, seenB s'.1 (startF v) = true
 reach : ∀ m, seenB s'.1 m = true -> seenB s.1 m = false -> ∃ v ∈ l, Leads w sel (startF v) m
variable {w sel}
theorem upT_walked {U : List Int} {f : Nat} (hw : w.Ok) (hU : Clo w U) (hv : ∀ s n, n ∈ U -> unseen U s.1 < f -> Walked w sel n s (visT w sel f s n)) : ∀ (l : List Vl) (s : St), (∀ v ∈ l, startF v ∈ U) -> unseen U s.1 < f -> WalkedL w sel l s (upT w sel f l s)
 | [], s, _, _ => ⟨fun _ h => h, fun v h => (by cases h), fun m h1 h2 => absurd ((show seenB s.1 m = true from h1).symm.trans h2) (by decide), fun m h1 h2 => absurd ((show seenB s.1 m = true from h1).symm.trans h2) (by decide)⟩
 | v :: l, s, hl, hf => by
  have h1 := hv s (startF v) (hl v (List.mem_cons_self ..)) hf
  have hless := (visT_less hw hU (sel := sel) f s (startF v) (hl v (List.mem_cons_self ..))).un
  have h2 := upT_walked hw hU hv l (visT w sel f s (startF v)) (fun x hx => hl x (List.mem_cons_of_mem _ hx)) (by omega)
  have e : upT w sel f (v :: l) s = upT w sel f l (visT w sel f s (startF v)) := rfl
  rw [e]
  refine ⟨fun m h => h2.grows m (h1.grows m h), fun x hx => ?_, fun m h3 h4 h5 x hx => ?_, fun m h3 h4 => ?_⟩
  ·rcases List.mem_cons.1 hx with rfl | hx
   ·exact h2.grows _ h1.here
   ·exact h2.here x hx
  ·cases hs : seenB (visT w sel f s (startF v)).1 m with
   | true => exact h2.grows _ (h1.closed m hs h4 h5 x hx)
   | false => exact h2.closed m h3 hs h5 x hx
  ·cases hs : seenB (visT w sel f s (startF v)).1 m with
   | true => exact ⟨v, List.mem_cons_self .., h1.reach m hs h4⟩
   | false =>
    obtain ⟨x, hx, h⟩ := h2.reach m h3 hs
    exact ⟨x, List.mem_cons_of_mem _ hx, h⟩
theorem visT_walked {U : List Int} (hw : w.Ok) (hU : Clo w U) : ∀ (f : Nat) (s : St) (n : Int), n ∈ U -> unseen U s.1 < f -> Walked w sel n s (visT w sel f s n)
 | 0, s, n, _, h => absurd h (Nat.not_lt_zero _)
 | f + 1, s, n, hn, hf => by
  unfold visT
  cases hs : (s.1 (.i n)).getD false with
  | true => exact ⟨fun _ h => h, hs, fun m h1 h2 => absurd ((show seenB s.1 m = true from h1).symm.trans h2) (by decide), fun m h1 h2 => absurd ((show seenB s.1 m = true from h1).symm.trans h2) (by decide)⟩
  | false =>
   rw [cond_false]
   have hlt := unseen_upd_lt (U := U) hn hs
   cases hm : decide ((matchF (objT w n).1.sl sel).1 >= 0) with
   | true =>
    have ha : Answers w sel n := of_decide_eq_true hm
    refine ⟨fun m h => seen_upd.2 (.inr h), seen_upd.2 (.inl rfl), fun m h1 h2 h3 => ?_, fun m h1 h2 => ?_⟩
    ·rcases seen_upd.1 h1 with rfl | h
     ·exact absurd ha h3
     ·rw [h] at h2; cases h2
    ·rcases seen_upd.1 h1 with rfl | h
     ·exact .here _
     ·rw [h] at h2; cases h2
   | false =>
    have ha : ¬ Answers w sel n := of_decide_eq_false hm
    rw [cond_false]
    have hw2 := upT_walked (sel := sel) hw hU (fun s n hn hf => visT_walked hw hU f s n hn hf) (parL (objT w n).1.sl) (updS s.1 n, s.2.1 ++ [wholeD (objT w n).1] ++ contL (objT w n).1 (objT w n).1.sl 0, s.2.2) (hU.clo n hn) (by show unseen U (updS s.1 n) < f; omega)
    refine ⟨fun m h => hw2.grows m (seen_upd.2 (.inr h)), hw2.grows n (seen_upd.2 (.inl rfl)), fun m h1 h2 h3 x hx => ?_, fun m h1 h2 => ?_⟩
    ·by_cases e : m = n
     ·subst e; exact hw2.here x hx
     ·exact hw2.closed m h1 (by
       cases hq : seenB (updS s.1 n) m with
       | false => rfl
       | true =>
        rcases seen_upd.1 hq with h | h
        ·exact absurd h e
        ·rw [h] at h2; cases h2) h3 x hx
    ·by_cases e : m = n
     ·subst e; exact .here _
     ·obtain ⟨v, hv, h⟩ := hw2.reach m h1 (by
       cases hq : seenB (updS s.1 n) m with
       | false => rfl
       | true =>
        rcases seen_upd.1 hq with h | h
        ·exact absurd h e
        ·rw [h] at h2; cases h2)
      exact .step ha hv h
structure Outs (w : Wd) (sel : List UInt8) (s : St) : Prop where
 mem : ∀ m, m ∈ s.2.2.map Fo.holder ↔ seenB s.1 m = true /\ Answers w sel m
 nd : (s.2.2.map Fo.holder).Nodup
 at_ : ∀ x ∈ s.2.2, x = ⟨x.holder, (matchF (objT w x.holder).1.sl sel).1, (matchF (objT w x.holder).1.sl sel).2⟩
theorem upT_outs {f : Nat} (hv : ∀ s n, Outs w sel s -> Outs w sel (visT w sel f s n)) : ∀ (l : List Vl) (s : St), Outs w sel s -> Outs w sel (upT w sel f l s)
 | [], s, h => h
 | v :: l, s, h => upT_outs hv l _ (hv s _ h)
theorem visT_outs : ∀ (f : Nat) (s : St) (n : Int), Outs w sel s -> Outs w sel (visT w sel f s n)
 | 0, s, n, h => h
 | f + 1, s, n, h => by
  unfold visT
  cases hs : (s.1 (.i n)).getD false with
  | true => exact h
  | false =>
   rw [cond_false]
   cases hm : decide ((matchF (objT w n).1.sl sel).1 >= 0) with
   | true =>
    have ha : Answers w sel n := of_decide_eq_true hm
    have hnm : n ∉ s.2.2.map Fo.holder := fun hc => by
     have := ((h.mem n).1 hc).1
     rw [show seenB s.1 n = false from hs] at this; cases this
    refine ⟨fun m => ?_, ?_, fun x hx => ?_⟩
    ·show m ∈ (s.2.2 ++ [_]).map Fo.holder ↔ seenB (updS s.1 n) m = true /\ _
     rw [List.map_append, List.mem_append, seen_upd, h.mem m]
     simp only [List.map_cons, List.map_nil, List.mem_singleton]
     constructor
     ·rintro (h | h)
      ·exact ⟨.inr h.1, h.2⟩
      ·subst h; exact ⟨.inl rfl, ha⟩
     ·rintro ⟨h1 | h1, h2⟩
      ·exact .inr h1
      ·exact .inl ⟨h1, h2⟩
    ·show ((s.2.2 ++ [_]).map Fo.holder).Nodup
     rw [List.map_append, List.nodup_append]
     refine ⟨h.nd, by simp, fun p hp q hq e => ?_⟩
     simp only [List.map_cons, List.map_nil, List.mem_singleton] at hq
     rw [e, hq] at hp
     exact hnm hp
    ·rcases List.mem_append.1 hx with hx | hx
     ·exact h.at_ x hx
     ·rw [List.mem_singleton.1 hx]
   | false =>
    have ha : ¬ Answers w sel n := of_decide_eq_false hm
    refine upT_outs (visT_outs f) _ _ ⟨fun m => ?_, h.nd, h.at_⟩
    rw [h.mem m]
    show _ ↔ seenB (updS s.1 n) m = true /\ _
    rw [seen_upd]
    constructor
    ·rintro ⟨h1, h2⟩; exact ⟨.inr h1, h2⟩
    ·rintro ⟨h1 | h1, h2⟩
     ·subst h1; exact absurd h2 ha
     ·exact ⟨h1, h2⟩
theorem Leads.closed {P : Int -> Prop} (hc : ∀ m, P m -> ¬ Answers w sel m -> ∀ v ∈ parL (objT w m).1.sl, P (startF v)) {n m : Int} (h : Leads w sel n m) : P n -> P m := by
 induction h with
 | here => exact fun h => h
 | step hn hv _ ih => exact fun h => ih (hc _ h hn _ hv)
theorem up_self {U : List Int} (hw : w.Ok) (hU : Clo w U) {f f' : Nat} {n : Int} (hn : n ∈ U) (hf : U.length < f) (hf' : U.length < f') (ha : ¬ Answers w sel n) (D : List Dp) :
  ∀ m, m ∈ (upT w sel f (parL (objT w n).1.sl) (sf0, [], [])).2.2.map Fo.holder ↔ m ∈ (upT w sel f' (parL (objT w n).1.sl) (updS sf0 n, D, [])).2.2.map Fo.holder := by
 have hl := hU.clo n hn
 have hz : ∀ sf, unseen U sf < f := fun sf => Nat.lt_of_le_of_lt (List.length_filter_le _ _) hf
 have hz' : ∀ sf, unseen U sf < f' := fun sf => Nat.lt_of_le_of_lt (List.length_filter_le _ _) hf'
 have w1 := upT_walked (sel := sel) hw hU (fun s n hn hf => visT_walked hw hU f s n hn hf) _ (sf0, [], []) hl (hz _)
 have w2 := upT_walked (sel := sel) hw hU (fun s n hn hf => visT_walked hw hU f' s n hn hf) _ (updS sf0 n, D, []) hl (hz' _)
 have o1 : Outs w sel (upT w sel f (parL (objT w n).1.sl) (sf0, [], [])) := upT_outs (visT_outs f) _ _ ⟨fun m => ⟨fun h => by (cases h), fun h => by (cases h.1)⟩, List.nodup_nil, fun x hx => by (cases hx)⟩
 have o2 : Outs w sel (upT w sel f' (parL (objT w n).1.sl) (updS sf0 n, D, [])) := upT_outs (visT_outs f') _ _ ⟨fun m => ⟨fun h => by (cases h), fun h => by
  rcases seen_upd.1 h.1 with e | e
  ·rw [e] at h; exact absurd h.2 ha
  ·cases e⟩, List.nodup_nil, fun x hx => by (cases hx)⟩
 intro m
 rw [o1.mem, o2.mem]
 refine and_congr_left fun hm => ?_
 constructor
 ·intro h
  obtain ⟨v, hv, hp⟩ := w1.reach m h rfl
  refine hp.closed (P := fun m => seenB (upT w sel f' (parL (objT w n).1.sl) (updS sf0 n, D, [])).1 m = true) (fun k hk hka x hx => ?_) (w2.here v hv)
  cases hs : seenB (updS sf0 n) k with
  | false => exact w2.closed k hk hs hka x hx
  | true =>
   rcases seen_upd.1 hs with e | e
   ·subst e; exact w2.here x hx
   ·cases e
 ·intro h
  have hs : seenB (updS sf0 n) m = false := by
   cases hs : seenB (updS sf0 n) m with
   | false => rfl
   | true =>
    rcases seen_upd.1 hs with e | e
    ·subst e; exact absurd hm ha
    ·cases e
  obtain ⟨v, hv, hp⟩ := w2.reach m h hs
  exact hp.closed (P := fun m => seenB (upT w sel f (parL (objT w n).1.sl) (sf0, [], [])).1 m = true) (fun k hk hka x hx => w1.closed k hk rfl hka x hx) (w1.here v hv)
end
structure Fd where
 kind : Int
 holder : Int
 slot : Int
 set : Bool
def fdOf : List Fo -> Fd
 | [] => ⟨0, 0, 0, false⟩
 | [x] => ⟨1, x.holder, x.slot, x.set⟩
 | x :: _ :: _ => ⟨2, x.holder, x.slot, x.set⟩
inductive FitsP (u : Wd) (g : Tg) (f : Fd) (v : Vl) : Prop where
 | none (hg : g.kind = 1) (hf : f.kind = 0)
 | many (hg : g.kind = 2) (hf : f.kind = 2)
 | one (n : Int) (s : Sl) (h1 : g.kind ≠ 1) (h2 : g.kind ≠ 2) (ho : g.own = true -> v.k = 4 /\ (g.holder = 0 \/ g.holder = v.n) /\ n = v.n) (hn : g.own = false -> n = g.holder) (hf : f.kind = 1) (hh : f.holder = n) (hs : f.slot = g.slot) (hset : f.set = (g.kind == 5)) (hu : Has u n)
   (h0 : 0 <= g.slot) (hsl : (objT u n).1.sl[g.slot.toNat]? = some s) (hk : (g.kind = 6 /\ s.v.k = 5 /\ s.v.n = g.code) \/ (g.kind = 3 /\ s.v = g.v /\ (s.kd = 1 \/ s.kd = 3)) \/ ((g.kind = 4 \/ g.kind = 5) /\ (s.kd = 2 \/ s.kd = 4)))
theorem fst_at {p : Sl -> Bool} {l : List Sl} (h : fstI p l >= 0) : ∃ s, l[(fstI p l).toNat]? = some s /\ p s = true := by
 unfold fstI at h ⊢
 cases hf : l.findIdx? p with
 | none => rw [hf] at h; simp only at h; omega
 | some k =>
  obtain ⟨hk, h1, -⟩ := List.findIdx?_eq_some_iff_getElem.1 hf
  exact ⟨l[k], by simp [List.getElem?_eq_getElem hk], h1⟩
theorem match_slot {l : List Sl} {sel : List UInt8} (h : (matchF l sel).1 >= 0) : ∃ s, l[(matchF l sel).1.toNat]? = some s /\ ((matchF l sel).2 = true -> assignB s = true) := by
 unfold matchF at h ⊢
 cases h1 : decide (fstI (fun x => matchA x sel) l >= 0) with
 | true =>
  obtain ⟨s, q1, -⟩ := fst_at (of_decide_eq_true h1)
  exact ⟨s, q1, fun h => by cases h⟩
 | false =>
  rw [h1] at h
  obtain ⟨s, q1, q2⟩ := fst_at h
  refine ⟨s, q1, fun _ => ?_⟩
  unfold matchB at q2
  exact (bif_and q2).1
theorem slot_kd {w : Wd} {o : Ob} {s : Sl} (h : slotW w o s = true) : s.kd = 1 \/ s.kd = 2 \/ s.kd = 3 \/ s.kd = 4 := by
 by_cases hk : s.v.k = 5
 ·exact .inl (slot_meth h hk)
 ·unfold slotW at h
  rw [show (s.v.k != 5) = true by simp [hk], cond_true] at h
  have h1 := bif_and h
  have h2 := bif_and h1.2
  have q1 := of_decide_eq_true h1.1
  have q2 := of_decide_eq_true h2.1
  omega
theorem fits_slot {u : Wd} (hs : Sorted u) (hp : Parts u) {n : Int} (hn : Has u n) {sel : List UInt8} (ha : Answers u sel n) (g : Tg) (v : Vl) (h : Int)
  (hg : g.kind = (ofF ((objT u n).1.sl.getD (matchF (objT u n).1.sl sel).1.toNat default) ⟨h, (matchF (objT u n).1.sl sel).1, (matchF (objT u n).1.sl sel).2⟩).kind) (hsl : g.slot = (matchF (objT u n).1.sl sel).1)
  (hc : g.code = (ofF ((objT u n).1.sl.getD (matchF (objT u n).1.sl sel).1.toNat default) ⟨h, (matchF (objT u n).1.sl sel).1, (matchF (objT u n).1.sl sel).2⟩).code) (hv : g.v = (ofF ((objT u n).1.sl.getD (matchF (objT u n).1.sl sel).1.toNat default) ⟨h, (matchF (objT u n).1.sl sel).1, (matchF (objT u n).1.sl sel).2⟩).v)
  (ho : g.own = true -> v.k = 4 /\ (g.holder = 0 \/ g.holder = v.n) /\ n = v.n) (hno : g.own = false -> n = g.holder) : FitsP u g ⟨1, n, (matchF (objT u n).1.sl sel).1, (matchF (objT u n).1.sl sel).2⟩ v := by
 obtain ⟨s, q1, q2⟩ := match_slot ha
 have hso := (hp.objs _ (hn.objT hs).2.1)
 have hsw := object_slots hso s (List.mem_of_getElem? q1)
 have e : (objT u n).1.sl.getD (matchF (objT u n).1.sl sel).1.toNat default = s := by rw [List.getD_eq_getElem?_getD, q1]; rfl
 rw [e] at hg hc hv
 generalize (matchF (objT u n).1.sl sel).2 = st at hg hc hv q2 ⊢
 have hkd := slot_kd hsw
 have key : (g.kind ≠ 1 /\ g.kind ≠ 2) /\ st = (g.kind == 5) /\ ((g.kind = 6 /\ s.v.k = 5 /\ s.v.n = g.code) \/ (g.kind = 3 /\ s.v = g.v /\ (s.kd = 1 \/ s.kd = 3)) \/ ((g.kind = 4 \/ g.kind = 5) /\ (s.kd = 2 \/ s.kd = 4))) := by
  unfold ofF at hg hc hv
  cases st with
  | true =>
   simp only [cond_true] at hg hc hv
   have ha := q2 rfl
   unfold assignB at ha
   simp only [Bool.or_eq_true, beq_iff_eq] at ha
   rw [hg]
   exact ⟨⟨by decide, by decide⟩, rfl, .inr (.inr ⟨.inr rfl, ha⟩)⟩
  | false =>
   simp only [cond_false] at hg hc hv
   cases h5 : s.v.k == 5 with
   | true =>
    rw [h5] at hg hc hv
    simp only [cond_true] at hg hc hv
    rw [hg]
    exact ⟨⟨by decide, by decide⟩, rfl, .inl ⟨rfl, by simpa using h5, hc.symm⟩⟩
   | false =>
    rw [h5] at hg hc hv
    simp only [cond_false] at hg hc hv
    cases ha : assignB s with
    | true =>
     rw [ha] at hg hc hv
     simp only [cond_true] at hg hc hv
     unfold assignB at ha
     simp only [Bool.or_eq_true, beq_iff_eq] at ha
     rw [hg]
     exact ⟨⟨by decide, by decide⟩, rfl, .inr (.inr ⟨.inl rfl, ha⟩)⟩
    | false =>
     rw [ha] at hg hc hv
     simp only [cond_false] at hg hc hv
     unfold assignB at ha
     simp only [Bool.or_eq_false_iff, beq_eq_false_iff_ne] at ha
     rw [hg]
     exact ⟨⟨by decide, by decide⟩, rfl, .inr (.inl ⟨rfl, hv.symm, by omega⟩)⟩
 exact .one n s key.1.1 key.1.2 ho hno rfl rfl hsl.symm key.2.1 hn (by rw [hsl]; exact ha) (by rw [hsl]; exact q1) key.2.2
theorem fits_targ {u : Wd} (hs : Sorted u) (hp : Parts u) {sel : List UInt8} {s : St} (ho : Outs u sel s) (hd : OutD u s) (v : Vl) (own : Bool) (hown : own = true -> ∀ x, s.2.2 = [x] -> v.k = 4 /\ x.holder = v.n) :
  FitsP u { targT u s.2.2 with own := bif decide ((targT u s.2.2).kind >= 3) then own else false } (fdOf s.2.2) v := by
 obtain ⟨sf, D, O⟩ := s
 match O, ho, hd, hown with
 | [], _, _, _ => exact .none rfl rfl
 | x :: y :: l, _, _, _ => exact .many rfl rfl
 | [x], ho, hd, hown =>
  have hx := ho.at_ x (List.mem_singleton.2 rfl)
  have hm := (ho.mem x.holder).1 (List.mem_map.2 ⟨x, List.mem_singleton.2 rfl, rfl⟩)
  have hh := (hd x (List.mem_singleton.2 rfl)).1
  have e1 : x.slot = (matchF (objT u x.holder).1.sl sel).1 := congrArg Fo.slot hx
  have e2 : x.set = (matchF (objT u x.holder).1.sl sel).2 := congrArg Fo.set hx
  have hk : ∀ s : Sl, (ofF s x).kind >= 3 := fun s => by
   unfold ofF
   cases x.set
   ·cases s.v.k == 5
    ·cases assignB s
     ·show (3 : Int) >= 3; decide
     ·show (4 : Int) >= 3; decide
    ·show (6 : Int) >= 3; decide
   ·show (5 : Int) >= 3; decide
  have hf : fdOf [x] = ⟨1, x.holder, (matchF (objT u x.holder).1.sl sel).1, (matchF (objT u x.holder).1.sl sel).2⟩ := by
   show (⟨1, x.holder, x.slot, x.set⟩ : Fd) = _
   rw [e1, e2]
  have hs2 : ∀ s : Sl, (ofF s x).slot = x.slot /\ (ofF s x).holder = x.holder := fun s => by
   unfold ofF
   cases x.set
   ·cases s.v.k == 5
    ·cases assignB s <;> exact ⟨rfl, rfl⟩
    ·exact ⟨rfl, rfl⟩
   ·exact ⟨rfl, rfl⟩
  show FitsP u { ofF ((objT u x.holder).1.sl.getD x.slot.toNat default) x with own := bif decide ((ofF ((objT u x.holder).1.sl.getD x.slot.toNat default) x).kind >= 3) then own else false } (fdOf [x]) v
  rw [hf]
  have hx2 : x = ⟨x.holder, (matchF (objT u x.holder).1.sl sel).1, (matchF (objT u x.holder).1.sl sel).2⟩ := hx
  refine fits_slot hs hp hh hm.2 _ v x.holder ?_ ?_ ?_ ?_ (fun h => ?_) (fun h => ?_)
  ·show (ofF _ x).kind = _; rw [<- hx2, <- e1]
  ·show (ofF _ x).slot = _; rw [(hs2 _).1, e1]
  ·show (ofF _ x).code = _; rw [<- hx2, <- e1]
  ·show (ofF _ x).v = _; rw [<- hx2, <- e1]
  ·have h' : (bif decide ((ofF ((objT u x.holder).1.sl.getD x.slot.toNat default) x).kind >= 3) then own else false) = true := h
   rw [decide_eq_true (hk _), cond_true] at h'
   obtain ⟨q1, q2⟩ := hown h' x rfl
   exact ⟨q1, .inr (by show (ofF _ x).holder = v.n; rw [(hs2 _).2, q2]), q2⟩
  ·show x.holder = (ofF _ x).holder; rw [(hs2 _).2]
theorem targT_own (u : Wd) (O : List Fo) : (targT u O).own = false := by
 match O with
 | [] => rfl
 | x :: y :: l => rfl
 | [x] =>
  show (ofF _ x).own = false
  unfold ofF
  cases x.set
  ·cases ((objT u x.holder).1.sl.getD x.slot.toNat default).v.k == 5
   ·cases assignB ((objT u x.holder).1.sl.getD x.slot.toNat default) <;> rfl
   ·rfl
  ·rfl
theorem own_false {t : Tg} {b : Bool} (h : t.own = false) : ({ t with own := bif b then false else false } : Tg) = t := by
 obtain ⟨a, b', c, d, e, f⟩ := t
 simp only at h
 subst h
 cases b <;> rfl
theorem outs_none (w : Wd) (sel : List UInt8) : Outs w sel (sf0, [], []) := ⟨fun m => ⟨fun h => by (cases h), fun h => by (cases h.1)⟩, List.nodup_nil, fun x hx => by (cases hx)⟩
theorem outd_none (w : Wd) : OutD w (sf0, [], []) := fun x hx => by cases hx
theorem first_dep {w : Wd} {sel : List UInt8} {f : Nat} (hf : 0 < f) (n : Int) : wholeD (objT w n).1 ∈ (visT w sel f (sf0, [], []) n).2.1 := by
 obtain ⟨f, rfl⟩ : ∃ k, f = k + 1 := ⟨f - 1, by omega⟩
 unfold visT
 show wholeD (objT w n).1 ∈ (bif decide ((matchF (objT w n).1.sl sel).1 >= 0) then _ else _ : St).2.1
 cases decide ((matchF (objT w n).1.sl sel).1 >= 0) with
 | true => exact List.mem_append_right _ (List.mem_singleton.2 rfl)
 | false => exact upT_pre (fun s n => visT_pre f s n) _ _ (List.mem_append_left _ (List.mem_append_right _ (List.mem_singleton.2 rfl)))
theorem from_fits {w u : Wd} (hsw : Sorted w) (hsu : Sorted u) (hpw : Parts w) (hpu : Parts u) {sel : List UInt8} {f : Nat} (hf : 0 < f) {n : Int} (hn : Has w n) (h : HoldsAll u (visT w sel f (sf0, [], []) n)) (v : Vl) (own : Bool) (hown : own = true -> v.k = 4 /\ (fromT w sel f sf0 [] n).holder = v.n) :
  FitsP u { fromT w sel f sf0 [] n with own := bif decide ((fromT w sel f sf0 [] n).kind >= 3) then own else false } (fdOf (visT u sel f (sf0, [], []) n).2.2) v := by
 have hun := (whole_same hsw hsu hn (h _ (first_dep hf n))).1
 obtain ⟨e1, e2⟩ := fromT_same hsw hsu hpw hpu hn h
 rw [<- e1] at hown ⊢
 refine fits_targ hsu hpu (visT_outs f _ n (outs_none u sel)) (visT_outd hsu hpu f _ n hun (outd_none u)) v own fun ho x hx => ?_
 obtain ⟨q1, q2⟩ := hown ho
 refine ⟨q1, ?_⟩
 unfold fromT at q2
 rw [hx] at q2
 rw [<- q2]
 show x.holder = (ofF _ x).holder
 unfold ofF
 cases x.set
 ·cases ((objT u x.holder).1.sl.getD x.slot.toNat default).v.k == 5
  ·cases assignB ((objT u x.holder).1.sl.getD x.slot.toNat default) <;> rfl
  ·rfl
 ·rfl
theorem holder_eq {O O' : List Fo} (h : ∀ m, m ∈ O.map Fo.holder ↔ m ∈ O'.map Fo.holder) (h1 : (O.map Fo.holder).Nodup) (h2 : (O'.map Fo.holder).Nodup) : O.length = O'.length := by
 have := ((List.perm_ext_iff_of_nodup h1 h2).2 h).length_eq
 simpa using this
theorem mslot_idem (s : Sl) : mslot (mslot s) = mslot s := by
 unfold mslot
 by_cases h : assignB s = true
 ·rw [if_pos h, if_pos (show assignB ⟨s.nm, s.kd, ⟨0, 0, []⟩⟩ = true from h)]
 ·rw [if_neg h, if_neg h]
theorem parL_map : ∀ {l : List Sl}, (l.map mslot).any shapA = false -> parL (l.map mslot) = parL l
 | [], _ => rfl
 | s :: t, h => by
  simp only [List.map_cons, List.any_cons, Bool.or_eq_false_iff] at h
  have ih := parL_map h.2
  have e1 : (mslot s).kd = s.kd := by unfold mslot; split <;> rfl
  have h4 : s.kd ≠ 4 := by have := h.1; unfold shapA at this; rw [e1] at this; simpa using this
  unfold parL at ih ⊢
  rw [List.map_cons, List.filter_cons, List.filter_cons]
  have e2 : isPar (mslot s) = isPar s := by unfold isPar; rw [e1]
  rw [e2]
  cases hp : isPar s with
  | false => simpa using ih
  | true =>
   have h3 : s.kd = 3 := by unfold isPar at hp; simpa [h4] using hp
   have e3 : mslot s = s := by unfold mslot; rw [if_neg]; unfold assignB; rw [h3]; decide
   simp only [if_true, List.map_cons, ih, e3]
theorem mpSelf_map (o : Ob) : (mapOfF o).sl.map mslot = o.sl.map mslot := by
 show (o.sl.map mslot).map mslot = _
 rw [List.map_map]
 exact List.map_congr_left fun s _ => mslot_idem s
theorem fits_same {u : Wd} {sel : List UInt8} {s s' : St} (h1 : Outs u sel s) (h2 : Outs u sel s') (hh : ∀ m, m ∈ s.2.2.map Fo.holder ↔ m ∈ s'.2.2.map Fo.holder) {v : Vl} (h : FitsP u (targT u s.2.2) (fdOf s.2.2) v) : FitsP u (targT u s.2.2) (fdOf s'.2.2) v := by
 obtain ⟨sf, D, O⟩ := s
 obtain ⟨sf', D', O'⟩ := s'
 have hl : O.length = O'.length := holder_eq hh h1.nd h2.nd
 match O, O', hl, h1, h2, hh, h with
 | [], [], _, _, _, _, h => exact h
 | [x], [x'], _, h1, h2, hh, h =>
  have e : x.holder = x'.holder := by
   have := (hh x.holder).1 (List.mem_map.2 ⟨x, List.mem_singleton.2 rfl, rfl⟩)
   simpa using this
  have e2 : x' = x := by
   rw [h1.at_ x (List.mem_singleton.2 rfl), h2.at_ x' (List.mem_singleton.2 rfl), e]
  rw [e2]; exact h
 | x :: y :: l, x' :: y' :: l', _, _, _, _, _ => exact .many rfl rfl
theorem shap_fits {w u : Wd} (hsw : Sorted w) (hsu : Sorted u) (hpw : Parts w) (hpu : Parts u) (huok : u.Ok) {U : List Int} (hU : Clo u U) {sel : List UInt8} {f : Nat} (hf : U.length + 1 < f) {v : Vl} (hvk : v.k = 4) (hun : Has u v.n) (hnU : v.n ∈ U)
  (hm : ∀ x ∈ parL (mapOfF (objT u v.n).1).sl, Has w (startF x)) (hg : (shapT w sel f sf0 [] (mapOfF (objT u v.n).1)).1.kind ≠ 0) (h : ∀ d ∈ (shapT w sel f sf0 [] (mapOfF (objT u v.n).1)).2.2.1, holdsT u d = true) :
  FitsP u (shapT w sel f sf0 [] (mapOfF (objT u v.n).1)).1 (fdOf (visT u sel f (sf0, [], []) v.n).2.2) v := by
 have hmm : matchF (mapOfF (objT u v.n).1).sl sel = matchF (objT u v.n).1.sl sel := match_map (mpSelf_map _) sel
 obtain ⟨f, rfl⟩ : ∃ k, f = k + 1 := ⟨f - 1, by omega⟩
 unfold shapT at hg h ⊢
 rw [hmm] at hg h ⊢
 have hvis : visT u sel (f + 1) (sf0, [], []) v.n = (bif decide ((matchF (objT u v.n).1.sl sel).1 >= 0) then (updS sf0 v.n, [wholeD (objT u v.n).1], [⟨v.n, (matchF (objT u v.n).1.sl sel).1, (matchF (objT u v.n).1.sl sel).2⟩])
   else upT u sel f (parL (objT u v.n).1.sl) (updS sf0 v.n, [wholeD (objT u v.n).1] ++ contL (objT u v.n).1 (objT u v.n).1.sl 0, [])) := rfl
 rw [hvis]
 cases hd : decide ((matchF (objT u v.n).1.sl sel).1 >= 0) with
 | true =>
  have ha : Answers u sel v.n := of_decide_eq_true hd
  simp only [cond_true]
  have e : ∀ x : Fo, ofF ((mapOfF (objT u v.n).1).sl.getD (matchF (objT u v.n).1.sl sel).1.toNat default) x = ofF ((objT u v.n).1.sl.getD (matchF (objT u v.n).1.sl sel).1.toNat default) x := fun x => by
   have hmt := getD_meth hpu hsu hun (matchF (objT u v.n).1.sl sel).1.toNat
   have e2 : (mapOfF (objT u v.n).1).sl.getD (matchF (objT u v.n).1.sl sel).1.toNat default = mslot ((objT u v.n).1.sl.getD (matchF (objT u v.n).1.sl sel).1.toNat default) := by
    show ((objT u v.n).1.sl.map mslot).getD _ default = _
    simp only [List.getD_eq_getElem?_getD, List.getElem?_map]
    cases (objT u v.n).1.sl[(matchF (objT u v.n).1.sl sel).1.toNat]? <;> rfl
   rw [e2]
   refine ofF_map (fun hk => ?_) hmt (mslot_idem _) x
   unfold mslot at hk ⊢
   split at hk
   ·exact absurd (show (0 : Int) = 5 from hk) (by decide)
   ·rename_i hna
    rw [if_neg hna]; exact hmt hk
  rw [e]
  have hsl : ∀ s : Sl, (ofF s ⟨0, (matchF (objT u v.n).1.sl sel).1, (matchF (objT u v.n).1.sl sel).2⟩).slot = (matchF (objT u v.n).1.sl sel).1 /\ (ofF s ⟨0, (matchF (objT u v.n).1.sl sel).1, (matchF (objT u v.n).1.sl sel).2⟩).holder = 0 := fun s => by
   unfold ofF
   cases (matchF (objT u v.n).1.sl sel).2
   ·cases s.v.k == 5
    ·cases assignB s <;> exact ⟨rfl, rfl⟩
    ·exact ⟨rfl, rfl⟩
   ·exact ⟨rfl, rfl⟩
  exact fits_slot hsu hpu hun ha _ v 0 rfl (hsl _).1 rfl rfl (fun _ => ⟨hvk, .inl (hsl _).2, rfl⟩) (fun h => by cases h)
 | false =>
  have ha : ¬ Answers u sel v.n := of_decide_eq_false hd
  rw [hd] at hg h
  simp only [cond_false] at hg h ⊢
  cases hsh : (mapOfF (objT u v.n).1).sl.any shapA with
  | true => rw [hsh] at hg; exact absurd rfl hg
  | false =>
   rw [hsh] at hg h
   simp only [cond_false] at hg h ⊢
   have epar : parL (mapOfF (objT u v.n).1).sl = parL (objT u v.n).1.sl := parL_map hsh
   rw [epar] at hm hg h ⊢
   have h' : HoldsAll u (upT w sel (f + 1) (parL (objT u v.n).1.sl) (sf0, [], [])) := h
   have e1 := upT_same (u := u) (visT_same (sel := sel) hsw hsu hpw (f + 1)) _ (sf0, [], []) hm h'
   have hod : OutD w (upT w sel (f + 1) (parL (objT u v.n).1.sl) (sf0, [], [])) := upT_keep hpw (visT_outd hsw hpw (f + 1)) _ _ hm (outd_none w)
   rw [<- targT_same hsw hsu hpw hpu hod h', <- e1]
   have hpar : ∀ x ∈ parL (objT u v.n).1.sl, Has u (startF x) := fun x hx => par_has hpu (hun.objT hsu).2.1 hx
   have o1 : Outs u sel (upT u sel (f + 1) (parL (objT u v.n).1.sl) (sf0, [], [])) := upT_outs (visT_outs (f + 1)) _ _ (outs_none u sel)
   have o2 : Outs u sel (upT u sel f (parL (objT u v.n).1.sl) (updS sf0 v.n, [wholeD (objT u v.n).1] ++ contL (objT u v.n).1 (objT u v.n).1.sl 0, [])) := upT_outs (visT_outs f) _ _ ⟨fun m => ⟨fun h => by (cases h), fun h => by
    rcases seen_upd.1 h.1 with e | e
    ·rw [e] at h; exact absurd h.2 ha
    ·cases e⟩, List.nodup_nil, fun x hx => by (cases hx)⟩
   have d1 : OutD u (upT u sel (f + 1) (parL (objT u v.n).1.sl) (sf0, [], [])) := upT_keep hpu (visT_outd hsu hpu (f + 1)) _ _ hpar (outd_none u)
   have hfit := fits_targ hsu hpu o1 d1 v false (fun h => by cases h)
   rw [own_false (targT_own u _)] at hfit
   exact fits_same o1 o2 (up_self huok hU hnU (by omega) (by omega) ha _) hfit
structure IsT (u : Wd) (maps : List Mp) (y : Ty) (v : Vl) : Prop where
 is : y.k = 1 -> v = y.v
 mp : y.k = 2 -> v.k = 4 /\ Has u v.n /\ maps.getD y.n.toNat default = mapOfF (objT u v.n).1
 int : y.k = 3 -> v.k = 1
 str : y.k = 4 -> v.k = 3
theorem sound {w u : Wd} (hsw : Sorted w) (hsu : Sorted u) (hpw : Parts w) (hpu : Parts u) (huok : u.Ok) {U : List Int} (hU : Clo u U) {sel : List UInt8} {f : Nat} (hf : U.length + 1 < f) {maps : List Mp} {y : Ty} {v : Vl} (hk : y.k = 0 \/ y.k = 1 \/ y.k = 2 \/ y.k = 3 \/ y.k = 4) (hb : Begins w maps y) (hi : IsT u maps y v) (hnU : startF v ∈ U)
  (hg : (runT w f maps y sel).1.kind ≠ 0) (h : ∀ d ∈ (runT w f maps y sel).2, holdsT u d = true) : FitsP u (runT w f maps y sel).1 (fdOf (visT u sel f (sf0, [], []) (startF v)).2.2) v := by
 have hf0 : 0 < f := by omega
 unfold runT at hg h ⊢
 rcases hk with k | k | k | k | k
 ·rw [k] at hg; exact absurd rfl hg
 ·rw [k] at hg h ⊢
  have e := hi.is k
  subst e
  have hw0 := hb.st k
  have hfit := from_fits hsw hsu hpw hpu hf0 hw0 h y.v (bif y.v.k == 4 then (fromT w sel f sf0 [] (startF y.v)).holder == y.v.n else false) (fun ho => by
   have := bif_and ho
   exact ⟨by simpa using this.1, by simpa using this.2⟩)
  exact hfit
 ·rw [k] at hg h ⊢
  obtain ⟨q1, q2, q3⟩ := hi.mp k
  have hbm := hb.mp k
  have hst : startF v = v.n := by unfold startF; rw [if_pos q1]
  rw [q3] at hg h hbm ⊢
  rw [hst] at hnU ⊢
  exact shap_fits hsw hsu hpw hpu huok hU hf q1 q2 hnU hbm hg h
 ·rw [k] at hg h ⊢
  have hst : startF v = 5 := by unfold startF; rw [hi.int k]; rfl
  rw [hst]
  have hfit := from_fits hsw hsu hpw hpu hf0 (root_has hpw).1 h v false (fun h => by cases h)
  have e : ({ fromT w sel f sf0 [] 5 with own := bif decide ((fromT w sel f sf0 [] 5).kind >= 3) then false else false } : Tg) = fromT w sel f sf0 [] 5 := own_false (targT_own w _)
  rw [e] at hfit
  exact hfit
 ·rw [k] at hg h ⊢
  have hst : startF v = 6 := by unfold startF; rw [hi.str k]; rfl
  rw [hst]
  have hfit := from_fits hsw hsu hpw hpu hf0 (root_has hpw).2 h v false (fun h => by cases h)
  have e : ({ fromT w sel f sf0 [] 6 with own := bif decide ((fromT w sel f sf0 [] 6).kind >= 3) then false else false } : Tg) = fromT w sel f sf0 [] 6 := own_false (targT_own w _)
  rw [e] at hfit
  exact hfit
end Go.Proofs.YtplpnfjccemdnaaGreatDoor
