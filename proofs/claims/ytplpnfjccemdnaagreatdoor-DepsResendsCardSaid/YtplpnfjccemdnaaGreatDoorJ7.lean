import Derived.Test.YtplpnfjccemdnaaGreatDoorJ6
import Derived.Orders
set_option linter.unusedVariables false
set_option linter.unusedSimpArgs false
/- The texts V13 V14 of the proof, laid one behind the other. -/
namespace Go.Proofs.YtplpnfjccemdnaaGreatDoor
open Go.RowKit
theorem optInt_congr {E E' : Env} {x : Option Operand} (h : ∀ y, x = some y -> evA E y = evA E' y) : optInt E x = optInt E' x := by
 cases x with
 | none => rfl
 | some y => simp only [optInt, h y rfl]
theorem opQ_congr {P : Program} {E E' : Env} {σ : Sig} {op : Op} (h : ∀ x ∈ op.operands, evA E x = evA E' x) : opQ P E σ op = opQ P E' σ op := by
 cases op with
 | move x => simp only [opQ, h x (by simp [Op.operands])]
 | assign x => simp only [opQ, h x (by simp [Op.operands])]
 | pick c a b => simp only [opQ, h c (by simp [Op.operands]), h a (by simp [Op.operands]), h b (by simp [Op.operands])]
 | load t x => simp only [opQ, h x (by simp [Op.operands])]
 | convert s d x => simp only [opQ, h x (by simp [Op.operands])]
 | nilCheck x => simp only [opQ, h x (by simp [Op.operands])]
 | binOp op t x y yt => simp only [opQ, h x (by simp [Op.operands]), h y (by simp [Op.operands])]
 | unOp op t x => cases op <;> simp only [opQ, h x (by simp [Op.operands])]
 | fieldAddr s x f => simp only [opQ, h x (by simp [Op.operands])]
 | field s x f => simp only [opQ, h x (by simp [Op.operands])]
 | indexAddr t x i => simp only [opQ, h x (by simp [Op.operands]), h i (by simp [Op.operands])]
 | index t x i => simp only [opQ, h x (by simp [Op.operands]), h i (by simp [Op.operands])]
 | extract t i => simp only [opQ, h t (by simp [Op.operands])]
 | makeFunc fn first caps =>
  cases fn with
  | func g =>
   have : caps.toList.map (evA E) = caps.toList.map (evA E') := List.map_congr_left fun x hx => h x (by simp only [Op.operands, Array.mem_append]; exact .inr (by simpa using hx))
   have h2 : first.toList.map (evA E) = first.toList.map (evA E') := List.map_congr_left fun x hx => h x (by simp only [Op.operands, Array.mem_append]; exact .inl (by simpa using hx))
   simp only [opQ, this, h2]
  | _ => rfl
 | slice t x lo hi mx =>
  cases mx with
  | none =>
   have h1 : optInt E lo = optInt E' lo := optInt_congr fun y hy => h y (by subst hy; simp [Op.operands])
   have h2 : optInt E hi = optInt E' hi := optInt_congr fun y hy => h y (by subst hy; simp [Op.operands])
   simp only [opQ, h x (by simp [Op.operands]), h1, h2]
  | some m => rfl
 | makeInterface t x => simp only [opQ, h x (by simp [Op.operands])]
 | typeAssert x xt t ok => cases ok <;> simp only [opQ, h x (by simp [Op.operands])]
 | build t parts =>
  have : (parts.toList.map fun q => (q.1, evA E q.2)) = parts.toList.map fun q => (q.1, evA E' q.2) := List.map_congr_left fun q hq => by
   rw [h q.2 (by simp only [Op.operands]; exact List.mem_toArray.2 (List.mem_map.2 ⟨q, hq, rfl⟩))]
  simp only [opQ, this]
 | call c =>
  obtain ⟨callee, args, argTypes⟩ := c
  cases callee with
  | builtin b =>
   cases b
   case len =>
    simp only [opQ]
    split
    ·rename_i x t ha ht
     rw [h x (by
      have : args = #[x] := by apply Array.ext'; simpa using ha
      subst this
      simp [Op.operands, Call.operands])]
    ·rfl
   case max =>
    simp only [opQ]
    split
    ·rename_i x y ha
     have : args = #[x, y] := by apply Array.ext'; simpa using ha
     subst this
     rw [h x (by simp [Op.operands, Call.operands]), h y (by simp [Op.operands, Call.operands])]
    ·rfl
   case min =>
    simp only [opQ]
    split
    ·rename_i x y ha
     have : args = #[x, y] := by apply Array.ext'; simpa using ha
     subst this
     rw [h x (by simp [Op.operands, Call.operands]), h y (by simp [Op.operands, Call.operands])]
    ·rfl
   all_goals rfl
  | _ => rfl
 | _ => rfl
theorem opC_congr {P : Program} {E E' : Env} {op : Op} (h : ∀ x ∈ op.operands, evA E x = evA E' x) : opC P E op = opC P E' op := by
 cases op with
 | call c =>
  obtain ⟨callee, args, argTypes⟩ := c
  cases callee with
  | value f =>
   have h1 : evA E f = evA E' f := h f (by simp [Op.operands, Call.operands])
   have h2 : args.toList.map (evA E) = args.toList.map (evA E') := List.map_congr_left fun x hx => h x (by simp only [Op.operands, Call.operands, Array.mem_append]; exact .inr (by simpa using hx))
   simp only [opC, h1, h2]
  | _ => rfl
 | _ => rfl
theorem opB_congr {P : Program} {E E' : Env} {op : Op} (h : ∀ x ∈ op.operands, evA E x = evA E' x) : opB P E op = opB P E' op := by
 cases op with
 | buildSlice t len parts =>
  have : (parts.toList.map fun q => (q.1, evA E q.2)) = parts.toList.map fun q => (q.1, evA E' q.2) := List.map_congr_left fun q hq => by
   rw [h q.2 (by simp only [Op.operands]; exact List.mem_toArray.2 (List.mem_map.2 ⟨q, hq, rfl⟩))]
  simp only [opB, this]
 | _ => rfl
theorem opB_S {P : Program} {E : Env} {σ : Sig} {op : Op} {p : PV} (h : opB P E op = some p) : opS P E σ op = some (none, p, σ) := by
 cases op with
 | buildSlice t len parts => simp only [opS, opS1, h]
 | _ => simp [opB] at h
theorem opB_store {P : Program} {E : Env} {op : Op} {p : PV} (h : opB P E op = some p) : (∀ t x y, op ≠ .store t x y) /\ (∀ t x y z, op ≠ .mapUpdate t x y z) /\ ∀ t x y z, op ≠ .insert t x y z := ⟨fun t x y e => by subst e; simp [opB] at h, fun t x y z e => by subst e; simp [opB] at h, fun t x y z e => by subst e; simp [opB] at h⟩
theorem opS_congr {P : Program} {E E' : Env} {σ : Sig} {op : Op} (h : ∀ x ∈ op.operands, evA E x = evA E' x) : opS P E σ op = opS P E' σ op := by
 cases op with
 | box t x => simp only [opS, opS1, opS0, h x (by simp [Op.operands])]
 | store t x y => simp only [opS, opS1, opS0, h x (by simp [Op.operands]), h y (by simp [Op.operands])]
 | buildSlice t len parts =>
  have h2 : (parts.toList.map fun q => (q.1, evA E q.2)) = parts.toList.map fun q => (q.1, evA E' q.2) := List.map_congr_left fun q hq => by
   rw [h q.2 (by simp only [Op.operands]; exact List.mem_toArray.2 (List.mem_map.2 ⟨q, hq, rfl⟩))]
  simp only [opS, opS1, ownSliceP, opB_congr h, h2]
 | convert s d x => simp only [opS, h x (by simp [Op.operands])]
 | lookup t x i ok => simp only [opS, h x (by simp [Op.operands]), h i (by simp [Op.operands])]
 | mapUpdate t m k v => simp only [opS, h m (by simp [Op.operands]), h k (by simp [Op.operands]), h v (by simp [Op.operands])]
 | insert t m k v => simp only [opS, h m (by simp [Op.operands]), h k (by simp [Op.operands]), h v (by simp [Op.operands])]
 | makeMap t r =>
  have : optInt E r = optInt E' r := optInt_congr fun y hy => h y (by subst hy; simp [Op.operands])
  simp only [opS, mkMapP, this]
 | makeSlice t l c => simp only [opS, opS1, h l (by simp [Op.operands]), h c (by simp [Op.operands])]
 | call c =>
  obtain ⟨callee, args, argTypes⟩ := c
  cases callee with
  | builtin b =>
   cases b
   case append =>
    simp only [opS, opS1]
    split
    ·rename_i s x t t' ha ht
     have : args = #[s, x] := by apply Array.ext'; simpa using ha
     subst this
     rw [h s (by simp [Op.operands, Call.operands]), h x (by simp [Op.operands, Call.operands])]
    ·rfl
   all_goals rfl
  | _ => rfl
 | _ => rfl
def sind (E : Env) : Op -> Bool
 | .load _ x => match evA E x with
  | .ref _ _ => false
  | .rr _ _ _ _ => false
  | _ => true
 | _ => true
theorem opQ_sind {P : Program} {E : Env} {σ σ' : Sig} {op : Op} (h : sind E op = true) : opQ P E σ op = opQ P E σ' op := by
 cases op with
 | load t x =>
  have : behindP σ (evA E x) = behindP σ' (evA E x) /\ rowP P σ t (evA E x) = rowP P σ' t (evA E x) := by
   cases hp : evA E x with
   | ref i off => simp [sind, hp] at h
   | rr i k j c => simp [sind, hp] at h
   | _ => exact ⟨rfl, rfl⟩
  simp only [opQ, this.1, this.2]
 | unOp op t x => cases op <;> rfl
 | makeFunc fn first caps => cases fn <;> rfl
 | slice t x lo hi mx => cases mx <;> rfl
 | typeAssert x xt t ok => cases ok <;> rfl
 | call c =>
  obtain ⟨callee, args, argTypes⟩ := c
  cases callee with
  | builtin b => cases b <;> rfl
  | _ => rfl
 | _ => rfl
def dirP (all : Array Oper) (j k : Nat) : Bool :=
 match all[j]? with
 | some o => o.after.toList.any fun e => Region.binds .any e && e.on == k
 | none => false
def dstOf (all : Array Oper) (k : Nat) : Option Tmp := (all[k]?).bind (·.dst)
def tmpOf : Operand -> Option Nat
 | .tmp t => some t
 | _ => none
def slotsOf (all : Array Oper) (o : Oper) : List Nat :=
 o.op.operands.toList.filterMap tmpOf ++ (match o.guard with | some (g, _) => (dstOf all g).toList | none => [])
def pairOk (all : Array Oper) (o : Oper) (j k : Nat) : Bool :=
 match dstOf all k with
 | some t => (k == j || o.dst != some t) && (!(slotsOf all o).contains t || (decide (k < j) && dirP all j k) || (decide (j < k) && dirP all k j))
 | none => true
def okD (all : Array Oper) : Bool :=
 (List.range all.size).all fun j =>
  match all[j]? with
  | some o => (o.after.toList.all fun e => !Region.binds .any e || decide (e.on < j)) && (List.range all.size).all (pairOk all o j)
  | none => false
theorem okD_at {all : Array Oper} (h : okD all = true) {j : Nat} {o : Oper} (ho : all[j]? = some o) : (∀ e ∈ o.after, Region.binds .any e = true -> e.on < j) /\ ∀ k, k < all.size -> pairOk all o j k = true := by
 have hlt : j < all.size := (Array.getElem?_eq_some_iff.1 ho).1
 have := List.all_eq_true.1 h j (by simpa using hlt)
 simp only [ho, Bool.and_eq_true] at this
 refine ⟨fun e he hb => ?_, fun k hk => List.all_eq_true.1 this.2 k (by simpa using hk)⟩
 have h1 := List.all_eq_true.1 this.1 e (by simpa using he)
 simpa [hb] using h1
theorem dirP_at {all : Array Oper} {j k : Nat} {o : Oper} (ho : all[j]? = some o) (h : dirP all j k = true) : ∃ e ∈ o.after, Region.binds .any e = true /\ e.on = k := by
 unfold dirP at h
 rw [ho] at h
 obtain ⟨e, he, hb⟩ := List.any_eq_true.1 h
 simp only [Bool.and_eq_true, beq_iff_eq] at hb
 exact ⟨e, by simpa using he, hb.1, hb.2⟩
def eqR (p q : PV) : Prop := ∀ β L W u, R β L W p u ↔ R β L W q u
theorem eqR.refl (p : PV) : eqR p p := fun _ _ _ _ => Iff.rfl
theorem eqR.trans {p q r : PV} (h : eqR p q) (k : eqR q r) : eqR p r := fun β L W u => (h β L W u).trans (k β L W u)
theorem eqR.sb (b : Bool) : eqR (.sb b) (.v (.bool b)) := fun β L W u => by rw [R, R]
def reachP (all : Array Oper) : Nat -> Nat -> Nat -> Bool
 | 0, _, _ => false
 | n + 1, j, k => dirP all j k || (match all[j]? with | some o => o.after.toList.any fun e => Region.binds .any e && reachP all n e.on k | none => false)
def ordT (all : Array Oper) (j t : Nat) : Bool := reachP all 8 j t || reachP all 8 t j
def okS (all : Array Oper) (ss : List (Nat × List Nat)) (ds : List (Nat × Option Nat)) : Bool :=
 ss.all fun t => (ss.all fun j => (j.1 == t.1) || ordT all j.1 t.1) && ds.all fun d => (match d.2 with | some i => !t.2.contains i | none => false) || ordT all d.1 t.1
inductive Kd where
 | fr
 | rd (i : Option Nat)
 | wr (tl : List Nat)
def addS (i : Nat) : Kd -> List (Nat × List Nat) -> List (Nat × List Nat)
 | .wr tl, ss => (i, tl) :: ss
 | .fr, ss => ss
 | .rd _, ss => ss
def addD (i : Nat) : Kd -> List (Nat × Option Nat) -> List (Nat × Option Nat)
 | .rd x, ds => (i, x) :: ds
 | .fr, ds => ds
 | .wr _, ds => ds
inductive Did (P : Program) (all : Array Oper) (o : Oper) (E : Env) (σ σ' : Sig) (p : PV) : Kd -> Prop where
 | skip (hg : guardP all E o = some false) (hp : p = .v undef) (hσ : σ' = σ) : Did P all o E σ σ' p .fr
 | q0 (pre : Option Prop) (hg : guardP all E o = some true) (hq : opQ P E σ o.op = some (pre, p)) (hp : Pre pre) (hi : sind E o.op = true) (hσ : σ' = σ) : Did P all o E σ σ' p .fr
 | q1 (pre : Option Prop) (hg : guardP all E o = some true) (hq : opQ P E σ o.op = some (pre, p)) (hp : Pre pre) (i : Nat) (hi : ∀ σ2 : Sig, σ2[i]? = σ[i]? -> opQ P E σ2 o.op = opQ P E σ o.op) (hσ : σ' = σ) : Did P all o E σ σ' p (.rd (some i))
 | c0 (g : FuncId) (ps : List PV) (hg : guardP all E o = some true) (hc : opC P E o.op = some (g, ps)) (hp : noRef.noRefs ps = true) (hs : Spec P g ps p) (hσ : σ' = σ) : Did P all o E σ σ' p .fr
 | c1 (g : FuncId) (ps : List PV) (hg : guardP all E o = some true) (hc : opC P E o.op = some (g, ps)) (hf : flatP p = true) (hs : Spec P g (ps.map (fz 8 σ)) p) (hcc : All (joinC (fzC 8 σ) ps)) (hσ : σ' = σ) : Did P all o E σ σ' p (.rd none)
 | b (hg : guardP all E o = some true) (hb : opB P E o.op = some p) (hσ : σ' = σ) : Did P all o E σ σ' p .fr
 | s (pre : Option Prop) (hg : guardP all E o = some true) (hs : opS P E σ o.op = some (pre, p, σ')) (hpre : Pre pre) (hst : o.dst = none \/ ((∀ t x y, o.op ≠ .store t x y) /\ (∀ t x y z, o.op ≠ .mapUpdate t x y z) /\ ∀ t x y z, o.op ≠ .insert t x y z)) (tl : List Nat) (htl : ∀ i, i ∉ tl -> σ'[i]? = σ[i]?) : Did P all o E σ σ' p (.wr tl)
 | h (i : Nat) (hg : guardP all E o = some true) (hx : ∀ (N : Nat) (β : List (Option Nat)) (L : List Nat) (W : World) (E2 : Env) (σ2 : Sig) (a : Act), (∀ x ∈ o.op.operands, evA E2 x = evA E x) -> σ2[i]? = σ[i]? -> Ev β L W N E2 a -> Bx β L W σ2 -> ∃ u, (execOp a.eval o).run P W = .ok (.value u) W /\ R β L W p u) (hσ : σ' = σ) : Did P all o E σ σ' p (.rd (some i))
 | m (g : FuncId) (ps : List PV) (is : List Nat) (m : Nat) (σ0 σ1 : Sig) (qs : List PV) (r : PV) (hg : guardP all E o = some true) (hc : opC P E o.op = some (g, ps)) (hs : SpecM P g m σ0 qs σ1 r) (hρ : renOk σ is = true) (h0 : renS is σ = σ0)
   (hq : ps.map (renP (invF is 0) 8) = qs) (hp : p = renP (outF is m σ.length) 8 r) (hσ : σ' = mergeS is m σ σ1) (tl : List Nat) (htl : ∀ i, i ∉ tl -> σ'[i]? = σ[i]?) : Did P all o E σ σ' p (.wr tl)
inductive Tr (P : Program) (N : Nat) (all : Array Oper) (E0 : Env) (σ0 : Sig) : Nat -> Env -> Sig -> List (Nat × List Nat) -> List (Nat × Option Nat) -> Prop where
 | nil : Tr P N all E0 σ0 0 E0 σ0 [] []
 | op {i : Nat} {k : Kd} {E : Env} {σ σ' : Sig} {ss ss' : List (Nat × List Nat)} {ds ds' : List (Nat × Option Nat)} {o : Oper} {p : PV} (h : Tr P N all E0 σ0 i E σ ss ds) (ho : all[i]? = some o) (hd : fitsD N o.dst = true) (hk : Did P all o E σ σ' p k)
   (h1 : ss' = addS i k ss) (h2 : ds' = addD i k ds) : Tr P N all E0 σ0 (i + 1) (putE E o.dst p) σ' ss' ds'
 | as {i : Nat} {E : Env} {σ : Sig} {ss : List (Nat × List Nat)} {ds : List (Nat × Option Nat)} {t : Nat} {b : Bool} (h : Tr P N all E0 σ0 i E σ ss ds) (hl : lk E t = .sb b) : Tr P N all E0 σ0 i ((t, .v (.bool b)) :: E) σ ss ds
theorem lk_put {E : Env} {d : Option Tmp} {p : PV} {t : Nat} : lk (putE E d p) t = if d = some t then p else lk E t := by
 cases d with
 | none => simp [putE]
 | some s => simp [putE, lk]
inductive TrF (P : Program) (N : Nat) (all : Array Oper) (fl : Nat -> Bool) (E0 : Env) (σ0 : Sig) : Nat -> Env -> Sig -> List (Nat × List Nat) -> List (Nat × Option Nat) -> Prop where
 | nil : TrF P N all fl E0 σ0 0 E0 σ0 [] []
 | op {i : Nat} {k : Kd} {E : Env} {σ σ' : Sig} {ss ss' : List (Nat × List Nat)} {ds ds' : List (Nat × Option Nat)} {o : Oper} {p : PV} (h : TrF P N all fl E0 σ0 i E σ ss ds) (ho : all[i]? = some o) (hd : fitsD N o.dst = true) (hk : Did P all o E σ σ' p k)
   (h1 : ss' = addS i k ss) (h2 : ds' = addD i k ds) : TrF P N all fl E0 σ0 (i + 1) (putE E o.dst p) σ' ss' ds'
 | fl {i : Nat} {E : Env} {σ : Sig} {ss : List (Nat × List Nat)} {ds : List (Nat × Option Nat)} {o : Oper} (h : TrF P N all fl E0 σ0 i E σ ss ds) (ho : all[i]? = some o) (hf : fl i = true) : TrF P N all fl E0 σ0 (i + 1) (putE E o.dst .any) σ ss ds
 | as {i : Nat} {E : Env} {σ : Sig} {ss : List (Nat × List Nat)} {ds : List (Nat × Option Nat)} {t : Nat} {b : Bool} (h : TrF P N all fl E0 σ0 i E σ ss ds) (hl : lk E t = .sb b) : TrF P N all fl E0 σ0 i ((t, .v (.bool b)) :: E) σ ss ds
section
variable {P : Program} {N : Nat} {all : Array Oper} {E0 : Env} {σ0 : Sig}
theorem Did.sig {o : Oper} {E : Env} {σ σ' : Sig} {p : PV} {k : Kd} (h : Did P all o E σ σ' p k) : (∃ tl, k = .wr tl /\ ∀ i, i ∉ tl -> σ'[i]? = σ[i]?) \/ ((∀ tl, k ≠ .wr tl) /\ σ' = σ) := by
 cases h with
 | skip _ _ h => exact .inr ⟨(fun _ h => by cases h), h⟩
 | q0 _ _ _ _ _ h => exact .inr ⟨(fun _ h => by cases h), h⟩
 | q1 _ _ _ _ _ _ h => exact .inr ⟨(fun _ h => by cases h), h⟩
 | h _ _ _ h => exact .inr ⟨(fun _ h => by cases h), h⟩
 | c0 _ _ _ _ _ _ h => exact .inr ⟨(fun _ h => by cases h), h⟩
 | c1 _ _ _ _ _ _ _ h => exact .inr ⟨(fun _ h => by cases h), h⟩
 | b _ _ h => exact .inr ⟨(fun _ h => by cases h), h⟩
 | s _ _ _ _ _ tl htl => exact .inl ⟨tl, rfl, htl⟩
 | m _ _ _ _ _ _ _ _ _ _ _ _ _ _ _ _ tl htl => exact .inl ⟨tl, rfl, htl⟩
variable {fl : Nat -> Bool}
theorem TrF.of {i : Nat} {E : Env} {σ : Sig} {ss : List (Nat × List Nat)} {ds : List (Nat × Option Nat)} (h : Tr P N all E0 σ0 i E σ ss ds) : TrF P N all fl E0 σ0 i E σ ss ds := by
 induction h with
 | nil => exact .nil
 | op _ ho hd hk h1 h2 ih => exact .op ih ho hd hk h1 h2
 | as _ hl ih => exact .as ih hl
theorem TrF.data (hok : okD all = true) {i : Nat} {E : Env} {σ : Sig} {ss : List (Nat × List Nat)} {ds : List (Nat × Option Nat)} (h : TrF P N all fl E0 σ0 i E σ ss ds) : i <= all.size /\
    (∀ t, (∀ k, k < i -> dstOf all k ≠ some t) -> eqR (lk E0 t) (lk E t)) /\ (∀ q ∈ ss, q.1 < i) /\ ∃ sg : Nat -> Sig, sg 0 = σ0 /\ sg i = σ /\ (∀ j, j < i -> (∀ tl, (j, tl) ∉ ss) -> sg (j + 1) = sg j) /\ (∀ j tl, (j, tl) ∈ ss -> ∀ x, x ∉ tl -> (sg (j + 1))[x]? = (sg j)[x]?) /\
    ∀ j, j < i -> fl j = false -> ∃ o Ej p k, all[j]? = some o /\ fitsD N o.dst = true /\ Did P all o Ej (sg j) (sg (j + 1)) p k /\ (∀ tl, k = .wr tl -> (j, tl) ∈ ss) /\ (∀ x, k = .rd x -> (j, x) ∈ ds) /\ (∀ tl, (j, tl) ∈ ss -> k = .wr tl) /\
      (∀ t, (∀ k, j <= k -> k < i -> dstOf all k ≠ some t) -> eqR (lk Ej t) (lk E t)) /\
      (∀ t, (∀ k, k < j -> dstOf all k ≠ some t) -> eqR (lk E0 t) (lk Ej t)) /\
      (∀ t, o.dst = some t -> eqR p (lk E t)) := by
  induction h with
  | nil => exact ⟨Nat.zero_le _, fun t _ => eqR.refl _, fun j hj => by simp at hj, fun _ => σ0, rfl, rfl, fun _ _ _ => rfl, fun _ _ hj => by simp at hj, fun j hj _ => absurd hj (Nat.not_lt_zero _)⟩
  | @op i k E σ σ' ss ss' ds ds' o p h ho hd hk e1 e2 ih =>
    obtain ⟨h1, h2, hss, sg, g0, gi, gc, gt, h4⟩ := ih
    have hlt : i < all.size := (Array.getElem?_eq_some_iff.1 ho).1
    have hdi : dstOf all i = o.dst := by simp [dstOf, ho]
    let sg' : Nat -> Sig := fun x => if x = i + 1 then σ' else sg x
    have sgo : ∀ x, x <= i -> sg' x = sg x := fun x hx => if_neg (by omega)
    have sgn : sg' (i + 1) = σ' := if_pos rfl
    have mss : ∀ j tl, j < i -> ((j, tl) ∈ ss' ↔ (j, tl) ∈ ss) := fun j tl hj => by
      rw [e1]
      cases k with
      | wr tl' => simp only [addS, List.mem_cons, Prod.mk.injEq]; constructor
                  · rintro (⟨h, _⟩ | h)
                    · omega
                    · exact h
                  · exact .inr
      | fr => rfl
      | rd _ => rfl
    have mds : ∀ j x, j < i -> ((j, x) ∈ ds' ↔ (j, x) ∈ ds) := fun j x hj => by
      rw [e2]
      cases k with
      | rd x' => simp only [addD, List.mem_cons, Prod.mk.injEq]; constructor
                 · rintro (⟨h, _⟩ | h)
                   · omega
                   · exact h
                 · exact .inr
      | fr => rfl
      | wr _ => rfl
    have iss : ∀ tl, (i, tl) ∈ ss' ↔ k = .wr tl := fun tl => by
      rw [e1]
      cases k with
      | wr tl' =>
        simp only [addS, List.mem_cons, Prod.mk.injEq, Kd.wr.injEq]
        constructor
        · rintro (⟨_, h⟩ | h)
          · exact h.symm
          · exact absurd (hss _ h) (Nat.lt_irrefl _)
        · intro h; exact .inl (by simp [h])
      | fr => exact ⟨fun h => absurd (hss _ h) (Nat.lt_irrefl _), fun h => by cases h⟩
      | rd _ => exact ⟨fun h => absurd (hss _ h) (Nat.lt_irrefl _), fun h => by cases h⟩
    refine ⟨hlt, fun t ht => ?_, fun j hj => ?_, sg', by rw [sgo 0 (Nat.zero_le _)]; exact g0, sgn, fun j hj hn => ?_, fun j tl hj => ?_, fun j hj hfj => ?_⟩
    · rw [lk_put, if_neg (by rw [<- hdi]; exact ht i (Nat.lt_succ_self i))]
      exact h2 t fun k hk => ht k (Nat.lt_succ_of_lt hk)
    · rw [e1] at hj
      cases k with
      | wr tl =>
        rcases List.mem_cons.1 hj with rfl | hj
        · exact Nat.lt_succ_self _
        · have := hss j hj; omega
      | fr => have := hss j hj; omega
      | rd _ => have := hss j hj; omega
    · by_cases e : j = i
      · subst e
        rw [sgn, sgo j (Nat.le_refl _), gi]
        rcases hk.sig with ⟨tl, h, _⟩ | ⟨_, h⟩
        · exact absurd ((iss tl).2 h) (hn tl)
        · exact h
      · have hj' : j < i := by omega
        rw [sgo j (by omega), sgo (j + 1) (by omega)]
        exact gc j hj' fun tl h => hn tl ((mss j tl hj').2 h)
    · by_cases e : j = i
      · subst e
        rw [sgn, sgo j (Nat.le_refl _), gi]
        have hkk := (iss tl).1 hj
        rcases hk.sig with ⟨tl', h, h'⟩ | ⟨h, _⟩
        · rw [hkk] at h; cases h; exact h'
        · exact absurd hkk (h tl)
      · have hj' : j < i := by
          have : j < i + 1 := by
            rw [e1] at hj
            cases k with
            | wr tl' =>
              rcases List.mem_cons.1 hj with h | h
              · cases h; exact Nat.lt_succ_self _
              · have := hss _ h; simp at this; omega
            | fr => have := hss _ hj; simp at this; omega
            | rd _ => have := hss _ hj; simp at this; omega
          omega
        rw [sgo j (by omega), sgo (j + 1) (by omega)]
        exact gt j tl ((mss j tl hj').1 hj)
    · by_cases e : j = i
      · subst e
        refine ⟨o, E, p, k, ho, hd, by rw [sgn, sgo j (Nat.le_refl _), gi]; exact hk, fun tl h => (iss tl).2 h, fun x h => by rw [e2, h]; exact List.mem_cons_self .., fun tl h => (iss tl).1 h, fun t ht => ?_, fun t ht => h2 t ht, fun t ht => ?_⟩
        · rw [lk_put, if_neg (by rw [<- hdi]; exact ht j (Nat.le_refl _) (Nat.lt_succ_self _))]; exact eqR.refl _
        · rw [lk_put, if_pos ht]; exact eqR.refl _
      · have hj' : j < i := by omega
        obtain ⟨oj, Ej, pj, kj, q1, q2, q3, q7, q8, q9, q4, q5, q6⟩ := h4 j hj' hfj
        have hw : ∀ t, oj.dst = some t -> o.dst ≠ some t := fun t ht hc => by
          have := (okD_at hok q1).2 i hlt
          unfold pairOk at this
          rw [hdi, hc] at this
          simp only [Bool.and_eq_true, Bool.or_eq_true, beq_iff_eq, bne_iff_ne, ne_eq] at this
          rcases this.1 with h | h
          · omega
          · exact h ht
        refine ⟨oj, Ej, pj, kj, q1, q2, by rw [sgo j (by omega), sgo (j + 1) (by omega)]; exact q3, fun tl h => (mss j tl hj').2 (q7 tl h), fun x h => (mds j x hj').2 (q8 x h), fun tl h => q9 tl ((mss j tl hj').1 h), fun t ht => ?_, q5, fun t ht => ?_⟩
        · rw [lk_put, if_neg (by rw [<- hdi]; exact ht i (Nat.le_of_lt hj') (Nat.lt_succ_self _))]
          exact q4 t fun k hk1 hk2 => ht k hk1 (Nat.lt_succ_of_lt hk2)
        · rw [lk_put, if_neg (hw t ht)]; exact q6 t ht
  | @fl i E σ ss ds o h ho hf ih =>
    obtain ⟨h1, h2, hss, sg, g0, gi, gc, gt, h4⟩ := ih
    have hlt : i < all.size := (Array.getElem?_eq_some_iff.1 ho).1
    have hdi : dstOf all i = o.dst := by simp [dstOf, ho]
    let sg' : Nat -> Sig := fun x => if x = i + 1 then σ else sg x
    have sgo : ∀ x, x <= i -> sg' x = sg x := fun x hx => if_neg (by omega)
    have sgn : sg' (i + 1) = σ := if_pos rfl
    refine ⟨hlt, fun t ht => ?_, fun q hq => Nat.lt_succ_of_lt (hss q hq), sg', by rw [sgo 0 (Nat.zero_le _)]; exact g0, sgn, fun j hj hn => ?_, fun j tl hj => ?_, fun j hj hfj => ?_⟩
    · rw [lk_put, if_neg (by rw [<- hdi]; exact ht i (Nat.lt_succ_self i))]
      exact h2 t fun k hk => ht k (Nat.lt_succ_of_lt hk)
    · by_cases e : j = i
      · subst e; rw [sgn, sgo j (Nat.le_refl _), gi]
      · rw [sgo j (by omega), sgo (j + 1) (by omega)]; exact gc j (by omega) hn
    · have hj' := hss _ hj
      simp only at hj'
      rw [sgo j (by omega), sgo (j + 1) (by omega)]
      exact gt j tl hj
    · by_cases e : j = i
      · subst e; rw [hf] at hfj; cases hfj
      · have hj' : j < i := by omega
        obtain ⟨oj, Ej, pj, kj, q1, q2, q3, q7, q8, q9, q4, q5, q6⟩ := h4 j hj' hfj
        have hw : ∀ t, oj.dst = some t -> o.dst ≠ some t := fun t ht hc => by
          have := (okD_at hok q1).2 i hlt
          unfold pairOk at this
          rw [hdi, hc] at this
          simp only [Bool.and_eq_true, Bool.or_eq_true, beq_iff_eq, bne_iff_ne, ne_eq] at this
          rcases this.1 with h | h
          · omega
          · exact h ht
        refine ⟨oj, Ej, pj, kj, q1, q2, by rw [sgo j (by omega), sgo (j + 1) (by omega)]; exact q3, q7, q8, q9, fun t ht => ?_, q5, fun t ht => ?_⟩
        · rw [lk_put, if_neg (by rw [<- hdi]; exact ht i (Nat.le_of_lt hj') (Nat.lt_succ_self _))]
          exact q4 t fun k hk1 hk2 => ht k hk1 (Nat.lt_succ_of_lt hk2)
        · rw [lk_put, if_neg (hw t ht)]; exact q6 t ht
  | @as i E σ ss ds t b h hl ih =>
    obtain ⟨h1, h2, hss, sg, g0, gi, gc, gt, h4⟩ := ih
    have key : ∀ x, eqR (lk E x) (lk ((t, PV.v (.bool b)) :: E) x) := fun x => by
      simp only [lk]
      split
      · rename_i e; subst e; rw [hl]; exact eqR.sb b
      · exact eqR.refl _
    refine ⟨h1, fun x hx => (h2 x hx).trans (key x), hss, sg, g0, gi, gc, gt, fun j hj hfj => ?_⟩
    obtain ⟨oj, Ej, pj, kj, q1, q2, q3, q7, q8, q9, q4, q5, q6⟩ := h4 j hj hfj
    exact ⟨oj, Ej, pj, kj, q1, q2, q3, q7, q8, q9, fun x hx => (q4 x hx).trans (key x), q5, fun x hx => (q6 x hx).trans (key x)⟩
theorem Tr.data (hok : okD all = true) {i : Nat} {E : Env} {σ : Sig} {ss : List (Nat × List Nat)} {ds : List (Nat × Option Nat)} (h : Tr P N all E0 σ0 i E σ ss ds) : i <= all.size /\
  (∀ t, (∀ k, k < i -> dstOf all k ≠ some t) -> eqR (lk E0 t) (lk E t)) /\ (∀ q ∈ ss, q.1 < i) /\ ∃ sg : Nat -> Sig, sg 0 = σ0 /\ sg i = σ /\ (∀ j, j < i -> (∀ tl, (j, tl) ∉ ss) -> sg (j + 1) = sg j) /\ (∀ j tl, (j, tl) ∈ ss -> ∀ x, x ∉ tl -> (sg (j + 1))[x]? = (sg j)[x]?) /\
  ∀ j, j < i -> ∃ o Ej p k, all[j]? = some o /\ fitsD N o.dst = true /\ Did P all o Ej (sg j) (sg (j + 1)) p k /\ (∀ tl, k = .wr tl -> (j, tl) ∈ ss) /\ (∀ x, k = .rd x -> (j, x) ∈ ds) /\ (∀ tl, (j, tl) ∈ ss -> k = .wr tl) /\
   (∀ t, (∀ k, j <= k -> k < i -> dstOf all k ≠ some t) -> eqR (lk Ej t) (lk E t)) /\
   (∀ t, (∀ k, k < j -> dstOf all k ≠ some t) -> eqR (lk E0 t) (lk Ej t)) /\
   (∀ t, o.dst = some t -> eqR p (lk E t)) := by
 obtain ⟨h1, h2, h3, sg, g0, gi, gc, gt, h4⟩ := (TrF.of (fl := fun _ => false) h).data hok
 exact ⟨h1, h2, h3, sg, g0, gi, gc, gt, fun j hj => h4 j hj rfl⟩
end
end Go.Proofs.YtplpnfjccemdnaaGreatDoor
