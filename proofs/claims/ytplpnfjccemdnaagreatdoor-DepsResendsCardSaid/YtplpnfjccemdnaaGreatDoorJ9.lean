import Derived.Test.YtplpnfjccemdnaaGreatDoorJ8
import Derived.Scope
set_option linter.unusedVariables false
set_option linter.unusedSimpArgs false
/- The texts V15b V9 V10 V11 of the proof, laid one behind the other. -/
namespace Go.Proofs.YtplpnfjccemdnaaGreatDoor
open Go.RowKit
def readI (E : Env) : Op -> Option Nat
 | .load _ x => match evA E x with
  | .ref i _ => some i
  | .rr i _ _ _ => some i
  | _ => none
 | _ => none
def touchS (E : Env) (σ : Sig) : Op -> List Nat
 | .box _ _ => [σ.length]
 | .alloc _ => [σ.length]
 | .makeMap _ _ => [σ.length]
 | .makeSlice _ _ _ => [σ.length]
 | .buildSlice _ _ _ => [σ.length]
 | .store _ a _ => match evA E a with
  | .ref i _ => [i]
  | .rr i _ _ _ => [i]
  | _ => []
 | .mapUpdate _ m _ _ => match evA E m with
  | .mr i => [i]
  | _ => []
 | .insert _ m _ _ => match evA E m with
  | .mr i => [i]
  | _ => []
 | .call { callee := .builtin .append, args, argTypes := _ } => match args.toList with
  | [s, _] => (match evA E s with
   | .os _ i _ _ => [i, σ.length]
   | _ => [σ.length])
  | _ => []
 | _ => []
theorem opQ_rd {P : Program} {E : Env} {σ : Sig} {op : Op} {i : Nat} (h : readI E op = some i) (σ2 : Sig) (hs : σ2[i]? = σ[i]?) : opQ P E σ2 op = opQ P E σ op := by
 unfold readI at h
 split at h
 ·rename_i t x
  split at h
  ·rename_i i' off hx
   cases h
   simp only [opQ, hx, behindP, rowP, hs]
  ·rename_i i' k j c hx
   cases h
   simp only [opQ, hx, behindP, rowP, hs]
  ·cases h
 ·cases h
theorem app_at {σ : Sig} {c : List PV} {i : Nat} (h : i ≠ σ.length) : (σ ++ [c])[i]? = σ[i]? := by
 by_cases hl : i < σ.length
 ·rw [List.getElem?_append_left hl]
 ·rw [List.getElem?_append_right (by omega), List.getElem?_eq_none (by simp; omega), List.getElem?_eq_none (by omega)]
theorem set_at {σ : Sig} {c : List PV} {i j : Nat} (h : i ≠ j) : (σ.set j c)[i]? = σ[i]? := List.getElem?_set_ne (Ne.symm h)
theorem opS_touch {P : Program} {E : Env} {σ σ' : Sig} {op : Op} {pre : Option Prop} {p : PV} (h : opS P E σ op = some (pre, p, σ')) : ∀ i, i ∉ touchS E σ op -> σ'[i]? = σ[i]? := by
 intro i hi
 have old : ∀ {op : Op}, ((opS0 P E σ op).map fun q => ((none : Option Prop), q.1, q.2)) = some (pre, p, σ') -> i ∉ touchS E σ op -> σ'[i]? = σ[i]? := fun {op} h hi => by
  cases hq : opS0 P E σ op with
  | none => rw [hq] at h; cases h
  | some q =>
   rw [hq] at h
   cases h
   unfold opS0 at hq
   split at hq
   ·cases hc : cellsP (evA E ‹Operand›) with
    | none => rw [hc] at hq; cases hq
    | some cs => rw [hc] at hq; cases hq; exact app_at (by simpa [touchS] using hi)
   ·cases hc : zeroP P ‹TypeId› with
    | none => rw [hc] at hq; cases hq
    | some cs => rw [hc] at hq; cases hq; exact app_at (by simpa [touchS] using hi)
   ·rename_i t a x
    split at hq
    ·rename_i i' off ds ha hd
     split at hq
     ·split at hq
      ·cases hq
       exact set_at (by simpa [touchS, ha] using hi)
      ·cases hq
     ·cases hq
    ·cases hq
   ·rename_i t len parts
    cases hb : opB P E (.buildSlice t len parts) with
    | none => rw [hb] at hq; cases hq
    | some r => rw [hb] at hq; cases hq; rfl
   ·cases hq
 unfold opS at h
 split at h
 ·rename_i t x ix ok
  cases hl : lookP P σ t (evA E x) (evA E ix) ok with
  | none => rw [hl] at h; cases h
  | some r => rw [hl] at h; cases h; rfl
 ·rename_i t m k v
  cases hl : updP P σ t (evA E m) (evA E k) (evA E v) with
  | none => rw [hl] at h; cases h
  | some s =>
   rw [hl] at h; cases h
   unfold updP at hl
   split at hl
   ·rename_i kt et j hu hm
    split at hl
    ·split at hl
     ·split at hl
      ·simp only [Option.map_eq_some_iff] at hl
       obtain ⟨mf', _, rfl⟩ := hl
       exact set_at (by simpa [touchS, hm] using hi)
      ·cases hl
     ·cases hl
    ·split at hl
     ·split at hl
      ·cases hl
       exact set_at (by simpa [touchS, hm] using hi)
      ·cases hl
     ·cases hl
    ·cases hl
   ·cases hl
 ·rename_i t m k v
  cases hl : updP P σ t (evA E m) (evA E k) (evA E v) with
  | none => rw [hl] at h; cases h
  | some s =>
   rw [hl] at h; cases h
   unfold updP at hl
   split at hl
   ·rename_i kt et j hu hm
    split at hl
    ·split at hl
     ·split at hl
      ·simp only [Option.map_eq_some_iff] at hl
       obtain ⟨mf', _, rfl⟩ := hl
       exact set_at (by simpa [touchS, hm] using hi)
      ·cases hl
     ·cases hl
    ·split at hl
     ·split at hl
      ·cases hl
       exact set_at (by simpa [touchS, hm] using hi)
      ·cases hl
     ·cases hl
    ·cases hl
   ·cases hl
 ·rename_i t r
  cases hl : mkMapP P E σ t r with
  | none => rw [hl] at h; cases h
  | some q =>
   rw [hl] at h; cases h
   unfold mkMapP at hl
   split at hl
   ·split at hl
    ·cases hl; exact app_at (by simpa [touchS] using hi)
    ·cases hl; exact app_at (by simpa [touchS] using hi)
    ·cases hl
   ·cases hl
 ·rename_i s d x
  cases hl : bytesP P s d (evA E x) with
  | none => rw [hl] at h; cases h
  | some q => rw [hl] at h; cases h; rfl
 ·unfold opS1 at h
  split at h
  ·rename_i t a x _ _ _
   split at h
   ·rename_i j k jj c ha
    unfold rowStP at h
    split at h
    ·split at h
     ·cases h; exact set_at (by simpa [touchS, ha] using hi)
     ·cases h
    ·split at h
     ·cases h; exact set_at (by simpa [touchS, ha] using hi)
     ·cases h
    ·cases h
   ·exact old h hi
  ·rename_i args argTypes _ _ _
   split at h
   ·rename_i s x t t' ha ht
    split at h
    ·unfold appP at h
     split at h
     ·rename_i e k bytes zs k' m el' hri hps hpx
      split at h
      ·cases h
       exact app_at (by simpa [touchS, ha, hps] using hi)
      ·cases h
     ·rename_i e k bytes zs e' ii k1 n k' m el' hri hps hpx
      split at h
      ·split at h
       ·cases h
        have hi' : i ≠ ii /\ i ≠ σ.length := by simpa [touchS, ha, hps] using hi
        rw [app_at (by simpa using hi'.2), set_at hi'.1]
       ·cases h
      ·cases h
     ·rename_i e k bytes zs e2 i2 k' m hri hps hpx
      split at h
      ·split at h
       ·cases h
        exact app_at (by simpa [touchS, ha, hps] using hi)
       ·cases h
      ·cases h
     ·rename_i e k bytes zs e' ii k1 n e2 i2 k' m hri hps hpx
      split at h
      ·split at h
       ·cases h
        have hi' : i ≠ ii /\ i ≠ σ.length := by simpa [touchS, ha, hps] using hi
        rw [app_at (by simpa using hi'.2), set_at hi'.1]
       ·cases h
      ·cases h
     ·cases h; rfl
     ·cases h
    ·cases h
   ·cases h
  ·rename_i t l c _ _ _
   unfold makeP at h
   split at h
   ·cases h; exact app_at (by simpa [touchS] using hi)
   ·cases h
  ·rename_i t len parts _ _ _ _ _
   cases hb : opB P E (.buildSlice t len parts) with
   | some q => rw [hb] at h; cases h; rfl
   | none =>
    rw [hb] at h
    cases hq : ownSliceP P E σ t len parts with
    | none => rw [hq] at h; cases h
    | some q =>
     rw [hq] at h
     cases h
     unfold ownSliceP at hq
     split at hq
     ·split at hq
      ·split at hq
       ·simp only [Option.map_eq_some_iff] at hq
        obtain ⟨ds, _, rfl⟩ := hq
        exact app_at (by simpa [touchS] using hi)
       ·cases hq
      ·cases hq
     ·cases hq
  ·exact old h hi
def touchM (is : List Nat) (m : Nat) (σ σ1 : Sig) : List Nat := is ++ List.range' σ.length (σ1.length - m)
theorem invF_none : ∀ {l : List Nat} {k x : Nat}, x ∉ l -> invF l k x = none
 | [], _, _, _ => rfl
 | y :: l, k, x, h => by
  unfold invF
  rw [if_neg (fun e => h (by rw [e]; exact List.mem_cons_self ..))]
  exact invF_none fun h' => h (List.mem_cons_of_mem _ h')
theorem merge_touch {is : List Nat} {m : Nat} {σ σ1 : Sig} : ∀ i, i ∉ touchM is m σ σ1 -> (mergeS is m σ σ1)[i]? = σ[i]? := by
 intro i hi
 unfold touchM at hi
 rw [List.mem_append, not_or] at hi
 unfold mergeS
 by_cases hl : i < σ.length
 ·rw [List.getElem?_append_left (by rw [mapI_len]; exact hl), mapI_at, Nat.zero_add, invF_none hi.1]
  simp
 ·rw [List.getElem?_append_right (by rw [mapI_len]; omega), mapI_len, List.getElem?_eq_none, List.getElem?_eq_none (by omega)]
  simp only [List.length_map, List.length_drop]
  have := hi.2
  simp only [List.mem_range'_1, not_and, Nat.not_lt] at this
  omega
inductive It where
 | code (c : Code)
 | ops (all : Array Oper) (l : List Oper)
 | blk (id : Nat)
 | lp (body : Code)
 | sco
def LW (P : Program) (ro : Option Nat) (body : Code) (Q : Exit -> Act -> World -> Prop) (a : Act) (w : World) : Prop :=
 ∀ (b : Frame) (k : List Item) (cs : List Frame), b.roundOf = (Fr ro).round -> (Fr ro).fn b.fn -> (Fr ro).room (cs.length + 1 + 0) ->
  ∃ e a' w', Q e a' w' /\ ArrivesIn (Machine.fenced P (Fr ro)) P (lone (b.atR a (.code body :: .inLoop body :: k)) cs w) b k cs e a' w'
theorem wp_enter {P : Program} {ro : Option Nat} {body : Code} {Q : Exit -> Act -> World -> Prop} {a : Act} {w : World} (h : LW P ro body Q a w) : (Code.loop body).wpIn (Fr ro) 0 P Q a w :=
 fun b k cs hro hb hr => let ⟨e, a', w', q, r⟩ := h b k cs hro hb hr; ⟨e, a', w', q, .of_steps (.one (fenced_calm hb hr rfl) stepR_loop) r⟩
theorem LW.unroll {P : Program} {ro : Option Nat} {body : Code} {Q : Exit -> Act -> World -> Prop} {a : Act} {w : World} (h : body.wpIn (Fr ro) 0 P (Exit.then (LW P ro body Q) Q) a w) : LW P ro body Q a w := by
 intro b k cs hro hb hr
 obtain ⟨e, a₁, w₁, hq, harr⟩ := h b (.inLoop body :: k) cs hro hb hr
 cases e with
 | normal =>
  obtain ⟨e₂, a₂, w₂, hq₂, harr₂⟩ := hq b k cs hro hb hr
  exact ⟨e₂, a₂, w₂, hq₂, .of_steps (StepsIn.trans harr (.one (fenced_calm hb hr rfl) stepR_inLoop)) harr₂⟩
 | exit id => exact ⟨_, a₁, w₁, hq, .pass (x := .inLoop body) rfl (fun _ _ => .inl (by simp)) harr⟩
 | goto l => exact ⟨_, a₁, w₁, hq, .pass (x := .inLoop body) rfl (fun _ _ => .inl (by simp)) harr⟩
 | ret => exact ⟨_, a₁, w₁, hq, .pass (x := .inLoop body) rfl (fun _ _ => .inl (by simp)) harr⟩
 | panic ch => exact ⟨_, a₁, w₁, hq, .pass (x := .inLoop body) rfl (fun _ _ => .inl (by simp)) harr⟩
 | outgrown => exact ⟨_, a₁, w₁, hq, .pass (x := .inLoop body) rfl (fun _ _ => .inl (by simp)) harr⟩
def wpK (P : Program) (ro : Option Nat) (Q : Exit -> Act -> World -> Prop) : List It -> Exit -> Act -> World -> Prop
 | [], e, a, w => Q e a w
 | .code c :: k, .normal, a, w => c.wpIn (Fr ro) 0 P (wpK P ro Q k) a w
 | .ops all l :: k, .normal, a, w => wpListIn (Fr ro) 0 P all (wpK P ro Q k) l a w
 | .lp body :: k, .normal, a, w => LW P ro body (wpK P ro Q k) a w
 | .blk id :: k, .exit id', a, w => if id' = id then wpK P ro Q k .normal a w else wpK P ro Q k (.exit id') a w
 | .sco :: _, .goto _, _, _ => False
 | _ :: k, e, a, w => wpK P ro Q k e a w
theorem stepR_scope {P : Program} {b : Frame} {a : Act} {k : List Item} {cs : List Frame} {w : World} {c : Code} : step P (lone (b.atR a (.code (.scope c) :: k)) cs w) = .next (lone (b.atR a (.code c :: .inScope c :: k)) cs w) :=
 step_lone_go (by simp [stepG, stepG.exec, Frame.atR])
theorem stepR_inScope {P : Program} {b : Frame} {a : Act} {k : List Item} {cs : List Frame} {w : World} {c : Code} : step P (lone (b.atR a (.inScope c :: k)) cs w) = .next (lone (b.atR a k) cs w) :=
 step_lone_go (by simp [stepG, stepG.exec, Frame.atR])
theorem wpIn_scope {P : Program} {ro : Option Nat} {c : Code} {Q : Exit -> Act -> World -> Prop} {a : Act} {w : World} (h : c.wpIn (Fr ro) 0 P (Exit.noGoto Q) a w) : (Code.scope c).wpIn (Fr ro) 0 P Q a w := by
 intro b k cs hro hb hr
 have h0 : (lone (b.atR a (.code (.scope c) :: k)) cs w).fenced P (Fr ro) := fenced_calm hb hr rfl
 obtain ⟨e, a₁, w₁, hq, harr⟩ := h b (.inScope c :: k) cs hro hb hr
 cases e with
 | normal => exact ⟨.normal, a₁, w₁, hq, .head h0 stepR_scope (StepsIn.trans harr (.one (fenced_calm hb hr rfl) stepR_inScope))⟩
 | exit id =>
  have hx : exitTo id (.inScope c :: k) = exitTo id k := by simp [exitTo]
  exact ⟨.exit id, a₁, w₁, hq, fun k' hk => .head h0 stepR_scope (harr.1 k' (by rw [hx]; exact hk)),
   fun hr' hk => let ⟨k₁, h1, h2⟩ := harr.2 hr' (by rw [hx]; exact hk); ⟨k₁, h1, .head h0 stepR_scope h2⟩⟩
 | goto l => exact hq.elim
 | ret => exact ⟨_, a₁, w₁, hq, .of_steps (.one h0 stepR_scope) harr⟩
 | panic ch => exact ⟨_, a₁, w₁, hq, .of_steps (.one h0 stepR_scope) harr⟩
 | outgrown => exact ⟨_, a₁, w₁, hq, .of_steps (.one h0 stepR_scope) harr⟩
theorem wpK_sco {P : Program} {ro : Option Nat} {Q : Exit -> Act -> World -> Prop} {k : List It} {e : Exit} {a : Act} {w : World} (h : wpK P ro Q (.sco :: k) e a w) : Exit.noGoto (wpK P ro Q k) e a w := by
 cases e <;> simp only [wpK] at h <;> exact h
structure Drn where
 id : Nat
 all : Array Oper
 i : Nat
 E0 : Env
 σ0 : Sig
 ss : List (Nat × List Nat) := []
 ds : List (Nat × Option Nat) := []
structure Cfg where
 E : Env
 σ : Sig
 todo : List It
 dr : Option Drn := none
def Ok (P : Program) (N : Nat) (w0 : W0) (L : List Nat) (Q : Exit -> Act -> World -> Prop) (c : Cfg) : Prop :=
 match c.dr with
 | none => ∀ β a W, Inv w0 L β c.σ N c.E a W -> wpK P w0.ro Q c.todo .normal a W
 | some d => noDef d.all = true -> okD d.all = true -> P.follows .mixedOrders = true -> Tr P N d.all d.E0 d.σ0 d.i c.E c.σ d.ss d.ds -> ∀ β a W, Inv w0 L β d.σ0 N d.E0 a W -> (Code.region d.id d.all true).wpIn (Fr w0.ro) 0 P (wpK P w0.ro Q c.todo) a W
def OkF (P : Program) (fn : Func) (w0 : W0) (L : List Nat) (Q : Exit -> Act -> World -> Prop) (c : Cfg) : Prop := Ok P fn.ntmps w0 L Q c
def exitK (id : Nat) : List It -> Option (List It)
 | [] => none
 | .blk i :: k => if id = i then some k else exitK id k
 | _ :: k => exitK id k
theorem exitK_wp {P : Program} {ro : Option Nat} {Q : Exit -> Act -> World -> Prop} {id : Nat} {a : Act} {w : World} : ∀ {k k' : List It}, exitK id k = some k' -> wpK P ro Q k' .normal a w -> wpK P ro Q k (.exit id) a w
 | [], _, h, _ => by cases h
 | .blk i :: k, k', h, hw => by
  unfold exitK at h
  unfold wpK
  split at h
  ·rename_i e; cases h; rw [if_pos e]; exact hw
  ·rename_i e; rw [if_neg e]; exact exitK_wp h hw
 | .sco :: k, k', h, hw => by unfold exitK at h; unfold wpK; exact exitK_wp h hw
 | .code c :: k, k', h, hw => by unfold exitK at h; unfold wpK; exact exitK_wp h hw
 | .ops _ _ :: k, k', h, hw => by unfold exitK at h; unfold wpK; exact exitK_wp h hw
 | .lp _ :: k, k', h, hw => by unfold exitK at h; unfold wpK; exact exitK_wp h hw
section
variable {w0 : W0} {W : World} {L : List Nat} {β : List (Option Nat)} {σ : Sig} {N : Nat} {E : Env} {a : Act} {P : Program} {ro : Option Nat} {Q : Exit -> Act -> World -> Prop}
theorem wpK_then {c : Code} {k : List It} {e : Exit} {a : Act} {w : World} (h : wpK P ro Q (.code c :: k) e a w) : Exit.then (c.wpIn (Fr ro) 0 P (wpK P ro Q k)) (wpK P ro Q k) e a w := by
 cases e <;> simp only [wpK] at h <;> exact h
theorem wpK_lp {c : Code} {k : List It} {e : Exit} {a : Act} {w : World} (h : wpK P ro Q (.lp c :: k) e a w) : Exit.then (LW P ro c (wpK P ro Q k)) (wpK P ro Q k) e a w := by
 cases e <;> simp only [wpK] at h <;> exact h
theorem wpK_blk {id : Nat} {k : List It} {e : Exit} {a : Act} {w : World} (h : wpK P ro Q (.blk id :: k) e a w) : Exit.inBlock id (wpK P ro Q k) e a w := by
 cases e <;> simp only [wpK] at h <;> exact h
def isStore : Op -> Bool
 | .store _ _ _ => true
 | .mapUpdate _ _ _ _ => true
 | .insert _ _ _ _ => true
 | _ => false
def stepN (P : Program) (N : Nat) (c : Cfg) : Option (Option Prop × Cfg) :=
 match c.todo with
 | .code .skip :: k => some (none, { c with todo := k })
 | .code (.label _) :: k => some (none, { c with todo := k })
 | .code (.seq x y) :: k => some (none, { c with todo := .code x :: .code y :: k })
 | .code (.region _ all false) :: k => some (none, { c with todo := .ops all all.toList :: k })
 | .code (.region id all true) :: k => if noDef all && (okD all && P.follows .mixedOrders) then some (none, { c with todo := k, dr := some ⟨id, all, 0, c.E, c.σ, [], []⟩ }) else none
 | .code (.cond x y z) :: k =>
  match evA c.E x with
  | .v (.bool true) => some (none, { c with todo := .code y :: k })
  | .v (.bool false) => some (none, { c with todo := .code z :: k })
  | _ => none
 | .code (.block id x) :: k => some (none, { c with todo := .code x :: .blk id :: k })
 | .code (.exit id) :: k => (exitK id k).map fun k' => (none, { c with todo := k' })
 | .code (.loop x) :: k => some (none, { c with todo := .lp x :: k })
 | .code (.scope x) :: k => some (none, { c with todo := .code x :: .sco :: k })
 | .sco :: k => some (none, { c with todo := k })
 | .blk _ :: k => some (none, { c with todo := k })
 | .ops _ [] :: k => some (none, { c with todo := k })
 | .ops all (o :: l) :: k =>
  if fitsD N o.dst && !isDefer o.op then
   match guardP all c.E o with
   | some true =>
    match opQ P c.E c.σ o.op with
    | some (pre, p) => some (pre, { c with E := putE c.E o.dst p, todo := .ops all l :: k })
    | none =>
     match opS P c.E c.σ o.op with
     | some (pre, p, σ') => if o.dst.isNone || !isStore o.op then some (pre, { c with E := putE c.E o.dst p, σ := σ', todo := .ops all l :: k }) else none
     | none => none
   | some false => some (none, { c with E := putE c.E o.dst (.v undef), todo := .ops all l :: k })
   | none => none
  else none
 | _ => none
def stepD (P : Program) (N : Nat) (c : Cfg) (d : Drn) : Option (Option Prop × Cfg) :=
 match d.all[d.i]? with
 | none => if d.i = d.all.size /\ okS d.all d.ss d.ds = true then some (none, { c with dr := none }) else none
 | some o =>
  if fitsD N o.dst then
   match guardP d.all c.E o with
   | some false => some (none, { c with E := putE c.E o.dst (.v undef), dr := some { d with i := d.i + 1 } })
   | some true =>
    match opQ P c.E c.σ o.op with
    | some (pre, p) =>
     if sind c.E o.op then some (pre, { c with E := putE c.E o.dst p, dr := some { d with i := d.i + 1 } })
     else match readI c.E o.op with
      | some x => some (pre, { c with E := putE c.E o.dst p, dr := some { d with i := d.i + 1, ds := (d.i, some x) :: d.ds } })
      | none => none
    | none =>
     match opB P c.E o.op with
     | some p => some (none, { c with E := putE c.E o.dst p, dr := some { d with i := d.i + 1 } })
     | none =>
      match opS P c.E c.σ o.op with
      | some (pre, p, σ') => if o.dst.isNone || !isStore o.op then some (pre, { c with E := putE c.E o.dst p, σ := σ', dr := some { d with i := d.i + 1, ss := (d.i, touchS c.E c.σ o.op) :: d.ss } }) else none
      | none => none
   | none => none
  else none
def stepC (P : Program) (N : Nat) (c : Cfg) : Option (Option Prop × Cfg) :=
 match c.dr with
 | none => stepN P N c
 | some d => stepD P N c d
theorem list_wp {ro : Option Nat} {all : Array Oper} {R' : Exit -> Act -> World -> Prop} {o : Oper} {l : List Oper} {a : Act} {W : World} (hnd : isDefer o.op = false) (hw : Region.wanted o (yielded all a.tmps) = true) (h : o.wp P a W (wpListIn (Fr ro) 0 P all R' l) R') : wpListIn (Fr ro) 0 P all R' (o :: l) a W := by
 unfold wpListIn; rw [if_pos hw]; exact op_in hnd h
theorem stepN_ok {c c' : Cfg} {pre : Option Prop} (hdr : c.dr = none) (h : stepN P N c = some (pre, c')) (hp : Pre pre) (hk : Ok P N w0 L Q c') : Ok P N w0 L Q c := by
 obtain ⟨E, σ, todo, dr⟩ := c
 simp only at hdr
 subst hdr
 intro β a W hI
 unfold stepN at h
 simp only at h hI ⊢
 split at h
 ·cases h; exact wpIn_skip (hk β a W hI)
 ·cases h; exact wpIn_label (hk β a W hI)
 ·cases h; exact wpIn_seq (wpIn_mono (hk β a W hI) fun e a w h => wpK_then h)
 ·cases h; exact wpIn_region_list (hk β a W hI)
 ·split at h
  ·rename_i hc
   cases h
   simp only [Bool.and_eq_true] at hc
   exact hk hc.1 hc.2.1 hc.2.2 .nil β a W hI
  ·cases h
 ·rename_i x y z k
  split at h
  ·rename_i hx
   cases h
   have := evA_R hI.ev x
   rw [hx, R] at this
   exact wpIn_cond_true this (hk β a W hI)
  ·rename_i hx
   cases h
   have := evA_R hI.ev x
   rw [hx, R] at this
   exact wpIn_cond_false this (hk β a W hI)
  ·cases h
 ·cases h; exact wpIn_block (wpIn_mono (hk β a W hI) fun e a w h => wpK_blk h)
 ·rename_i id k
  cases hx : exitK id k with
  | none => rw [hx] at h; cases h
  | some k' => rw [hx] at h; cases h; exact wpIn_exit (exitK_wp hx (hk β a W hI))
 ·cases h; exact wp_enter (hk β a W hI)
 ·cases h; exact wpIn_scope (wpIn_mono (hk β a W hI) fun e a w h => wpK_sco h)
 ·cases h; exact hk β a W hI
 ·cases h; exact hk β a W hI
 ·cases h; exact hk β a W hI
 ·rename_i all o l k
  split at h
  ·rename_i hd0
   simp only [Bool.and_eq_true, Bool.not_eq_true'] at hd0
   obtain ⟨hd, hnd⟩ := hd0
   split at h
   ·rename_i hg
    have hw := guard_wanted hI.ev hg
    split at h
    ·rename_i pre' p hq
     cases h
     obtain ⟨u, hu, hr⟩ := opQ_run hI.ev hI.bx hq hp
     refine list_wp hnd hw ?_
     unfold Oper.wp
     rw [hu]
     exact hk β _ W { hI with ev := hI.ev.put hr hd, nod := hI.nod.put _ _ }
    ·split at h
     ·rename_i pre' p σ' hs
      split at h
      ·rename_i hst
       cases h
       refine list_wp hnd hw (opS_run hI hd hs hp ?_ _ _ fun γ u W' hi => hk γ _ W' hi)
       simp only [Bool.or_eq_true, Option.isNone_iff_eq_none] at hst
       rcases hst with hst | hst
       ·exact .inl hst
       ·exact .inr ⟨fun t x y e => by rw [e] at hst; simp [isStore] at hst, fun t x y z e => by rw [e] at hst; simp [isStore] at hst, fun t x y z e => by rw [e] at hst; simp [isStore] at hst⟩
      ·cases h
     ·cases h
   ·rename_i hg
    cases h
    have hw := guard_wanted hI.ev hg
    show wpListIn (Fr _) 0 P all _ (o :: l) a W
    unfold wpListIn
    rw [if_neg (by rw [hw]; simp)]
    refine ⟨fun _ _ => trivial, ?_⟩
    exact hk β _ W { hI with ev := hI.ev.put (by rw [R]) hd, nod := hI.nod.put _ _ }
   ·cases h
  ·cases h
 ·cases h
theorem stepD_ok {c c' : Cfg} {d : Drn} {pre : Option Prop} (hdr : c.dr = some d) (h : stepD P N c d = some (pre, c')) (hp : Pre pre) (hk : Ok P N w0 L Q c') : Ok P N w0 L Q c := by
 obtain ⟨E, σ, todo, dr⟩ := c
 simp only at hdr
 subst hdr
 intro hnd hok hm hT β a W hI
 unfold stepD at h
 simp only at h hT ⊢
 split at h
 ·split at h
  ·rename_i hsz
   cases h
   rw [hsz.1] at hT
   exact drawn_ok hnd hm hok hsz.2 hT hk β a W hI
  ·cases h
 ·rename_i o ho
  split at h
  ·rename_i hd
   split at h
   ·rename_i hg
    cases h
    exact hk hnd hok hm (.op hT ho hd (.skip hg rfl rfl) rfl rfl) β a W hI
   ·rename_i hg
    split at h
    ·rename_i pre' p hq
     split at h
     ·rename_i hs
      cases h
      exact hk hnd hok hm (.op hT ho hd (.q0 _ hg hq hp hs rfl) rfl rfl) β a W hI
     ·split at h
      ·rename_i x hx
       cases h
       exact hk hnd hok hm (.op hT ho hd (.q1 _ hg hq hp x (opQ_rd hx) rfl) rfl rfl) β a W hI
      ·cases h
    ·split at h
     ·rename_i p hb
      cases h
      exact hk hnd hok hm (.op hT ho hd (.b hg hb rfl) rfl rfl) β a W hI
     ·split at h
      ·rename_i pre' p σ' hss
       split at h
       ·rename_i hst
        cases h
        refine hk hnd hok hm (.op hT ho hd (.s _ hg hss hp ?_ _ (opS_touch hss)) rfl rfl) β a W hI
        simp only [Bool.or_eq_true, Option.isNone_iff_eq_none] at hst
        rcases hst with hst | hst
        ·exact .inl hst
        ·exact .inr ⟨fun t x y e => by rw [e] at hst; simp [isStore] at hst, fun t x y z e => by rw [e] at hst; simp [isStore] at hst, fun t x y z e => by rw [e] at hst; simp [isStore] at hst⟩
       ·cases h
      ·cases h
   ·cases h
  ·cases h
theorem step_ok {c c' : Cfg} {pre : Option Prop} (h : stepC P N c = some (pre, c')) (hp : Pre pre) (hk : Ok P N w0 L Q c') : Ok P N w0 L Q c := by
 unfold stepC at h
 split at h
 ·rename_i hdr; exact stepN_ok hdr h hp hk
 ·rename_i d hdr; exact stepD_ok hdr h hp hk
end
def runC (P : Program) (N : Nat) : Nat -> Cfg -> List Prop × Cfg
 | 0, c => ([], c)
 | n + 1, c =>
  match stepC P N c with
  | some (none, c') => runC P N n c'
  | some (some p, c') => (p :: (runC P N n c').1, (runC P N n c').2)
  | none => ([], c)
def stop (P : Program) (N : Nat) (c : Cfg) : List Prop × Cfg := runC P N 3000 c
def nrmV : Value -> PV
 | .bool b => .sb b
 | x => .v x
def nrm : Nat -> PV -> PV
 | 0, p => p
 | _ + 1, .v x => nrmV x
 | n + 1, .agg cs => .agg (cs.map (nrm n))
 | n + 1, .tup cs => .tup (cs.map (nrm n))
 | _ + 1, p => p
def resP (P : Program) (E : Env) (σ : Sig) : List ResultVar -> Option (List PV)
 | [] => some []
 | .tmp t :: l => (resP P E σ l).map fun ps => lk E t :: ps
 | .cell a t :: l =>
  match behindP σ (lk E a), resP P E σ l with
  | some cs, some ps => (loadP P t cs).map fun p => p :: ps
  | _, _ => none
def retP (P : Program) (fn : Func) (E : Env) (σ : Sig) : Option PV :=
 match resP P E σ fn.results.toList with
 | some [p] => some (nrm 4 (fz 8 σ p))
 | some ps => some (nrm 4 (fz 8 σ (.tup ps)))
 | none => none
theorem opC_nd {P : Program} {E : Env} {op : Op} {q : FuncId × List PV} (h : opC P E op = some q) : isDefer op = false := by
 cases op <;> first | rfl | simp [opC] at h
inductive View where
 | test (ps : List Prop) (b : Bool)
 | call (ps : List Prop) (g : FuncId) (qs : List PV)
 | ret (ps : List Prop) (r : PV)
 | loop (ps : List Prop)
 | stuck
def slotC (c : Cfg) : Option Nat :=
 match c.dr with
 | some d => (d.all[d.i]?).bind fun o => (o.guard).bind fun g => (d.all[g.1]?).bind (·.dst)
 | none =>
 match c.todo with
 | .code (.cond (.tmp t) _ _) :: _ => some t
 | .ops all (o :: _) :: _ => (o.guard).bind fun g => (all[g.1]?).bind (·.dst)
 | _ => none
def testC (c : Cfg) : Option Bool :=
 match slotC c with
 | some t => match lk c.E t with
  | .sb b => some b
  | _ => none
 | none => none
def callC (P : Program) (N : Nat) (c : Cfg) : Option (FuncId × List PV) :=
 match c.dr with
 | some d =>
  match d.all[d.i]? with
  | some o =>
   if fitsD N o.dst then
    match guardP d.all c.E o with
    | some true =>
     match opC P c.E o.op with
     | some (g, ps) => some (g, ps)
     | none => none
    | _ => none
   else none
  | none => none
 | none =>
 match c.todo with
 | .ops all (o :: _) :: _ =>
  if fitsD N o.dst then
   match guardP all c.E o with
   | some true =>
    match opQ P c.E c.σ o.op, opS P c.E c.σ o.op with
    | none, none => opC P c.E o.op
    | _, _ => none
   | _ => none
  else none
 | _ => none
def passed (σ : Sig) (ps : List PV) : List PV := if noRef.noRefs ps then ps else ps.map (fz 8 σ)
def passC (σ : Sig) (ps : List PV) : List Prop := if noRef.noRefs ps then [] else joinC (fzC 8 σ) ps
def retC (P : Program) (fn : Func) (E : Env) (σ : Sig) : List Prop :=
 match resP P E σ fn.results.toList with
 | some [p] => fzC 8 σ p
 | some ps => fzC 8 σ (.tup ps)
 | none => []
def viewOf (P : Program) (fn : Func) (c : Cfg) : View :=
 let s := stop P fn.ntmps c
 match s.2.dr with
 | some _ =>
  match testC s.2 with
  | some b => .test s.1 b
  | none =>
   match callC P fn.ntmps s.2 with
   | some (g, ps) => .call (s.1 ++ passC s.2.σ ps) g (passed s.2.σ ps)
   | none => .stuck
 | none =>
 match s.2.todo with
 | [] => match retP P fn s.2.E s.2.σ with
  | some r => .ret (s.1 ++ retC P fn s.2.E s.2.σ) r
  | none => .stuck
 | .code .ret :: _ => match retP P fn s.2.E s.2.σ with
  | some r => .ret (s.1 ++ retC P fn s.2.E s.2.σ) r
  | none => .stuck
 | .lp _ :: _ => .loop s.1
 | _ =>
  match testC s.2 with
  | some b => .test s.1 b
  | none =>
   match callC P fn.ntmps s.2 with
   | some (g, ps) => .call (s.1 ++ passC s.2.σ ps) g (passed s.2.σ ps)
   | none => .stuck
def assumeC (P : Program) (fn : Func) (c : Cfg) (b : Bool) : Cfg :=
 let d := (stop P fn.ntmps c).2
 match slotC d with
 | some t => { d with E := (t, .v (.bool b)) :: d.E }
 | none => d
def resOk (P : Program) (fn : Func) (c : Cfg) (r : PV) : Bool :=
 match callC P fn.ntmps (stop P fn.ntmps c).2 with
 | some (_, ps) => noRef.noRefs ps || flatP r
 | none => false
def afterC (P : Program) (fn : Func) (c : Cfg) (r : PV) : Cfg :=
 let d := (stop P fn.ntmps c).2
 match d.dr with
 | some q =>
  match q.all[q.i]? with
  | some o => { d with E := putE d.E o.dst r, dr := some { q with i := q.i + 1, ds := (match callC P fn.ntmps d with | some (_, ps) => if noRef.noRefs ps then q.ds else (q.i, none) :: q.ds | none => q.ds) } }
  | none => d
 | none =>
 match d.todo with
 | .ops all (o :: l) :: k => { d with E := putE d.E o.dst r, todo := .ops all l :: k }
 | _ => d
section
variable {w0 : W0} {W : World} {L : List Nat} {N : Nat} {P : Program} {Q : Exit -> Act -> World -> Prop} {fn : Func}
theorem run_ok : ∀ (n : Nat) (c : Cfg), All (runC P N n c).1 -> Ok P N w0 L Q (runC P N n c).2 -> Ok P N w0 L Q c
 | 0, c, _, h => h
 | n + 1, c, hp, h => by
  unfold runC at hp h
  cases hs : stepC P N c with
  | none => rw [hs] at h; exact h
  | some q =>
   obtain ⟨pre, c'⟩ := q
   rw [hs] at hp h
   cases pre with
   | none => exact step_ok hs trivial (run_ok n c' hp h)
   | some p => exact step_ok hs hp.1 (run_ok n c' hp.2 h)
theorem assume_ok {d : Cfg} {t : Nat} {b : Bool} (hl : lk d.E t = .sb b) (h : Ok P N w0 L Q { d with E := (t, .v (.bool b)) :: d.E }) : Ok P N w0 L Q d := by
 obtain ⟨E, σ, todo, dr⟩ := d
 cases dr with
 | none =>
  intro β a W hI
  refine h β a W { hI with ev := ⟨hI.ev.1, fun s => ?_⟩ }
  simp only [lk]
  have := hI.ev.2 s
  split
  ·rename_i e
   subst e
   simp only at hl
   rw [hl, R] at this
   rw [R]; exact this
  ·exact this
 | some q => exact fun hnd hok hm hT => h hnd hok hm (.as hT hl)
theorem view_test {c : Cfg} {b : Bool} {ps : List Prop} (h : viewOf P fn c = .test ps b) : (stop P fn.ntmps c).1 = ps /\ ∃ t, slotC (stop P fn.ntmps c).2 = some t /\ lk (stop P fn.ntmps c).2.E t = .sb b := by
 unfold viewOf at h
 simp only at h
 have fin : testC (stop P fn.ntmps c).2 = some b -> ∃ t, slotC (stop P fn.ntmps c).2 = some t /\ lk (stop P fn.ntmps c).2.E t = .sb b := fun ht => by
  unfold testC at ht
  split at ht
  ·rename_i t hs
   split at ht
   ·rename_i b' hb; cases ht; exact ⟨t, hs, hb⟩
   ·cases ht
  ·cases ht
 split at h
 ·split at h
  ·rename_i b' hb
   cases h
   exact ⟨rfl, fin hb⟩
  ·split at h <;> cases h
 ·split at h
  ·split at h <;> cases h
  ·split at h <;> cases h
  ·cases h
  ·split at h
   ·rename_i b' hb
    cases h
    exact ⟨rfl, fin hb⟩
   ·split at h <;> cases h
theorem Ok.test {c : Cfg} (b : Bool) {ps : List Prop} (h : viewOf P fn c = .test ps b) (hp : All ps) (h1 : b = true -> OkF P fn w0 L Q (assumeC P fn c true)) (h2 : b = false -> OkF P fn w0 L Q (assumeC P fn c false)) : OkF P fn w0 L Q c := by
 obtain ⟨e, t, hs, hl⟩ := view_test h
 refine run_ok 3000 c (by rw [show (runC P fn.ntmps 3000 c).1 = ps from e]; exact hp) ?_
 show OkF P fn w0 L Q (stop P fn.ntmps c).2
 cases b with
 | true =>
  have := h1 rfl
  unfold assumeC at this
  simp only [hs] at this
  exact assume_ok hl this
 | false =>
  have := h2 rfl
  unfold assumeC at this
  simp only [hs] at this
  exact assume_ok hl this
theorem view_call {c : Cfg} {g : FuncId} {qs : List PV} {ps : List Prop} (h : viewOf P fn c = .call ps g qs) : ∃ rs, (stop P fn.ntmps c).1 ++ passC (stop P fn.ntmps c).2.σ rs = ps /\ callC P fn.ntmps (stop P fn.ntmps c).2 = some (g, rs) /\ qs = passed (stop P fn.ntmps c).2.σ rs := by
 unfold viewOf at h
 simp only at h
 split at h
 ·split at h
  ·cases h
  ·split at h
   ·rename_i g' rs hc
    cases h
    exact ⟨rs, rfl, hc, rfl⟩
   ·cases h
 ·split at h
  ·split at h <;> cases h
  ·split at h <;> cases h
  ·cases h
  ·split at h
   ·cases h
   ·split at h
    ·rename_i g' rs hc
     cases h
     exact ⟨rs, rfl, hc, rfl⟩
    ·cases h
theorem Ok.call {c : Cfg} {g : FuncId} {qs : List PV} {r : PV} {ps : List Prop} (hs : Spec P g qs r) (h : viewOf P fn c = .call ps g qs) (hp : All ps) (hr : resOk P fn c r = true) (k : OkF P fn w0 L Q (afterC P fn c r)) : OkF P fn w0 L Q c := by
 obtain ⟨rs, e, hc, hq⟩ := view_call h
 rw [<- e, All_app] at hp
 refine run_ok 3000 c hp.1 ?_
 have hpc := hp.2
 show OkF P fn w0 L Q (stop P fn.ntmps c).2
 unfold resOk at hr
 rw [hc] at hr
 simp only [Bool.or_eq_true] at hr
 unfold afterC at k
 generalize (stop P fn.ntmps c).2 = d at hc k hq hpc
 obtain ⟨E, σ, todo, dr⟩ := d
 have hpass : (noRef.noRefs rs = true /\ qs = rs) \/ (qs = rs.map (fz 8 σ) /\ flatP r = true /\ All (joinC (fzC 8 σ) rs)) := by
  simp only [passed] at hq
  by_cases hn : noRef.noRefs rs = true
  ·rw [if_pos hn] at hq; exact .inl ⟨hn, hq⟩
  ·rw [if_neg hn] at hq; simp only [passC] at hpc; rw [if_neg hn] at hpc; exact .inr ⟨hq, hr.resolve_left hn, hpc⟩
 cases dr with
 | some d =>
  simp only [hc] at k
  unfold callC at hc
  simp only at hc k
  intro hnd hok hm hT β a W hI
  simp only at hT hI ⊢
  split at hc
  ·rename_i o ho
   split at hc
   ·rename_i hd
    split at hc
    ·rename_i hg
     split at hc
     ·rename_i g' ps' hcc
      cases hc
      simp only [ho] at k
      by_cases hn : noRef.noRefs rs = true
      ·simp only [hn, if_true] at k
       simp only [passed] at hq
       rw [if_pos hn] at hq
       subst hq
       exact k hnd hok hm (.op hT ho hd (.c0 g qs hg hcc hn hs rfl) rfl rfl) β a W hI
      ·simp only [hn, Bool.false_eq_true, if_false] at k
       simp only [passed] at hq
       rw [if_neg hn] at hq
       subst hq
       exact k hnd hok hm (.op hT ho hd (.c1 g rs hg hcc (hr.resolve_left hn) hs (by simp only [passC] at hpc; rw [if_neg hn] at hpc; exact hpc) rfl) rfl rfl) β a W hI
     ·cases hc
    ·cases hc
   ·cases hc
  ·cases hc
 | none =>
 unfold callC at hc
 simp only at hc k hq
 intro β a W hI
 simp only at hI ⊢
 split at hc
 ·rename_i all o l k'
  split at hc
  ·rename_i hd
   split at hc
   ·rename_i hg
    have hw := guard_wanted hI.ev hg
    split at hc
    ·exact list_wp (opC_nd hc) hw (callOp hI hd hc hpass hs _ _ fun u W' hi => k β _ W' hi)
    ·cases hc
   ·cases hc
  ·cases hc
 ·cases hc
end
def envFrom : Nat -> List PV -> Env
 | _, [] => []
 | i, p :: ps => (i, p) :: envFrom (i + 1) ps
def startC (args : List PV) (c : Code) : Cfg := ⟨envFrom 0 args, [], [.code c], none⟩
def startM (args : List PV) (σ : Sig) (c : Code) : Cfg := ⟨envFrom 0 args, σ, [.code c], none⟩
def Qf (P : Program) (fn : Func) (w0 : W0) (r : PV) (e : Exit) (a : Act) (w : World) : Prop :=
 w0.dfs = [] -> bodyPostM Fence.wide 0 P fn (fun e W' => ∃ u, e = .returned u /\ R [] w0.lock W' r u /\ Near w0 W') e a w
def roundC (P : Program) (fn : Func) (c : Cfg) (E : Env) (σ : Sig) : Cfg :=
 match (stop P fn.ntmps c).2.todo with
 | .lp body :: k => ⟨E, σ, .code body :: .lp body :: k, none⟩
 | t => ⟨E, σ, t, none⟩
section
variable {w0 : W0} {W : World} {L : List Nat} {β : List (Option Nat)} {N : Nat} {P : Program} {Q : Exit -> Act -> World -> Prop} {fn : Func} {σ : Sig} {E : Env} {a : Act}
theorem lk_from : ∀ (ps : List PV) (i t : Nat), lk (envFrom i ps) t = if i <= t then (ps[t - i]?).getD .any else .any
 | [], i, t => by simp [envFrom, lk]
 | p :: ps, i, t => by
  simp only [envFrom, lk]
  by_cases e : i = t
  ·subst e; simp
  ·rw [if_neg e, lk_from ps (i + 1) t]
   by_cases h : i + 1 <= t
   ·rw [if_pos h, if_pos (by omega)]
    have : t - i = (t - (i + 1)) + 1 := by omega
    rw [this]; simp
   ·rw [if_neg h]
    by_cases h' : i <= t
    ·omega
    ·rw [if_neg h']
def startA (fn : Func) (vs : Array Value) : Act := { tmps := vs ++ Array.replicate (fn.ntmps - vs.size) undef, defers := [] }
theorem Inv.turn (h : Inv w0 L β σ N E a W) {D : Nat} (hD : D ∈ L) (hs0 : w0.w.heap.size <= D) (o : Obj) {a' : Act} (ht : a'.tmps = a.tmps) (hn : Nod w0 L a' (W.putObj D o)) : Inv w0 L β σ N E a' (W.putObj D o) := by
 have hs : (W.putObj D o).heap.size = W.heap.size := World.putObj_size
 have ho : ∀ k, k ≠ D -> (W.putObj D o).heap[k]? = W.heap[k]? := fun k hk => World.putObj_heap_other hk
 have hle : W.heap.size <= (W.putObj D o).heap.size := by omega
 have hk : ∀ k, ¬ Fb β L k -> k < W.heap.size -> (W.putObj D o).heap[k]? = W.heap[k]? := fun k hk _ => ho k (fun e => hk (.inr (by rw [e]; exact hD)))
 have hne : ∀ g, some g ∈ β -> g ≠ D := fun g hg e => (h.old D hD).2 (by rw [<- e]; exact hg)
 have hβ : ∀ (i : Nat) (x : Option Nat), β[i]? = some x -> β[i]? = some x /\ ∀ g, x = some g -> (W.putObj D o).shape? g = W.shape? g := fun i x hx => ⟨hx, fun g e => shape_eq (ho g (hne g (by rw [<- e]; exact List.mem_of_getElem? hx)))⟩
 refine ⟨⟨h.bel.os, h.bel.tape, h.bel.output, by rw [hs]; exact h.bel.size, fun k hk hko => (ho k (by omega)).trans (h.bel.block k hk hko), fun k hk => (shape_eq (ho k (by omega))).trans (h.bel.shape k hk)⟩, h.new, fun g hg => by rw [hs]; exact h.old g hg, h.inc, h.pre,
  ⟨h.bx.1, h.bx.2.1, fun g hg => by rw [hs]; exact h.bx.2.2.1 g hg, fun i cs hi => ?_⟩, ?_, hn, fun q hq => ⟨(h.gho q hq).1, R.move hle _ _ _ _ _ _ hk hβ (fun _ h => .inl h) (h.gho q hq).2⟩, h.lim, h.glo⟩
 ·obtain ⟨x, hg, hh⟩ := h.bx.2.2.2 i cs hi
  exact ⟨x, hg, hh.move hle (fun g e => ho g (hne g (by rw [<- e]; exact List.mem_of_getElem? hg))) hk hβ (fun _ h => .inl h)⟩
 ·have h2 := h.ev.move hle hk hβ (fun _ h => .inl h)
  exact ⟨by rw [ht]; exact h2.1, fun t => by have := h2.2 t; unfold Act.eval at *; rw [ht]; exact this⟩
theorem leave_ok {R : Ending -> World -> Prop} (hd : w0.dfs = []) (hI : Inv w0 L β σ N E a W) (fin : ∀ a' W', a'.tmps = a.tmps -> Inv w0 L β σ N E a' W' -> ∃ v, (results fn a.tmps).run P W' = .ok v W' /\ R (.returned v) W') :
  LeavesInM Fence.wide 0 P fn a.tmps R a.defers .returning W := by
 obtain ⟨Ds, e, -, nd, hD⟩ := hI.nod
 rw [hd, List.append_nil] at e
 have h0 : Inv w0 L β σ N E { a with defers := [] } W := { hI with ev := hI.ev, nod := Nod.nil hd.symm }
 rw [e]
 clear e hI
 revert h0
 induction Ds generalizing W with
 | nil => exact fun h0 => fin { a with defers := [] } W rfl h0
 | cons D Ds ih =>
  intro h0
  have hh := hD D (List.mem_cons_self ..)
  refine ⟨by simp, .inl ⟨D, W.putObj D (.deferred none), rfl, run_takeDeferred hh.2.2, ?_⟩⟩
  refine ih (List.nodup_cons.1 nd).2 (fun D' hD' => ?_) (h0.turn hh.1 hh.2.1 _ rfl (Nod.nil hd.symm))
  have h1 := hD D' (List.mem_cons_of_mem _ hD')
  exact ⟨h1.1, h1.2.1, (World.putObj_heap_other (fun e => (List.nodup_cons.1 nd).1 (by rw [<- e]; exact hD'))).trans h1.2.2⟩
theorem args_Ev {args : List PV} {vs : List Value} (hn : args.length <= fn.ntmps) (hR : Rs β L W args vs) : Ev β L W fn.ntmps (envFrom 0 args) (startA fn vs.toArray) := by
 have hl : vs.length = args.length := hR.length
 refine ⟨by simp [startA, hl]; omega, fun t => ?_⟩
 rw [lk_from args 0 t, if_pos (Nat.zero_le _), Nat.sub_zero]
 cases ht : args[t]? with
 | none => simp only [Option.getD_none]; rw [R]; trivial
 | some p =>
  obtain ⟨u, hu, hr⟩ := hR.get ht
  simp only [Option.getD_some]
  have htl := (List.getElem?_eq_some_iff.1 hu).1
  have : (vs.toArray ++ Array.replicate (fn.ntmps - vs.toArray.size) undef).getD t undef = u := by
   rw [Array.getD_eq_getD_getElem?, Array.getElem?_append_left (by simpa using htl)]
   simp [hu]
  show R β L W p ((vs.toArray ++ Array.replicate (fn.ntmps - vs.toArray.size) undef).getD t undef)
  rw [this]; exact hr
theorem Spec.enter {f : FuncId} {args : List PV} {r : PV} {c : Code} (he : entersP P f = true) (hf : P.funcs[f]? = some fn) (hb : fn.body = some c) (hn : Nat.ble args.length fn.ntmps = true)
  (k : ∀ w0 L, w0.stay = 0 -> OkF P fn w0 L (Qf P fn w0 r) (startC args c)) : Spec P f args r := by
 refine ⟨he, fun L W vs hL hG hR => ?_⟩
 refine (callsIn_wide.1 (callsIn_of_wp_marks (n := 0) (R := fun e W' => ∃ u, e = .returned u /\ R [] L W' r u /\ Near ⟨W, [], 0, L, [], none, ghosts, true⟩ W') hf hb trivial ?_ rfl)).mono fun e W' ⟨u, h1, h2, h3⟩ => ⟨u, h1, h2, h3.plain⟩
 have h := k ⟨W, [], 0, L, [], none, ghosts, true⟩ L rfl [] (startA fn vs.toArray) W ⟨Near.refl _ _ _ _ _ _ _ _, fun g hg => by simp at hg, fun g hg => ⟨hL g hg, by simp⟩, ⟨fun _ h => h, fun g hg => by simp at hg⟩, ⟨rfl, Nat.zero_le _⟩, ⟨rfl, fun i j g c d hi => by simp at hi, fun g hg => by simp at hg, fun i cs hi => by simp [startC] at hi⟩, args_Ev (Nat.le_of_ble_eq_true hn) hR, Nod.nil rfl, Gl.gho hG, fun g hg => .inl hg, fun q hq => hq⟩
 refine wpIn_mono h fun e a w hq => ?_
 have hq' : Qf P fn ⟨W, [], 0, L, [], none, ghosts, true⟩ r e a w := by unfold wpK at hq; exact hq
 exact hq' rfl
theorem nrm_R : ∀ (n : Nat) (p : PV) (u : Value), R β L W p u -> R β L W (nrm n p) u
 | 0, p, u, h => by rw [nrm]; exact h
 | n + 1, p, u, h => by
  cases p with
  | v x =>
   cases x with
   | bool b => rw [R] at h; show R β L W (.sb b) u; rw [R]; exact h
   | _ => exact h
  | agg cs =>
   rw [nrm]
   rw [R] at h ⊢
   obtain ⟨us, e1, h1, h2⟩ := h
   exact ⟨us, e1, h1, Rs.map (fun p u => nrm_R n p u) h2⟩
  | tup cs =>
   rw [nrm]
   rw [R] at h ⊢
   obtain ⟨us, e1, h2⟩ := h
   exact ⟨us, e1, Rs.map (fun p u => nrm_R n p u) h2⟩
  | _ => rw [nrm]; exact h; all_goals simp
def resSem (tmps : Array Value) : ResultVar -> Sem Value
 | .tmp t => pure (tmps.getD t undef)
 | .cell ad t => do loadVar t (<- asAddr (tmps.getD ad undef))
theorem results_eq (fn : Func) (tmps : Array Value) : results fn tmps = (do let vs <- fn.results.mapM (resSem tmps); pure (if h : vs.size = 1 then vs[0] else .tuple vs)) := by
 unfold results
 congr 1
theorem asAddr_run (x : Addr) (W : World) : (asAddr (.pointer (some x))).run P W = .ok x W := rfl
theorem res_run (hE : Ev β L W N E a) (hB : Bx β L W σ) : ∀ (l : List ResultVar) (ps : List PV), resP P E σ l = some ps ->
  ∃ vs : List Value, (l.mapM (resSem a.tmps) : Sem (List Value)).run P W = .ok vs W /\ Rs β L W ps vs
 | [], ps, h => by simp [resP] at h; subst h; exact ⟨[], rfl, Rs.nil⟩
 | .tmp t :: l, ps, h => by
  unfold resP at h
  cases hl : resP P E σ l with
  | none => rw [hl] at h; cases h
  | some qs =>
   rw [hl] at h
   cases h
   obtain ⟨vs, hv, hr⟩ := res_run hE hB l qs hl
   exact ⟨_ :: vs, by simp only [List.mapM_cons, resSem, Sem.run_bind, Sem.run_pure, Result.andThen_ok, hv], Rs.cons (hE.2 t) hr⟩
 | .cell ad t :: l, ps, h => by
  unfold resP at h
  split at h
  ·rename_i cs qs hb hl
   cases hp : loadP P t cs with
   | none => rw [hp] at h; cases h
   | some p =>
    rw [hp] at h
    cases h
    obtain ⟨vs, hv, hr⟩ := res_run hE hB l qs hl
    obtain ⟨b, off, us, e1, h1, h2, h3⟩ := behind_R hB hb (hE.2 ad)
    obtain ⟨u, hu, hru⟩ := load_run hp h1 h2 h3
    exact ⟨u :: vs, by simp only [List.mapM_cons, resSem, Sem.run_bind, Sem.run_pure, Result.andThen_ok, e1, asAddr_run, hu, hv], Rs.cons hru hr⟩
  ·cases h
theorem ret_run {r : PV} (hI : Inv w0 L β σ N E a W) (h : retP P fn E σ = some r) (hcc : All (retC P fn E σ)) : ∃ v, (results fn a.tmps).run P W = .ok v W /\ R [] w0.lock W r v := by
 suffices h : ∃ v, (results fn a.tmps).run P W = .ok v W /\ R [] L W r v by
  obtain ⟨v, h1, h2⟩ := h
  exact ⟨v, h1, R.move (Nat.le_refl _) _ _ _ _ _ _ (fun _ _ _ => rfl) (fun _ _ h => by simp at h) (fun g hg => .inl (by rcases hg with h | h; simp at h; exact .inr (hI.inc.1 g h))) h2⟩
 have hdis := hI.dis
 have key : ∀ ps, resP P E σ fn.results.toList = some ps -> ∃ vs : List Value, (fn.results.mapM (resSem a.tmps) : Sem (Array Value)).run P W = .ok vs.toArray W /\ Rs β L W ps vs := fun ps hps => by
  obtain ⟨vs, hv, hr⟩ := res_run hI.ev hI.bx _ ps hps
  refine ⟨vs, ?_, hr⟩
  rw [Array.mapM_eq_mapM_toList, map_eq_pure_bind]
  simp only [Sem.run_bind, hv, Result.andThen_ok]; rfl
 unfold retP at h
 split at h
 ·rename_i p hps
  cases h
  obtain ⟨vs, hv, hr⟩ := key _ hps
  have hcc' : All (fzC 8 σ p) := by simpa only [retC, hps] using hcc
  obtain ⟨u, us', rfl, hu, hn⟩ := hr.uncons
  rw [Rs] at hn; subst hn
  refine ⟨u, ?_, nrm_R 4 _ _ (fz_R hI.bx hdis 8 _ _ hcc' hu)⟩
  rw [results_eq]
  simp only [Sem.run_bind, hv]
  simp [Sem.run_pure]
 ·rename_i ps hne hps
  cases h
  obtain ⟨vs, hv, hr⟩ := key _ hps
  refine ⟨.tuple vs.toArray, ?_, nrm_R 4 _ _ (fz_R hI.bx hdis 8 _ _ (by unfold retC at hcc; rw [hps] at hcc; split at hcc; (rename_i e; cases e; exact absurd rfl (hne _)); (rename_i e; cases e; exact hcc); (rename_i e; cases e)) (by rw [R]; exact ⟨vs, rfl, hr⟩))⟩
  rw [results_eq]
  simp only [Sem.run_bind, hv]
  simp only [Result.andThen_ok, Sem.run_pure]
  rw [dif_neg]
  intro h1
  have hl : ps.length = 1 := by rw [<- hr.length]; simpa using h1
  match ps, hl with
  | [p], _ => exact hne p rfl
 ·cases h
theorem wpK_ret {ro : Option Nat} : ∀ {k : List It} {a : Act} {w : World}, Q .ret a w -> wpK P ro Q k .ret a w
 | [], _, _, h => h
 | .code _ :: k, _, _, h => by unfold wpK; exact wpK_ret h
 | .ops _ _ :: k, _, _, h => by unfold wpK; exact wpK_ret h
 | .blk _ :: k, _, _, h => by unfold wpK; exact wpK_ret h
 | .lp _ :: k, _, _, h => by unfold wpK; exact wpK_ret h
 | .sco :: k, _, _, h => by unfold wpK; exact wpK_ret h
theorem view_ret {c : Cfg} {r : PV} {ps : List Prop} (h : viewOf P fn c = .ret ps r) : (stop P fn.ntmps c).1 ++ retC P fn (stop P fn.ntmps c).2.E (stop P fn.ntmps c).2.σ = ps /\ (stop P fn.ntmps c).2.dr = none /\ retP P fn (stop P fn.ntmps c).2.E (stop P fn.ntmps c).2.σ = some r /\ ((stop P fn.ntmps c).2.todo = [] \/ ∃ k, (stop P fn.ntmps c).2.todo = .code .ret :: k) := by
 unfold viewOf at h
 simp only at h
 split at h
 ·split at h
  ·cases h
  ·split at h <;> cases h
 ·rename_i hdr
  split at h
  ·rename_i ht
   split at h
   ·rename_i r' hr; cases h; exact ⟨rfl, hdr, hr, .inl ht⟩
   ·cases h
  ·rename_i k ht
   split at h
   ·rename_i r' hr; cases h; exact ⟨rfl, hdr, hr, .inr ⟨k, ht⟩⟩
   ·cases h
  ·cases h
  ·split at h
   ·cases h
   ·split at h <;> cases h
theorem Ok.retw {c : Cfg} {r r' : PV} {ps : List Prop} (h : viewOf P fn c = .ret ps r') (hp : All ps) (e : ∀ L W u, R [] L W r' u -> R [] L W r u) : OkF P fn w0 L (Qf P fn w0 r) c := by
 obtain ⟨e1, hdr, hr, ht⟩ := view_ret h
 rw [<- e1, All_app] at hp
 refine run_ok 3000 c hp.1 ?_
 have hcc := hp.2
 show OkF P fn w0 L _ (stop P fn.ntmps c).2
 unfold OkF Ok
 rw [hdr]
 intro β a W hI
 have fin : Qf P fn w0 r .ret a W := fun hd => leave_ok hd hI fun a' W' e1 hI' => by
  obtain ⟨v, hv, hR⟩ := ret_run (P := P) (fn := fn) hI' hr hcc
  rw [e1] at hv
  exact ⟨v, hv, v, rfl, e _ _ _ hR, hI'.bel⟩
 rcases ht with ht | ⟨k, ht⟩
 ·rw [ht]
  exact fin
 ·rw [ht]
  exact wpIn_ret (wpK_ret fin)
theorem Ok.ret {c : Cfg} {r r' : PV} {ps : List Prop} (h : viewOf P fn c = .ret ps r') (hp : All ps) (e : r' = r) : OkF P fn w0 L (Qf P fn w0 r) c := Ok.retw h hp fun _ _ _ h => by rw [<- e]; exact h
theorem lk_keep (t : Nat) : ∀ (ks : List Nat), lk (keepE ks E) t = lk E t \/ lk (keepE ks E) t = .any
 | [] => .inr rfl
 | k :: ks => by
  simp only [keepE, List.map_cons, lk]
  by_cases e : k = t
  ·subst e; rw [if_pos rfl]; exact .inl rfl
  ·rw [if_neg e]; exact lk_keep t ks
theorem Inv.keep (h : Inv w0 L β σ N E a W) (ks : List Nat) : Inv w0 L β σ N (keepE ks E) a W :=
 { h with ev := ⟨h.ev.1, fun t => by
   rcases lk_keep (E := E) t ks with e | e
   ·rw [e]; exact h.ev.2 t
   ·rw [e, R]; trivial⟩ }
theorem view_loop {c : Cfg} {ps : List Prop} (h : viewOf P fn c = .loop ps) : (stop P fn.ntmps c).1 = ps /\ (stop P fn.ntmps c).2.dr = none /\ ∃ body k, (stop P fn.ntmps c).2.todo = .lp body :: k := by
 unfold viewOf at h
 simp only at h
 split at h
 ·split at h
  ·cases h
  ·split at h <;> cases h
 ·rename_i hdr
  split at h
  ·split at h <;> cases h
  ·split at h <;> cases h
  ·rename_i body k ht; cases h; exact ⟨rfl, hdr, body, k, ht⟩
  ·split at h
   ·cases h
   ·split at h <;> cases h
theorem Ok.back {c : Cfg} {E' : Env} {S' : Sig} {T : List It} {ps : List Prop} (ih : OkF P fn w0 L Q ⟨E', S', T, none⟩) (h : (stop P fn.ntmps c).1 = ps) (hp : All ps)
  (hE : keepE (E'.map (·.1)) (stop P fn.ntmps c).2.E = E') (hS : (stop P fn.ntmps c).2.σ = S') (hT : (stop P fn.ntmps c).2.todo = T) (hdr : (stop P fn.ntmps c).2.dr = none) : OkF P fn w0 L Q c := by
 refine run_ok 3000 c (by rw [show (runC P fn.ntmps 3000 c).1 = ps from h]; exact hp) ?_
 show OkF P fn w0 L Q (stop P fn.ntmps c).2
 unfold OkF Ok
 rw [hdr]
 intro β a W hI
 have hk := hI.keep (E'.map (·.1))
 rw [hE, hS] at hk
 rw [hT]
 exact ih β a W hk
theorem Ok.loop {ι : Type} (E : ι -> Env) (S : ι -> Sig) (m : ι -> Nat) (x0 : ι) {c : Cfg} {ps : List Prop} (h : viewOf P fn c = .loop ps) (hp : All ps)
  (hE : keepE ((E x0).map (·.1)) (stop P fn.ntmps c).2.E = E x0) (hS : (stop P fn.ntmps c).2.σ = S x0)
  (round : ∀ x, (∀ y, m y < m x -> OkF P fn w0 L Q ⟨E y, S y, (stop P fn.ntmps c).2.todo, none⟩) -> OkF P fn w0 L Q (roundC P fn c (E x) (S x))) : OkF P fn w0 L Q c := by
 obtain ⟨e1, hdr, body, k, ht⟩ := view_loop h
 refine Ok.back (T := .lp body :: k) ?_ e1 hp hE hS ht hdr
 have key : ∀ n x, m x = n -> OkF P fn w0 L Q ⟨E x, S x, .lp body :: k, none⟩ := by
  intro n
  induction n using Nat.strongRecOn with
  | _ n ih =>
   intro x hx β a W hI
   have hr := round x (fun y hy => by rw [ht]; exact ih (m y) (hx ▸ hy) y rfl)
   unfold roundC at hr
   rw [ht] at hr
   refine LW.unroll (wpIn_mono (hr β a W hI) fun e a w h => wpK_lp h)
 exact key _ x0 rfl
end
structure M (P : Program) (fn : Func) (w0 : W0) (L : List Nat) (Q : Exit -> Act -> World -> Prop) (c : Cfg) : Prop where mk :: (out : OkF P fn w0 L Q c)
section
variable {w0 : W0} {L : List Nat} {P : Program} {Q : Exit -> Act -> World -> Prop} {fn : Func} {c : Cfg}
theorem Spec.start {f : FuncId} {args : List PV} {r : PV} {cd : Code} (he : entersP P f = true) (hf : P.funcs[f]? = some fn) (hb : fn.body = some cd) (hn : Nat.ble args.length fn.ntmps = true)
  (k : ∀ w0 L, M P fn w0 L (Qf P fn w0 r) (startC args cd)) : Spec P f args r := Spec.enter he hf hb hn fun w0 L _ => (k w0 L).out
theorem Spec.startL {f : FuncId} {args : List PV} {r : PV} {cd : Code} (he : entersP P f = true) (hf : P.funcs[f]? = some fn) (hb : fn.body = some cd) (hn : Nat.ble args.length fn.ntmps = true)
  (k : ∀ w0 L, w0.stay = 0 -> M P fn w0 L (Qf P fn w0 r) (startC args cd)) : Spec P f args r := Spec.enter he hf hb hn fun w0 L h => (k w0 L h).out
theorem M.test (b : Bool) (h : viewOf P fn c = .test [] b) (h1 : b = true -> M P fn w0 L Q (assumeC P fn c true)) (h2 : b = false -> M P fn w0 L Q (assumeC P fn c false)) : M P fn w0 L Q c :=
 ⟨Ok.test b h trivial (fun e => (h1 e).out) (fun e => (h2 e).out)⟩
theorem M.testp (ps : List Prop) (b : Bool) (h : viewOf P fn c = .test ps b) (hp : All ps) (h1 : b = true -> M P fn w0 L Q (assumeC P fn c true)) (h2 : b = false -> M P fn w0 L Q (assumeC P fn c false)) : M P fn w0 L Q c :=
 ⟨Ok.test b h hp (fun e => (h1 e).out) (fun e => (h2 e).out)⟩
theorem M.yes {b : Bool} (hb : b = true) (h : viewOf P fn c = .test [] b) (h1 : M P fn w0 L Q (assumeC P fn c true)) : M P fn w0 L Q c :=
 ⟨Ok.test b h trivial (fun e => h1.out) (fun e => by rw [hb] at e; cases e)⟩
theorem M.no {b : Bool} (hb : b = false) (h : viewOf P fn c = .test [] b) (h1 : M P fn w0 L Q (assumeC P fn c false)) : M P fn w0 L Q c :=
 ⟨Ok.test b h trivial (fun e => by rw [hb] at e; cases e) (fun e => h1.out)⟩
theorem M.call {g : FuncId} {qs : List PV} {r : PV} (hs : Spec P g qs r) (h : viewOf P fn c = .call [] g qs) (hr : resOk P fn c r = true) (k : M P fn w0 L Q (afterC P fn c r)) : M P fn w0 L Q c :=
 ⟨Ok.call hs h trivial hr k.out⟩
theorem M.callp (ps : List Prop) {g : FuncId} {qs : List PV} {r : PV} (hs : Spec P g qs r) (h : viewOf P fn c = .call ps g qs) (hp : All ps) (hr : resOk P fn c r = true) (k : M P fn w0 L Q (afterC P fn c r)) : M P fn w0 L Q c :=
 ⟨Ok.call hs h hp hr k.out⟩
theorem M.ret {r : PV} (r' : PV) (h : viewOf P fn c = .ret [] r') (e : r' = r) : M P fn w0 L (Qf P fn w0 r) c := ⟨Ok.ret h trivial e⟩
theorem M.retp {r : PV} (ps : List Prop) (r' : PV) (h : viewOf P fn c = .ret ps r') (hp : All ps) (e : r' = r) : M P fn w0 L (Qf P fn w0 r) c := ⟨Ok.ret h hp e⟩
theorem M.retw {r : PV} (ps : List Prop) (r' : PV) (h : viewOf P fn c = .ret ps r') (hp : All ps) (e : ∀ L W u, R [] L W r' u -> R [] L W r u) : M P fn w0 L (Qf P fn w0 r) c := ⟨Ok.retw h hp e⟩
theorem M.retb {b : Bool} (b' : Bool) (h : viewOf P fn c = .ret [] (.sb b')) (e : b' = b) : M P fn w0 L (Qf P fn w0 (.sb b)) c := ⟨Ok.ret h trivial (by rw [e])⟩
theorem M.loop {ι : Type} (E : ι -> Env) (S : ι -> Sig) (m : ι -> Nat) (x0 : ι) (ps : List Prop) (h : viewOf P fn c = .loop ps) (hp : All ps)
  (hE : keepE ((E x0).map (·.1)) (stop P fn.ntmps c).2.E = E x0) (hS : (stop P fn.ntmps c).2.σ = S x0)
  (round : ∀ x, (∀ y, m y < m x -> M P fn w0 L Q ⟨E y, S y, (stop P fn.ntmps c).2.todo, none⟩) -> M P fn w0 L Q (roundC P fn c (E x) (S x))) : M P fn w0 L Q c :=
 ⟨Ok.loop E S m x0 h hp hE hS fun x ih => (round x fun y hy => ⟨(ih y hy)⟩).out⟩
theorem M.back {E' : Env} {S' : Sig} {T : List It} (ps : List Prop) (ih : M P fn w0 L Q ⟨E', S', T, none⟩) (h : (stop P fn.ntmps c).1 = ps) (hp : All ps)
  (hE : keepE (E'.map (·.1)) (stop P fn.ntmps c).2.E = E') (hS : (stop P fn.ntmps c).2.σ = S') (hT : (stop P fn.ntmps c).2.todo = T) (hdr : (stop P fn.ntmps c).2.dr = none) : M P fn w0 L Q c :=
 ⟨Ok.back ih.out h hp hE hS hT hdr⟩
theorem M.bk {E' : Env} {S' : Sig} {T : List It} (ps : List Prop) (ih : M P fn w0 L Q ⟨E', S', T, none⟩) (hp : All ps) (h : (stop P fn.ntmps c).1 = ps := by kernel_rfl)
  (hE : keepE (E'.map (·.1)) (stop P fn.ntmps c).2.E = E' := by kernel_rfl) (hS : (stop P fn.ntmps c).2.σ = S' := by kernel_rfl) (hT : (stop P fn.ntmps c).2.todo = T := by kernel_rfl) (hdr : (stop P fn.ntmps c).2.dr = none := by kernel_rfl) : M P fn w0 L Q c := M.back ps ih h hp hE hS hT hdr
theorem M.ts (b : Bool) (h1 : b = true -> M P fn w0 L Q (assumeC P fn c true)) (h2 : b = false -> M P fn w0 L Q (assumeC P fn c false)) (h : viewOf P fn c = .test [] b := by kernel_rfl) : M P fn w0 L Q c := M.test b h h1 h2
theorem M.ys {b : Bool} (hb : b = true) (h1 : M P fn w0 L Q (assumeC P fn c true)) (h : viewOf P fn c = .test [] b := by kernel_rfl) : M P fn w0 L Q c := M.yes hb h h1
theorem M.n {b : Bool} (hb : b = false) (h1 : M P fn w0 L Q (assumeC P fn c false)) (h : viewOf P fn c = .test [] b := by kernel_rfl) : M P fn w0 L Q c := M.no hb h h1
end
end Go.Proofs.YtplpnfjccemdnaaGreatDoor
