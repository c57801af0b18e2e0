import Derived.Test.YtplpnfjccemdnaaGreatDoorJ4
import Derived.MapKept
import Derived.Laws.IdiomStrings
set_option linter.unusedVariables false
set_option linter.unusedSimpArgs false
/- The texts V7m V7n of the proof, laid one behind the other. -/
namespace Go.Proofs.YtplpnfjccemdnaaGreatDoor
open Go.RowKit
def isI64D (P : Program) (t : TypeId) : Bool :=
 match P.underlying t with
 | some (.int .i64) => true
 | _ => false
def isStrD (P : Program) (t : TypeId) : Bool :=
 match P.underlying t with
 | some .string => true
 | _ => false
def valOk (P : Program) (t : TypeId) : Bool :=
 match P.underlying t with
 | some (.struct fields) =>
  match fields.toList with
  | [f, g, h] => (f.name != "_" && g.name != "_" && h.name != "_") && (f.offset == 0 && g.offset == 1 && h.offset == 2) && (isI64D P f.type && isI64D P g.type && isStrD P h.type) && !P.stoodInHeld t
  | _ => false
 | _ => false
def kindOf (P : Program) (t : TypeId) : Option KK :=
 match P.underlying t with
 | some (.int k) => some (.int k)
 | some .string => some .str
 | some (.struct _) => if valOk P t then some .val else none
 | _ => none
def keyP : KK -> PV -> Option Atom
 | .int k, p => match intP p with
  | some (k', n) => if k = k' then some (.i n) else none
  | none => none
 | .str, p => match strP p with
  | some s => some (.s s.data.toList)
  | none => none
 | .val, .agg [a, b, c] => match intP a, intP b, strP c with
  | some (.i64, k), some (.i64, n), some s => some (.t k n s.data.toList)
  | _, _, _ => none
 | .val, _ => none
def zeroOk (P : Program) (t : TypeId) : MF -> Bool
 | .b _ => match (P.info? t).bind (·.zero) with | some (.bool false) => true | _ => false
 | .i k _ => match (P.info? t).bind (·.zero) with | some (.int k' 0) => decide (k' = k) | _ => false
 | .v _ => match (P.info? t).bind (·.zero) with | some (.agg zs) => zs.isEmpty | _ => false
def MF.pv : MF -> Atom -> PV
 | .b f, a => .sb ((f a).getD false)
 | .i k f, a => .v (.int k ((f a).getD 0))
 | .v _, _ => .agg []
def MF.has : MF -> Atom -> Bool
 | .b f, a => (f a).isSome
 | .i _ f, a => (f a).isSome
 | .v f, a => f a
def MF.upd (a : Atom) : MF -> PV -> Option MF
 | .b f, p => (boolP p).map fun c => .b fun x => if x = a then some c else f x
 | .i k f, p => match intP p with
  | some (k', n) => if k' = k then some (.i k fun x => if x = a then some n else f x) else none
  | none => none
 | .v f, p => match valP p with
  | some (.agg zs) => if zs.isEmpty then some (.v fun x => if x = a then true else f x) else none
  | _ => none
def zeroAgg (P : Program) (t : TypeId) : Option (List Value) :=
 match (P.info? t).bind (·.zero) with
 | some (.agg zs) => if zs.toList.all (·.oneCell') then some zs.toList else none
 | _ => none
def cellsOr (zs cs : List PV) : PV :=
 match cs with
 | [] => .agg zs
 | c :: cs => .agg (c :: cs)
def lookP (P : Program) (σ : Sig) (t : TypeId) (p q : PV) (ok : Bool) : Option PV :=
 match P.underlying t, p with
 | some (.map kt et), .fm ks mf =>
  match kindOf P kt with
  | some ks' =>
   if ks' = ks /\ zeroOk P et mf = true then
    (keyP ks q).map fun a => if ok then .tup [mf.pv a, .sb (mf.has a)] else mf.pv a
   else none
  | none => none
 | some (.map kt et), .mr i =>
  match σ[i]?, kindOf P kt with
  | some [.mp ks mf], some ks' =>
   if ks' = ks /\ zeroOk P et mf = true then
    (keyP ks q).map fun a => if ok then .tup [mf.pv a, .sb (mf.has a)] else mf.pv a
   else none
  | some [.mps ks f], some ks' =>
   if ks' = ks then
    match keyP ks q, zeroAgg P et with
    | some a, some zs => some (if ok then .tup [cellsOr (zs.map .v) (f a), .sb (!(f a).isEmpty)] else cellsOr (zs.map .v) (f a))
    | _, _ => none
   else none
  | _, _ => none
 | _, _ => none
def updP (P : Program) (σ : Sig) (t : TypeId) (p q r : PV) : Option Sig :=
 match P.underlying t, p with
 | some (.map kt et), .mr i =>
  match σ[i]?, kindOf P kt with
  | some [.mp ks mf], some ks' =>
   if ks' = ks then
    match keyP ks q with
    | some a => (mf.upd a r).map fun mf' => σ.set i [.mp ks mf']
    | none => none
   else none
  | some [.mps ks f], some ks' =>
   if ks' = ks then
    match keyP ks q, r with
    | some a, .agg (c :: cs) => some (σ.set i [.mps ks (fun x => if x = a then c :: cs else f x)])
    | _, _ => none
   else none
  | _, _ => none
 | _, _ => none
def emptyMF (P : Program) (t : TypeId) : Option MF :=
 match P.underlying t with
 | some .bool => some (.b fun _ => none)
 | some (.int k) => some (.i k fun _ => none)
 | some (.struct fs) => if fs.isEmpty then some (.v fun _ => false) else none
 | _ => none
def mkMapP (P : Program) (E : Env) (σ : Sig) (t : TypeId) (r : Option Operand) : Option (PV × Sig) :=
 match P.underlying t with
 | some (.map kt et) =>
  match kindOf P kt, emptyMF P et, optInt E r, zeroAgg P et with
  | some ks, some mf, some _, _ => some (.mr σ.length, σ ++ [[.mp ks mf]])
  | some ks, none, some _, some _ => some (.mr σ.length, σ ++ [[.mps ks (fun _ => [])]])
  | _, _, _, _ => none
 | _ => none
section
variable {P : Program} {W : World} {β : List (Option Nat)} {L : List Nat}
theorem keyP_R {ks : KK} {p : PV} {u : Value} {a : Atom} (h : keyP ks p = some a) (hr : R β L W p u) : keyAt ks u = some a := by
 unfold keyP at h
 split at h
 ·split at h
  ·rename_i k' n hi
   split at h
   ·rename_i hk; subst hk; cases h
    rw [intP_R hi hr]; simp [keyAt]
   ·cases h
  ·cases h
 ·split at h
  ·rename_i s hs
   cases h
   rw [strP_R hs hr]; rfl
  ·cases h
 ·split at h
  ·rename_i k n s h1 h2 h3
   cases h
   rw [R] at hr
   obtain ⟨us, rfl, _, hr⟩ := hr
   obtain ⟨u1, us, rfl, r1, hr⟩ := hr.uncons
   obtain ⟨u2, us, rfl, r2, hr⟩ := hr.uncons
   obtain ⟨u3, us, rfl, r3, hr⟩ := hr.uncons
   rw [Rs] at hr
   subst hr
   rw [intP_R h1 r1, intP_R h2 r2, strP_R h3 r3]
   rfl
  ·cases h
 ·cases h
theorem keyAt_desc {kt : TypeId} {ks : KK} (h : kindOf P kt = some ks) : (∃ k, ks = .int k /\ P.underlying kt = some (.int k)) \/ (ks = .str /\ P.underlying kt = some .string) \/ (ks = .val /\ valOk P kt = true /\ ∃ fs, P.underlying kt = some (.struct fs)) := by
 unfold kindOf at h
 split at h
 ·rename_i k hu; cases h; exact .inl ⟨k, rfl, hu⟩
 ·rename_i hu; cases h; exact .inr (.inl ⟨rfl, hu⟩)
 ·rename_i fs hu
  split at h
  ·rename_i hv; cases h; exact .inr (.inr ⟨rfl, hv, _, hu⟩)
  ·cases h
 ·cases h
theorem keyAt_val {u : Value} {a : Atom} (h : keyAt .val u = some a) : ∃ k n s, u = .agg #[.int .i64 k, .int .i64 n, .string s] /\ a = .t k n s.data.toList := by
 unfold keyAt at h
 split at h
 ·rename_i e; cases e
 ·rename_i e; cases e
 ·rename_i cs _
  unfold keyL at h
  split at h
  ·rename_i k n s e
   cases h
   exact ⟨k, n, s, by rw [<- Array.toArray_toList (xs := cs), e], rfl⟩
  ·cases h
 ·cases h
theorem isI64D_at {t : TypeId} (h : isI64D P t = true) : P.underlying t = some (.int .i64) := by
 unfold isI64D at h; split at h
 ·assumption
 ·cases h
theorem isStrD_at {t : TypeId} (h : isStrD P t = true) : P.underlying t = some .string := by
 unfold isStrD at h; split at h
 ·assumption
 ·cases h
theorem valOk_at {t : TypeId} (h : valOk P t = true) : ∃ f g e : Field, P.underlying t = some (.struct #[f, g, e]) /\ (f.name ≠ "_" /\ g.name ≠ "_" /\ e.name ≠ "_") /\ (f.offset = 0 /\ g.offset = 1 /\ e.offset = 2) /\ (P.underlying f.type = some (.int .i64) /\ P.underlying g.type = some (.int .i64) /\ P.underlying e.type = some .string) /\ P.stoodInHeld t = false := by
 unfold valOk at h
 split at h
 ·rename_i fields hu
  split at h
  ·rename_i f g e hl
   simp only [Bool.and_eq_true, bne_iff_ne, ne_eq, beq_iff_eq, Bool.not_eq_true'] at h
   obtain ⟨⟨⟨⟨⟨h1, h2⟩, h3⟩, ⟨h4, h5⟩, h6⟩, ⟨h7, h8⟩, h9⟩, h10⟩ := h
   exact ⟨f, g, e, by rw [hu, <- Array.toArray_toList (xs := fields), hl], ⟨h1, h2, h3⟩, ⟨h4, h5, h6⟩, ⟨isI64D_at h7, isI64D_at h8, isStrD_at h9⟩, h10⟩
  ·cases h
 ·cases h
theorem same_val {kt : TypeId} (h : valOk P kt = true) {u v : Value} {a b : Atom} (hu : keyAt .val u = some a) (hv : keyAt .val v = some b) (W : World) : (Op.equal kt u v).run P W = .ok (decide (a = b)) W := by
 obtain ⟨k, n, s, rfl, rfl⟩ := keyAt_val hu
 obtain ⟨k', n', s', rfl, rfl⟩ := keyAt_val hv
 obtain ⟨f, g, e, hus, ⟨n1, n2, n3⟩, ⟨o1, o2, o3⟩, ⟨t1, t2, t3⟩, hst⟩ := valOk_at h
 have e1 : eqP P 8 kt (.agg [.v (.int .i64 k), .v (.int .i64 n), .v (.string s)]) (.agg [.v (.int .i64 k'), .v (.int .i64 n'), .v (.string s')]) = some ((k == k') && ((n == n') && ((s.data.toList == s'.data.toList) && true))) := by
  have p1 : ∀ cs, partP P f.type cs 0 = cs[0]? := fun cs => by simp [partP, isAggP, t1]
  have p2 : ∀ cs, partP P g.type cs 1 = cs[1]? := fun cs => by simp [partP, isAggP, t2]
  have p3 : ∀ cs, partP P e.type cs 2 = cs[2]? := fun cs => by simp [partP, isAggP, t3]
  rw [eqP]
  simp only [hus, hst, Bool.false_eq_true, if_false, eqFsP, n1, n2, n3, o1, o2, o3, p1, p2, p3]
  simp [eqP, t1, t2, t3, intP, strP]
 have hr := eq_run' (P := P) (β := []) (L := []) (W := W) 8 10000 (by omega) kt _ _ _ (.agg #[.int .i64 k, .int .i64 n, .string s]) (.agg #[.int .i64 k', .int .i64 n', .string s']) e1
  (by rw [R]; exact ⟨_, rfl, by simp [Value.oneCell'], plain_Rs [.int .i64 k, .int .i64 n, .string s]⟩) (by rw [R]; exact ⟨_, rfl, by simp [Value.oneCell'], plain_Rs [.int .i64 k', .int .i64 n', .string s']⟩)
 have : (Op.equal kt (.agg #[.int .i64 k, .int .i64 n, .string s]) (.agg #[.int .i64 k', .int .i64 n', .string s'])).run P W = _ := hr
 rw [this]
 congr 1
 rw [Bool.eq_iff_iff]
 simp
theorem same_key {kt : TypeId} {ks : KK} {d : TypeDesc} (h : kindOf P kt = some ks) (hne : ks ≠ .val) (hd : P.underlying kt = some d) {u v : Value} {a b : Atom} (hu : keyAt ks u = some a) (hv : keyAt ks v = some b) : Instr.sameNow d u v = some (decide (a = b)) := by
 rcases keyAt_desc h with ⟨k, rfl, hk⟩ | ⟨rfl, hk⟩ | ⟨rfl, _⟩
 ·rw [hk] at hd; cases hd
  unfold keyAt at hu hv
  split at hu
  ·rename_i k1 k2 n e
   cases e
   split at hu
   ·rename_i e; subst e; cases hu
    split at hv
    ·rename_i k1 k2 n' e
     cases e
     split at hv
     ·rename_i e; subst e; cases hv
      simp only [Instr.sameNow, if_true, Option.some.injEq, Atom.i.injEq]
      by_cases e : n = n' <;> simp [e]
     ·cases hv
    ·rename_i e; cases e
    ·rename_i e; cases e
    ·cases hv
   ·cases hu
  ·rename_i e; cases e
  ·rename_i e; cases e
  ·cases hu
 ·rw [hk] at hd; cases hd
  unfold keyAt at hu hv
  split at hu
  ·rename_i e; cases e
  ·rename_i s _
   cases hu
   split at hv
   ·rename_i e; cases e
   ·rename_i s' _
    cases hv
    simp only [Instr.sameNow, Option.some.injEq, Atom.s.injEq]
    rw [beq_toListBytes, ByteArray.toList_eq, ByteArray.toList_eq]
    by_cases e : s.data.toList = s'.data.toList
    ·rw [decide_eq_true e]; exact beq_iff_eq.2 e
    ·rw [decide_eq_false e]; exact beq_eq_false_iff_ne.2 e
   ·rename_i e; cases e
   ·cases hv
  ·rename_i e; cases e
  ·cases hu
 ·exact absurd rfl hne
def FindR (ks : KK) (a : Atom) (es : List MapEntry) (i : Nat) (r : Option (Nat × Value)) : Prop :=
 (r = none /\ es.find? (fun e => keyAt ks e.key == some a) = none) \/ ∃ j e, r = some (i + j, e.val) /\ es[j]? = some e /\ keyAt ks e.key = some a /\ es.find? (fun e => keyAt ks e.key == some a) = some e /\ ∀ x, x < j -> ∀ e', es[x]? = some e' -> keyAt ks e'.key ≠ some a
theorem FindR.nil {ks : KK} {a : Atom} {i : Nat} : FindR ks a [] i none := .inl ⟨rfl, rfl⟩
theorem FindR.here {ks : KK} {a : Atom} {i : Nat} {e : MapEntry} {es : List MapEntry} (hb : keyAt ks e.key = some a) : FindR ks a (e :: es) i (some (i, e.val)) :=
 .inr ⟨0, e, rfl, rfl, hb, by simp [hb], fun x hx => absurd hx (Nat.not_lt_zero _)⟩
theorem FindR.next {ks : KK} {a b : Atom} {i : Nat} {e : MapEntry} {es : List MapEntry} {r : Option (Nat × Value)} (hb : keyAt ks e.key = some b) (hab : ¬ a = b) (hc : FindR ks a es (i + 1) r) : FindR ks a (e :: es) i r := by
 have hne : (keyAt ks e.key == some a) = false := by
  rw [hb]; simp only [beq_eq_false_iff_ne, ne_eq, Option.some.injEq]; exact fun h => hab h.symm
 rcases hc with ⟨e1, e2⟩ | ⟨j, e', e1, e2, e3, e4, e5⟩
 ·exact .inl ⟨e1, by rw [List.find?_cons, hne]; exact e2⟩
 ·refine .inr ⟨j + 1, e', by rw [e1]; congr 2; omega, by simpa using e2, e3, by rw [List.find?_cons, hne]; exact e4, fun x hx e'' he'' => ?_⟩
  cases x with
  | zero => simp at he''; subst he''; intro h; rw [hb] at h; exact hab (Option.some.inj h).symm
  | succ x => exact e5 x (by omega) e'' (by simpa using he'')
theorem findNow_run {kt : TypeId} {ks : KK} {d : TypeDesc} (h : kindOf P kt = some ks) (hne : ks ≠ .val) (hd : P.underlying kt = some d) {u : Value} {a : Atom} (hu : keyAt ks u = some a) : ∀ (es : List MapEntry) (i : Nat), (∀ e ∈ es, ∃ b, keyAt ks e.key = some b) ->
  ∃ r, Instr.findNow d u es i = some r /\ FindR ks a es i r
 | [], i, _ => ⟨none, rfl, .nil⟩
 | e :: es, i, hall => by
  obtain ⟨b, hb⟩ := hall e (List.mem_cons_self ..)
  have hs := same_key h hne hd hu hb
  unfold Instr.findNow
  rw [hs]
  by_cases hab : a = b
  ·subst hab
   exact ⟨some (i, e.val), by simp, .here hb⟩
  ·rw [decide_eq_false hab]
   obtain ⟨r, hr, hc⟩ := findNow_run h hne hd hu es (i + 1) fun e he => hall e (List.mem_cons_of_mem _ he)
   exact ⟨r, hr, hc.next hb hab⟩
theorem findAsk_run {kt : TypeId} (h : valOk P kt = true) {u : Value} {a : Atom} (hu : keyAt .val u = some a) (W : World) : ∀ (es : List MapEntry) (i : Nat), (∀ e ∈ es, ∃ b, keyAt .val e.key = some b) ->
  ∃ r, (Instr.findAsking kt u es i).run P W = .ok r W /\ FindR .val a es i r
 | [], i, _ => ⟨none, rfl, .nil⟩
 | e :: es, i, hall => by
  obtain ⟨b, hb⟩ := hall e (List.mem_cons_self ..)
  have hs := same_val h hu hb W
  unfold Instr.findAsking
  by_cases hab : a = b
  ·subst hab
   exact ⟨some (i, e.val), by simp [Sem.run_bind, hs, Sem.run_pure], .here hb⟩
  ·obtain ⟨r, hr, hc⟩ := findAsk_run h hu W es (i + 1) fun e he => hall e (List.mem_cons_of_mem _ he)
   exact ⟨r, by simp [Sem.run_bind, hs, hab, hr], hc.next hb hab⟩
theorem findKey_run {kt : TypeId} {ks : KK} (h : kindOf P kt = some ks) {u : Value} {a : Atom} (hu : keyAt ks u = some a) (es : List MapEntry) (hall : ∀ e ∈ es, ∃ b, keyAt ks e.key = some b) (W : World) :
  ∃ r, (Instr.findKey kt u es).run P W = .ok r W /\ ((r = none /\ es.find? (fun e => keyAt ks e.key == some a) = none) \/ ∃ j e, r = some (j, e.val) /\ es[j]? = some e /\ keyAt ks e.key = some a /\ es.find? (fun e => keyAt ks e.key == some a) = some e /\ ∀ x, x < j -> ∀ e', es[x]? = some e' -> keyAt ks e'.key ≠ some a) := by
 have fin : ∀ r, FindR ks a es 0 r -> ((r = none /\ es.find? (fun e => keyAt ks e.key == some a) = none) \/ ∃ j e, r = some (j, e.val) /\ es[j]? = some e /\ keyAt ks e.key = some a /\ es.find? (fun e => keyAt ks e.key == some a) = some e /\ ∀ x, x < j -> ∀ e', es[x]? = some e' -> keyAt ks e'.key ≠ some a) := fun r hc => by
  rcases hc with hc | ⟨j, e, e1, q⟩
  ·exact .inl hc
  ·exact .inr ⟨j, e, by rw [e1, Nat.zero_add], q⟩
 by_cases hne : ks = .val
 ·subst hne
  rcases keyAt_desc h with ⟨k, e, _⟩ | ⟨e, _⟩ | ⟨_, hv, fs, hus⟩
  ·cases e
  ·cases e
  obtain ⟨r, hr, hc⟩ := findAsk_run hv hu W es 0 hall
  refine ⟨r, ?_, fin r hc⟩
  unfold Instr.findKey
  simp only [Sem.run_bind, underlying_run hus, Result.andThen_ok]
  cases es with
  | nil => exact hr
  | cons e es =>
   have : Instr.findNow (.struct fs) u (e :: es) 0 = none := by
    unfold Instr.findNow
    obtain ⟨k, n, s, rfl, rfl⟩ := keyAt_val hu
    rfl
   rw [this]
   exact hr
 obtain ⟨d, hd⟩ : ∃ d, P.underlying kt = some d := by
  rcases keyAt_desc h with ⟨k, _, hk⟩ | ⟨_, hk⟩ | ⟨e, _⟩
  ·exact ⟨_, hk⟩
  ·exact ⟨_, hk⟩
  ·exact absurd e hne
 obtain ⟨r, hr, hc⟩ := findNow_run h hne hd hu es 0 hall
 refine ⟨r, ?_, fin r hc⟩
 unfold Instr.findKey
 simp only [Sem.run_bind, underlying_run hd, Result.andThen_ok, hr, Sem.run_pure]
theorem part_one {t : TypeId} (h : isAggP P t = some false) {cs : Array Value} {off : Nat} {v : Value} (hv : cs[off]? = some v) (W : World) : (part t cs off).run P W = .ok v W := by
 unfold part
 simp only [Sem.run_bind, isAgg_run h, Result.andThen_ok, Bool.false_eq_true, if_false, hv]
 rfl
theorem checkKey_run {kt : TypeId} {ks : KK} (h : kindOf P kt = some ks) {u : Value} {a : Atom} (hu : keyAt ks u = some a) (b : Bool) (n : Nat) (W : World) : (Instr.checkKey b (n + 2) kt u).run P W = .ok () W := by
 rcases keyAt_desc h with ⟨k, rfl, hk⟩ | ⟨rfl, hk⟩ | ⟨rfl, hv, _⟩
 ·unfold Instr.checkKey
  simp only [Sem.run_bind, underlying_run hk, Result.andThen_ok]
  cases u <;> first | rfl | simp [keyAt] at hu
 ·unfold Instr.checkKey
  simp only [Sem.run_bind, underlying_run hk, Result.andThen_ok]
  cases u <;> first | rfl | simp [keyAt] at hu
 ·obtain ⟨k, m, s, rfl, rfl⟩ := keyAt_val hu
  obtain ⟨f, g, e, hus, ⟨n1, n2, n3⟩, ⟨o1, o2, o3⟩, ⟨t1, t2, t3⟩, hst⟩ := valOk_at hv
  have c1 : ∀ z : Int, (Instr.checkKey b (n + 1) f.type (.int .i64 z)).run P W = .ok () W := fun z => by
   unfold Instr.checkKey
   simp only [Sem.run_bind, underlying_run t1, Result.andThen_ok]
   rfl
  have c2 : ∀ z : Int, (Instr.checkKey b (n + 1) g.type (.int .i64 z)).run P W = .ok () W := fun z => by
   unfold Instr.checkKey
   simp only [Sem.run_bind, underlying_run t2, Result.andThen_ok]
   rfl
  have c3 : ∀ z : ByteArray, (Instr.checkKey b (n + 1) e.type (.string z)).run P W = .ok () W := fun z => by
   unfold Instr.checkKey
   simp only [Sem.run_bind, underlying_run t3, Result.andThen_ok]
   rfl
  have q1 := part_one (P := P) (t := f.type) (by simp [isAggP, t1]) (cs := #[.int .i64 k, .int .i64 m, .string s]) (off := f.offset) (v := .int .i64 k) (by rw [o1]; rfl) W
  have q2 := part_one (P := P) (t := g.type) (by simp [isAggP, t2]) (cs := #[.int .i64 k, .int .i64 m, .string s]) (off := g.offset) (v := .int .i64 m) (by rw [o2]; rfl) W
  have q3 := part_one (P := P) (t := e.type) (by simp [isAggP, t3]) (cs := #[.int .i64 k, .int .i64 m, .string s]) (off := e.offset) (v := .string s) (by rw [o3]; rfl) W
  unfold Instr.checkKey
  simp only [Sem.run_bind, underlying_run hus, Result.andThen_ok]
  rw [<- Array.forIn_toList]
  simp only [List.forIn_cons, List.forIn_nil, n1, n2, n3, ne_eq, not_false_eq_true, if_true, Sem.run_bind, q1, q2, q3, c1, c2, c3, Result.andThen_ok, Sem.run_pure]
theorem zeroVal_run {t : TypeId} {mf : MF} (h : zeroOk P t mf = true) (W : World) : ∃ z, (zeroValue t).run P W = .ok z W /\ ∀ a, mf.at a = none -> R β L W (mf.pv a) z := by
 have key : ∀ z, (P.info? t).bind (·.zero) = some z -> (zeroValue t).run P W = .ok z W := fun z hz => by
  unfold zeroValue typeInfo
  cases hi : P.info? t with
  | none => rw [hi] at hz; cases hz
  | some i =>
   rw [hi] at hz
   simp at hz
   simp [hi, hz, program, Sem.run_bind, Sem.run_pure, Sem.run]
 cases mf with
 | b f =>
  unfold zeroOk at h
  simp only at h
  split at h
  ·rename_i hz
   refine ⟨_, key _ hz, fun a ha => ?_⟩
   simp only [MF.at, Option.map_eq_none_iff] at ha
   simp only [MF.pv, ha, Option.getD_none]; rw [R]
  ·cases h
 | i k f =>
  unfold zeroOk at h
  simp only at h
  split at h
  ·rename_i k' hz
   have hk : k' = k := by simpa using h
   subst hk
   refine ⟨_, key _ hz, fun a ha => ?_⟩
   simp only [MF.at, Option.map_eq_none_iff] at ha
   simp only [MF.pv, ha, Option.getD_none]; rw [R]
  ·cases h
 | v f =>
  unfold zeroOk at h
  simp only at h
  split at h
  ·rename_i zs hz
   refine ⟨_, key _ hz, fun a ha => ?_⟩
   have hz0 : zs = #[] := Array.isEmpty_iff.1 h
   subst hz0
   simp only [MF.pv]; rw [R]
   exact ⟨[], rfl, fun x hx => (List.not_mem_nil hx).elim, rfl⟩
  ·cases h
theorem MF.at_R {mf : MF} {a : Atom} {u : Value} (h : mf.at a = some u) : R β L W (mf.pv a) u /\ mf.has a = true := by
 cases mf with
 | b f =>
  simp only [MF.at, Option.map_eq_some_iff] at h
  obtain ⟨c, hc, rfl⟩ := h
  simp only [MF.pv, MF.has, hc, Option.getD_some, Option.isSome_some, and_true]; rw [R]
 | i k f =>
  simp only [MF.at, Option.map_eq_some_iff] at h
  obtain ⟨c, hc, rfl⟩ := h
  simp only [MF.pv, MF.has, hc, Option.getD_some, Option.isSome_some, and_true]; rw [R]
 | v f =>
  simp only [MF.at] at h
  split at h
  ·rename_i hf
   cases h
   simp only [MF.pv, MF.has]; rw [R]
   exact ⟨⟨[], rfl, fun x hx => (List.not_mem_nil hx).elim, rfl⟩, hf⟩
  ·cases h
theorem MF.at_no {mf : MF} {a : Atom} (h : mf.at a = none) : mf.has a = false := by
 cases mf with
 | b f => simp only [MF.at, Option.map_eq_none_iff] at h; simp [MF.has, h]
 | i k f => simp only [MF.at, Option.map_eq_none_iff] at h; simp [MF.has, h]
 | v f => simpa [MF.at, MF.has] using h
theorem look_at {t kt et : TypeId} {ks : KK} {mf : MF} {q : PV} {v : Value} {ok : Bool} {k : Atom} {g : Nat} {es : Array MapEntry} {clock : Nat} (hu : P.underlying t = some (.map kt et)) (hk : kindOf P kt = some ks) (hz : zeroOk P et mf = true) (hkp : keyP ks q = some k)
  (hheap : W.heap[g]? = some (.map es clock)) (hm : MapHold ks es mf) (hq : R β L W q v) : ∃ x, (Instr.lookup t (.map (some g)) v ok).run P W = .ok x W /\ R β L W (if ok then .tup [mf.pv k, .sb (mf.has k)] else mf.pv k) x := by
 have hka := keyP_R hkp hq
 obtain ⟨z, hzr, hzz⟩ := zeroVal_run (β := β) (L := L) hz W
 obtain ⟨fr, hfr, hcase⟩ := findKey_run hk hka es.toList hm.1 W
 have hck := checkKey_run hk hka es.isEmpty 9998 W
 have hma := hm.2 k
 rcases hcase with ⟨rfl, hno⟩ | ⟨j, e, rfl, he, hek, hfd, _⟩
 ·rw [hno, Option.map_none] at hma
  refine ⟨if ok = true then .tuple #[z, .bool false] else z, ?_, ?_⟩
  ·unfold Instr.lookup
   simp only [Sem.run_bind, underlying_run hu, Go.MapKept.run_getObj_map hheap, Result.andThen_ok, Sem.run_pure, hck, hfr, hzr]
  ·cases ok with
   | true =>
    simp only [if_true]
    rw [R]
    exact ⟨[z, .bool false], rfl, Rs.cons (hzz k hma) (Rs.cons (by rw [R, MF.at_no hma]) Rs.nil)⟩
   | false => exact hzz k hma
 ·rw [hfd, Option.map_some] at hma
  obtain ⟨hrr, hhas⟩ := MF.at_R (β := β) (L := L) (W := W) hma
  refine ⟨if ok = true then .tuple #[e.val, .bool true] else e.val, ?_, ?_⟩
  ·unfold Instr.lookup
   simp only [Sem.run_bind, underlying_run hu, Go.MapKept.run_getObj_map hheap, Result.andThen_ok, Sem.run_pure, hck, hfr]
  ·cases ok with
   | true =>
    simp only [if_true]
    rw [R]
    exact ⟨[e.val, .bool true], rfl, Rs.cons hrr (Rs.cons (by rw [R, hhas]) Rs.nil)⟩
   | false => exact hrr
theorem mp_out {g : Nat} {ks : KK} {mf : MF} (h : Hold β L W g [.mp ks mf]) : ∃ es clock, W.heap[g]? = some (.map es clock) /\ MapHold ks es mf := by
 cases h with
 | cells _ t us hh h1 h2 => obtain ⟨u, us', rfl, hu, _⟩ := h2.uncons; rw [R] at hu; exact hu.elim
 | mp _ _ es clock hh h2 => exact ⟨es, clock, hh, h2⟩
theorem mps_out {g : Nat} {ks : KK} {f : Atom -> List PV} (h : Hold β L W g [.mps ks f]) : ∃ es clock, W.heap[g]? = some (.map es clock) /\ MapS β L W ks es f := by
 cases h with
 | cells _ t us hh h1 h2 => obtain ⟨u, us', rfl, hu, _⟩ := h2.uncons; rw [R] at hu; exact hu.elim
 | mps _ _ es clock hh h2 => exact ⟨es, clock, hh, h2⟩
theorem zeroAgg_run {t : TypeId} {zs : List Value} (h : zeroAgg P t = some zs) (W : World) : (zeroValue t).run P W = .ok (.agg zs.toArray) W /\ ∀ x ∈ zs, x.oneCell' = true := by
 unfold zeroAgg at h
 split at h
 ·rename_i cs hz
  split at h
  ·rename_i ho
   cases h
   refine ⟨?_, fun x hx => List.all_eq_true.1 ho x hx⟩
   unfold zeroValue typeInfo
   cases hi : P.info? t with
   | none => rw [hi] at hz; cases hz
   | some i =>
    rw [hi] at hz
    simp at hz
    simp [hi, hz, program, Sem.run_bind, Sem.run_pure, Sem.run]
  ·cases h
 ·cases h
theorem looks_at {t kt et : TypeId} {ks : KK} {f : Atom -> List PV} {q : PV} {v : Value} {ok : Bool} {k : Atom} {g : Nat} {es : Array MapEntry} {clock : Nat} {zs : List Value} (hu : P.underlying t = some (.map kt et)) (hk : kindOf P kt = some ks) (hz : zeroAgg P et = some zs) (hkp : keyP ks q = some k)
  (hheap : W.heap[g]? = some (.map es clock)) (hm : MapS β L W ks es f) (hq : R β L W q v) : ∃ x, (Instr.lookup t (.map (some g)) v ok).run P W = .ok x W /\ R β L W (if ok then .tup [cellsOr (zs.map .v) (f k), .sb (!(f k).isEmpty)] else cellsOr (zs.map .v) (f k)) x := by
 have hka := keyP_R hkp hq
 obtain ⟨hzr, hz1⟩ := zeroAgg_run hz W
 obtain ⟨fr, hfr, hcase⟩ := findKey_run hk hka es.toList hm.1 W
 have hck := checkKey_run hk hka es.isEmpty 9998 W
 have hma := hm.2 k
 have pair : ∀ (p : PV) (u : Value) (b : Bool), R β L W p u -> R β L W (if ok then .tup [p, .sb b] else p) (if ok = true then .tuple #[u, .bool b] else u) := fun p u b h => by
  cases ok with
  | true =>
   simp only [if_true]
   rw [R]
   exact ⟨[u, .bool b], rfl, Rs.cons h (Rs.cons (by rw [R]) Rs.nil)⟩
  | false => exact h
 rcases hcase with ⟨rfl, hno⟩ | ⟨j, e, rfl, he, hek, hfd, _⟩
 ·rw [hno, Option.map_none] at hma
  rcases hma with ⟨hf, _⟩ | ⟨us, h, _⟩
  ·refine ⟨if ok = true then .tuple #[.agg zs.toArray, .bool false] else .agg zs.toArray, ?_, ?_⟩
   ·unfold Instr.lookup
    simp only [Sem.run_bind, underlying_run hu, Go.MapKept.run_getObj_map hheap, Result.andThen_ok, Sem.run_pure, hck, hfr, hzr]
   ·rw [hf]
    exact pair _ _ _ (by show R β L W (.agg (zs.map .v)) _; rw [R]; exact ⟨zs, rfl, hz1, plain_Rs zs⟩)
  ·cases h
 ·rw [hfd, Option.map_some] at hma
  rcases hma with ⟨_, h⟩ | ⟨us, h, h1, hne, h2⟩
  ·cases h
  ·refine ⟨if ok = true then .tuple #[e.val, .bool true] else e.val, ?_, ?_⟩
   ·unfold Instr.lookup
    simp only [Sem.run_bind, underlying_run hu, Go.MapKept.run_getObj_map hheap, Result.andThen_ok, Sem.run_pure, hck, hfr]
   ·have hval : e.val = .agg us.toArray := Option.some.inj h
    cases hf : f k with
    | nil => exact absurd hf hne
    | cons c cs =>
     rw [hf] at h2
     exact pair _ _ _ (by rw [hval]; show R β L W (.agg (c :: cs)) _; rw [R]; exact ⟨us, rfl, h1, h2⟩)
theorem look_run {σ : Sig} {t : TypeId} {p q r : PV} {u v : Value} {ok : Bool} (hB : Bx β L W σ) (h : lookP P σ t p q ok = some r) (hp : R β L W p u) (hq : R β L W q v) : ∃ x, (Instr.lookup t u v ok).run P W = .ok x W /\ R β L W r x := by
 unfold lookP at h
 split at h
 ·rename_i kt et ks mf hu
  split at h
  ·rename_i ks' hk
   split at h
   ·rename_i hc
    obtain ⟨rfl, hz⟩ := hc
    cases hkp : keyP ks' q with
    | none => rw [hkp] at h; cases h
    | some a =>
     rw [hkp] at h
     simp only [Option.map_some, Option.some.injEq] at h
     rw [R] at hp
     obtain ⟨g, es, clock, rfl, _, _, hheap, hm⟩ := hp
     rw [<- h]
     exact look_at hu hk hz hkp hheap hm hq
   ·cases h
  ·cases h
 ·rename_i kt et i hu
  split at h
  ·rename_i ks mf ks' hs hk
   split at h
   ·rename_i hc
    obtain ⟨rfl, hz⟩ := hc
    cases hkp : keyP ks' q with
    | none => rw [hkp] at h; cases h
    | some a =>
     rw [hkp] at h
     simp only [Option.map_some, Option.some.injEq] at h
     rw [R] at hp
     obtain ⟨g, hg, rfl⟩ := hp
     obtain ⟨es, clock, hheap, hm⟩ := mp_out (hB.hold hs hg)
     rw [<- h]
     exact look_at hu hk hz hkp hheap hm hq
   ·cases h
  ·rename_i ks f ks' hs hk
   split at h
   ·rename_i hc
    subst hc
    split at h
    ·rename_i a zs hkp hz
     simp only [Option.some.injEq] at h
     rw [R] at hp
     obtain ⟨g, hg, rfl⟩ := hp
     obtain ⟨es, clock, hheap, hm⟩ := mps_out (hB.hold hs hg)
     rw [<- h]
     exact looks_at hu hk hz hkp hheap hm hq
    ·cases h
   ·cases h
  ·cases h
 ·cases h
end
theorem find_push {ks : KK} {l : List MapEntry} {a : Atom} {n : MapEntry} (hn : keyAt ks n.key = some a) (hno : l.find? (fun e => keyAt ks e.key == some a) = none) (x : Atom) :
  ((l ++ [n]).find? fun e => keyAt ks e.key == some x).map (·.val) = if x = a then some n.val else (l.find? fun e => keyAt ks e.key == some x).map (·.val) := by
 rw [List.find?_append]
 by_cases e : x = a
 ·subst e
  rw [hno, if_pos rfl]
  simp [hn]
 ·rw [if_neg e]
  have : (keyAt ks n.key == some x) = false := by rw [hn]; simp only [beq_eq_false_iff_ne, ne_eq, Option.some.injEq]; exact fun h => e h.symm
  cases hf : l.find? fun e => keyAt ks e.key == some x with
  | some q => rfl
  | none => simp [this]
theorem find_modify {ks : KK} {a : Atom} {k v : Value} (hk : keyAt ks k = some a) : ∀ (l : List MapEntry) (j : Nat) (e : MapEntry), l[j]? = some e -> keyAt ks e.key = some a -> (∀ x, x < j -> ∀ e', l[x]? = some e' -> keyAt ks e'.key ≠ some a) -> ∀ x : Atom,
  ((l.modify j fun e => { e with key := k, val := v }).find? fun e => keyAt ks e.key == some x).map (·.val) = if x = a then some v else (l.find? fun e => keyAt ks e.key == some x).map (·.val)
 | [], j, e, h, _, _, x => by simp at h
 | y :: l, 0, e, h, he, _, x => by
  simp at h; subst h
  rw [List.modify_zero_cons, List.find?_cons, List.find?_cons]
  by_cases hx : x = a
  ·subst hx; rw [if_pos rfl]; simp [hk]
  ·rw [if_neg hx]
   have h1 : (keyAt ks k == some x) = false := by rw [hk]; simp only [beq_eq_false_iff_ne, ne_eq, Option.some.injEq]; exact fun h => hx h.symm
   have h2 : (keyAt ks y.key == some x) = false := by rw [he]; simp only [beq_eq_false_iff_ne, ne_eq, Option.some.injEq]; exact fun h => hx h.symm
   simp only [h1, h2]
 | y :: l, j + 1, e, h, he, hb, x => by
  rw [List.modify_succ_cons, List.find?_cons, List.find?_cons]
  have ih := find_modify (v := v) hk l j e (by simpa using h) he (fun x hx e' he' => hb (x + 1) (by omega) e' (by simpa using he')) x
  cases hy : (keyAt ks y.key == some x) with
  | true =>
   have hya := hb 0 (by omega) y rfl
   have hxa : x ≠ a := fun e => by subst e; rw [beq_iff_eq] at hy; exact hya hy
   simp [hxa]
  | false => exact ih
theorem bytes_eq {s s' : ByteArray} (h : s'.data.toList = s.data.toList) : s' = s := by
 obtain ⟨⟨x⟩⟩ := s
 obtain ⟨⟨y⟩⟩ := s'
 simp at h; rw [h]
theorem keyAt_int {k : IntKind} {u : Value} {a : Atom} (h : keyAt (.int k) u = some a) : ∃ n, u = .int k n /\ a = .i n := by
 cases u <;> simp only [keyAt] at h <;> first | cases h | skip
 rename_i k' n
 split at h
 ·rename_i e; subst e; cases h; exact ⟨n, rfl, rfl⟩
 ·cases h
theorem keyAt_str {u : Value} {a : Atom} (h : keyAt .str u = some a) : ∃ s, u = .string s /\ a = .s s.data.toList := by
 cases u <;> simp only [keyAt] at h <;> first | cases h | skip
 exact ⟨_, rfl, rfl⟩
theorem sameBits_int (n : Nat) (k : IntKind) (x : Int) : Instr.sameBits n (.int k x) (.int k x) = true := by
 cases n <;> simp [Instr.sameBits]
theorem sameBits_str (n : Nat) (s : ByteArray) : Instr.sameBits n (.string s) (.string s) = true := by
 cases n <;> (simp only [Instr.sameBits]; rw [beq_toListBytes]; simp)
theorem same_bits {ks : KK} {u v : Value} {a : Atom} (hu : keyAt ks u = some a) (hv : keyAt ks v = some a) (n : Nat) : Instr.sameBits (n + 1) u v = true := by
 cases ks with
 | int k =>
  obtain ⟨x, rfl, rfl⟩ := keyAt_int hu
  obtain ⟨y, rfl, e⟩ := keyAt_int hv
  cases e
  exact sameBits_int _ _ _
 | str =>
  obtain ⟨x, rfl, rfl⟩ := keyAt_str hu
  obtain ⟨y, rfl, e⟩ := keyAt_str hv
  have := bytes_eq (Atom.s.inj e)
  subst this
  exact sameBits_str _ _
 | val =>
  obtain ⟨k, m, s, rfl, rfl⟩ := keyAt_val hu
  obtain ⟨k', m', s', rfl, e⟩ := keyAt_val hv
  injection e with e1 e2 e3
  have := bytes_eq e3
  subst this
  subst e1
  subst e2
  unfold Instr.sameBits
  simp only [List.size_toArray, List.zip_cons_cons, List.zip_nil_right, List.all_cons, List.all_nil, sameBits_int, sameBits_str, Bool.and_true, beq_self_eq_true, Bool.and_self]
section
variable {w0 : W0} {W W' : World} {L : List Nat} {β : List (Option Nat)} {σ : Sig} {N : Nat} {E : Env} {a : Act} {P : Program}
theorem upd_at {mf mf' : MF} {k : Atom} {p : PV} {u : Value} (h : mf.upd k p = some mf') (hr : R β L W p u) (x : Atom) : mf'.at x = if x = k then some u else mf.at x := by
 cases mf with
 | b f =>
  simp only [MF.upd, Option.map_eq_some_iff] at h
  obtain ⟨c, hc, rfl⟩ := h
  rw [boolP_R hc hr]
  simp only [MF.at]
  split <;> simp
 | i kd f =>
  simp only [MF.upd] at h
  split at h
  ·rename_i k' n hi
   split at h
   ·rename_i hk; subst hk; cases h
    rw [intP_R hi hr]
    simp only [MF.at]
    split <;> simp
   ·cases h
  ·cases h
 | v f =>
  simp only [MF.upd] at h
  split at h
  ·rename_i zs hz
   split at h
   ·rename_i hz0
    cases h
    have hz1 : zs = #[] := Array.isEmpty_iff.1 hz0
    rw [valP_R hz hr, hz1]
    simp only [MF.at]
    by_cases e : x = k
    ·simp [e]
    ·simp [e]
   ·cases h
  ·cases h
theorem upd_core {t kt et : TypeId} {ks : KK} {k : Atom} {g : Nat} {es : Array MapEntry} {clock : Nat} {v x : Value} (hu : P.underlying t = some (.map kt et)) (hk : kindOf P kt = some ks) (hka : keyAt ks v = some k) (hheap : W.heap[g]? = some (.map es clock)) (hall : ∀ e ∈ es.toList, ∃ b, keyAt ks e.key = some b) :
  ∃ es' clock', (Instr.mapUpdate t (.map (some g)) v x).run P W = .ok () { W with heap := W.heap.setIfInBounds g (.map es' clock') } /\ (∀ e ∈ es'.toList, ∃ b, keyAt ks e.key = some b) /\
   ∀ y, (es'.toList.find? fun e => keyAt ks e.key == some y).map (·.val) = if y = k then some x else (es.toList.find? fun e => keyAt ks e.key == some y).map (·.val) := by
 obtain ⟨fr, hfr, hcase⟩ := findKey_run hk hka es.toList hall W
 have hck := checkKey_run hk hka false 9998 W
 rcases hcase with ⟨rfl, hno⟩ | ⟨j, e, rfl, he, hek, hfd, hbef⟩
 ·refine ⟨es.push { key := v, val := x, born := clock }, clock + 1, ?_, fun e he => ?_, fun y => ?_⟩
  ·unfold Instr.mapUpdate
   simp only [Sem.run_bind, underlying_run hu, Go.MapKept.run_getObj_map hheap, Result.andThen_ok, Sem.run_pure, hck, hfr, Go.MapKept.run_setObj_map _ hheap]
  ·rw [Array.toList_push, List.mem_append] at he
   rcases he with he | he
   ·exact hall e he
   ·simp at he; subst he; exact ⟨k, hka⟩
  ·rw [Array.toList_push, find_push (a := k) hka hno]
 ·have hsb : Instr.sameBits 10000 e.key v = true := same_bits hek hka 9999
  refine ⟨es.modify j fun e => { e with key := v, val := x }, clock, ?_, fun e' he' => ?_, fun y => ?_⟩
  ·unfold Instr.mapUpdate
   have hj : es[j]? = some e := by simpa using he
   simp only [Sem.run_bind, underlying_run hu, Go.MapKept.run_getObj_map hheap, Result.andThen_ok, Sem.run_pure, hck, hfr, hj, Option.map_some, Option.getD_some, Instr.keyThatStays, hsb, if_true, Go.MapKept.run_setObj_map _ hheap]
  ·rw [Array.toList_modify] at he'
   obtain ⟨z, hz, rfl⟩ := List.mem_iff_getElem.1 he'
   rw [List.getElem_modify]
   split
   ·exact ⟨k, hka⟩
   ·exact hall _ (List.getElem_mem _)
  ·rw [Array.toList_modify, find_modify hka es.toList j e he hek hbef]
theorem upd_run {t : TypeId} {p q r : PV} {u v x : Value} {σ' : Sig} (hI : Inv w0 L β σ N E a W) (h : updP P σ t p q r = some σ') (hp : R β L W p u) (hq : R β L W q v) (hr : R β L W r x) :
  ∃ W', (Instr.mapUpdate t u v x).run P W = .ok () W' /\ Inv w0 L β σ' N E a W' := by
 have fin : ∀ (i g : Nat) (cs ds : List PV) (es es' : Array MapEntry) (clock clock' : Nat), W.heap[g]? = some (.map es clock) -> β[i]? = some (some g) -> σ[i]? = some cs -> isDd cs = false ->
   ((∀ ps vs, Rs β L W ps vs -> Rs β L { W with heap := W.heap.setIfInBounds g (.map es' clock') } ps vs) -> ({ W with heap := W.heap.setIfInBounds g (.map es' clock') } : World).heap[g]? = some (.map es' clock') -> Hold β L { W with heap := W.heap.setIfInBounds g (.map es' clock') } g ds) ->
   Inv w0 L β (σ.set i ds) N E a { W with heap := W.heap.setIfInBounds g (.map es' clock') } := fun i g cs ds es es' clock clock' hheap hg hs hdd hd => by
  have hgl : g < W.heap.size := hI.bx.2.2.1 g (List.mem_of_getElem? hg)
  have hset : (W.heap.setIfInBounds g (.map es' clock'))[g]? = some (.map es' clock') := by simp [Array.getElem?_setIfInBounds, hgl]
  exact hI.write hs hdd hg (by simp) (fun k hk => by simp [Array.getElem?_setIfInBounds, Ne.symm hk]) (by simp only [World.shape?, hset, hheap]) rfl rfl rfl fun mv => hd mv hset
 unfold updP at h
 split at h
 ·rename_i kt et i hu
  split at h
  ·rename_i ks mf ks' hs hk
   split at h
   ·rename_i hc
    subst hc
    split at h
    ·rename_i k hkp
     cases hm : mf.upd k r with
     | none => rw [hm] at h; cases h
     | some mf' =>
      rw [hm] at h
      cases h
      have hka := keyP_R hkp hq
      rw [R] at hp
      obtain ⟨g, hg, rfl⟩ := hp
      obtain ⟨es, clock, hheap, hmh⟩ := mp_out (hI.bx.hold hs hg)
      have hat := upd_at hm hr
      obtain ⟨es', clock', hrun, hall, hfd⟩ := upd_core (x := x) hu hk hka hheap hmh.1
      exact ⟨_, hrun, fin i g _ _ es es' clock clock' hheap hg hs rfl fun _ hset => .mp _ _ es' clock' hset ⟨hall, fun y => by rw [hfd y, hat y, hmh.2 y]⟩⟩
    ·cases h
   ·cases h
  ·rename_i ks f ks' hs hk
   split at h
   ·rename_i hc
    subst hc
    split at h
    ·rename_i k c cs hkp
     cases h
     have hka := keyP_R hkp hq
     rw [R] at hp
     obtain ⟨g, hg, rfl⟩ := hp
     obtain ⟨es, clock, hheap, hmh⟩ := mps_out (hI.bx.hold hs hg)
     rw [R] at hr
     obtain ⟨us, rfl, u1, u2⟩ := hr
     obtain ⟨es', clock', hrun, hall, hfd⟩ := upd_core (x := .agg us.toArray) hu hk hka hheap hmh.1
     refine ⟨_, hrun, fin i g _ _ es es' clock clock' hheap hg hs rfl fun mv hset => .mps _ _ es' clock' hset ⟨hall, fun y => ?_⟩⟩
     rw [hfd y]
     show ((if y = k then c :: cs else f y) = [] /\ _) \/ ∃ us_1 : List Value, _ /\ _ /\ (if y = k then c :: cs else f y) ≠ [] /\ Rs β L _ (if y = k then c :: cs else f y) us_1
     by_cases e : y = k
     ·rw [if_pos e, if_pos e]
      exact .inr ⟨us, rfl, u1, by simp, mv _ _ u2⟩
     ·rw [if_neg e, if_neg e]
      rcases hmh.2 y with ⟨h1, h2⟩ | ⟨vs, h1, h2, h3, h4⟩
      ·exact .inl ⟨h1, h2⟩
      ·exact .inr ⟨vs, h1, h2, h3, mv _ _ h4⟩
    ·cases h
   ·cases h
  ·cases h
 ·cases h
def bytesEl (b : ByteArray) : Nat -> List PV := fun j => [.v (.int .u8 (b.data.toList.getD j 0).toNat)]
def bytesP (P : Program) (s d : TypeId) : PV -> Option (Option Prop × PV)
 | .v (.string b) =>
  match P.underlying s, P.underlying d with
  | some .string, some (.slice e) =>
   match P.underlying e with
   | some (.int .u8) => some (some (b.size <= 9223372036854775807), .sl 1 b.size (bytesEl b))
   | _ => none
  | _, _ => none
 | _ => none
def opS (P : Program) (E : Env) (σ : Sig) : Op -> Option (Option Prop × PV × Sig)
 | .lookup t x i ok => (lookP P σ t (evA E x) (evA E i) ok).map fun r => (none, r, σ)
 | .mapUpdate t m k v => (updP P σ t (evA E m) (evA E k) (evA E v)).map fun s => (none, .any, s)
 | .insert t m k v => (updP P σ t (evA E m) (evA E k) (evA E v)).map fun s => (none, .any, s)
 | .makeMap t r => (mkMapP P E σ t r).map fun q => (none, q.1, q.2)
 | .convert s d x => (bytesP P s d (evA E x)).map fun q => (q.1, q.2, σ)
 | op => opS1 P E σ op
theorem opS_run {o : Oper} {p : PV} {σ' : Sig} {pre : Option Prop} (hI : Inv w0 L β σ N E a W) (hd : fitsD N o.dst = true) (h : opS P E σ o.op = some (pre, p, σ')) (hp : Pre pre) (hst : o.dst = none \/ ((∀ t x y, o.op ≠ .store t x y) /\ (∀ t x y z, o.op ≠ .mapUpdate t x y z) /\ ∀ t x y z, o.op ≠ .insert t x y z)) (K : Act -> World -> Prop) (Q : Exit -> Act -> World -> Prop)
  (hK : ∀ γ u W', Inv w0 L γ σ' N (putE E o.dst p) (a.put o.dst u) W' -> K (a.put o.dst u) W') : Oper.wp P o a W K Q := by
 unfold opS at h
 split at h
 ·rename_i t x i ok e
  cases hl : lookP P σ t (evA E x) (evA E i) ok with
  | none => rw [hl] at h; cases h
  | some r =>
   rw [hl] at h
   cases h
   obtain ⟨y, hy, hr⟩ := look_run hI.bx hl (evA_R hI.ev x) (evA_R hI.ev i)
   unfold Oper.wp execOp
   rw [e]
   simp only [Sem.run_bind, hy, Result.andThen_ok, Sem.run_pure]
   exact hK β y W { hI with ev := hI.ev.put hr hd, nod := hI.nod.put _ _ }
 ·rename_i t m k v e
  cases hl : updP P σ t (evA E m) (evA E k) (evA E v) with
  | none => rw [hl] at h; cases h
  | some s =>
   rw [hl] at h
   cases h
   obtain ⟨W', hy, hi⟩ := upd_run hI hl (evA_R hI.ev m) (evA_R hI.ev k) (evA_R hI.ev v)
   unfold Oper.wp execOp
   rw [e]
   simp only [Sem.run_bind, hy, Result.andThen_ok, Sem.run_pure]
   rcases hst with hst | ⟨_, hst, _⟩
   ·have hk := hK β undef W'
    rw [hst] at hk
    show K (a.put o.dst undef) W'
    rw [hst]
    exact hk hi
   ·exact absurd e (hst t m k v)
 ·rename_i t m k v e
  cases hl : updP P σ t (evA E m) (evA E k) (evA E v) with
  | none => rw [hl] at h; cases h
  | some s =>
   rw [hl] at h
   cases h
   obtain ⟨W', hy, hi⟩ := upd_run hI hl (evA_R hI.ev m) (evA_R hI.ev k) (evA_R hI.ev v)
   unfold Oper.wp execOp
   rw [e]
   simp only [Sem.run_bind, hy, Result.andThen_ok, Sem.run_pure]
   rcases hst with hst | ⟨_, _, hst⟩
   ·have hk := hK β undef W'
    rw [hst] at hk
    show K (a.put o.dst undef) W'
    rw [hst]
    exact hk hi
   ·exact absurd e (hst t m k v)
 ·rename_i t r e
  cases hl : mkMapP P E σ t r with
  | none => rw [hl] at h; cases h
  | some q =>
   rw [hl] at h
   cases h
   unfold mkMapP at hl
   split at hl
   ·rename_i kt et hu
    split at hl
    ·rename_i ks mf l hk hmf ho
     cases hl
     have hadd := hI.add (cs := [.mp ks mf]) (o := .map #[] 0) fun mv => .mp _ _ #[] 0 (heap_alloc_new W _) ⟨fun e he => by simp at he, fun x => by
      unfold emptyMF at hmf
      split at hmf
      ·cases hmf; simp [MF.at]
      ·cases hmf; simp [MF.at]
      ·split at hmf
       ·cases hmf; simp [MF.at]
       ·cases hmf
      ·cases hmf⟩
     have hrun : (Instr.makeMap t (r.map a.eval)).run P W = .ok (.map (some W.heap.size)) (W.alloc (.map #[] 0)) := by
      unfold Instr.makeMap
      have ho' := optInt_R hI.ev ho
      cases l with
      | none =>
       have hr : r.map a.eval = none := ho'
       rw [hr]
       simp [newObj, Sem.run_bind, Sem.run, Sem.run_pure]
      | some n =>
       obtain ⟨kk, hr⟩ := ho'
       rw [hr]
       simp [newObj, Sem.run_bind, Sem.run, Sem.run_pure, underlying_run hu, asInt, asIntOf_run]
     unfold Oper.wp execOp
     rw [e]
     simp only [Sem.run_bind, hrun, Result.andThen_ok, Sem.run_pure]
     refine hK _ _ _ { hadd with ev := hadd.ev.put ?_ hd, nod := hadd.nod.put _ _ }
     rw [R]
     exact ⟨W.heap.size, by rw [<- hI.bx.1]; simp, rfl⟩
    ·rename_i ks l zs hk hmf ho hz
     cases hl
     have hadd := hI.add (cs := [.mps ks (fun _ => [])]) (o := .map #[] 0) fun mv => .mps _ _ #[] 0 (heap_alloc_new W _) ⟨fun e he => by simp at he, fun x => .inl ⟨rfl, rfl⟩⟩
     have hrun : (Instr.makeMap t (r.map a.eval)).run P W = .ok (.map (some W.heap.size)) (W.alloc (.map #[] 0)) := by
      unfold Instr.makeMap
      have ho' := optInt_R hI.ev ho
      cases l with
      | none =>
       have hr : r.map a.eval = none := ho'
       rw [hr]
       simp [newObj, Sem.run_bind, Sem.run, Sem.run_pure]
      | some n =>
       obtain ⟨kk, hr⟩ := ho'
       rw [hr]
       simp [newObj, Sem.run_bind, Sem.run, Sem.run_pure, underlying_run hu, asInt, asIntOf_run]
     unfold Oper.wp execOp
     rw [e]
     simp only [Sem.run_bind, hrun, Result.andThen_ok, Sem.run_pure]
     refine hK _ _ _ { hadd with ev := hadd.ev.put ?_ hd, nod := hadd.nod.put _ _ }
     rw [R]
     exact ⟨W.heap.size, by rw [<- hI.bx.1]; simp, rfl⟩
    ·cases hl
   ·cases hl
 ·rename_i s d x e
  cases hl : bytesP P s d (evA E x) with
  | none => rw [hl] at h; cases h
  | some q =>
   rw [hl] at h
   cases h
   unfold bytesP at hl
   split at hl
   ·rename_i b hx
    split at hl
    ·rename_i el hs hdd
     split at hl
     ·rename_i he
      cases hl
      have hu := evA_R hI.ev x
      rw [hx, R] at hu
      have hb : b.size <= maxLen := hp
      have hcap := grownCap_ge W b.size 0 el
      have hcapm := grownCap_le_maxLen W b.size 0 el hb
      have hbl : Below W.heap.size W (W.drew.alloc (.cells (bytesRow b (grownCap W b.size 0 el)) el ((bytesRow b (grownCap W b.size 0 el)).size, (bytesRow b (grownCap W b.size 0 el)).size + 1))) := (Below.refl W.heap.size W).drew.alloc (Nat.le_refl _) _
      have hi := hI.below hbl
      unfold Oper.wp execOp
      rw [e]
      simp only [hu, Sem.run_bind, run_bytes_of_string W s d el b hs hdd he, Result.andThen_ok, Sem.run_pure]
      refine hK _ _ _ { hi with ev := hi.ev.put ?_ hd, nod := hi.nod.put _ _ }
      rw [R]
      refine ⟨_, _, rfl, hcap, hcapm, fun hlen => ⟨W.heap.size, 0, rfl, ?_, by show W.heap.size < (W.heap.push _).size; simp, fun j hj => ⟨[.int .u8 (b.data.toList.getD j 0).toNat], rfl, by simp [Value.oneCell'], ?_, fun i x hx => ?_⟩⟩⟩
      ·rintro (hm | hm)
       ·have := hI.bx.2.2.1 _ hm; omega
       ·have := hI.oldW _ hm; omega
      ·exact Rs.cons (by rw [R]) Rs.nil
      ·cases i with
       | succ i => simp at hx
       | zero =>
        simp at hx
        subst hx
        have := heap_alloc_new W.drew (.cells (bytesRow b (grownCap W b.size 0 el)) el ((bytesRow b (grownCap W b.size 0 el)).size, (bytesRow b (grownCap W b.size 0 el)).size + 1))
        have hw : W.drew.heap = W.heap := rfl
        rw [hw] at this
        simp only [World.cell?, this]
        have hjs : j < b.data.size := hj
        simp [bytesRow, Array.getElem?_append, List.getD]
        rw [if_pos hj, Array.getElem?_eq_getElem hjs]
        rfl
     ·cases hl
    ·cases hl
   ·cases hl
 ·exact opS1_run hI hd h hp (hst.imp id fun h => h.1) K Q hK
end
end Go.Proofs.YtplpnfjccemdnaaGreatDoor
