import Derived.Test.YtplpnfjccemdnaaGreatDoorJ1
import Derived.Laws.StructEq
set_option linter.unusedVariables false
set_option linter.unusedSimpArgs false
/- The texts V4 V5 of the proof, laid one behind the other. -/
namespace Go.Proofs.YtplpnfjccemdnaaGreatDoor
open Go.RowKit
def cellsP : PV -> Option (List PV)
 | .agg cs => some cs
 | .v x => if x.oneCell' then some [.v x] else none
 | .sb c => some [.sb c]
 | .sl k n el => some [.sl k n el]
 | .ptr cs => some [.ptr cs]
 | .ref i o => some [.ref i o]
 | .os e i k n => some [.os e i k n]
 | .rr i k j c => some [.rr i k j c]
 | .mr i => some [.mr i]
 | .fm ks mf => some [.fm ks mf]
 | .fn g l => some [.fn g l]
 | .o p => some [.o p]
 | _ => none
theorem one_cells {u : Value} (h : u.oneCell' = true) : u.cells = #[u] := by cases u <;> simp [Value.oneCell', Value.cells] at h ⊢
theorem cells_R {β : List (Option Nat)} {L : List Nat} {W : World} {p : PV} {u : Value} {cs : List PV} (h : cellsP p = some cs) (hr : R β L W p u) : ∃ us : List Value, u.cells = us.toArray /\ (∀ x ∈ us, x.oneCell' = true) /\ Rs β L W cs us := by
 have key : u.oneCell' = true -> cs = [p] -> ∃ us : List Value, u.cells = us.toArray /\ (∀ x ∈ us, x.oneCell' = true) /\ Rs β L W cs us := fun h1 e => by
  subst e
  exact ⟨[u], by rw [one_cells h1], by simpa using h1, Rs.cons hr Rs.nil⟩
 unfold cellsP at h
 split at h
 ·cases h; rw [R] at hr; obtain ⟨us, rfl, h1, h2⟩ := hr; exact ⟨us, rfl, h1, h2⟩
 ·split at h
  ·rename_i x hx
   cases h
   have : u = x := by rw [R] at hr; exact hr
   exact key (by rw [this]; exact hx) rfl
  ·cases h
 ·cases h; exact key (by rw [R] at hr; subst hr; rfl) rfl
 ·cases h; exact key (by rw [R] at hr; obtain ⟨a, c, rfl, _⟩ := hr; rfl) rfl
 ·cases h; exact key (by rw [R] at hr; obtain ⟨b, off, us, rfl, _⟩ := hr; rfl) rfl
 ·cases h; exact key (by rw [R] at hr; obtain ⟨g, _, rfl⟩ := hr; rfl) rfl
 ·cases h; exact key (by rw [R] at hr; rcases hr with ⟨g, c, _, rfl, _⟩ | ⟨_, _, _, rfl⟩ <;> rfl) rfl
 ·cases h; exact key (by rw [R] at hr; obtain ⟨g, _, rfl⟩ := hr; rfl) rfl
 ·cases h; exact key (by rw [R] at hr; obtain ⟨g, _, rfl⟩ := hr; rfl) rfl
 ·cases h; exact key (by rw [R] at hr; obtain ⟨_, _, _, rfl, _⟩ := hr; rfl) rfl
 ·cases h; exact key (by rw [R] at hr; obtain ⟨us, rfl, _⟩ := hr; rfl) rfl
 ·cases h; exact key (by rw [R] at hr; exact hr.1) rfl
 ·cases h
def partP (P : Program) (t : TypeId) (cs : List PV) (off : Nat) : Option PV :=
 match isAggP P t, szP P t with
 | some true, some n => some (.agg ((cs.drop off).take n))
 | some false, _ => cs[off]?
 | _, _ => none
theorem part_run {P : Program} {β : List (Option Nat)} {L : List Nat} {W : World} {t : TypeId} {cs : List PV} {us : List Value} {off : Nat} {p : PV} (h : partP P t cs off = some p) (h1 : ∀ x ∈ us, x.oneCell' = true) (h2 : Rs β L W cs us) :
  ∃ u, (part t us.toArray off).run P W = .ok u W /\ R β L W p u := by
 unfold partP at h
 split at h
 ·rename_i n ha hn
  cases h
  refine ⟨.agg ((us.drop off).take n).toArray, ?_, ?_⟩
  ·unfold part
   simp only [Sem.run_bind, isAgg_run ha, Result.andThen_ok, if_true, sizeOf_run' hn, Sem.run_pure]
   congr 2
   apply Array.ext'
   simp [Array.toList_extract, List.extract_eq_take_drop]
  ·rw [R]; exact ⟨_, rfl, fun x hx => h1 x (List.mem_of_mem_drop (List.mem_of_mem_take hx)), (h2.drop off).take n⟩
 ·rename_i ha
  obtain ⟨u, hu, hr⟩ := h2.get h
  refine ⟨u, ?_, hr⟩
  unfold part
  simp only [Sem.run_bind, isAgg_run ha, Result.andThen_ok, Bool.false_eq_true, if_false]
  have : us.toArray[off]? = some u := by simpa using hu
  rw [this]; rfl
 ·cases h
def fillP (place : Nat -> Option (Nat × Nat)) (cells : List PV) : List (Nat × PV) -> Option (List PV)
 | [] => some cells
 | (i, p) :: rest =>
  match place i, cellsP p with
  | some (off, size), some cs => if cs.length = size /\ off + size <= cells.length then fillP place (cells.take off ++ (cs ++ cells.drop (off + size))) rest else none
  | _, _ => none
theorem set_splice : ∀ (vs : List Value) (k off : Nat) (us : List Value), off + k + vs.length <= us.length ->
  (vs.zipIdx k).foldl (fun (cs : Array Value) (c : Value × Nat) => cs.setIfInBounds (off + c.2) c.1) us.toArray = (us.take (off + k) ++ (vs ++ us.drop (off + k + vs.length))).toArray
 | [], k, off, us, h => by simp
 | v :: vs, k, off, us, h => by
  simp only [List.zipIdx_cons, List.foldl_cons]
  have e : us.toArray.setIfInBounds (off + k) v = (us.set (off + k) v).toArray := by simp
  rw [e, set_splice vs (k + 1) off (us.set (off + k) v) (by simp at h ⊢; omega)]
  congr 1
  simp only [List.length_cons] at h ⊢
  have h1 : (us.set (off + k) v).take (off + (k + 1)) = us.take (off + k) ++ [v] := by
   rw [show off + (k + 1) = off + k + 1 by omega]
   rw [List.take_set, List.take_succ_eq_append_getElem (by omega), List.set_append_right _ _ (by simp; omega)]
   simp [Nat.min_eq_left (show off + k <= us.length by omega)]
  have h2 : (us.set (off + k) v).drop (off + (k + 1) + vs.length) = us.drop (off + k + (vs.length + 1)) := by
   rw [List.drop_set_of_lt (by omega)]
   congr 1; omega
  rw [h1, h2]
  simp
theorem fill_run {β : List (Option Nat)} {L : List Nat} {W : World} {place : Nat -> Option (Nat × Nat)} : ∀ (parts : List (Nat × PV)) (vals : List (Nat × Value)) (cs ds : List PV) (us : List Value), fillP place cs parts = some ds ->
  parts.map (·.1) = vals.map (·.1) -> (∀ (j i : Nat) (p : PV) (i' : Nat) (u : Value), parts[j]? = some (i, p) -> vals[j]? = some (i', u) -> R β L W p u) -> (∀ x ∈ us, x.oneCell' = true) -> Rs β L W cs us ->
  ∃ ws : List Value, Instr.fill place us.toArray vals = some ws.toArray /\ (∀ x ∈ ws, x.oneCell' = true) /\ Rs β L W ds ws
 | [], [], cs, ds, us, h, _, _, h1, h2 => by
  simp [fillP] at h; subst h
  exact ⟨us, rfl, h1, h2⟩
 | (i, p) :: parts, (i', u) :: vals, cs, ds, us, h, hm, hv, h1, h2 => by
  simp at hm
  obtain ⟨rfl, hm⟩ := hm
  unfold fillP at h
  split at h
  ·rename_i off size ps hpl hps
   split at h
   ·rename_i hc
    obtain ⟨xs, e, hx1, hx2⟩ := cells_R hps (hv 0 i p i u rfl rfl)
    have hxl : xs.length = size := by rw [hx2.length]; exact hc.1
    have hul : us.length = cs.length := h2.length
    unfold Instr.fill
    rw [hpl]
    simp only [e, List.size_toArray, hxl]
    rw [if_neg (by simp; omega)]
    have hz : xs.toArray.zipIdx.foldl (fun cs (x : Value × Nat) => cs.setIfInBounds (off + x.2) x.1) us.toArray = (us.take off ++ (xs ++ us.drop (off + size))).toArray := by
     have := set_splice xs 0 off us (by omega)
     rw [hxl] at this
     simp only [Nat.add_zero] at this
     rw [<- this, <- Array.foldl_toList]
     simp
    simp only [hz]
    exact fill_run parts vals _ ds _ h hm (fun j i p i' u ha hb => hv (j + 1) i p i' u (by simpa using ha) (by simpa using hb))
     (fun x hx => by
      simp only [List.mem_append] at hx
      rcases hx with hx | hx | hx
      ·exact h1 x (List.mem_of_mem_take hx)
      ·exact hx1 x hx
      ·exact h1 x (List.mem_of_mem_drop hx)) ((h2.take off).append (hx2.append (h2.drop (off + size))))
   ·cases h
  ·cases h
 | [], _ :: _, _, _, _, _, hm, _, _, _ => by simp at hm
 | _ :: _, [], _, _, _, _, hm, _, _, _ => by simp at hm
def zeroP (P : Program) (t : TypeId) : Option (List Value) :=
 match (P.info? t).bind (·.zero) with
 | some z => if z.cells.toList.all (·.oneCell') then some z.cells.toList else none
 | none => none
theorem zero_run {P : Program} {t : TypeId} {zs : List Value} (h : zeroP P t = some zs) (W : World) : ∃ z, (zeroValue t).run P W = .ok z W /\ z.cells = zs.toArray /\ ∀ x ∈ zs, x.oneCell' = true := by
 unfold zeroP at h
 split at h
 ·rename_i z hz
  split at h
  ·rename_i ho
   cases h
   refine ⟨z, ?_, by simp, fun x hx => List.all_eq_true.1 ho x hx⟩
   unfold zeroValue typeInfo
   cases hi : P.info? t with
   | none => rw [hi] at hz; cases hz
   | some i =>
    rw [hi] at hz
    simp at hz
    simp [hi, hz, program, Sem.run_bind, Sem.run_pure, Sem.run]
  ·cases h
 ·cases h
theorem plain_Rs {β : List (Option Nat)} {L : List Nat} {W : World} : ∀ (zs : List Value), Rs β L W (zs.map PV.v) zs
 | [] => Rs.nil
 | z :: zs => Rs.cons (by rw [R]) (plain_Rs zs)
def placeL (P : Program) : List Field -> Option (List (Nat × Nat))
 | [] => some []
 | f :: fs =>
  match szP P f.type, placeL P fs with
  | some n, some l => some ((f.offset, n) :: l)
  | _, _ => none
def places (P : Program) (t : TypeId) : Option (Nat -> Option (Nat × Nat)) :=
 match P.underlying t with
 | some (.struct fields) =>
  match placeL P fields.toList with
  | some l => some fun i => l[i]?
  | none => none
 | some (.array _ e) => (szP P e).map fun n => fun i => some (i * n, n)
 | _ => none
def buildP (P : Program) (t : TypeId) (parts : List (Nat × PV)) : Option PV :=
 match zeroP P t, places P t with
 | some zs, some pl => (fillP pl (zs.map PV.v) parts).map PV.agg
 | _, _ => none
theorem mapM_places {P : Program} {W : World} : ∀ (fs : List Field) (l : List (Nat × Nat)), placeL P fs = some l ->
  (fs.mapM (fun f => do pure (f.offset, <- sizeOf f.type)) : Sem (List (Nat × Nat))).run P W = .ok l W
 | [], l, h => by simp [placeL] at h; subst h; rfl
 | f :: fs, l, h => by
  unfold placeL at h
  split at h
  ·rename_i n l' hn hl
   cases h
   simp only [List.mapM_cons, Sem.run_bind, sizeOf_run' hn, Result.andThen_ok, Sem.run_pure, mapM_places fs l' hl]
  ·cases h
theorem build_run {P : Program} {β : List (Option Nat)} {L : List Nat} {W : World} {t : TypeId} {parts : List (Nat × PV)} {vals : List (Nat × Value)} {p : PV} (h : buildP P t parts = some p)
  (hm : parts.map (·.1) = vals.map (·.1)) (hv : ∀ (j i : Nat) (p : PV) (i' : Nat) (u : Value), parts[j]? = some (i, p) -> vals[j]? = some (i', u) -> R β L W p u) :
  ∃ u, (Instr.build t vals.toArray).run P W = .ok u W /\ R β L W p u := by
 unfold buildP at h
 split at h
 ·rename_i zs pl hz hpl
  obtain ⟨z, hzr, hzc, hz1⟩ := zero_run hz W
  cases hf : fillP pl (zs.map PV.v) parts with
  | none => rw [hf] at h; cases h
  | some ds =>
   rw [hf] at h
   cases h
   obtain ⟨ws, hw, hw1, hw2⟩ := fill_run parts vals _ ds zs hf hm hv hz1 (plain_Rs zs)
   refine ⟨.agg ws.toArray, ?_, by rw [R]; exact ⟨ws, rfl, hw1, hw2⟩⟩
   unfold Instr.build
   simp only [Sem.run_bind, hzr, Result.andThen_ok, hzc]
   unfold places at hpl
   split at hpl
   ·rename_i fields hu
    split at hpl
    ·rename_i l hl
     cases hpl
     simp only [underlying_run hu, Result.andThen_ok]
     have hmm := mapM_places (P := P) (W := W) fields.toList l hl
     have : (fields.mapM (fun f => do pure (f.offset, <- sizeOf f.type)) : Sem (Array (Nat × Nat))).run P W = .ok l.toArray W := by
      rw [Array.mapM_eq_mapM_toList, map_eq_pure_bind]
      simp only [Sem.run_bind, hmm, Result.andThen_ok]; rfl
     simp only [this, Sem.run_bind, Result.andThen_ok]
     have hpl' : (fun i : Nat => l.toArray[i]?) = fun i : Nat => l[i]? := by funext i; simp
     simp only [hpl', hw, Sem.run_pure]
    ·cases hpl
   ·rename_i n e hu
    cases hs : szP P e with
    | none => rw [hs] at hpl; cases hpl
    | some k =>
     rw [hs] at hpl
     cases hpl
     simp only [underlying_run hu, Result.andThen_ok, sizeOf_run' hs, hw, Sem.run_pure, Sem.run_bind]
   ·cases hpl
 ·cases h
def eqFsP (P : Program) (eq : TypeId -> PV -> PV -> Option Bool) (xs ys : List PV) : List Field -> Option Bool
 | [] => some true
 | f :: fs =>
  if f.name = "_" then eqFsP P eq xs ys fs
  else
   match partP P f.type xs f.offset, partP P f.type ys f.offset with
   | some p, some q =>
    match eq f.type p q, eqFsP P eq xs ys fs with
    | some b, some c => some (b && c)
    | _, _ => none
   | _, _ => none
def eqP (P : Program) : Nat -> TypeId -> PV -> PV -> Option Bool
 | 0, _, _, _ => none
 | d + 1, t, p, q =>
  match P.underlying t with
  | some (.int _) =>
   match intP p, intP q with
   | some (k, a), some (k', b) => if k = k' then some (a == b) else none
   | _, _ => none
  | some .string =>
   match strP p, strP q with
   | some x, some y => some (x.data.toList == y.data.toList)
   | _, _ => none
  | some .bool =>
   match boolP p, boolP q with
   | some a, some b => some (a == b)
   | _, _ => none
  | some (.struct fields) =>
   match p, q with
   | .agg xs, .agg ys => if P.stoodInHeld t then none else eqFsP P (eqP P d) xs ys fields.toList
   | _, _ => none
  | _ => none
section
variable {P : Program} {β : List (Option Nat)} {L : List Nat} {W : World}
theorem eqFs_run {D : Nat} {eq : TypeId -> PV -> PV -> Option Bool} (hq : ∀ t p q b x y, eq t p q = some b -> R β L W p x -> R β L W q y -> (Op.equalIn D t x y).run P W = .ok b W) {xs ys : List PV} {us vs : List Value}
  (hu1 : ∀ x ∈ us, x.oneCell' = true) (hv1 : ∀ x ∈ vs, x.oneCell' = true) (hu : Rs β L W xs us) (hv : Rs β L W ys vs) : ∀ (fs : List Field) (b : Bool), eqFsP P eq xs ys fs = some b -> (Op.eqFields D us.toArray vs.toArray fs).run P W = .ok b W
 | [], b, h => by simp [eqFsP] at h; subst h; simp [Op.eqFields, Sem.run_pure]
 | f :: fs, b, h => by
  unfold eqFsP at h
  unfold Op.eqFields
  split at h
  ·rename_i hn
   rw [if_neg (by simp [hn])]
   exact eqFs_run hq hu1 hv1 hu hv fs b h
  ·rename_i hn
   rw [if_pos hn]
   split at h
   ·rename_i p q hp hq'
    split at h
    ·rename_i b1 c1 hb hc
     cases h
     obtain ⟨x, hx, hrx⟩ := part_run hp hu1 hu
     obtain ⟨y, hy, hry⟩ := part_run hq' hv1 hv
     have h3 := hq f.type p q b1 x y hb hrx hry
     have h4 := eqFs_run hq hu1 hv1 hu hv fs c1 hc
     simp only [Sem.run_bind, hx, hy, h3, Result.andThen_ok]
     cases b1
     ·simp [Sem.run_pure]
     ·simp [h4]
    ·cases h
   ·cases h
theorem eq_run' : ∀ (d D : Nat), d <= D -> ∀ (t : TypeId) (p q : PV) (b : Bool) (x y : Value), eqP P d t p q = some b -> R β L W p x -> R β L W q y -> (Op.equalIn D t x y).run P W = .ok b W
 | 0, D, _, t, p, q, b, x, y, h, _, _ => by cases h
 | d + 1, 0, hD, _, _, _, _, _, _, _, _, _ => by omega
 | d + 1, D + 1, hD, t, p, q, b, x, y, h, hx, hy => by
  unfold eqP at h
  split at h
  ·rename_i k0 hu
   split at h
   ·rename_i k a k' c h1 h2
    split at h
    ·rename_i hk
     subst hk
     cases h
     rw [intP_R h1 hx, intP_R h2 hy]
     exact run_equalIn_int W D t _ _ _ _ hu
    ·cases h
   ·cases h
  ·rename_i hu
   split at h
   ·rename_i s s' h1 h2
    cases h
    rw [strP_R h1 hx, strP_R h2 hy]
    rw [run_equalIn_string W D t _ _ hu]
    simp only [ByteArray.toList_eq]
   ·cases h
  ·rename_i hu
   split at h
   ·rename_i s s' h1 h2
    cases h
    rw [boolP_R h1 hx, boolP_R h2 hy]
    exact run_equalIn_bool' W D t _ _ hu
   ·cases h
  ·rename_i fields hu
   split at h
   ·rename_i xs ys
    split at h
    ·cases h
    ·rename_i hst
     rw [R] at hx hy
     obtain ⟨us, rfl, hu1, hus⟩ := hx
     obtain ⟨vs, rfl, hv1, hvs⟩ := hy
     have hf : P.fieldsOf t = fields := by unfold Program.fieldsOf; rw [hu]
     rw [run_equalIn_struct W D t _ _ (by rw [hf]; exact hu) (by simpa using hst), hf]
     exact eqFs_run (fun t p q b x y h1 h2 h3 => eq_run' d D (by omega) t p q b x y h1 h2 h3) hu1 hv1 hus hvs _ b h
   ·cases h
  ·cases h
def isAggPV : PV -> Bool
 | .agg _ => true
 | _ => false
def aggBinP (P : Program) (op : BinOp) (t : TypeId) (p q : PV) : Option PV :=
 if P.eqGuardType P.depth t then none
 else
  match op with
  | .eql => (eqP P 8 t p q).map .sb
  | .neq => (eqP P 8 t p q).map fun b => .sb (!b)
  | _ => none
theorem aggBin_run {op : BinOp} {t : TypeId} {p q r : PV} {x y : Value} (hp : isAggPV p = true) (hq : isAggPV q = true) (h : aggBinP P op t p q = some r) (hx : R β L W p x) (hy : R β L W q y) (o1 o2 : Operand) :
  ∃ u, ((do eqGuard op t o1 o2 x y; binOp op t x y) : Sem Value).run P W = .ok u W /\ R β L W r u := by
 unfold aggBinP at h
 split at h
 ·cases h
 ·rename_i hg
  have ax : ∃ us, x = .agg us := by
   cases p <;> simp [isAggPV] at hp
   rw [R] at hx; obtain ⟨us, e, _⟩ := hx; exact ⟨_, e⟩
  have ay : ∃ us, y = .agg us := by
   cases q <;> simp [isAggPV] at hq
   rw [R] at hy; obtain ⟨us, e, _⟩ := hy; exact ⟨_, e⟩
  obtain ⟨us, rfl⟩ := ax
  obtain ⟨vs, rfl⟩ := ay
  have hguard := run_eqGuard_agg (P := P) W op t o1 o2 us vs (by simpa using hg)
  simp only [Sem.run_bind, hguard, Result.andThen_ok]
  cases op <;> simp only [reduceCtorEq] at h
  all_goals (cases he : eqP P 8 t p q with
   | none => rw [he] at h; cases h
   | some b =>
    rw [he] at h
    cases h
    have := eq_run' 8 10000 (by omega) t p q b _ _ he hx hy
    first
    | exact ⟨_, by rw [run_eql_struct, this]; rfl, by rw [R]⟩
    | exact ⟨_, by rw [run_neq_struct, this]; rfl, by rw [R]⟩)
end
def fieldAddrP (P : Program) (s : TypeId) (f : Nat) (p : PV) : Option PV :=
 match P.underlying s with
 | some (.struct fields) =>
  match fields[f]? with
  | some fd =>
   match szP P fd.type with
   | some (_ + 1) =>
    match p with
    | .ptr cs => some (.ptr (cs.drop fd.offset))
    | .ref i o => some (.ref i (o + fd.offset))
    | .rr i k j c => some (.rr i k j (c + fd.offset))
    | _ => none
   | _ => none
  | none => none
 | _ => none
def fieldP (P : Program) (s : TypeId) (f : Nat) (p : PV) : Option PV :=
 match P.underlying s, p with
 | some (.struct fields), .agg cs =>
  match fields[f]? with
  | some fd => partP P fd.type cs fd.offset
  | none => none
 | _, _ => none
def indexAddrP (P : Program) (t : TypeId) (p i : PV) : Option (Option Prop × PV) :=
 match P.underlying t, p, intP i with
 | some (.slice e), .sl k n el, some (_, j) =>
  if szP P e = some k then some (some (0 <= j /\ j < (n : Int)), .ptr (el j.toNat)) else none
 | some (.slice e), .os _ i k n, some (_, j) =>
  if szP P e = some k then some (some (0 <= j /\ j < (n : Int)), .rr i k j.toNat 0) else none
 | some (.array len e), .ptr cs, some (_, j) => (szP P e).map fun n => (some (0 <= j /\ j < (len : Int)), .ptr (cs.drop (j.toNat * n)))
 | some (.array len e), .ref i off, some (_, j) => (szP P e).map fun n => (some (0 <= j /\ j < (len : Int)), .ref i (off + j.toNat * n))
 | _, _, _ => none
def byteAt (s : ByteArray) (i : Int) : Int := ((s.data.toList.getD i.toNat 0).toNat : Int)
def indexP (P : Program) (t : TypeId) (p i : PV) : Option (Option Prop × PV) :=
 match P.underlying t, p, intP i with
 | some .string, .v (.string s), some (_, j) => some (some (0 <= j /\ j < (s.data.toList.length : Int)), .v (.int .u8 (byteAt s j)))
 | some (.array len e), .agg cs, some (_, j) =>
  match szP P e with
  | some n => (partP P e cs (j.toNat * n)).map fun r => (some (0 <= j /\ j < (len : Int)), r)
  | none => none
 | _, _, _ => none
def optInt (E : Env) : Option Operand -> Option (Option Int)
 | none => some none
 | some x => match intP (evA E x) with
  | some (_, n) => some (some n)
  | none => none
def sliceP (P : Program) (t : TypeId) (p : PV) (lo hi : Option Int) : Option (Option Prop × PV) :=
 match P.underlying t, p with
 | some .string, .v (.string s) =>
  let h := hi.getD s.data.toList.length
  let l := lo.getD 0
  some (some (0 <= l /\ l <= h /\ h <= (s.data.toList.length : Int)), .v (.string ⟨((s.data.toList.drop l.toNat).take (h.toNat - l.toNat)).toArray⟩))
 | some (.slice e), .sl k n el =>
  let h := hi.getD n
  let l := lo.getD 0
  if szP P e = some k then some (some (0 <= l /\ l <= h /\ h <= (n : Int)), .sl k (h.toNat - l.toNat) (fun j => el (l.toNat + j))) else none
 | some (.slice e), .os e' i k n =>
  match lo with
  | none => if szP P e = some k then some (some ((0 : Int) <= 0 /\ 0 <= hi.getD n /\ hi.getD n <= (n : Int)), .os e' i k (hi.getD n).toNat) else none
  | some _ => none
 | some (.array len e), .ptr cs =>
  match lo, hi, szP P e with
  | none, none, some k => if len * k <= cs.length /\ len <= 1000000 then some (none, .sl k len (fun j => (cs.drop (j * k)).take k)) else none
  | _, _, _ => none
 | _, _ => none
def lenP (P : Program) (t : TypeId) (p : PV) : Option PV :=
 match P.underlying t, p with
 | some .string, .v (.string s) => some (.v (.int .i64 s.data.toList.length))
 | some (.slice _), .sl _ n _ => some (.v (.int .i64 n))
 | some (.slice _), .os _ _ _ n => some (.v (.int .i64 n))
 | some (.slice _), .v (.slice _ n _) => some (.v (.int .i64 n))
 | some (.array n _), _ => some (.v (.int .i64 n))
 | _, _ => none
def rowP (P : Program) (σ : Sig) (t : TypeId) : PV -> Option (Option Prop × PV)
 | .rr i k j c =>
  match σ[i]? with
  | some [.rws k' n el] => if k' = k then (loadP P t ((el j).drop c)).map fun r => (some (j < n), r) else none
  | some [.rwf k' n _ jf cs] => if k' = k then (loadP P t (cs.drop c)).map fun r => (some (j < n /\ j = jf), r) else none
  | _ => none
 | _ => none
def convP (P : Program) (src dst : TypeId) (p : PV) : Option PV :=
 match P.underlying src, P.underlying dst, intP p with
 | some (.int _), some (.int k), some (_, n) => some (.v (.int k (k.wrap n)))
 | _, _, _ => none
def mmP (m : Bool) (p q : PV) : Option (Option Prop × PV) :=
 match intP p, intP q with
 | some (k, a), some (k', b) => if k = k' then some (none, .v (.int k (if m then (if b > a then b else a) else (if b < a then b else a)))) else none
 | _, _ => none
mutual
def valP : PV -> Option Value
 | .v x => some x
 | .sb c => some (.bool c)
 | .agg cs => (valsP cs).map fun l => .agg l.toArray
 | _ => none
def valsP : List PV -> Option (List Value)
 | [] => some []
 | p :: ps => match valP p, valsP ps with
  | some v, some l => some (v :: l)
  | _, _ => none
end
def unP : Value -> PV
 | .agg us => if us.toList.all (·.oneCell') then .agg (us.toList.map .v) else .v (.agg us)
 | x => .v x
def mkIfP (P : Program) (t : TypeId) (p : PV) : Option PV :=
 match P.underlying t with
 | some (.interface _) => none
 | some _ => (valP p).map fun x => .v (.iface t x)
 | none => none
def tyAsP (P : Program) (p : PV) (asserted : TypeId) : Option PV :=
 match P.underlying asserted, p with
 | some (.interface _), _ => none
 | some _, .v (.iface t x) => if t = asserted then some (.tup [unP x, .v (.bool true)]) else none
 | _, _ => none
def mkFnP (g : Nat) : List PV -> List PV -> Option PV
 | [], cs => some (.fn g cs)
 | [.ref i 0], [] => some (.bm g i)
 | _, _ => none
def opQ (P : Program) (E : Env) (σ : Sig) : Op -> Option (Option Prop × PV)
 | .move x => some (none, evA E x)
 | .assign x => some (none, evA E x)
 | .pick c a b =>
  match evA E c with
  | .v (.bool true) => some (none, evA E a)
  | .v (.bool false) => some (none, evA E b)
  | _ => none
 | .load t x =>
  match behindP σ (evA E x) with
  | some cs => (loadP P t cs).map fun r => (none, r)
  | none => rowP P σ t (evA E x)
 | .convert s d x => (convP P s d (evA E x)).map fun r => (none, r)
 | .nilCheck x => if isSomePtr (evA E x) then some (none, evA E x) else none
 | .binOp op t x y _ => if isAggPV (evA E x) && isAggPV (evA E y) then (aggBinP P op t (evA E x) (evA E y)).map fun r => (none, r) else binP P op t (evA E x) (evA E y)
 | .unOp .not _ x =>
  match evA E x with
  | .v (.bool b) => some (none, .v (.bool !b))
  | .sb c => some (none, .sb !c)
  | _ => none
 | .unOp .neg _ x => (intP (evA E x)).map fun (k, n) => (none, .v (.int k (k.wrap (0 - n))))
 | .fieldAddr s x f => (fieldAddrP P s f (evA E x)).map fun r => (none, r)
 | .field s x f => (fieldP P s f (evA E x)).map fun r => (none, r)
 | .indexAddr t x i => indexAddrP P t (evA E x) (evA E i)
 | .index t x i => indexP P t (evA E x) (evA E i)
 | .extract t i =>
  match evA E t with
  | .tup cs => (cs[i]?).map fun r => (none, r)
  | _ => none
 | .makeFunc (.func g) first caps => (mkFnP g (first.toList.map (evA E)) (caps.toList.map (evA E))).map fun p => (none, p)
 | .slice t x lo hi none =>
  match optInt E lo, optInt E hi with
  | some l, some h => sliceP P t (evA E x) l h
  | _, _ => none
 | .build t parts => (buildP P t (parts.toList.map fun q => (q.1, evA E q.2))).map fun r => (none, r)
 | .makeInterface t x => (mkIfP P t (evA E x)).map fun r => (none, r)
 | .typeAssert x _ t true => (tyAsP P (evA E x) t).map fun r => (none, r)
 | .call { callee := .builtin .len, args, argTypes } =>
  match args.toList, argTypes.toList with
  | [x], [t] => (lenP P t (evA E x)).map fun r => (none, r)
  | _, _ => none
 | .call { callee := .builtin .max, args, argTypes := _ } =>
  match args.toList with
  | [x, y] => mmP true (evA E x) (evA E y)
  | _ => none
 | .call { callee := .builtin .min, args, argTypes := _ } =>
  match args.toList with
  | [x, y] => mmP false (evA E x) (evA E y)
  | _ => none
 | _ => none
theorem add_addr (b off n : Nat) : (⟨b, off, none⟩ : Addr).add n = ⟨b, off + n, none⟩ := by unfold Addr.add; split <;> simp_all
section
variable {P : Program} {β : List (Option Nat)} {L : List Nat} {W : World} {σ : Sig}
theorem fieldAddr_run {s : TypeId} {f : Nat} {p r : PV} {u : Value} (h : fieldAddrP P s f p = some r) (hr : R β L W p u) : ∃ x, (Instr.fieldAt s u f).run P W = .ok x W /\ R β L W r x := by
 unfold fieldAddrP at h
 split at h
 ·rename_i fields hu
  split at h
  ·rename_i fd hf
   split at h
   ·rename_i m hm
    have key : ∀ b off, u = .pointer (some ⟨b, off, none⟩) -> (Instr.fieldAt s u f).run P W = .ok (.pointer (some ⟨b, off + fd.offset, none⟩)) W := fun b off e => by
     subst e
     unfold Instr.fieldAt
     simp only [Sem.run_bind, underlying_run hu, Result.andThen_ok, hf, Instr.sureAddr, Sem.run_pure]
     simp only [fieldPlace, Sem.run_bind, sizeOf_run' hm, Result.andThen_ok, Nat.succ_ne_zero, if_false, Sem.run_pure, add_addr]
    split at h
    ·rw [R] at hr
     cases h
     obtain ⟨b, off, us, e, hb, hlt, h1, h2, h3⟩ := hr
     refine ⟨_, key b off e, ?_⟩
     rw [R]
     exact ⟨b, off + fd.offset, us.drop fd.offset, rfl, hb, hlt, fun x hx => h1 x (List.mem_of_mem_drop hx), h2.drop _, fun i x hx => by
      rw [List.getElem?_drop] at hx
      have := h3 _ x hx
      rwa [<- Nat.add_assoc] at this⟩
    ·rw [R] at hr
     cases h
     obtain ⟨g, hg, e⟩ := hr
     exact ⟨_, key g _ e, by rw [R]; exact ⟨g, hg, rfl⟩⟩
    ·rw [R] at hr
     cases h
     obtain ⟨g, hg, e⟩ := hr
     exact ⟨_, key g _ e, by rw [R]; exact ⟨g, hg, by rw [Nat.add_assoc]⟩⟩
    ·cases h
   ·cases h
  ·cases h
 ·cases h
theorem field_run {s : TypeId} {f : Nat} {p r : PV} {u : Value} (h : fieldP P s f p = some r) (hr : R β L W p u) : ∃ x, (Instr.field s u f).run P W = .ok x W /\ R β L W r x := by
 unfold fieldP at h
 split at h
 ·rename_i fields cs hu
  split at h
  ·rename_i fd hf
   rw [R] at hr
   obtain ⟨us, rfl, h1, h2⟩ := hr
   obtain ⟨x, hx, hr'⟩ := part_run h h1 h2
   refine ⟨x, ?_, hr'⟩
   unfold Instr.field
   simp only [Sem.run_bind, underlying_run hu, Result.andThen_ok, hf, asAgg, Sem.run_pure, hx]
  ·cases h
 ·cases h
theorem asIntOf_run (k : IntKind) (n : Int) (W : World) : (asIntOf (.int k n)).run P W = .ok (k, n) W := rfl
theorem indexAddr_run {t : TypeId} {p i r : PV} {u x : Value} {pre : Option Prop} (h : indexAddrP P t p i = some (pre, r)) (hp : Pre pre) (hr : R β L W p u) (hi : R β L W i x) : ∃ y, (Instr.indexAt t u x).run P W = .ok y W /\ R β L W r y := by
 unfold indexAddrP at h
 split at h
 ·rename_i e k n el q j hu hj
  split at h
  ·rename_i hs
   simp only [Option.some.injEq, Prod.mk.injEq] at h
   obtain ⟨rfl, rfl⟩ := h
   simp only [Pre] at hp
   rw [intP_R hj hi]
   rw [R] at hr
   obtain ⟨a, c, rfl, h1, h2, h3⟩ := hr
   obtain ⟨b, off, rfl, hb, hlt, h4⟩ := h3 (by omega)
   obtain ⟨us, q1, q2, q3, q4⟩ := h4 j.toNat (by omega)
   refine ⟨.pointer (some ⟨b, off + j.toNat * k, none⟩), ?_, ?_⟩
   ·unfold Instr.indexAt
    simp only [Sem.run_bind, asIntOf_run, Result.andThen_ok, underlying_run hu, Sem.run_pure]
    rw [if_pos hp]
    simp only [Sem.run_bind, sizeOf_run' hs, Result.andThen_ok, Sem.run_pure, add_addr]
   ·rw [R]; exact ⟨b, _, us, rfl, hb, hlt, q2, q3, q4⟩
  ·cases h
 ·rename_i e e' i' k n q j hu hj
  split at h
  ·rename_i hs
   simp only [Option.some.injEq, Prod.mk.injEq] at h
   obtain ⟨rfl, rfl⟩ := h
   simp only [Pre] at hp
   rw [intP_R hj hi]
   rw [R] at hr
   obtain ⟨g, c, hg, rfl, h1, h2, h3⟩ := hr.resolve_right (fun h => by omega)
   refine ⟨.pointer (some ⟨g, j.toNat * k, none⟩), ?_, ?_⟩
   ·unfold Instr.indexAt
    simp only [Sem.run_bind, asIntOf_run, Result.andThen_ok, underlying_run hu, Sem.run_pure]
    rw [if_pos hp]
    simp only [Sem.run_bind, sizeOf_run' hs, Result.andThen_ok, Sem.run_pure, add_addr, Nat.zero_add]
   ·rw [R]; exact ⟨g, hg, rfl⟩
  ·cases h
 ·rename_i len e cs q j hu hj
  cases hs : szP P e with
  | none => rw [hs] at h; cases h
  | some n =>
   rw [hs] at h
   simp only [Option.map_some, Option.some.injEq, Prod.mk.injEq] at h
   obtain ⟨rfl, rfl⟩ := h
   simp only [Pre] at hp
   rw [intP_R hj hi]
   rw [R] at hr
   obtain ⟨b, off, us, rfl, h1, h2, h3, h4, h5⟩ := hr
   refine ⟨.pointer (some ⟨b, off + j.toNat * n, none⟩), ?_, ?_⟩
   ·unfold Instr.indexAt
    simp only [Sem.run_bind, asIntOf_run, Result.andThen_ok, underlying_run hu, Sem.run_pure, Instr.sureAddr]
    rw [if_pos hp]
    simp only [Sem.run_bind, sizeOf_run' hs, Result.andThen_ok, Sem.run_pure, add_addr]
   ·rw [R]
    refine ⟨b, _, us.drop (j.toNat * n), rfl, h1, h2, fun x hx => h3 x (List.mem_of_mem_drop hx), h4.drop _, fun i x hx => ?_⟩
    rw [List.getElem?_drop] at hx
    have := h5 _ x hx
    rwa [<- Nat.add_assoc] at this
 ·rename_i len e i' off q j hu hj
  cases hs : szP P e with
  | none => rw [hs] at h; cases h
  | some n =>
   rw [hs] at h
   simp only [Option.map_some, Option.some.injEq, Prod.mk.injEq] at h
   obtain ⟨rfl, rfl⟩ := h
   simp only [Pre] at hp
   rw [intP_R hj hi]
   rw [R] at hr
   obtain ⟨g, hg, rfl⟩ := hr
   refine ⟨.pointer (some ⟨g, off + j.toNat * n, none⟩), ?_, ?_⟩
   ·unfold Instr.indexAt
    simp only [Sem.run_bind, asIntOf_run, Result.andThen_ok, underlying_run hu, Sem.run_pure, Instr.sureAddr]
    rw [if_pos hp]
    simp only [Sem.run_bind, sizeOf_run' hs, Result.andThen_ok, Sem.run_pure, add_addr]
   ·rw [R]; exact ⟨g, hg, rfl⟩
 ·cases h
theorem byte_at {s : ByteArray} {j : Int} (h : 0 <= j /\ j < (s.data.toList.length : Int)) : ∃ b : UInt8, s[j.toNat]? = some b /\ (b.toNat : Int) = byteAt s j := by
 have hlt : j.toNat < s.size := by rw [bytes_size]; omega
 refine ⟨s[j.toNat], getElem?_pos s j.toNat hlt, ?_⟩
 unfold byteAt
 have : s.data.toList.getD j.toNat 0 = s[j.toNat] := by
  rw [List.getD_eq_getElem?_getD, List.getElem?_eq_getElem (by simpa using hlt)]; rfl
 rw [this]
theorem index_run {t : TypeId} {p i r : PV} {u x : Value} {pre : Option Prop} (h : indexP P t p i = some (pre, r)) (hp : Pre pre) (hr : R β L W p u) (hi : R β L W i x) : ∃ y, (Instr.index t u x).run P W = .ok y W /\ R β L W r y := by
 unfold indexP at h
 split at h
 ·rename_i s q j hu hj
  simp only [Option.some.injEq, Prod.mk.injEq] at h
  obtain ⟨rfl, rfl⟩ := h
  simp only [Pre] at hp
  rw [intP_R hj hi]
  rw [R] at hr; subst hr
  obtain ⟨b, hb, hbe⟩ := byte_at hp
  refine ⟨.int .u8 b.toNat, ?_, by rw [R, hbe]⟩
  unfold Instr.index
  simp only [Sem.run_bind, asIntOf_run, Result.andThen_ok, underlying_run hu]
  rw [if_pos hp.1, hb]; rfl
 ·rename_i len e cs q j hu hj
  split at h
  ·rename_i n hn
   cases hq : partP P e cs (j.toNat * n) with
   | none => rw [hq] at h; cases h
   | some r' =>
    rw [hq] at h
    simp only [Option.map_some, Option.some.injEq, Prod.mk.injEq] at h
    obtain ⟨rfl, rfl⟩ := h
    simp only [Pre] at hp
    rw [intP_R hj hi]
    rw [R] at hr
    obtain ⟨us, rfl, h1, h2⟩ := hr
    obtain ⟨y, hy, hr'⟩ := part_run hq h1 h2
    refine ⟨y, ?_, hr'⟩
    unfold Instr.index
    simp only [Sem.run_bind, asIntOf_run, Result.andThen_ok, underlying_run hu]
    rw [if_pos hp]
    simp only [Sem.run_bind, sizeOf_run' hn, Result.andThen_ok, hy]
  ·cases h
 ·cases h
theorem bound_run {k : IntKind} {i : Int} {y : Nat} {code : BoundsCode} (h : 0 <= i /\ i <= (y : Int)) (W : World) : (Instr.sliceBound (.int k i) y code).run P W = .ok i.toNat W := by
 unfold Instr.sliceBound
 simp only [Sem.run_bind, asIntOf_run, Result.andThen_ok]
 rw [if_pos h]; rfl
def OptV (v : Option Value) : Option Int -> Prop
 | none => v = none
 | some n => ∃ k, v = some (.int k n)
theorem optInt_R {N : Nat} {E : Env} {a : Act} (hE : Ev β L W N E a) {x : Option Operand} {l : Option Int} (h : optInt E x = some l) : OptV (x.map a.eval) l := by
 cases x with
 | none => simp [optInt] at h; subst h; rfl
 | some y =>
  unfold optInt at h
  split at h
  ·rename_i hx; cases hx
  ·rename_i y' hy'
   cases hy'
   split at h
   ·rename_i k n hn
    cases h
    exact ⟨k, by rw [Option.map_some, intP_R hn (evA_R hE y)]⟩
   ·cases h
theorem bounds_run {isS : Bool} {len cap : Nat} {lo hi : Option Value} {l h : Option Int} (hlo : OptV lo l) (hhi : OptV hi h) (hc : len <= cap)
  (hp : 0 <= l.getD 0 /\ l.getD 0 <= h.getD len /\ h.getD len <= (len : Int)) (W : World) :
  (Instr.sliceBounds isS len cap lo hi none).run P W = .ok ((l.getD 0).toNat, (h.getD len).toNat, cap) W := by
 cases l with
 | none =>
  have e1 : lo = none := hlo
  subst e1
  cases h with
  | none =>
   have e2 : hi = none := hhi
   subst e2
   simp [Instr.sliceBounds, Sem.run_bind, Sem.run_pure]
  | some n =>
   obtain ⟨k, rfl⟩ := hhi
   simp only [Option.getD_some, Option.getD_none] at hp
   simp [Instr.sliceBounds, Sem.run_bind, Sem.run_pure, bound_run (P := P) (y := cap) (show 0 <= n /\ n <= (cap : Int) by omega)]
 | some m =>
  obtain ⟨k, rfl⟩ := hlo
  cases h with
  | none =>
   have e2 : hi = none := hhi
   subst e2
   simp only [Option.getD_some, Option.getD_none] at hp
   simp [Instr.sliceBounds, Sem.run_bind, Sem.run_pure, bound_run (P := P) (y := len) (show 0 <= m /\ m <= (len : Int) by omega)]
  | some n =>
   obtain ⟨k', rfl⟩ := hhi
   simp only [Option.getD_some] at hp
   simp [Instr.sliceBounds, Sem.run_bind, Sem.run_pure, bound_run (P := P) (y := cap) (show 0 <= n /\ n <= (cap : Int) by omega), bound_run (P := P) (y := n.toNat) (show 0 <= m /\ m <= (n.toNat : Int) by omega)]
theorem slice_run {t : TypeId} {p r : PV} {u : Value} {lo hi : Option Value} {l h : Option Int} {pre : Option Prop} (hs : sliceP P t p l h = some (pre, r)) (hp : Pre pre) (hr : R β L W p u) (hlo : OptV lo l) (hhi : OptV hi h) :
  ∃ y, (Instr.sliceAt t u lo hi none).run P W = .ok y W /\ R β L W r y := by
 unfold sliceP at hs
 split at hs
 ·rename_i s hu
  simp only [Option.some.injEq, Prod.mk.injEq] at hs
  obtain ⟨rfl, rfl⟩ := hs
  simp only [Pre] at hp
  rw [R] at hr; subst hr
  rw [<- bytes_size] at hp ⊢
  have hex : (⟨((s.data.toList.drop (l.getD 0).toNat).take ((h.getD s.size).toNat - (l.getD 0).toNat)).toArray⟩ : ByteArray) = s.extract (l.getD 0).toNat (h.getD s.size).toNat := by
   apply ByteArray.ext
   apply Array.ext'
   simp [ByteArray.data_extract, Array.toList_extract, List.extract_eq_take_drop]
  refine ⟨_, ?_, by rw [R, hex]⟩
  unfold Instr.sliceAt
  simp only [Sem.run_bind, underlying_run hu, Result.andThen_ok]
  unfold Instr.slice
  simp only [Sem.run_bind, underlying_run hu, Result.andThen_ok, Option.isSome_none, Bool.false_eq_true, if_false, Sem.run_pure, bounds_run hlo hhi (Nat.le_refl _) hp W]
 ·rename_i e k n el hu
  split at hs
  ·rename_i hsz
   simp only [Option.some.injEq, Prod.mk.injEq] at hs
   obtain ⟨rfl, rfl⟩ := hs
   simp only [Pre] at hp
   rw [R] at hr
   obtain ⟨a, c, rfl, h1, h2, h3⟩ := hr
   have hbr := bounds_run (P := P) (isS := true) hlo hhi h1 hp W
   generalize l.getD 0 = lv at hp hbr ⊢
   generalize h.getD (n : Int) = hv at hp hbr ⊢
   clear hlo hhi
   refine ⟨.slice (if c = lv.toNat then a else a.map (·.add (lv.toNat * k))) (hv.toNat - lv.toNat) (c - lv.toNat), ?_, ?_⟩
   ·unfold Instr.sliceAt
    simp only [Sem.run_bind, underlying_run hu, Result.andThen_ok]
    unfold Instr.slice
    simp only [Sem.run_bind, underlying_run hu, Result.andThen_ok, hbr, sizeOf_run' hsz, Sem.run_pure]
   ·rw [R]
    refine ⟨_, _, rfl, by omega, by omega, fun hn => ?_⟩
    have c1 : ¬ c = lv.toNat := by clear h3; omega
    have c2 : ∀ j, j < hv.toNat - lv.toNat -> lv.toNat + j < n := by clear h3; intro j hj; omega
    have c3 : 0 < n := by clear h3; omega
    obtain ⟨b, off, rfl, hb, hlt, h4⟩ := h3 c3
    rw [if_neg c1]
    refine ⟨b, off + lv.toNat * k, by simp [add_addr], hb, hlt, fun j hj => ?_⟩
    obtain ⟨us, q1, q2, q3, q4⟩ := h4 (lv.toNat + j) (c2 j hj)
    exact ⟨us, q1, q2, q3, fun i x hx => by
     have := q4 i x hx
     rwa [Nat.add_mul, <- Nat.add_assoc] at this⟩
  ·cases hs
 ·rename_i e e' i k n hu
  split at hs
  ·split at hs
   ·rename_i hsz
    simp only [Option.some.injEq, Prod.mk.injEq] at hs
    obtain ⟨rfl, rfl⟩ := hs
    simp only [Pre] at hp
    rw [R] at hr
    rcases hr with ⟨g, c, hb, rfl, h1, h2, h3⟩ | ⟨hb, rfl, ad0, rfl⟩
    ·have hbr := bounds_run (P := P) (isS := true) hlo hhi h1 hp W
     simp only [Option.getD_none] at hbr
     generalize h.getD (n : Int) = hv at hp hbr ⊢
     clear hlo hhi
     refine ⟨.slice (some ⟨g, 0, none⟩) (hv.toNat) c, ?_, ?_⟩
     ·unfold Instr.sliceAt
      simp only [Sem.run_bind, underlying_run hu, Result.andThen_ok]
      unfold Instr.slice
      simp only [Sem.run_bind, underlying_run hu, Result.andThen_ok, hbr, sizeOf_run' hsz, Sem.run_pure]
      simp [add_addr]
     ·rw [R]
      exact .inl ⟨g, c, hb, rfl, by omega, h2, h3⟩
    ·have hbr := bounds_run (P := P) (isS := true) hlo hhi (Nat.le_refl 0) hp W
     simp only [Option.getD_none] at hbr
     generalize h.getD ((0 : Nat) : Int) = hv at hp hbr ⊢
     clear hlo hhi
     have hz : hv.toNat = 0 := by omega
     refine ⟨.slice (ad0.map fun a => if (0 : Nat) = 0 then a else a.add (0 * k)) hv.toNat 0, ?_, ?_⟩
     ·unfold Instr.sliceAt
      simp only [Sem.run_bind, underlying_run hu, Result.andThen_ok]
      unfold Instr.slice
      simp only [Sem.run_bind, underlying_run hu, Result.andThen_ok, hbr, sizeOf_run' hsz, Sem.run_pure]
      cases ad0 <;> simp
     ·rw [hz, R]
      exact .inr ⟨hb, rfl, _, rfl⟩
   ·cases hs
  ·cases hs
 ·rename_i len e cs hu
  split at hs
  ·rename_i k hsz
   split at hs
   ·rename_i hle
    simp only [Option.some.injEq, Prod.mk.injEq] at hs
    obtain ⟨rfl, rfl⟩ := hs
    rw [R] at hr
    obtain ⟨b, off, us, rfl, h1, h2, h3, h4, h5⟩ := hr
    have hbr := bounds_run (P := P) (isS := false) hlo hhi (Nat.le_refl len) (by simp) W
    simp only [Option.getD_none, Int.toNat_natCast, Int.toNat_zero] at hbr
    clear hlo hhi
    have hul : us.length = cs.length := h4.length
    refine ⟨.slice (some ⟨b, off, none⟩) len len, ?_, ?_⟩
    ·unfold Instr.sliceAt
     simp only [Sem.run_bind, underlying_run hu, Result.andThen_ok, Instr.sureAddr, Sem.run_pure, sizeOf_run' hsz]
     rw [hbr]
     simp [add_addr, Sem.run_pure, Sem.run_bind, Result.andThen]
    ·rw [R]
     refine ⟨_, len, rfl, Nat.le_refl _, by omega, fun _ => ⟨b, off, rfl, h1, h2, fun j hj => ⟨(us.drop (j * k)).take k, ?_, fun x hx => h3 x (List.mem_of_mem_drop (List.mem_of_mem_take hx)), (h4.drop _).take _, fun i x hx => ?_⟩⟩⟩
     ·have : j * k + k <= len * k := by rw [<- Nat.succ_mul]; exact Nat.mul_le_mul_right k hj
      rw [List.length_take, List.length_drop]; omega
     ·rw [List.getElem?_take] at hx
      split at hx
      ·rw [List.getElem?_drop] at hx
       have := h5 _ x hx
       rwa [<- Nat.add_assoc] at this
      ·cases hx
   ·cases hs
  ·cases hs
 ·cases hs
theorem len_run {t ty : TypeId} {p r : PV} {u : Value} (h : lenP P t p = some r) (hr : R β L W p u) : ∃ y, (Builtin.len_ #[t] ty #[u]).run P W = .ok y W /\ R β L W r y := by
 unfold lenP at h
 split at h
 ·rename_i s hu
  cases h
  rw [R] at hr; subst hr
  refine ⟨_, ?_, by rw [R, <- bytes_size]⟩
  unfold Builtin.len_
  simp [underlying_run hu, goInt, Sem.run_bind]
 ·rename_i e k n el hu
  cases h
  rw [R] at hr
  obtain ⟨a, c, rfl, _⟩ := hr
  refine ⟨_, ?_, by rw [R]⟩
  unfold Builtin.len_
  simp [underlying_run hu, goInt, Sem.run_bind]
 ·rename_i e e' i' k n hu
  cases h
  rw [R] at hr
  rcases hr with ⟨g, c, _, rfl, _⟩ | ⟨_, rfl, _, rfl⟩
  ·refine ⟨_, ?_, by rw [R]⟩
   unfold Builtin.len_
   simp [underlying_run hu, goInt, Sem.run_bind]
  ·refine ⟨_, ?_, by rw [R]⟩
   unfold Builtin.len_
   simp [underlying_run hu, goInt, Sem.run_bind]
 ·rename_i e a n c hu
  cases h
  rw [R] at hr; subst hr
  refine ⟨_, ?_, by rw [R]⟩
  unfold Builtin.len_
  simp [underlying_run hu, goInt, Sem.run_bind]
 ·rename_i q n e hu
  cases h
  refine ⟨.int .i64 n, ?_, by rw [R]⟩
  unfold Builtin.len_
  simp [underlying_run hu, goInt, Sem.run_bind]
 ·cases h
theorem parts_get {E : Env} {N : Nat} {a : Act} (hE : Ev β L W N E a) : ∀ (parts : List (Nat × Operand)) (j i : Nat) (p : PV) (i' : Nat) (u : Value),
  (parts.map fun q => (q.1, evA E q.2))[j]? = some (i, p) -> (parts.map fun q => (q.1, a.eval q.2))[j]? = some (i', u) -> R β L W p u := by
 intro parts j i p i' u h1 h2
 rw [List.getElem?_map] at h1 h2
 cases hq : parts[j]? with
 | none => rw [hq] at h1; cases h1
 | some q =>
  rw [hq] at h1 h2
  simp at h1 h2
  obtain ⟨_, rfl⟩ := h1
  obtain ⟨_, rfl⟩ := h2
  exact evA_R hE q.2
theorem evAs_R {E : Env} {N : Nat} {a : Act} (hE : Ev β L W N E a) : ∀ (l : List Operand), Rs β L W (l.map (evA E)) (l.map a.eval)
 | [] => Rs.nil
 | x :: l => Rs.cons (evA_R hE x) (evAs_R hE l)
theorem row_run {t : TypeId} {p r : PV} {u : Value} {pre : Option Prop} (hB : Bx β L W σ) (h : rowP P σ t p = some (pre, r)) (hp : Pre pre) (hr : R β L W p u) : ∃ x, (Instr.loadAt t u).run P W = .ok x W /\ R β L W r x := by
 unfold rowP at h
 split at h
 ·rename_i i k j c
  split at h
  ·rename_i k' n el hs
   split at h
   ·rename_i hk
    subst hk
    cases hl : loadP P t ((el j).drop c) with
    | none => rw [hl] at h; cases h
    | some q =>
     rw [hl] at h
     cases h
     simp only [Pre] at hp
     rw [R] at hr
     obtain ⟨g, hg, e1⟩ := hr
     have hh := hB.hold hs hg
     cases hh with
     | cells _ t us hh h1 h2 => obtain ⟨u, us', rfl, hu, _⟩ := h2.uncons; rw [R] at hu; exact hu.elim
     | rws _ _ _ t us hh h1 hl' h2 =>
      have hj := h2 j hp
      obtain ⟨x, hx, hr⟩ := load_run (b := g) (off := j * k' + c) hl (us := ((us.drop (j * k')).take k').drop c) (fun x hx => h1 x (List.mem_of_mem_drop (List.mem_of_mem_take (List.mem_of_mem_drop hx)))) (hj.drop c) (fun i x hx => by
       rw [List.getElem?_drop, List.getElem?_take] at hx
       split at hx
       ·rw [List.getElem?_drop] at hx
        simp only [World.cell?, hh]
        rw [show j * k' + c + i = j * k' + (c + i) by omega]
        simpa using hx
       ·cases hx)
      exact ⟨x, by simp only [Instr.loadAt, e1, Instr.sureAddr, Sem.run_bind, Sem.run_pure, Result.andThen_ok, hx], hr⟩
   ·cases h
  ·rename_i k' n el jf cs hs
   split at h
   ·rename_i hk
    subst hk
    cases hl : loadP P t (cs.drop c) with
    | none => rw [hl] at h; cases h
    | some q =>
     rw [hl] at h
     cases h
     simp only [Pre] at hp
     rw [R] at hr
     obtain ⟨g, hg, e1⟩ := hr
     have hh := hB.hold hs hg
     cases hh with
     | cells _ t us hh h1 h2 => obtain ⟨u, us', rfl, hu, _⟩ := h2.uncons; rw [R] at hu; exact hu.elim
     | rwf _ _ _ _ _ t us hh h1 hl' h2 =>
      have hj := h2 j hp.1
      rw [if_pos hp.2] at hj
      obtain ⟨x, hx, hr⟩ := load_run (b := g) (off := j * k' + c) hl (us := ((us.drop (j * k')).take k').drop c) (fun x hx => h1 x (List.mem_of_mem_drop (List.mem_of_mem_take (List.mem_of_mem_drop hx)))) (hj.drop c) (fun i x hx => by
       rw [List.getElem?_drop, List.getElem?_take] at hx
       split at hx
       ·rw [List.getElem?_drop] at hx
        simp only [World.cell?, hh]
        rw [show j * k' + c + i = j * k' + (c + i) by omega]
        simpa using hx
       ·cases hx)
      exact ⟨x, by simp only [Instr.loadAt, e1, Instr.sureAddr, Sem.run_bind, Sem.run_pure, Result.andThen_ok, hx], hr⟩
   ·cases h
  ·cases h
 ·cases h
mutual
theorem valP_R : ∀ {p : PV} {x u : Value}, valP p = some x -> R β L W p u -> u = x
 | .v y, x, u, h, hr => by simp only [valP, Option.some.injEq] at h; rw [R] at hr; rw [hr, h]
 | .sb c, x, u, h, hr => by simp only [valP, Option.some.injEq] at h; rw [R] at hr; rw [hr, h]
 | .agg cs, x, u, h, hr => by
  simp only [valP] at h
  cases hl : valsP cs with
  | none => rw [hl] at h; cases h
  | some l =>
   rw [hl] at h
   cases h
   rw [R] at hr
   obtain ⟨us, rfl, _, h2⟩ := hr
   rw [valsP_R hl h2]
 | .any, _, _, h, _ => by simp [valP] at h
 | .tup _, _, _, h, _ => by simp [valP] at h
 | .sl _ _ _, _, _, h, _ => by simp [valP] at h
 | .ptr _, _, _, h, _ => by simp [valP] at h
 | .ref _ _, _, _, h, _ => by simp [valP] at h
 | .fn _ _, _, _, h, _ => by simp [valP] at h
 | .abs _, _, _, h, _ => by simp [valP] at h
 | .o _, _, _, h, _ => by simp [valP] at h
 | .os _ _ _ _, _, _, h, _ => by simp [valP] at h
 | .rr _ _ _ _, _, _, h, _ => by simp [valP] at h
 | .mr _, _, _, h, _ => by simp [valP] at h
 | .bm _ _, _, _, h, _ => by simp [valP] at h
 | .fm _ _, _, _, h, _ => by simp [valP] at h
 | .mp _ _, _, _, h, _ => by simp [valP] at h
 | .rws _ _ _, _, _, h, _ => by simp [valP] at h
 | .mps _ _, _, _, h, _ => by simp [valP] at h
 | .rwf _ _ _ _ _, _, _, h, _ => by simp [valP] at h
 | .dd, _, _, h, _ => by simp [valP] at h
theorem valsP_R : ∀ {ps : List PV} {xs us : List Value}, valsP ps = some xs -> Rs β L W ps us -> us = xs
 | [], xs, us, h, hr => by simp only [valsP, Option.some.injEq] at h; rw [Rs] at hr; rw [hr, <- h]
 | p :: ps, xs, us, h, hr => by
  simp only [valsP] at h
  obtain ⟨u, us', rfl, h1, h2⟩ := hr.uncons
  cases hp : valP p with
  | none => rw [hp] at h; cases h
  | some v =>
   cases hl : valsP ps with
   | none => rw [hp, hl] at h; cases h
   | some l =>
    rw [hp, hl] at h
    cases h
    rw [valP_R hp h1, valsP_R hl h2]
end
theorem unP_R (x : Value) : R β L W (unP x) x := by
 unfold unP
 split
 ·rename_i us
  split
  ·rename_i h
   rw [R]
   refine ⟨us.toList, by simp, fun y hy => List.all_eq_true.1 h y hy, ?_⟩
   generalize us.toList = l
   induction l with
   | nil => exact Rs.nil
   | cons y l ih => exact Rs.cons (by rw [R]) ih
  ·rw [R]
 ·rw [R]
theorem mkIf_run {t : TypeId} {p r : PV} {u : Value} (h : mkIfP P t p = some r) (hr : R β L W p u) : ∃ y, (Instr.makeInterface t u).run P W = .ok y W /\ R β L W r y := by
 unfold mkIfP at h
 split at h
 ·cases h
 ·rename_i d hu hno
  cases hv : valP p with
  | none => rw [hv] at h; cases h
  | some x =>
   rw [hv] at h
   cases h
   have := valP_R hv hr
   subst this
   refine ⟨.iface t u, ?_, by rw [R]⟩
   unfold Instr.makeInterface
   simp only [Sem.run_bind, underlying_run hno, Result.andThen_ok]
   cases d <;> first | rfl | exact (hu _ rfl).elim
 ·cases h
theorem tyAs_run {t xt : TypeId} {p r : PV} {u : Value} (h : tyAsP P p t = some r) (hr : R β L W p u) : ∃ y, (Instr.typeAssert u xt t true).run P W = .ok y W /\ R β L W r y := by
 unfold tyAsP at h
 split at h
 ·cases h
 ·rename_i d t' x hu hno
  split at h
  ·rename_i e
   subst e
   cases h
   rw [R] at hr
   subst hr
   refine ⟨.tuple #[x, .bool true], ?_, ?_⟩
   ·unfold Instr.typeAssert
    simp only [Sem.run_bind, underlying_run hno, Result.andThen_ok]
    cases d <;> first | (simp [Sem.run_pure]; done) | exact (hu _ rfl).elim
   ·rw [R]; exact ⟨[x, .bool true], rfl, Rs.cons (unP_R x) (Rs.cons (by rw [R]) Rs.nil)⟩
  ·cases h
 ·cases h
theorem opQ_run {N : Nat} {E : Env} {a : Act} {o : Oper} {pre : Option Prop} {p : PV} (hE : Ev β L W N E a) (hB : Bx β L W σ) (h : opQ P E σ o.op = some (pre, p)) (hp : Pre pre) :
  ∃ u, (execOp a.eval o).run P W = .ok (.value u) W /\ R β L W p u := by
 have key : ∀ (s : Sem Value) (u : Value), s.run P W = .ok u W -> ((do pure (.value (<- s))) : Sem Next).run P W = .ok (.value u) W := fun s u hs => by
  simp only [Sem.run_bind, hs, Result.andThen_ok, Sem.run_pure]
 unfold opQ at h
 unfold execOp
 split at h
 ·rename_i x e; rw [e]; cases h; exact ⟨_, rfl, evA_R hE x⟩
 ·rename_i x e; rw [e]; cases h; exact ⟨_, rfl, evA_R hE x⟩
 ·rename_i c x y e
  rw [e]
  split at h
  ·rename_i hc
   cases h
   have := evA_R hE c
   rw [hc, R] at this
   exact ⟨a.eval x, by simp only [this, asBool, Sem.run_bind, Sem.run_pure, Result.andThen_ok, if_true], evA_R hE x⟩
  ·rename_i hc
   cases h
   have := evA_R hE c
   rw [hc, R] at this
   exact ⟨a.eval y, by simp only [this, asBool, Sem.run_bind, Sem.run_pure, Result.andThen_ok, Bool.false_eq_true, if_false], evA_R hE y⟩
  ·cases h
 ·rename_i t x e
  rw [e]
  cases hb : behindP σ (evA E x) with
  | none =>
   rw [hb] at h
   simp only at h
   obtain ⟨u, hu, hr⟩ := row_run hB h hp (evA_R hE x)
   exact ⟨u, key _ _ hu, hr⟩
  | some cs =>
   rw [hb] at h
   simp only at h
   cases hl : loadP P t cs with
   | none => simp [hl] at h
   | some q =>
    simp [hl] at h
    obtain ⟨_, rfl⟩ := h
    obtain ⟨b, off, us, e1, h1, h2, h3⟩ := behind_R hB hb (evA_R hE x)
    obtain ⟨u, hu, hr⟩ := load_run hl h1 h2 h3
    exact ⟨u, key _ _ (by simp only [Instr.loadAt, e1, Instr.sureAddr, Sem.run_bind, Sem.run_pure, Result.andThen_ok, hu]), hr⟩
 ·rename_i s d x e
  rw [e]
  cases hf : convP P s d (evA E x) with
  | none => rw [hf] at h; cases h
  | some r =>
   rw [hf] at h; cases h
   unfold convP at hf
   split at hf
   ·rename_i q k q' n h1 h2 h3
    cases hf
    refine ⟨_, key _ _ ?_, by rw [R]⟩
    rw [intP_R h3 (evA_R hE x)]
    unfold convert
    simp only [Sem.run_bind, underlying_run h1, underlying_run h2, Result.andThen_ok, Conv.intToInt, Sem.run_pure]
   ·cases hf
 ·rename_i x e
  rw [e]
  split at h
  ·rename_i hc
   cases h
   obtain ⟨ad, ha⟩ := isSome_R hc (evA_R hE x)
   exact ⟨a.eval x, by simp only [ha, Sem.run_pure], evA_R hE x⟩
  ·cases h
 ·rename_i op t x y yt e
  rw [e]
  split at h
  ·rename_i hc
   simp only [Bool.and_eq_true] at hc
   cases hf : aggBinP P op t (evA E x) (evA E y) with
   | none => rw [hf] at h; cases h
   | some r =>
    rw [hf] at h; cases h
    obtain ⟨u, hu, hr⟩ := aggBin_run hc.1 hc.2 hf (evA_R hE x) (evA_R hE y) x y
    exact ⟨u, key _ _ hu, hr⟩
  ·obtain ⟨u, hu, hr⟩ := bin_run h hp (evA_R hE x) (evA_R hE y) x y
   exact ⟨u, key _ _ hu, hr⟩
 ·rename_i t x e
  rw [e]
  split at h
  ·rename_i b hb
   cases h
   have := evA_R hE x
   rw [hb, R] at this
   exact ⟨_, key _ _ (by rw [this]; rfl), by rw [R]⟩
  ·rename_i b hb
   cases h
   have := evA_R hE x
   rw [hb, R] at this
   exact ⟨_, key _ _ (by rw [this]; rfl), by rw [R]⟩
  ·cases h
 ·rename_i t x e
  rw [e]
  cases hi : intP (evA E x) with
  | none => rw [hi] at h; cases h
  | some q =>
   obtain ⟨k, n⟩ := q
   rw [hi] at h
   cases h
   exact ⟨_, key _ _ (by rw [intP_R hi (evA_R hE x)]; rfl), by rw [R]⟩
 ·rename_i s x f e
  rw [e]
  cases hf : fieldAddrP P s f (evA E x) with
  | none => rw [hf] at h; cases h
  | some r =>
   rw [hf] at h; cases h
   obtain ⟨y, hy, hr⟩ := fieldAddr_run hf (evA_R hE x)
   exact ⟨y, key _ _ hy, hr⟩
 ·rename_i s x f e
  rw [e]
  cases hf : fieldP P s f (evA E x) with
  | none => rw [hf] at h; cases h
  | some r =>
   rw [hf] at h; cases h
   obtain ⟨y, hy, hr⟩ := field_run hf (evA_R hE x)
   exact ⟨y, key _ _ hy, hr⟩
 ·rename_i t x i e
  rw [e]
  obtain ⟨y, hy, hr⟩ := indexAddr_run h hp (evA_R hE x) (evA_R hE i)
  exact ⟨y, key _ _ hy, hr⟩
 ·rename_i t x i e
  rw [e]
  obtain ⟨y, hy, hr⟩ := index_run h hp (evA_R hE x) (evA_R hE i)
  exact ⟨y, key _ _ hy, hr⟩
 ·rename_i t i e
  rw [e]
  split at h
  ·rename_i cs hc
   cases hg : cs[i]? with
   | none => rw [hg] at h; cases h
   | some q =>
    rw [hg] at h; cases h
    have := evA_R hE t
    rw [hc, R] at this
    obtain ⟨us, e1, h2⟩ := this
    obtain ⟨u, hu, hr⟩ := h2.get hg
    exact ⟨u, key _ _ (by rw [e1]; unfold Instr.extract; simp [hu]), hr⟩
  ·cases h
 ·rename_i g first caps e
  rw [e]
  cases hq : mkFnP g (first.toList.map (evA E)) (caps.toList.map (evA E)) with
  | none => rw [hq] at h; cases h
  | some q =>
   rw [hq] at h
   simp only [Option.map_some, Option.some.injEq, Prod.mk.injEq] at h
   obtain ⟨rfl, rfl⟩ := h
   have hF := evAs_R hE first.toList
   have hC := evAs_R hE caps.toList
   refine ⟨.func (.func g) (first.map a.eval) (caps.map a.eval), key _ _ (by simp [Instr.makeFunc, Sem.run_pure]), ?_⟩
   have e1 : first.map a.eval = (first.toList.map a.eval).toArray := by apply Array.ext'; simp
   have e2 : caps.map a.eval = (caps.toList.map a.eval).toArray := by apply Array.ext'; simp
   rw [e1, e2]
   generalize first.toList.map (evA E) = fs at hq hF
   generalize caps.toList.map (evA E) = cs at hq hC
   generalize first.toList.map a.eval = us at hF ⊢
   generalize caps.toList.map a.eval = vs at hC ⊢
   unfold mkFnP at hq
   split at hq
   ·cases hq
    rw [Rs] at hF
    subst hF
    rw [R]
    exact ⟨vs, rfl, hC⟩
   ·cases hq
    obtain ⟨u, us', rfl, hu, hn⟩ := hF.uncons
    rw [Rs] at hn hC
    subst hn; subst hC
    rw [R] at hu
    obtain ⟨b, hb, rfl⟩ := hu
    rw [R]
    exact ⟨b, hb, rfl⟩
   ·cases hq
 ·rename_i t x lo hi e
  rw [e]
  split at h
  ·rename_i l hh hl1 hh1
   obtain ⟨y, hy, hr⟩ := slice_run h hp (evA_R hE x) (optInt_R hE hl1) (optInt_R hE hh1)
   exact ⟨y, key _ _ hy, hr⟩
  ·cases h
 ·rename_i t parts e
  rw [e]
  cases hf : buildP P t (parts.toList.map fun q => (q.1, evA E q.2)) with
  | none => rw [hf] at h; cases h
  | some r =>
   rw [hf] at h; cases h
   obtain ⟨y, hy, hr⟩ := build_run (vals := parts.toList.map fun q => (q.1, a.eval q.2)) hf (by simp) (parts_get hE parts.toList)
   refine ⟨y, key _ _ ?_, hr⟩
   rw [<- hy]
   congr 2
   apply Array.ext'; simp
 ·rename_i t x e
  rw [e]
  cases hf : mkIfP P t (evA E x) with
  | none => rw [hf] at h; cases h
  | some r =>
   rw [hf] at h; cases h
   obtain ⟨y, hy, hr⟩ := mkIf_run hf (evA_R hE x)
   exact ⟨y, key _ _ hy, hr⟩
 ·rename_i x xt t e
  rw [e]
  cases hf : tyAsP P (evA E x) t with
  | none => rw [hf] at h; cases h
  | some r =>
   rw [hf] at h; cases h
   obtain ⟨y, hy, hr⟩ := tyAs_run (xt := xt) hf (evA_R hE x)
   exact ⟨y, key _ _ hy, hr⟩
 ·rename_i args argTypes e
  rw [e]
  split at h
  ·rename_i x t ha ht
   cases hf : lenP P t (evA E x) with
   | none => rw [hf] at h; cases h
   | some r =>
    rw [hf] at h; cases h
    obtain ⟨y, hy, hr⟩ := len_run (ty := o.type) hf (evA_R hE x)
    have ea : args = #[x] := by apply Array.ext'; simpa using ha
    have et : argTypes = #[t] := by apply Array.ext'; simpa using ht
    subst ea et
    refine ⟨y, ?_, hr⟩
    simp only [Sem.run_bind, resolve, Sem.run_pure, Result.andThen_ok, invoke, builtin]
    have e2 : (#[x] : Array Operand).map a.eval = #[a.eval x] := by simp
    rw [e2, hy]; rfl
  ·cases h
 ·rename_i args argTypes e
  rw [e]
  split at h
  ·rename_i x y ha
   unfold mmP at h
   split at h
   ·rename_i k a1 k' b1 h1 h2
    split at h
    ·rename_i hk
     subst hk
     cases h
     have ea : args = #[x, y] := by apply Array.ext'; simpa using ha
     subst ea
     refine ⟨_, ?_, by rw [R]⟩
     simp only [Sem.run_bind, resolve, Sem.run_pure, Result.andThen_ok, invoke, builtin]
     have e2 : (#[x, y] : Array Operand).map a.eval = #[a.eval x, a.eval y] := by simp
     rw [e2, intP_R h1 (evA_R hE x), intP_R h2 (evA_R hE y)]
     simp [Builtin.max_, Builtin.max2, Sem.run_bind, Sem.run_pure, Result.andThen]
    ·cases h
   ·cases h
  ·cases h
 ·rename_i args argTypes e
  rw [e]
  split at h
  ·rename_i x y ha
   unfold mmP at h
   split at h
   ·rename_i k a1 k' b1 h1 h2
    split at h
    ·rename_i hk
     subst hk
     cases h
     have ea : args = #[x, y] := by apply Array.ext'; simpa using ha
     subst ea
     refine ⟨_, ?_, by rw [R]⟩
     simp only [Sem.run_bind, resolve, Sem.run_pure, Result.andThen_ok, invoke, builtin]
     have e2 : (#[x, y] : Array Operand).map a.eval = #[a.eval x, a.eval y] := by simp
     rw [e2, intP_R h1 (evA_R hE x), intP_R h2 (evA_R hE y)]
     simp [Builtin.min_, Builtin.min2, Sem.run_bind, Sem.run_pure, Result.andThen]
    ·cases h
   ·cases h
  ·cases h
 ·cases h
end
end Go.Proofs.YtplpnfjccemdnaaGreatDoor
