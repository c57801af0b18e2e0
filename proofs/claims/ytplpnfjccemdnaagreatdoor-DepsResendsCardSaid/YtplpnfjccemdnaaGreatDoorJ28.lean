import Derived.Test.YtplpnfjccemdnaaGreatDoorJ27
import Derived.Test.YtplpnfjccemdnaaGreatDoorJ26
set_option linter.unusedVariables false
set_option linter.unusedSimpArgs false
/- The texts H8 H9 V37 V38 S1 S2 S3 S4 of the proof, laid one behind the other. -/
namespace Go.Proofs.YtplpnfjccemdnaaGreatDoor
open Go.RowKit
def cutC (s : List UInt8) : List UInt8 × Bool := bif hsufL s [58] then (s.take (s.length - 1), true) else (s, false)
def yA (sel : List UInt8) : List Sl -> Nat -> List (Int × Bool)
 | [], _ => []
 | s :: t, i => bif s.nm == sel then ((i : Int), false) :: yA sel t (i + 1) else yA sel t (i + 1)
def yB (nm : List UInt8) : List Sl -> Nat -> List (Int × Bool)
 | [], _ => []
 | s :: t, i => bif (bif s.nm == nm then assignB s else false) then ((i : Int), true) :: yB nm t (i + 1) else yB nm t (i + 1)
def mL (l : List Sl) (sel : List UInt8) : List (Int × Bool) := yA sel l 0 ++ (bif (cutC sel).2 then yB (cutC sel).1 l 0 else [])
theorem suf_iff (s : List UInt8) : hsufL s [58] = true ↔ 1 <= s.length /\ s.drop (s.length - 1) = [58] := by
 unfold hsufL sub
 by_cases h : 1 <= s.length
 ·rw [show decide ((s.length : Int) >= (([58] : List UInt8).length : Int)) = true by simp; omega, cond_true, beq_iff_eq]
  have e : ((s.length : Int) - (([58] : List UInt8).length : Int)).toNat = s.length - 1 := by simp
  rw [e]
  have e2 : (s.drop (s.length - 1)).length = 1 := by rw [List.length_drop]; omega
  constructor
  ·intro hh
   refine ⟨h, ?_⟩
   rwa [List.take_of_length_le (by rw [e2]; simp; omega)] at hh
  ·rintro ⟨-, hh⟩
   rw [List.take_of_length_le (by rw [e2]; simp; omega)]; exact hh
 ·rw [show decide ((s.length : Int) >= (([58] : List UInt8).length : Int)) = false by simp; omega]
  simp [h]
theorem cut_iff (s nm : List UInt8) : nm ++ [58] = s ↔ (cutC s).2 = true /\ (cutC s).1 = nm := by
 unfold cutC
 constructor
 ·rintro rfl
  have : hsufL (nm ++ [58]) [58] = true := (suf_iff _).2 ⟨by simp, by simp⟩
  rw [this]
  exact ⟨rfl, by simp⟩
 ·intro h
  cases hh : hsufL s [58] with
  | false => rw [hh] at h; cases h.1
  | true =>
   rw [hh] at h
   have h1 := (suf_iff _).1 hh
   have h2 : s.take (s.length - 1) = nm := h.2
   rw [<- h2, <- h1.2, List.take_append_drop]
theorem yA_head (sel : List UInt8) : ∀ (l : List Sl) (i : Nat), (yA sel l i).head? = (l.findIdx? fun x => matchA x sel).map fun k => (((i + k : Nat) : Int), false)
 | [], i => rfl
 | s :: t, i => by
  unfold yA
  rw [List.findIdx?_cons]
  cases h : s.nm == sel with
  | true =>
   rw [show matchA s sel = true from h]; rfl
  | false =>
   rw [show matchA s sel = false from h, cond_false, yA_head sel t (i + 1)]
   simp only [Bool.false_eq_true, if_false, Option.map_map]
   congr 1
   funext k
   simp only [Function.comp_apply, Prod.mk.injEq, and_true]
   omega
theorem yB_head (nm sel : List UInt8) (hs : ∀ x : List UInt8, (x ++ [58] == sel) = (x == nm)) : ∀ (l : List Sl) (i : Nat), (yB nm l i).head? = (l.findIdx? fun x => matchB x sel).map fun k => (((i + k : Nat) : Int), true)
 | [], i => rfl
 | s :: t, i => by
  unfold yB
  rw [List.findIdx?_cons]
  have e : matchB s sel = (bif s.nm == nm then assignB s else false) := by
   unfold matchB
   rw [hs]
   cases assignB s <;> cases s.nm == nm <;> rfl
  rw [e]
  cases h : (bif s.nm == nm then assignB s else false) with
  | true => rfl
  | false =>
   rw [cond_false, yB_head nm sel hs t (i + 1)]
   simp only [Bool.false_eq_true, if_false, Option.map_map]
   congr 1
   funext k
   simp only [Function.comp_apply, Prod.mk.injEq, and_true]
   omega
theorem mL_head (l : List Sl) (sel : List UInt8) : (mL l sel).head? = bif decide ((matchF l sel).1 >= 0) then some (matchF l sel) else none := by
 unfold mL
 rw [List.head?_append, yA_head]
 unfold matchF fstI
 cases h1 : l.findIdx? fun x => matchA x sel with
 | some k =>
  simp only [Option.map_some, Nat.zero_add, Option.some_or]
  rw [show decide ((k : Int) >= 0) = true by simp, cond_true]
  show _ = bif decide ((k : Int) >= 0) then some ((k : Int), false) else none
  rw [show decide ((k : Int) >= 0) = true by simp, cond_true]
 | none =>
  simp only [Option.map_none, Option.none_or]
  rw [show decide ((-1 : Int) >= 0) = false by decide, cond_false]
  cases hc : (cutC sel).2 with
  | true =>
   rw [cond_true, yB_head (cutC sel).1 sel fun x => by
    rw [Bool.eq_iff_iff, beq_iff_eq, beq_iff_eq, cut_iff]
    constructor
    ·exact fun h => h.2.symm
    ·exact fun h => ⟨hc, h.symm⟩]
   cases h2 : l.findIdx? fun x => matchB x sel with
   | some k =>
    simp only [Option.map_some, Nat.zero_add]
    rw [show decide ((k : Int) >= 0) = true by simp, cond_true]
   | none =>
    simp only [Option.map_none]
    rw [show decide ((-1 : Int) >= 0) = false by decide, cond_false]
  | false =>
   have h2 : (l.findIdx? fun x => matchB x sel) = none := by
    rw [List.findIdx?_eq_none_iff]
    intro x _
    unfold matchB
    cases assignB x with
    | false => rfl
    | true =>
     rw [cond_true, beq_eq_false_iff_ne]
     intro e
     have := ((cut_iff sel x.nm).1 e).1
     rw [hc] at this; cases this
   rw [h2, cond_false]
   show none = bif decide ((-1 : Int) >= 0) then _ else none
   rw [show decide ((-1 : Int) >= 0) = false by decide, cond_false]
abbrev StL := (Atom -> Bool) × List Int × List Fo
def updL (f : Atom -> Bool) (n : Int) : Atom -> Bool := fun x => if x = .i n then true else f x
def visL (w : Wd) (sel : List UInt8) : Nat -> StL -> Int -> StL
 | 0, s, _ => s
 | f + 1, s, n => bif s.1 (.i n) then (updL s.1 n, s.2.1, s.2.2) else
  bif decide ((matchF (objT w n).1.sl sel).1 >= 0) then (updL s.1 n, s.2.1 ++ [n], s.2.2 ++ [⟨n, (matchF (objT w n).1.sl sel).1, (matchF (objT w n).1.sl sel).2⟩])
  else (parL (objT w n).1.sl).foldl (fun s v => visL w sel f s (startF v)) (updL s.1 n, s.2.1 ++ [n], s.2.2)
def upL (w : Wd) (sel : List UInt8) (f : Nat) (l : List Vl) (s : StL) : StL := l.foldl (fun s v => visL w sel f s (startF v)) s
structure SimL (s : StL) (t : St) : Prop where
 seen : ∀ n, s.1 (.i n) = seenB t.1 n
 outs : s.2.2 = t.2.2
theorem updL_seen {f : Atom -> Bool} {sf : Atom -> Option Bool} (h : ∀ n, f (.i n) = seenB sf n) (m : Int) : ∀ n, updL f m (.i n) = seenB (updS sf m) n := fun n => by
 unfold updL seenB updS
 by_cases e : (Atom.i n) = .i m
 ·rw [if_pos e, if_pos e]; rfl
 ·rw [if_neg e, if_neg e]; exact h n
theorem upL_sim {w : Wd} {sel : List UInt8} {f : Nat} (hv : ∀ s t n, SimL s t -> SimL (visL w sel f s n) (visT w sel f t n)) : ∀ (l : List Vl) (s : StL) (t : St), SimL s t -> SimL (upL w sel f l s) (upT w sel f l t)
 | [], s, t, h => h
 | v :: l, s, t, h => upL_sim hv l _ _ (hv s t _ h)
theorem visL_sim {w : Wd} {sel : List UInt8} : ∀ (f : Nat) (s : StL) (t : St) (n : Int), SimL s t -> SimL (visL w sel f s n) (visT w sel f t n)
 | 0, s, t, n, h => h
 | f + 1, s, t, n, h => by
  unfold visL visT
  have e : (t.1 (.i n)).getD false = s.1 (.i n) := (h.seen n).symm
  rw [e]
  cases hs : s.1 (.i n) with
  | true =>
   refine ⟨fun m => ?_, h.outs⟩
   show updL s.1 n (.i m) = seenB t.1 m
   unfold updL
   by_cases e2 : (Atom.i m) = .i n
   ·rw [if_pos e2]
    have : m = n := Atom.i.inj e2
    rw [this, <- h.seen n, hs]
   ·rw [if_neg e2]; exact h.seen m
  | false =>
   rw [cond_false, cond_false]
   cases decide ((matchF (objT w n).1.sl sel).1 >= 0) with
   | true => exact ⟨updL_seen h.seen n, by show s.2.2 ++ _ = t.2.2 ++ _; rw [h.outs]⟩
   | false => exact upL_sim (fun s t n => visL_sim f s t n) _ _ _ ⟨updL_seen h.seen n, h.outs⟩
def unseenL (U : List Int) (f : Atom -> Bool) : Nat := (U.filter fun n => !f (.i n)).length
theorem unseenL_le (U : List Int) (f : Atom -> Bool) (n : Int) : unseenL U (updL f n) <= unseenL U f := by
 unfold unseenL
 induction U with
 | nil => exact Nat.le_refl _
 | cons x U ih =>
  simp only [List.filter_cons]
  by_cases hx : x = n
  ·subst hx
   rw [show updL f x (.i x) = true by simp [updL]]
   simp only [Bool.not_true, Bool.false_eq_true, if_false]
   split
   ·simp only [List.length_cons]; omega
   ·exact ih
  ·rw [show updL f n (.i x) = f (.i x) by unfold updL; rw [if_neg]; intro h; exact hx (Atom.i.inj h)]
   split
   ·simp only [List.length_cons]; omega
   ·exact ih
theorem unseenL_lt {U : List Int} {f : Atom -> Bool} {n : Int} (hn : n ∈ U) (hu : f (.i n) = false) : unseenL U (updL f n) < unseenL U f := by
 have hle := unseenL_le
 unfold unseenL at hle ⊢
 induction U with
 | nil => cases hn
 | cons x U ih =>
  simp only [List.filter_cons]
  by_cases hx : x = n
  ·subst hx
   rw [show updL f x (.i x) = true by simp [updL], hu]
   simp only [Bool.not_true, Bool.false_eq_true, if_false, Bool.not_false, if_true, List.length_cons]
   have := hle U f x
   omega
  ·rw [show updL f n (.i x) = f (.i x) by unfold updL; rw [if_neg]; intro h; exact hx (Atom.i.inj h)]
   have hn' : n ∈ U := by
    rcases List.mem_cons.1 hn with h | h
    ·exact absurd h.symm hx
    ·exact h
   have := ih hn'
   split
   ·simp only [List.length_cons]; omega
   ·exact this
structure RoomL (U : List Int) (s : StL) : Prop where
 met : s.2.1.length + unseenL U s.1 <= 1000000000
 out : s.2.2.length + unseenL U s.1 <= 1000000000
structure LessL (U : List Int) (s s' : StL) : Prop where
 un : unseenL U s'.1 <= unseenL U s.1
 met : s'.2.1.length + unseenL U s'.1 <= s.2.1.length + unseenL U s.1
 out : s'.2.2.length + unseenL U s'.1 <= s.2.2.length + unseenL U s.1
theorem LessL.refl (U : List Int) (s : StL) : LessL U s s := ⟨Nat.le_refl _, Nat.le_refl _, Nat.le_refl _⟩
theorem LessL.trans {U : List Int} {s s' s'' : StL} (h : LessL U s s') (h' : LessL U s' s'') : LessL U s s'' := ⟨Nat.le_trans h'.un h.un, Nat.le_trans h'.met h.met, Nat.le_trans h'.out h.out⟩
theorem LessL.room {U : List Int} {s s' : StL} (h : LessL U s s') (r : RoomL U s) : RoomL U s' := ⟨Nat.le_trans h.met r.met, Nat.le_trans h.out r.out⟩
theorem upL_less {w : Wd} {sel : List UInt8} {f : Nat} {U : List Int} (hv : ∀ s n, n ∈ U -> LessL U s (visL w sel f s n)) : ∀ (l : List Vl) (s : StL), (∀ v ∈ l, startF v ∈ U) -> LessL U s (upL w sel f l s)
 | [], s, _ => LessL.refl U s
 | v :: l, s, h => (hv s (startF v) (h v (List.mem_cons_self ..))).trans (upL_less hv l _ fun x hx => h x (List.mem_cons_of_mem _ hx))
theorem visL_less {w : Wd} {sel : List UInt8} {U : List Int} (hU : Clo w U) : ∀ (f : Nat) (s : StL) (n : Int), n ∈ U -> LessL U s (visL w sel f s n)
 | 0, s, n, _ => LessL.refl U s
 | f + 1, s, n, hn => by
  unfold visL
  cases hs : s.1 (.i n) with
  | true =>
   have := unseenL_le U s.1 n
   exact ⟨this, by show s.2.1.length + unseenL U (updL s.1 n) <= _; omega, by show s.2.2.length + unseenL U (updL s.1 n) <= _; omega⟩
  | false =>
   have hlt := unseenL_lt (U := U) hn hs
   rw [cond_false]
   cases decide ((matchF (objT w n).1.sl sel).1 >= 0) with
   | true => exact ⟨by simp only [cond_true]; omega, by simp only [cond_true, List.length_append, List.length_cons, List.length_nil]; omega, by simp only [cond_true, List.length_append, List.length_cons, List.length_nil]; omega⟩
   | false =>
    rw [cond_false]
    refine LessL.trans ?_ (upL_less (visL_less hU f) (parL (objT w n).1.sl) _ (hU.clo n hn))
    refine ⟨?_, ?_, ?_⟩
    ·show unseenL U (updL s.1 n) <= _; omega
    ·show (s.2.1 ++ [n]).length + unseenL U (updL s.1 n) <= _
     simp only [List.length_append, List.length_cons, List.length_nil]; omega
    ·show s.2.2.length + unseenL U (updL s.1 n) <= _; omega
section
variable {w0 : W0} {W : World} {L : List Nat} {β : List (Option Nat)} {N : Nat} {P : Program} {all : Array Oper} {ds : List (Nat × Option Nat)} {E0 E : Env} {σ0 σ : Sig} {Q : Exit -> Act -> World -> Prop} {a : Act}
end
section
variable {w0 : W0} {L : List Nat} {P : Program} {Q : Exit -> Act -> World -> Prop} {fn : Func} {c : Cfg}
end
def clrAt (P : Program) (N : Nat) (d : Cfg) : Option (List Prop × Cfg) :=
 match d.dr, d.todo with
 | none, .ops all (o1 :: o2 :: l) :: k =>
  match o1.op, o2.op, o1.dst with
  | .slice t x (some lo) none none, .call { callee := .builtin .clear, args, argTypes }, some d1 =>
   match args.toList, argTypes.toList with
   | [.tmp d2], [t2] =>
    match rowInfo P t, evA d.E x, optInt d.E (some lo), guardP all d.E o1, guardP all ((d1, .any) :: d.E) o2 with
    | some (_, kk, _, _), .os _ r k2 n, some (some i), some true, some true =>
     match d.σ[r]? with
     | some [.rws k3 m el] =>
      if d1 = d2 /\ t = t2 /\ kk = k2 /\ k2 = k3 /\ fitsD N (some d1) = true /\ fitsD N o2.dst = true then
       some ([0 <= i /\ i <= (n : Int) /\ n <= m /\ 0 < n], ⟨putE ((d1, .any) :: d.E) o2.dst .any, d.σ.set r [.rws k2 i.toNat el], .ops all l :: k, none⟩)
      else none
     | _ => none
    | _, _, _, _, _ => none
   | _, _ => none
  | _, _, _ => none
 | _, _ => none
section
variable {w0 : W0} {W : World} {L : List Nat} {β : List (Option Nat)} {N : Nat} {P : Program} {E : Env} {σ : Sig} {Q : Exit -> Act -> World -> Prop} {a : Act} {fn : Func} {c : Cfg}
theorem clear_run {t e : TypeId} {k bytes r n m i : Nat} {zs : List Value} {el : Nat -> List PV} {c g : Nat} {ty : TypeId} (hI : Inv w0 L β σ N E a W) (hri : rowInfo P t = some (e, k, bytes, zs)) (hσ : σ[r]? = some [.rws k m el]) (hg : β[r]? = some (some g)) (hin : i <= n) (hnm : n <= m) (hnc : n <= c) :
  ∃ v W', (Builtin.clear_ #[t] ty #[.slice (if c = i then some ⟨g, 0, none⟩ else (some (⟨g, 0, none⟩ : Addr)).map (·.add (i * k))) (n - i) (c - i)]).run P W = .ok v W' /\ Inv w0 L β (σ.set r [.rws k i el]) N E a W' := by
 obtain ⟨hu, hk0, hzl, hz1, inf, z, hi, hz, hsz, hbb, hzc⟩ := rowInfo_at hri
 obtain ⟨ty2, us, hheap, u1, ul, uw⟩ := rws_out (hI.bx.hold hσ hg)
 have hst : ∀ W0, W0 = W -> Inv w0 L β (σ.set r [.rws k i el]) N E a W := fun _ _ => by
  refine { hI with bx := ⟨by simp [hI.bx.1], fun i1 j1 g1 c1 d1 h1 h2 h3 h4 l1 l2 => ?_, hI.bx.2.2.1, fun i1 cs h1 => ?_⟩ }
  ·have key : ∀ (x : Nat) (y : List PV), (σ.set r [.rws k i el])[x]? = some y -> isDd y = false -> ∃ y', σ[x]? = some y' /\ isDd y' = false := fun x y hx hy => by
    rw [List.getElem?_set] at hx
    split at hx
    ·rename_i e; subst e; exact ⟨_, hσ, rfl⟩
    ·exact ⟨y, hx, hy⟩
   obtain ⟨c2, q1, q2⟩ := key _ _ h3 l1
   obtain ⟨d2, q3, q4⟩ := key _ _ h4 l2
   exact hI.bx.2.1 i1 j1 g1 c2 d2 h1 h2 q1 q3 q2 q4
  ·rw [List.getElem?_set] at h1
   split at h1
   ·rename_i e
    subst e
    split at h1
    ·cases h1
     exact ⟨some g, hg, .rws _ _ _ ty2 us hheap u1 (by have := Nat.mul_le_mul_right k (show i <= m by omega); omega) fun j hj => uw j (by omega)⟩
    ·cases h1
   ·exact hI.bx.2.2.2 i1 cs h1
 by_cases hz0 : n - i = 0
 ·refine ⟨.tuple #[], W, ?_, hst W rfl⟩
  ·rw [hz0]
   split <;> simp [Builtin.clear_, run_underlying hu, Sem.run_bind, Sem.run_pure]
 ·have hci : ¬ c = i := by omega
  rw [if_neg hci]
  have hlen : (Builtin.zeroCells z.cells (n - i)).toList.length = (n - i) * k := by
   unfold Builtin.zeroCells
   rw [hzc]
   simp [hzl, Nat.mul_comm]
  have hmul : i * k + (n - i) * k = n * k := by rw [<- Nat.add_mul]; congr 1; omega
  have hmul2 := Nat.mul_le_mul_right k hnm
  obtain ⟨W', hrun', hs, ho, hn, o1, o2, o3⟩ := storeCells_run (P := P) (g := g) (off := i * k) (Builtin.zeroCells z.cells (n - i)).toList 0 us W hheap (by rw [hlen]; omega) (grown_one hzc hz1)
  simp only [Nat.add_zero] at hn
  refine ⟨.tuple #[], W', ?_, hI.write (W' := W') (cs := [.rws k i el]) hσ rfl hg hs ho (by simp only [World.shape?, hn, hheap]; simp; rw [<- Array.length_toList, hlen]; omega) o1 o2 o3 fun mv => .rws _ _ _ ty2 _ hn (fun x hx => ?_) (by simp only [List.length_append, List.length_take]; omega) fun j hj => ?_⟩
  ·obtain ⟨q, hq⟩ : ∃ q, n - i = q + 1 := ⟨n - i - 1, by omega⟩
   simp only [Option.map_some, add_addr, Nat.zero_add]
   unfold Builtin.clear_
   simp only [List.getElem?_toArray, List.getElem?_cons_zero, Sem.run_bind, run_underlying hu, Result.andThen_ok]
   rw [hq] at hrun' ⊢
   have hzv : (zeroValue e).run P W = .ok z W := by
    unfold zeroValue typeInfo
    simp [hi, hz, program, Sem.run_bind, Sem.run_pure, Sem.run]
   simp only [Sem.run_bind, hzv, Result.andThen_ok, hrun', Sem.run_pure]
  ·simp only [List.mem_append] at hx
   rcases hx with hx | hx | hx
   ·exact u1 x (List.mem_of_mem_take hx)
   ·exact grown_one hzc hz1 x hx
   ·exact u1 x (List.mem_of_mem_drop hx)
  ·refine mv _ _ ?_
   have hw := uw j (by omega)
   have hjk : j * k + k <= i * k := by rw [<- Nat.succ_mul]; exact Nat.mul_le_mul_right _ hj
   have : ((us.take (i * k) ++ ((Builtin.zeroCells z.cells (n - i)).toList ++ us.drop (i * k + (Builtin.zeroCells z.cells (n - i)).toList.length))).drop (j * k)).take k = (us.drop (j * k)).take k := by
    apply List.ext_getElem?
    intro q
    simp only [List.getElem?_take, List.getElem?_drop]
    by_cases hq : q < k
    ·rw [if_pos hq, if_pos hq, List.getElem?_append_left (by rw [List.length_take]; omega), List.getElem?_take, if_pos (by omega)]
    ·rw [if_neg hq, if_neg hq]
   rw [this]
   exact hw
def clrC (P : Program) (fn : Func) (c : Cfg) : Cfg := match clrAt P fn.ntmps (stop P fn.ntmps c).2 with | some q => q.2 | none => c
theorem M.clear (ps qs : List Prop) (h : (stop P fn.ntmps c).1 = ps) (hp : All ps) (h3 : (clrAt P fn.ntmps (stop P fn.ntmps c).2).map (·.1) = some qs) (hq : All qs) (k : M P fn w0 L Q (clrC P fn c)) : M P fn w0 L Q c := by
 refine ⟨run_ok 3000 c (by rw [show (runC P fn.ntmps 3000 c).1 = ps from h]; exact hp) ?_⟩
 show OkF P fn w0 L Q (stop P fn.ntmps c).2
 have k := k.out
 unfold clrC at k
 obtain ⟨d, h2, k⟩ : ∃ d, clrAt P fn.ntmps (stop P fn.ntmps c).2 = some (qs, d) /\ OkF P fn w0 L Q d := by
  cases h4 : clrAt P fn.ntmps (stop P fn.ntmps c).2 with
  | none => rw [h4] at h3; cases h3
  | some q =>
   rw [h4] at h3 k
   simp only [Option.map_some, Option.some.injEq] at h3
   exact ⟨q.2, by rw [<- h3], k⟩
 clear h3
 generalize (stop P fn.ntmps c).2 = b at h2
 obtain ⟨E, σ, todo, dr⟩ := b
 unfold clrAt at h2
 simp only at h2
 split at h2
 case h_2 => cases h2
 rename_i all o1 o2 l kk
 split at h2
 case h_2 => cases h2
 rename_i t x lo args argTypes d1 e1 e2 ed1
 split at h2
 case h_2 => cases h2
 rename_i d2 t2 ha ht
 split at h2
 case h_2 => cases h2
 rename_i e kk2 bytes zs e' r k2 n i hri hx hlo hg1 hg2
 split at h2
 case h_2 => cases h2
 rename_i k3 m el hσ
 split at h2
 case isFalse => cases h2
 rename_i hc
 obtain ⟨rfl, rfl, rfl, rfl, hf1, hf2⟩ := hc
 simp only [Option.some.injEq, Prod.mk.injEq] at h2
 obtain ⟨rfl, rfl⟩ := h2
 obtain ⟨⟨h0, hin, hnm, hn0⟩, -⟩ := hq
 obtain rfl : args = #[.tmp d1] := by apply Array.ext'; simpa using ha
 obtain rfl : argTypes = #[t] := by apply Array.ext'; simpa using ht
 intro β a W hI
 show wpListIn (Fr w0.ro) 0 P all _ (o1 :: o2 :: l) a W
 have hxr := evA_R hI.ev x
 rw [hx, R] at hxr
 rcases hxr with ⟨g, cc, hb, ex, c1, c2, c3⟩ | ⟨_, hz, _⟩
 case inr => omega
 obtain ⟨hu, hk0, hzl, hz1, inf, z, hi, hz, hsz, hbb, hzc⟩ := rowInfo_at hri
 have hsize : szP P e = some kk2 := by unfold szP; rw [hi]; simp [hsz]
 have hbr := bounds_run (P := P) (isS := true) (optInt_R hI.ev hlo) (show OptV none none from rfl) c1 (by simp only [Option.getD_some, Option.getD_none]; omega) W
 simp only [Option.getD_some, Option.getD_none, Int.toNat_natCast] at hbr
 have hrun1 : (execOp a.eval o1).run P W = .ok (.value (.slice (if cc = i.toNat then some ⟨g, 0, none⟩ else (some (⟨g, 0, none⟩ : Addr)).map (·.add (i.toNat * kk2))) (n - i.toNat) (cc - i.toNat))) W := by
  unfold execOp
  rw [e1]
  simp only [Option.map_some, Option.map_none, ex]
  simp only [Option.map_some] at hbr
  unfold Instr.sliceAt
  simp only [Sem.run_bind, underlying_run hu, Result.andThen_ok]
  unfold Instr.slice
  simp only [Sem.run_bind, underlying_run hu, Result.andThen_ok, hbr, sizeOf_run' hsize, Sem.run_pure]
  rfl
 refine list_wp (by rw [e1]; rfl) (guard_wanted hI.ev hg1) ?_
 unfold Oper.wp
 rw [hrun1]
 show wpListIn (Fr w0.ro) 0 P all _ (o2 :: l) (a.put o1.dst _) W
 rw [ed1]
 have hI1 : Inv w0 L β σ fn.ntmps (putE E (some d1) .any) (a.put (some d1) (.slice (if cc = i.toNat then some ⟨g, 0, none⟩ else (some (⟨g, 0, none⟩ : Addr)).map (·.add (i.toNat * kk2))) (n - i.toNat) (cc - i.toNat))) W := { hI with ev := hI.ev.put (by rw [R]; trivial) hf1, nod := hI.nod.put _ _ }
 refine list_wp (by rw [e2]; rfl) (guard_wanted hI1.ev hg2) ?_
 have hd1 : d1 < a.tmps.size := by
  have h1 : a.tmps.size = fn.ntmps := hI.ev.1
  have h2 : d1 < fn.ntmps := by simpa [fitsD] using hf1
  rw [h1]; exact h2
 have hev : ∀ v, (a.put (some d1) v).eval (.tmp d1) = v := fun v => by
  simp [Act.put, Act.eval, hd1]
 obtain ⟨v, W', hrun2, hI2⟩ := clear_run (ty := o2.type) (c := cc) hI1 hri hσ hb (show i.toNat <= n by omega) hnm c1
 have hrun : (execOp (a.put (some d1) (.slice (if cc = i.toNat then some ⟨g, 0, none⟩ else (some (⟨g, 0, none⟩ : Addr)).map (·.add (i.toNat * kk2))) (n - i.toNat) (cc - i.toNat))).eval o2).run P W = .ok (.value v) W' := by
  unfold execOp
  simp only [e2, resolve, invoke, builtin, Sem.run_bind, Sem.run_pure, Result.andThen_ok, List.map_toArray, List.map_cons, List.map_nil, hev, hrun2]
 unfold Oper.wp
 rw [hrun]
 exact k β _ W' { hI2 with ev := hI2.ev.put (by rw [R]; trivial) hf2, nod := hI2.nod.put _ _ }
end
theorem put_spec (f : Atom -> Bool) (n : Int) : SpecM Tryz.prog 74 1 [[.mp (.int .i64) (.v f)]] [.mr 0, I n] [[.mp (.int .i64) (.v (updL f n))]] (.sb (!f (.i n))) := by
 refine SpecM.start (by kernel_rfl) Tryz.func74 rfl rfl (Nat.le_of_ble_eq_true rfl) fun w0 L hst => ?_
 exact M.retm [] [0] hst rfl (by kernel_rfl) trivial rfl rfl
theorem cloneN_int : Spec Tryz.prog 98 [nilS] nilS := by
 refine Spec.start (by kernel_rfl) Tryz.func98 rfl rfl fun w0 L => ?_
 exact M.ret nilS (by kernel_rfl) rfl
abbrev pth (n : Nat) : List PV := [.rws 1 n (fun _ => [.any])]
theorem clone_int (n : Nat) (hn : 0 < n) (hl : n <= 1000000000) : SpecM Tryz.prog 98 1 [pth n] [.os 3 0 1 n] [pth n, pth n] (.os 3 1 1 n) := by
 refine SpecM.start (by kernel_rfl) Tryz.func98 rfl rfl (Nat.le_of_ble_eq_true rfl) fun w0 L hst => ?_
 refine M.rn [0 < n, n <= n /\ 0 = 0 /\ 0 < n /\ 0 + n <= 9223372036854775807 /\ (0 + n) * 8 <= 140737488355328] [0, 2] hst ⟨hn, ⟨Nat.le_refl _, rfl, hn, by omega, by omega⟩, trivial⟩ fun L' => ?_
 refine M.sigT [] [pth n, [.rws 1 (0 + n) (fun j => (joinEl (fun j => (([] : List PV).drop (j * 1)).take 1) 0 (fun j => [.any]) j).map (renP (invF [0, 2] 0) 7))]] [pth n, pth n] (by kernel_rfl) trivial (by kernel_rfl) (by kernel_rfl) (.cons (.refl _) (.cons (.rws (Nat.zero_add _).symm fun j hj β L W us h => by
  unfold joinEl at h; rw [if_neg (Nat.not_lt_zero _)] at h; exact h) .nil)) ?_
 have e : 0 + n = n := Nat.zero_add _
 exact M.retm (r' := .os 3 1 1 (0 + n)) [] [0, 1] hst rfl (by kernel_rfl) trivial rfl (by rw [e])
theorem leads_spec (s : Sl) : Spec Tryz.prog 49 [.agg s.pv] (.sb (isPar s)) := by
 refine Spec.start (by kernel_rfl) Tryz.func49 rfl rfl fun w0 L => ?_
 refine M.ts (s.kd == 3) (fun h1 => M.retb true (by kernel_rfl) (by simp [isPar, h1])) (fun h1 => ?_)
 exact M.retb (s.kd == 4) (by kernel_rfl) (by simp [isPar, h1])
theorem assigns_spec (s : Sl) : Spec Tryz.prog 158 [.agg s.pv] (.sb (assignB s)) := by
 refine Spec.start (by kernel_rfl) Tryz.func158 rfl rfl fun w0 L => ?_
 refine M.ts (s.kd == 2) (fun h1 => M.retb true (by kernel_rfl) (by simp [assignB, h1])) (fun h1 => ?_)
 exact M.retb (s.kd == 4) (by kernel_rfl) (by simp [assignB, h1])
theorem slcut_spec (s : List UInt8) (hs : s.length <= 1000000000) : Spec Tryz.prog 207 [S s, S [58]] (.tup [S (cutC s).1, .sb (cutC s).2]) := by
 unfold cutC
 refine Spec.startL (by kernel_rfl) Tryz.func207 rfl rfl fun w0 L hst => ?_
 refine M.cl (slsuf_spec s [58] hs) ?_
 refine M.ts (!hsufL s [58]) (fun h => ?_) (fun h => ?_)
 ·rw [show hsufL s [58] = false by simpa using h]
  exact M.ret (.tup [S s, .sb false]) (by kernel_rfl) rfl
 ·have h : hsufL s [58] = true := by simpa using h
  have h1 := ((suf_iff s).1 h).1
  rw [h]
  exact M.retp [In64 ((s.length : Int) - 1), (0 : Int) <= 0 /\ (0 : Int) <= (s.length : Int) - 1 /\ (s.length : Int) - 1 <= s.length] (.tup [S (sub s 0 ((s.length : Int) - 1)), .sb true]) (by kernel_rfl) ⟨⟨by omega, by omega⟩, ⟨by omega, by omega, by omega⟩, trivial⟩ (by
   rw [cond_true]
   congr 3
   unfold sub
   rw [show ((s.length : Int) - 1).toNat = s.length - 1 by omega]
   simp)
theorem cut_spec (s : List UInt8) (hs : s.length <= 1000000000) : Spec Tryz.prog 157 [S s, S [58]] (.tup [S (cutC s).1, .sb (cutC s).2]) := by
 refine Spec.startL (by kernel_rfl) Tryz.func157 rfl rfl fun w0 L hst => ?_
 refine M.cl (slcut_spec s hs) ?_
 exact M.ret (.tup [S (cutC s).1, .sb (cutC s).2]) (by kernel_rfl) rfl
theorem atN_oid' (l : List Ob) (n : Int) : ∀ (k : Nat) (i : Int), atN l k (.i n) = some i -> (l.getD i.toNat default).oid = n
 | 0, i, h => by cases h
 | k + 1, i, h => by
  unfold atN at h
  split at h
  ·rename_i e
   cases h
   injection e with e; exact e.symm
  ·exact atN_oid' l n k i h
theorem atN_none (l : List Ob) (n : Int) : ∀ (k : Nat), atN l k (.i n) = none -> ∀ j, j < k -> (l.getD j default).oid ≠ n
 | 0, h, j, hj => absurd hj (Nat.not_lt_zero _)
 | k + 1, h, j, hj => by
  unfold atN at h
  split at h
  ·cases h
  ·rename_i e
   by_cases hjk : j = k
   ·subst hjk
    intro e2
    exact e (by rw [show (j : Int).toNat = j from rfl, e2])
   ·exact atN_none l n k h j (by omega)
theorem at_some {w : Wd} (hs : Sorted w) {n i : Int} (h : atN w.objs w.objs.length (.i n) = some i) : objT w n = (w.objs.getD i.toNat default, true) := by
 have h1 := atN_lt _ _ _ _ h
 have h2 := atN_oid' _ _ _ _ h
 have h3 := objT_mem_of hs (getD_mem (l := w.objs) (p := i.toNat) (by omega))
 rw [h2] at h3; exact h3
theorem at_none {w : Wd} (hs : Sorted w) {n : Int} (h : atN w.objs w.objs.length (.i n) = none) : objT w n = (⟨0, 0, [], [], 0, 0⟩, false) :=
 objT_none hs.2 fun o ho => by
  obtain ⟨j, hj, e⟩ := List.mem_iff_getElem.1 ho
  have := atN_none _ _ _ h j hj
  rwa [List.getD_eq_getElem?_getD, List.getElem?_eq_getElem hj, Option.getD_some, e] at this
theorem gobj_spec (w : Wd) (hs : Sorted w) (n : Int) : Spec Tryz.prog 75 [.ptr (chgF w), I n] (.tup [.agg (objT w n).1.pv, .sb (objT w n).2]) := by
 cases ha : atN w.objs w.objs.length (.i n) with
 | none =>
  rw [at_none hs ha]
  refine Spec.start (by kernel_rfl) Tryz.func75 rfl rfl fun w0 L => ?_
  refine M.ys (b := !(atN w.objs w.objs.length (.i n)).isSome) (by rw [ha]; rfl) ?_
  refine M.retw [] (.tup [.agg [I 0, I 0, .v (.slice none 0 0), .v (.slice none 0 0), I 0, I 0], .sb false]) (by kernel_rfl) trivial fun L W u h => tup_to h fun us h => ?_
  obtain ⟨u0, us, rfl, h0, h⟩ := h.uncons
  exact Rs.cons (agg_to (qs := (Ob.mk 0 0 [] [] 0 0).pv) (.cons (fun _ h => h) (.cons (fun _ h => h) (.cons (fun _ h => nil_row 5 Sl.pv h) (.cons (fun _ h => nil_row 3 Vl.pv h) (.cons (fun _ h => h) (.cons (fun _ h => h) .nil)))))) h0) h
 | some i =>
  rw [at_some hs ha]
  have hi := atN_lt _ _ _ _ ha
  have hv : (atN w.objs w.objs.length (.i n)).getD 0 = i := by rw [ha]; rfl
  refine Spec.start (by kernel_rfl) Tryz.func75 rfl rfl fun w0 L => ?_
  refine M.n (b := !(atN w.objs w.objs.length (.i n)).isSome) (by rw [ha]; rfl) ?_
  exact M.retp [0 <= (atN w.objs w.objs.length (.i n)).getD 0 /\ (atN w.objs w.objs.length (.i n)).getD 0 < (w.objs.length : Int)] (.tup [.agg (w.objs.getD ((atN w.objs w.objs.length (.i n)).getD 0).toNat default).pv, .sb true]) (by kernel_rfl) ⟨by rw [hv]; exact hi, trivial⟩ (by rw [hv])
def gstW (w : Wd) (v : Vl) : Int × Bool := bif valueC v != 0 then (0, false) else bif v.k == 4 then (v.n, (objT w v.n).2) else bif v.k == 3 then (6, true) else (5, true)
theorem gstart_spec (w : Wd) (hs : Sorted w) (v : Vl) (hn : In64 v.n) : Spec Tryz.prog 50 [.ptr (chgF w), .agg v.pv] (.tup [I (gstW w v).1, .sb (gstW w v).2]) := by
 unfold gstW
 refine Spec.startL (by kernel_rfl) Tryz.func50 rfl rfl fun w0 L hst => ?_
 refine M.cl (value_spec v hn) ?_
 refine M.ts (valueC v != 0) (fun h1 => ?_) (fun h1 => ?_)
 ·rw [h1]; exact M.ret (.tup [I 0, .sb false]) (by kernel_rfl) rfl
 rw [h1, cond_false]
 refine M.ts (v.k == 4) (fun h2 => ?_) (fun h2 => ?_)
 ·rw [h2, cond_true]
  refine M.cl (gobj_spec w hs v.n) ?_
  exact M.ret (.tup [I v.n, .sb (objT w v.n).2]) (by kernel_rfl) rfl
 rw [h2, cond_false]
 refine M.ts (v.k == 3) (fun h3 => ?_) (fun h3 => ?_)
 ·rw [h3]; exact M.ret (.tup [I 6, .sb true]) (by kernel_rfl) rfl
 ·rw [h3]; exact M.ret (.tup [I 5, .sb true]) (by kernel_rfl) rfl
theorem gstW_of {w : Wd} {v : Vl} (h : valueC v = 0) : (gstW w v).1 = startF v := by
 unfold gstW startF
 rw [h]
 show (bif v.k == 4 then _ else _ : Int × Bool).1 = _
 by_cases h4 : v.k = 4
 ·simp [h4]
 ·rw [if_neg h4, show (v.k == 4) = false by simp [h4], cond_false]
  by_cases h3 : v.k = 3
  ·simp [h3]
  ·rw [if_neg h3, show (v.k == 3) = false by simp [h3], cond_false]
theorem yA_cons (sel : List UInt8) (s : Sl) (t : List Sl) (i : Nat) : yA sel (s :: t) i = bif s.nm == sel then ((i : Int), false) :: yA sel t (i + 1) else yA sel t (i + 1) := rfl
theorem yB_cons (nm : List UInt8) (s : Sl) (t : List Sl) (i : Nat) : yB nm (s :: t) i = bif (bif s.nm == nm then assignB s else false) then ((i : Int), true) :: yB nm t (i + 1) else yB nm t (i + 1) := rfl
theorem yA_app (sel : List UInt8) : ∀ (l m : List Sl) (i : Nat), yA sel (l ++ m) i = yA sel l i ++ yA sel m (i + l.length)
 | [], m, i => rfl
 | s :: l, m, i => by
  show yA sel (s :: (l ++ m)) i = _
  rw [yA_cons, yA_cons, yA_app sel l m (i + 1), show i + 1 + l.length = i + (s :: l).length by simp; omega]
  cases s.nm == sel <;> rfl
theorem yB_app (nm : List UInt8) : ∀ (l m : List Sl) (i : Nat), yB nm (l ++ m) i = yB nm l i ++ yB nm m (i + l.length)
 | [], m, i => rfl
 | s :: l, m, i => by
  show yB nm (s :: (l ++ m)) i = _
  rw [yB_cons, yB_cons, yB_app nm l m (i + 1), show i + 1 + l.length = i + (s :: l).length by simp; omega]
  cases (bif s.nm == nm then assignB s else false) <;> rfl
theorem take_snoc {α : Type} [Inhabited α] {l : List α} {i : Nat} (h : i < l.length) : l.take (i + 1) = l.take i ++ [l.getD (i : Int).toNat default] /\ l = l.take i ++ l.getD (i : Int).toNat default :: l.drop (i + 1) := by
 have e : l.getD (i : Int).toNat default = l[i] := by simp [List.getD_eq_getElem?_getD, h]
 rw [e]
 exact ⟨List.take_succ_eq_append_getElem h, by rw [<- List.drop_eq_getElem_cons h, List.take_append_drop]⟩
theorem at_mid {α : Type} [Inhabited α] {A B M : List α} {x : α} (h : M = A ++ x :: B) : A.length < M.length /\ M.getD A.length default = x := by
 subst h
 exact ⟨by simp, by simp [List.getD_eq_getElem?_getD]⟩
theorem yA_at {sel : List UInt8} {l : List Sl} {i : Nat} (h : i < l.length) (hp : ((l.getD (i : Int).toNat default).nm == sel) = true) : (yA sel l 0 = yA sel (l.take i) 0 ++ ((i : Int), false) :: yA sel (l.drop (i + 1)) (i + 1)) /\ (yA sel (l.take (i + 1)) 0).length = (yA sel (l.take i) 0).length + 1 := by
 obtain ⟨h1, h2⟩ := take_snoc h
 have hl : (l.take i).length = i := by simp; omega
 constructor
 ·conv => lhs; rw [h2]
  rw [yA_app, hl, Nat.zero_add]
  rw [yA_cons, hp]; rfl
 ·rw [h1, yA_app, hl, List.length_append]
  rw [yA_cons, hp]; rfl
theorem yA_no {sel : List UInt8} {l : List Sl} {i : Nat} (h : i < l.length) (hp : ((l.getD (i : Int).toNat default).nm == sel) = false) : yA sel (l.take (i + 1)) 0 = yA sel (l.take i) 0 := by
 obtain ⟨h1, h2⟩ := take_snoc h
 rw [h1, yA_app]
 rw [yA_cons, hp]
 show _ ++ [] = _
 rw [List.append_nil]
theorem yB_at {nm : List UInt8} {l : List Sl} {i : Nat} (h : i < l.length) (hp : (bif (l.getD (i : Int).toNat default).nm == nm then assignB (l.getD (i : Int).toNat default) else false) = true) : (yB nm l 0 = yB nm (l.take i) 0 ++ ((i : Int), true) :: yB nm (l.drop (i + 1)) (i + 1)) /\ (yB nm (l.take (i + 1)) 0).length = (yB nm (l.take i) 0).length + 1 := by
 obtain ⟨h1, h2⟩ := take_snoc h
 have hl : (l.take i).length = i := by simp; omega
 constructor
 ·conv => lhs; rw [h2]
  rw [yB_app, hl, Nat.zero_add]
  rw [yB_cons, hp]; rfl
 ·rw [h1, yB_app, hl, List.length_append]
  rw [yB_cons, hp]; rfl
theorem yB_no {nm : List UInt8} {l : List Sl} {i : Nat} (h : i < l.length) (hp : (bif (l.getD (i : Int).toNat default).nm == nm then assignB (l.getD (i : Int).toNat default) else false) = false) : yB nm (l.take (i + 1)) 0 = yB nm (l.take i) 0 := by
 obtain ⟨h1, h2⟩ := take_snoc h
 rw [h1, yB_app]
 rw [yB_cons, hp]
 show _ ++ [] = _
 rw [List.append_nil]
abbrev mxs (l : List Sl) (sel : List UInt8) (i : Nat) : List PV := [I ((mL l sel).getD i default).1, .v (.bool ((mL l sel).getD i default).2)]
theorem matching_iter (o : Ob) (sel : List UInt8) (hl : o.sl.length <= 1000000) (hs : sel.length <= 1000000000) : Iter Tryz.prog 156 [.ptr o.pv, .ptr [S sel]] (mL o.sl sel).length (mxs o.sl sel) none := by
 refine Iter.start (by kernel_rfl) Tryz.func156 rfl rfl fun y J X w0 L hY hJ => ?_
 refine M.loopW (ι := {i : Nat // i <= o.sl.length}) (fun i => [(0, yV y), (1, .ptr o.pv), (2, .ptr [S sel]), (11, row 5 Sl.pv o.sl), (12, I o.sl.length), (13, I i.1)]) (fun i => []) (fun i => o.sl.length - i.1) (fun i w0 L => Itb (J (yA sel (o.sl.take i.1) 0).length) w0)
  ⟨0, Nat.zero_le _⟩ hJ [] (by kernel_rfl) trivial (by kernel_rfl) (by kernel_rfl) fun ⟨i, hi⟩ w0 L hJ ih => ?_
 simp only at hJ
 refine M.ts (decide ((i : Int) < (o.sl.length : Int))) (fun h1 => ?_) (fun h1 => ?_)
 ·have hlt : i < o.sl.length := by simpa using h1
  refine M.testp [0 <= (i : Int) /\ (i : Int) < (o.sl.length : Int)] ((o.sl.getD (i : Int).toNat default).nm == sel) (by kernel_rfl) ⟨by omega, trivial⟩ (fun h2 => ?_) (fun h2 => ?_)
  ·obtain ⟨a1, a2⟩ := yA_at hlt h2
   obtain ⟨a3, a4⟩ := at_mid (A := yA sel (o.sl.take i) 0) (B := yA sel (o.sl.drop (i + 1)) (i + 1) ++ (bif (cutC sel).2 then yB (cutC sel).1 o.sl 0 else [])) (M := mL o.sl sel) (x := ((i : Int), false)) (by unfold mL; rw [a1]; simp)
   refine M.yield (i := (yA sel (o.sl.take i) 0).length) [] hY a3 hJ (Eq.trans (b := some (y, [], [I i, .v (.bool false)])) (by kernel_rfl) (by unfold mxs; rw [a4])) trivial rfl (fun w1 L1 hJ1 => ?_) (fun w1 L1 hJ1 => ?_)
   ·refine M.rn [In64 ((i : Int) + 1)] [] hJ1.stay ⟨⟨by omega, by omega⟩, trivial⟩ fun L' => ?_
    rw [<- a2] at hJ1
    exact M.bk [] (ih ⟨i + 1, hlt⟩ w1 L' (by show o.sl.length - (i + 1) < o.sl.length - i; omega) hJ1) trivial
   ·exact M.retX (r := .tup []) [] hY hJ1 (by kernel_rfl) trivial
  ·rw [<- yA_no hlt h2] at hJ
   refine M.rn [In64 ((i : Int) + 1)] [] hJ.stay ⟨⟨by omega, by omega⟩, trivial⟩ fun L' => ?_
   exact M.bk [] (ih ⟨i + 1, hlt⟩ w0 L' (by show o.sl.length - (i + 1) < o.sl.length - i; omega) hJ) trivial
 ·have : i = o.sl.length := by have := of_decide_eq_false h1; omega
  subst this
  rw [List.take_length] at hJ
  refine M.cl (cut_spec sel hs) ?_
  refine M.ts (!(cutC sel).2) (fun h2 => ?_) (fun h2 => ?_)
  ·have e : (mL o.sl sel).length = (yA sel o.sl 0).length := by
    have : (cutC sel).2 = false := by simpa using h2
    unfold mL; rw [this]; simp
   rw [<- e] at hJ
   exact M.retJ (r := .tup []) [] hY hJ (by kernel_rfl) trivial
  have hc : (cutC sel).2 = true := by simpa using h2
  have hm : mL o.sl sel = yA sel o.sl 0 ++ yB (cutC sel).1 o.sl 0 := by unfold mL; rw [hc]; rfl
  refine M.loopW (ι := {i : Nat // i <= o.sl.length}) (fun i => [(0, yV y), (6, S (cutC sel).1), (37, row 5 Sl.pv o.sl), (38, I o.sl.length), (39, I i.1)]) (fun i => []) (fun i => o.sl.length - i.1) (fun i w0 L => Itb (J ((yA sel o.sl 0).length + (yB (cutC sel).1 (o.sl.take i.1) 0).length)) w0)
   ⟨0, Nat.zero_le _⟩ hJ [] (by kernel_rfl) trivial (by kernel_rfl) (by kernel_rfl) fun ⟨i, hi⟩ w0 L hJ ih => ?_
  simp only at hJ
  refine M.ts (decide ((i : Int) < (o.sl.length : Int))) (fun h1 => ?_) (fun h1 => ?_)
  ·have hlt : i < o.sl.length := by simpa using h1
   have no : (bif (o.sl.getD (i : Int).toNat default).nm == (cutC sel).1 then assignB (o.sl.getD (i : Int).toNat default) else false) = false -> Itb (J ((yA sel o.sl 0).length + (yB (cutC sel).1 (o.sl.take (i + 1)) 0).length)) w0 := fun h => by rw [yB_no hlt h]; exact hJ
   refine M.testp [0 <= (i : Int) /\ (i : Int) < (o.sl.length : Int)] ((o.sl.getD (i : Int).toNat default).nm == (cutC sel).1) (by kernel_rfl) ⟨by omega, trivial⟩ (fun h2 => ?_) (fun h2 => ?_)
   ·refine M.cl (assigns_spec (o.sl.getD (i : Int).toNat default)) ?_
    refine M.ts (assignB (o.sl.getD (i : Int).toNat default)) (fun h3 => ?_) (fun h3 => ?_)
    ·obtain ⟨a1, a2⟩ := yB_at hlt (nm := (cutC sel).1) (by rw [h2]; exact h3)
     obtain ⟨a3, a4⟩ := at_mid (A := yA sel o.sl 0 ++ yB (cutC sel).1 (o.sl.take i) 0) (B := yB (cutC sel).1 (o.sl.drop (i + 1)) (i + 1)) (M := mL o.sl sel) (x := ((i : Int), true)) (by rw [hm, a1]; simp)
     rw [List.length_append] at a3 a4
     refine M.yield (i := (yA sel o.sl 0).length + (yB (cutC sel).1 (o.sl.take i) 0).length) [] hY a3 hJ (Eq.trans (b := some (y, [], [I i, .v (.bool true)])) (by kernel_rfl) (by unfold mxs; rw [a4])) trivial rfl (fun w1 L1 hJ1 => ?_) (fun w1 L1 hJ1 => ?_)
     ·refine M.rn [In64 ((i : Int) + 1)] [] hJ1.stay ⟨⟨by omega, by omega⟩, trivial⟩ fun L' => ?_
      rw [Nat.add_assoc, <- a2] at hJ1
      exact M.bk [] (ih ⟨i + 1, hlt⟩ w1 L' (by show o.sl.length - (i + 1) < o.sl.length - i; omega) hJ1) trivial
     ·exact M.retX (r := .tup []) [] hY hJ1 (by kernel_rfl) trivial
    ·have hJ1 := no (by rw [h2]; exact h3)
     refine M.rn [In64 ((i : Int) + 1)] [] hJ1.stay ⟨⟨by omega, by omega⟩, trivial⟩ fun L' => ?_
     exact M.bk [] (ih ⟨i + 1, hlt⟩ w0 L' (by show o.sl.length - (i + 1) < o.sl.length - i; omega) hJ1) trivial
   ·have hJ1 := no (by rw [h2]; rfl)
    refine M.rn [In64 ((i : Int) + 1)] [] hJ1.stay ⟨⟨by omega, by omega⟩, trivial⟩ fun L' => ?_
    exact M.bk [] (ih ⟨i + 1, hlt⟩ w0 L' (by show o.sl.length - (i + 1) < o.sl.length - i; omega) hJ1) trivial
  ·have : i = o.sl.length := by have := of_decide_eq_false h1; omega
   subst this
   rw [List.take_length, <- List.length_append, <- hm] at hJ
   exact M.retJ (r := .tup []) [] hY hJ (by kernel_rfl) trivial
theorem matching_spec (o : Ob) (sel : List UInt8) : Spec Tryz.prog 119 [.agg o.pv, S sel] (.fn 156 [.ptr o.pv, .ptr [S sel]]) := by
 refine Spec.start (by kernel_rfl) Tryz.func119 rfl rfl fun w0 L => ?_
 exact M.ret (.fn 156 [.ptr o.pv, .ptr [S sel]]) (by kernel_rfl) rfl
def mtL (l : List Sl) (sel : List UInt8) : Int × Bool × Bool := match (mL l sel).head? with | some x => (x.1, x.2, true) | none => (0, false, false)
theorem mtL_eq (l : List Sl) (sel : List UInt8) : mtL l sel = bif decide ((matchF l sel).1 >= 0) then ((matchF l sel).1, (matchF l sel).2, true) else (0, false, false) := by
 unfold mtL
 rw [mL_head]
 cases decide ((matchF l sel).1 >= 0) <;> rfl
theorem lmatch_spec (o : Ob) (sel : List UInt8) (hl : o.sl.length <= 1000000) (hs : sel.length <= 1000000000) : Spec Tryz.prog 76 [.agg o.pv, S sel] (.tup [I (mtL o.sl sel).1, .sb (mtL o.sl sel).2.1, .sb (mtL o.sl sel).2.2]) := by
 refine Spec.startR (by kernel_rfl) Tryz.func76 rfl rfl fun w0 L hst hro hmk => ?_
 refine M.cl (matching_spec o sel) ?_
 refine M.rangeF (ι := Unit) (ζ := {p : Int × Bool // (mL o.sl sel).head? = some p}) (fun _ => [o.pv, [I 0], [.v (.bool false)], [.v (.bool false)]]) (fun _ => 0) ()
  (fun z => [o.pv, [I z.1.1], [.v (.bool z.1.2)], [.v (.bool true)]]) (fun _ => .ret) [(4, .ref 1 0), (5, .ref 2 0), (6, .ref 3 0)] 4 (matching_iter o sel hl hs) []
  (fun _ => (8, .v (.bool ((mL o.sl sel).getD 0 default).2)) :: (7, I ((mL o.sl sel).getD 0 default).1) :: (13, .v (.bool ((mL o.sl sel).getD 0 default).2)) :: (12, I ((mL o.sl sel).getD 0 default).1) :: [(4, .ref 1 0), (5, .ref 2 0), (6, .ref 3 0)])
  (fun _ => [o.pv, [I 0], [.v (.bool false)], [.v (.bool false)]]) trivial rfl (by rw [hst]; exact Nat.zero_le _) hro hmk (fun x hx => nomatch hx)
  (by kernel_rfl) (by kernel_rfl) (by kernel_rfl) (by kernel_rfl) rfl (by kernel_rfl) (by kernel_rfl) (by kernel_rfl) (fun _ => rfl) (fun _ => by kernel_rfl) (by kernel_rfl) (fun _ => by kernel_rfl)
  (fun _ w2 L2 hlt hst2 => ?_) (fun _ L' _ hn => ?_) (fun _ v hf => nomatch hf) (fun ⟨z, hz⟩ L' => ?_)
 ·have hh : (mL o.sl sel).head? = some ((mL o.sl sel).getD 0 default) := by
   cases hm : mL o.sl sel with
   | nil => rw [hm] at hlt; exact absurd hlt (Nat.lt_irrefl _)
   | cons x t => rfl
  exact M.stoprF (ζ := {p : Int × Bool // (mL o.sl sel).head? = some p}) ⟨(mL o.sl sel).getD 0 default, hh⟩ [] (by kernel_rfl) trivial (by kernel_rfl) (by kernel_rfl) (by kernel_rfl)
 ·have e : mtL o.sl sel = (0, false, false) := by
   unfold mtL
   rw [List.length_eq_zero_iff.1 hn.symm]; rfl
  rw [e]
  exact M.ret (.tup [I 0, .sb false, .sb false]) (by kernel_rfl) rfl
 ·have e : mtL o.sl sel = (z.1, z.2, true) := by unfold mtL; rw [hz]
  rw [e]
  exact M.ret (.tup [I z.1, .sb z.2, .sb true]) (by kernel_rfl) rfl
abbrev grM (w : Wd) : List PV := [.mp (.int .i64) (.i .i64 (atN w.objs w.objs.length))]
theorem lopen_ok (w : Wd) (hw : w.Ok) (h : wcheckW w = 0) : SpecM Tryz.prog 72 0 [] [.agg w.pv] [chg w 1, grM w] (.tup [.ref 0 0, I 0]) := by
 have hl := hw.nobjs
 refine SpecM.start (by kernel_rfl) Tryz.func72 rfl rfl (Nat.zero_le _) fun w0 L hst => ?_
 refine M.cl (wcheck_spec w hw) ?_
 rw [h]
 refine M.n (b := (0 : Int) != 0) rfl ?_
 refine M.loopL (ι := {i : Nat // i <= w.objs.length}) (fun i => [(5, .ref 2 0), (18, row 6 Ob.pv w.objs), (19, I w.objs.length), (20, I i.1)]) (fun i => [w.pv, [.mp (.int .i64) (.i .i64 (atN w.objs i.1))], chg w 1]) (fun i => w.objs.length - i.1) ⟨0, Nat.zero_le _⟩ [] (by kernel_rfl) trivial (by kernel_rfl) (by kernel_rfl) fun ⟨i, hi⟩ L ih => ?_
 refine M.ts (decide ((i : Int) < (w.objs.length : Int))) (fun h1 => ?_) (fun h1 => ?_)
 ·have hlt : i < w.objs.length := by simpa using h1
  refine M.rn [0 <= (i : Int) /\ (i : Int) < (w.objs.length : Int), In64 ((i : Int) + 1)] [0, 1, 2] hst ⟨by omega, ⟨by omega, by omega⟩, trivial⟩ fun L' => ?_
  exact M.bk [] (ih ⟨i + 1, hlt⟩ L' (by show w.objs.length - (i + 1) < w.objs.length - i; omega)) trivial
 ·have : i = w.objs.length := by have := of_decide_eq_false h1; omega
  subst this
  exact M.retm [] [2, 1] hst rfl (by kernel_rfl) trivial rfl rfl
abbrev seen0 : List PV := [.mp (.int .i64) (.v fun _ => false)]
abbrev vis0 (w : Wd) (sel : List UInt8) : List PV := [.ptr (chgF w), S sel, .mr 1, nilS, nilS]
theorem SpecM.startN {P : Program} {fn : Func} {f : FuncId} {σ' : Sig} {args : List PV} {r : PV} {c : Code} (he : entersP P f = true) (hf : P.funcs[f]? = some fn) (hb : fn.body = some c) (hn : Nat.ble args.length fn.ntmps = true)
  (k : ∀ w0 L, w0.stay = 0 -> w0.own = [] -> M P fn w0 L (Qm P fn w0 σ' r) (startM args [] c)) : SpecM P f 0 [] args σ' r := by
 refine ⟨he, Nat.le_refl _, fun L β W vs hL hG hB hR => ?_⟩
 have hβ : β = [] := List.eq_nil_of_length_eq_zero hB.1
 subst hβ
 refine callsIn_wide.1 (callsIn_of_wp_marks (n := 0) hf hb trivial ?_ rfl)
 have h := (k ⟨W, [], 0, L, [], none, ghosts, true⟩ L rfl rfl).out [] (startA fn vs.toArray) W ⟨Near.refl _ _ _ _ _ _ _ _, fun g hg => .inl hg, hL, ⟨fun _ h => h, fun g hg => .inl hg⟩, ⟨rfl, Nat.le_refl _⟩, hB, args_Ev (Nat.le_of_ble_eq_true hn) hR, Nod.nil rfl, Gl.gho hG, fun g hg => .inl hg, fun q hq => hq⟩
 refine wpIn_mono h fun e a w hq => ?_
 have hq' : Qm P fn ⟨W, [], 0, L, [], none, ghosts, true⟩ σ' r e a w := by unfold wpK at hq; exact hq
 exact hq' rfl
theorem visitor_spec (w : Wd) (sel : List UInt8) : SpecM Tryz.prog 73 0 [] [.ptr (chgF w), S sel] [vis0 w sel, seen0] (.ref 0 0) := by
 refine SpecM.start (by kernel_rfl) Tryz.func73 rfl rfl (Nat.le_refl _) fun w0 L hst => ?_
 exact M.retm [] [1, 0] hst rfl (by kernel_rfl) trivial rfl rfl
theorem holder_ok (w : Wd) (hw : w.Ok) (n : Int) (sel : List UInt8) (h : wcheckW w = 0) (h2 : (objT w n).2 = true) (h3 : decide (carityP sel < 0) = false) : SpecM Tryz.prog 45 0 [] [.agg w.pv, I n, S sel] [vis0 w sel, seen0] (.tup [.ref 0 0, .agg (objT w n).1.pv, I 0]) := by
 refine SpecM.startN (by kernel_rfl) Tryz.func45 rfl rfl fun w0 L hst hown => ?_
 refine M.cm [] (lopen_ok w hw h) ?_
 refine M.n (b := (0 : Int) != 0) rfl ?_
 refine M.frzF [] [] [2, 3] hown (by kernel_rfl) trivial (by kernel_rfl) (by kernel_rfl) (by kernel_rfl) trivial ?_
 refine M.cl (gobj_spec w (valid_sorted hw h).1 n) ?_
 refine M.n (b := !(objT w n).2) (by rw [h2]; rfl) ?_
 refine M.cl (carity_spec sel) ?_
 refine M.n (b := decide (carityP sel < 0)) h3 ?_
 refine M.cm [] (visitor_spec w sel) ?_
 exact M.retm [] [5, 6] hst rfl (by kernel_rfl) trivial rfl rfl
abbrev htV (x : Fo) : List PV := [I x.holder, I x.slot, .sb x.set, .o .any]
theorem os_o {β : List (Option Nat)} {L : List Nat} {W : World} {u : Value} {e : TypeId} {i k n : Nat} (h : R β L W (.os e i k n) u) : R β L W (.o .any) u := by
 rw [R] at h
 rw [R]
 refine ⟨?_, by rw [R]; trivial⟩
 rcases h with ⟨g, c, _, e, _⟩ | ⟨_, _, a, e⟩
 ·rw [e]; rfl
 ·rw [e]; rfl
abbrev metS (l : List Int) : List PV := [.rws 1 l.length (fun j => [I (l.getD j default)])]
abbrev hitS (O : List Fo) : List PV := [.rws 4 O.length (fun j => htV (O.getD j default))]
abbrev visV (w : Wd) (sel : List UInt8) (m h : Nat) : List PV := [.ptr (chgF w), S sel, .mr 1, .os 3 2 1 m, .os 154 3 4 h]
abbrev visS (w : Wd) (sel : List UInt8) (s : StL) : Sig := [visV w sel s.2.1.length s.2.2.length, [.mp (.int .i64) (.v s.1)], metS s.2.1, hitS s.2.2]
structure LkW (w : Wd) (U : List Int) : Prop where
 ok : w.Ok
 so : Sorted w
 clo : Clo w U
 val : ∀ n ∈ U, ∀ v ∈ parL (objT w n).1.sl, valueC v = 0 /\ In64 v.n
def LVisC (w : Wd) (sel : List UInt8) (U : List Int) (f : Nat) : Prop := ∀ (s : StL) (n : Int) (k : Nat), n ∈ U -> unseenL U s.1 < f -> RoomL U s -> 0 < k -> k + f <= 1000000 -> SpecM Tryz.prog 31 2 (visS w sel s ++ [pth k]) [.ref 0 0, I n, .os 3 4 1 k] (visS w sel (visL w sel f s n) ++ [pth k]) (.tup [])
def LUpC (w : Wd) (sel : List UInt8) (U : List Int) (f : Nat) : Prop := ∀ (s : StL) (o : Ob) (k : Nat), o.sl.length <= 1000000 -> (∀ v ∈ parL o.sl, startF v ∈ U /\ valueC v = 0 /\ In64 v.n) -> unseenL U s.1 < f -> RoomL U s -> 0 < k -> k + f + 1 <= 1000000 -> SpecM Tryz.prog 46 2 (visS w sel s ++ [pth k]) [.ref 0 0, .agg o.pv, .os 3 4 1 k] (visS w sel (upL w sel f (parL o.sl) s) ++ [pth k]) (.tup [])
theorem lvis_of_up {w : Wd} {sel : List UInt8} {U : List Int} (hU : LkW w U) (hsel : sel.length <= 1000000000) (f : Nat) (hup : LUpC w sel U f) : LVisC w sel U (f + 1) := by
 intro s n k hn hf hr hk hkf
 obtain ⟨sf, D, O⟩ := s
 have hr1 := hr.met
 have hr2 := hr.out
 simp only at hr1 hr2 hf
 unfold visL
 cases hs : sf (.i n) with
 | true =>
  simp only [hs, cond_true]
  refine SpecM.start (by kernel_rfl) Tryz.func31 rfl rfl (Nat.le_of_ble_eq_true rfl) fun w0 L hst => ?_
  refine M.cm [1] (put_spec sf n) ?_
  refine M.ys (b := !!sf (.i n)) (by rw [hs]; rfl) ?_
  exact M.retm [] [0, 1, 2, 3, 4] hst rfl (by kernel_rfl) trivial rfl rfl
 | false =>
  simp only [hs, cond_false]
  have hlt := unseenL_lt hn hs
  have hol := objT_len w hU.ok n
  refine SpecM.start (by kernel_rfl) Tryz.func31 rfl rfl (Nat.le_of_ble_eq_true rfl) fun w0 L hst => ?_
  refine M.cm [1] (put_spec sf n) ?_
  refine M.n (b := !!sf (.i n)) (by rw [hs]; rfl) ?_
  refine M.rn [D.length = D.length /\ 0 < 1 /\ D.length + 1 <= 9223372036854775807 /\ (D.length + 1) * 8 <= 140737488355328] [0, 1, 5, 3, 4] hst ⟨⟨rfl, by omega, by omega, by omega⟩, trivial⟩ fun L' => ?_
  refine M.sigT [] [visV w sel (D.length + 1) O.length, [.mp (.int .i64) (.v (updL sf n))], [.rws 1 (D.length + 1) (fun j => (joinEl (fun j => [I (D.getD j default)]) D.length (fun j => (([I n] : List PV).drop (j * 1)).take 1) j).map (renP (invF [0, 1, 5, 3, 4] 0) 7))], hitS O, pth k] (visS w sel (updL sf n, D ++ [n], O) ++ [pth k]) (by kernel_rfl) trivial (by kernel_rfl) (by kernel_rfl)
   (.cons (by rw [List.length_append]; exact .refl _) (.cons (.refl _) (.cons (app_snocT (k := 1) (f := fun x : Int => [I x]) D n (ds := [I n]) (g := renP (invF [0, 1, 5, 3, 4] 0) 7) rfl (fun x => rfl) fun β L W us h => h) (.cons (.refl _) (.cons (.refl _) .nil))))) ?_
  refine M.cl (gobj_spec w hU.so n) ?_
  refine M.cl (lmatch_spec (objT w n).1 sel hol hsel) ?_
  have hm := mtL_eq (objT w n).1.sl sel
  refine M.ts (mtL (objT w n).1.sl sel).2.2 (fun h1 => ?_) (fun h1 => ?_)
  ·have hd : decide ((matchF (objT w n).1.sl sel).1 >= 0) = true := by
    cases hd : decide ((matchF (objT w n).1.sl sel).1 >= 0) with
    | true => rfl
    | false => rw [hd] at hm; rw [hm] at h1; cases h1
   rw [hd, cond_true] at hm ⊢
   refine M.rn [1 <= 1 /\ O.length = O.length /\ 0 < 1 /\ O.length + 1 <= 9223372036854775807 /\ (O.length + 1) * 48 <= 140737488355328] [0, 1, 2, 7, 4] hst ⟨⟨Nat.le_refl _, rfl, by omega, by omega, by omega⟩, trivial⟩ fun L' => ?_
   refine M.sigT [] [visV w sel (D ++ [n]).length (O.length + 1), [.mp (.int .i64) (.v (updL sf n))], metS (D ++ [n]), [.rws 4 (O.length + 1) (fun j => (joinEl (fun j => htV (O.getD j default)) O.length (fun j => (([I n, I (mtL (objT w n).1.sl sel).1, .sb (mtL (objT w n).1.sl sel).2.1, .os 3 4 1 k] : List PV).drop (j * 4)).take 4) j).map (renP (invF [0, 1, 2, 7, 4] 0) 7))], pth k] (visS w sel (updL sf n, D ++ [n], O ++ [⟨n, (matchF (objT w n).1.sl sel).1, (matchF (objT w n).1.sl sel).2⟩]) ++ [pth k]) (by kernel_rfl) trivial (by kernel_rfl) (by kernel_rfl)
    (.cons (by simp only [List.length_append, List.length_cons, List.length_nil]; exact .refl _) (.cons (.refl _) (.cons (.refl _) (.cons (app_snocT (k := 4) (f := htV) O ⟨n, (matchF (objT w n).1.sl sel).1, (matchF (objT w n).1.sl sel).2⟩ (ds := [I n, I (mtL (objT w n).1.sl sel).1, .sb (mtL (objT w n).1.sl sel).2.1, .os 3 4 1 k]) (g := renP (invF [0, 1, 2, 7, 4] 0) 7) rfl (fun x => rfl) fun β L W us h => by
     rw [hm] at h
     obtain ⟨u0, us, rfl, h0, h⟩ := h.uncons
     obtain ⟨u1, us, rfl, h1, h⟩ := h.uncons
     obtain ⟨u2, us, rfl, h2, h⟩ := h.uncons
     obtain ⟨u3, us, rfl, h3, h⟩ := h.uncons
     exact .cons h0 (.cons h1 (.cons h2 (.cons (os_o h3) h)))) (.cons (.refl _) .nil))))) ?_
   exact M.retm [] [0, 1, 2, 3, 4] hst rfl (by kernel_rfl) trivial rfl rfl
  ·have hd : decide ((matchF (objT w n).1.sl sel).1 >= 0) = false := by
    cases hd : decide ((matchF (objT w n).1.sl sel).1 >= 0) with
    | true => rw [hd] at hm; rw [hm] at h1; cases h1
    | false => rfl
   rw [hd, cond_false]
   refine M.cm [0, 1, 2, 3, 4] (hup (updL sf n, D ++ [n], O) (objT w n).1 k hol (fun v hv => ⟨hU.clo.clo n hn v hv, hU.val n hn v hv⟩) (by show unseenL U (updL sf n) < f; omega) ⟨by simp only [List.length_append, List.length_cons, List.length_nil]; omega, by simp only; omega⟩ hk (by omega)) ?_
   exact M.retm [] [0, 1, 6, 7, 8] hst rfl (by kernel_rfl) trivial rfl rfl
end Go.Proofs.YtplpnfjccemdnaaGreatDoor
