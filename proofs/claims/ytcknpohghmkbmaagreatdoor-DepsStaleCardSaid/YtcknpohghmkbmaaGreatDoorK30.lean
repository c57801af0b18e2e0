import Derived.Test.YtcknpohghmkbmaaGreatDoorK29
import Derived.Test.YtcknpohghmkbmaaGreatDoorK28
set_option linter.unusedVariables false
set_option linter.unusedSimpArgs false
/- The texts R4 D28 V37 V38 D29 D30 D31 D32 H1 D33 H2 H3 H4 D34 D35 D36 of the proof, laid one behind the other. -/
namespace Go.Proofs.YtcknpohghmkbmaaGreatDoor
open Go.ChangeShapes Go.WideShapes Go.ChangeAt Go.ChangeMaps Go.RowKit Go.Joins
theorem laidOut : laidOutB Tryz.prog = true := by kernel_rfl
section
variable {H : Type} {enc : TypeId × Value -> H} {P : Program} {W W' : World}
def rowedB (P : Program) (ts : List TypeId) : Bool := ts.all fun t => P.readableRec t && decide (t < P.types.size)
theorem rowed_of {ts : List TypeId} (h : rowedB P ts = true) : ∀ t ∈ ts, P.readableRec t = true /\ t < P.types.size := fun t ht => by
 have := List.all_eq_true.1 h t ht
 simpa using this
theorem below_trodAll (hl : laidOutB P = true) : ∀ {ts : List TypeId} {vs : List Value} {ds : List (DataW H)} {ps : List MemPlace}, DataW.TrodAll enc P W 0 (fun _ => true) true ts vs ds ps -> (∀ t ∈ ts, P.readableRec t = true /\ t < P.types.size) -> Below W.heap.size W W' ->
  DataW.TrodAll enc P W' 0 (fun b => decide (b < W.heap.size)) true ts vs ds ps
 | [], vs, ds, ps, h, _, _ => by
  obtain ⟨rfl, rfl, rfl⟩ := trodAll_nil h
  exact trodAll_mk0
 | t :: ts, vs, ds, ps, h, hr, hb => by
  have hlt := DataW.TrodAll.lt h
  obtain ⟨v, vs', d, ds', p, q, rfl, rfl, rfl, h1, h2⟩ := trodAll_cons h
  have ht := hr t (List.mem_cons_self ..)
  exact trodAll_cons_mk (Below.trod hl ht.1 ht.2 h1 hb fun x hx => hlt x (List.mem_append_left _ hx)) (below_trodAll hl h2 (fun t' h' => hr t' (List.mem_cons_of_mem _ h')) hb)
theorem sized_at {ts us : List TypeId} {ds gs : List (DataW H)} (h : (DataW.weightsEach P (ts ++ us) (ds ++ gs)).all (· <= reachBytes) = true) {j : Nat} {t : TypeId} {d : DataW H} (ht : (ts ++ us)[j]? = some t) (hd : (ds ++ gs)[j]? = some d) : (d.weights P t).all (· <= reachBytes) = true :=
 List.all_eq_true.2 fun n hn => List.all_eq_true.1 h n (DataW.weights_mem_each ht hd n hn)
theorem arg_struct {T : TypeId} {fs : Array Field} {α : Type} {k : Nat} {f : α -> List PV} {B : α -> Prop} {r : Reach} {b0 : Nat} {v : Value} {d : DataW H} {p : List MemPlace} {sp : Nat -> Bool} {held : Bool} (ho : OpenT P T k f B) (ht : P.underlying T = some (.struct fs))
  (hv : Value.okWide P W r b0 T v) (h : DataW.Trod enc P W 0 sp held T v d p) (hw : (d.weights P T).all (· <= reachBytes) = true) : ∃ a, R [] [] W (.agg (f a)) v /\ B a := by
 obtain ⟨cs, rfl, _⟩ := okWide_struct ht hv
 obtain ⟨fuel, hf⟩ := h
 obtain ⟨a, _, h2, h3, h4⟩ := ho.2 H enc W sp held fuel cs.toList (d, p) (by simpa [Value.cells] using hf) hw
 exact ⟨a, by rw [R]; exact ⟨cs.toList, by simp, h2, h3⟩, h4⟩
theorem arg_one {T : TypeId} {α : Type} {f : α -> PV} {B : α -> Prop} {v : Value} {d : DataW H} {p : List MemPlace} {sp : Nat -> Bool} {held : Bool} (ho : OpenT P T 1 (fun a => [f a]) B) (hc : v.cells.toList = [v])
  (h : DataW.Trod enc P W 0 sp held T v d p) (hw : (d.weights P T).all (· <= reachBytes) = true) : ∃ a, R [] [] W (f a) v /\ B a := by
 obtain ⟨fuel, hf⟩ := h
 rw [hc] at hf
 obtain ⟨a, _, _, h3, h4⟩ := ho.2 H enc W sp held fuel [v] (d, p) hf hw
 obtain ⟨u, us, e, q, _⟩ := h3.uncons
 cases e
 exact ⟨a, q, h4⟩
theorem arg_slice {T e : TypeId} {α : Type} {f : α -> PV} {B : α -> Prop} {r : Reach} {b0 : Nat} {v : Value} {d : DataW H} {p : List MemPlace} {sp : Nat -> Bool} {held : Bool} (ho : OpenT P T 1 (fun a => [f a]) B) (ht : P.underlying T = some (.slice e))
  (hv : Value.okWide P W r b0 T v) (h : DataW.Trod enc P W 0 sp held T v d p) (hw : (d.weights P T).all (· <= reachBytes) = true) : ∃ a, R [] [] W (f a) v /\ B a := by
 obtain ⟨a, len, cap, rfl⟩ := okWide_slice ht hv
 exact arg_one ho rfl h hw
end
section
variable {H : Type} {enc : TypeId × Value -> H} {W : World}
set_option maxRecDepth 100000 in
theorem arg_int {r : Reach} {b0 : Nat} {v : Value} {d : DataW H} {p : List MemPlace} {sp : Nat -> Bool} {held : Bool} (ht : Tryz.prog.underlying 3 = some (.int .i64)) (hv : Value.okWide Tryz.prog W r b0 3 v) (h : DataW.Trod enc Tryz.prog W 0 sp held 3 v d p) (hw : (d.weights Tryz.prog 3).all (· <= reachBytes) = true) : ∃ n : Int, R [] [] W (I n) v /\ In64 n := by
 obtain ⟨n, rfl⟩ := okWide_int ht hv
 exact arg_one intO rfl h hw
set_option maxRecDepth 100000 in
theorem arg_str {r : Reach} {b0 : Nat} {v : Value} {d : DataW H} {p : List MemPlace} {sp : Nat -> Bool} {held : Bool} (ht : Tryz.prog.underlying 9 = some .string) (hv : Value.okWide Tryz.prog W r b0 9 v) (h : DataW.Trod enc Tryz.prog W 0 sp held 9 v d p) (hw : (d.weights Tryz.prog 9).all (· <= reachBytes) = true) : ∃ s : List UInt8, R [] [] W (S s) v /\ s.length <= Big47 := by
 obtain ⟨n, rfl⟩ := okWide_string ht hv
 exact arg_one strO rfl h hw
end
theorem bulk_of {w : Wd} (h : w.B) : Bulk w := by
 obtain ⟨⟨h1, o⟩, ⟨h2, a⟩, ⟨h3, c⟩, _⟩ := h
 exact ⟨h1, h2, h3, fun x hx => ⟨(o x hx).2.2.1.1, (o x hx).2.2.2.1.1⟩, fun x hx => (a x hx).2.2.2.2.2.1.1, fun x hx => ⟨(c x hx).2.2.2.2.1.1, (c x hx).2.2.2.2.2.1.1, (c x hx).2.2.2.2.2.2.1.1, (c x hx).2.2.2.2.2.2.2.1.1, (c x hx).2.2.2.2.2.2.2.2.1.1⟩⟩
theorem sumTo_mem {α : Type} {b : Int} {f : α -> Int} (hf : ∀ x, 0 <= f x) : ∀ (l : List α) (n : Int), sumTo b f l n <= b -> n <= b /\ (0 <= n -> ∀ x ∈ l, f x <= b)
 | [], n, h => ⟨h, fun _ x hx => by cases hx⟩
 | y :: t, n, h => by
  rw [sumTo] at h
  cases hd : decide (n <= b) with
  | false => rw [hd] at h; exact absurd h (of_decide_eq_false hd)
  | true =>
   rw [hd, cond_true] at h
   obtain ⟨h1, h2⟩ := sumTo_mem hf t _ h
   have hy := hf y
   refine ⟨of_decide_eq_true hd, fun h0 x hx => ?_⟩
   rcases List.mem_cons.1 hx with rfl | hx
   ·omega
   ·exact h2 (by omega) x hx
theorem sumTo_pos {α : Type} {b : Int} {f : α -> Int} (hf : ∀ x, 0 <= f x) : ∀ (l : List α) (n : Int), 0 <= n -> 0 <= sumTo b f l n
 | [], n, h => h
 | y :: t, n, h => by
  rw [sumTo]
  cases decide (n <= b)
  ·exact h
  ·exact sumTo_pos hf t _ (by have := hf y; omega)
theorem obN_pos (x : Ob) : 0 <= obN x := by unfold obN; omega
theorem acN_pos (x : Ac) : 0 <= acN x := by unfold acN; omega
theorem cdN_pos (x : Cd) : 1 <= cdN x := by unfold cdN; omega
theorem small_of {w : Wd} (hs : smallT w = true) : (w.objs.length : Int) + w.acts.length <= 1200 /\ (∀ x ∈ w.objs, obN x <= 1200) /\ (∀ x ∈ w.acts, acN x <= 1200) /\ ∀ x ∈ w.cds, cdN x <= 1200 := by
 have h := of_decide_eq_true hs
 unfold smallN at h
 have p0 : (0 : Int) <= (w.objs.length : Int) + w.acts.length := by omega
 have p1 := sumTo_pos (b := 1200) obN_pos w.objs _ p0
 have p2 := sumTo_pos (b := 1200) acN_pos w.acts _ p1
 obtain ⟨a1, a2⟩ := sumTo_mem (fun x => Int.le_trans (by decide) (cdN_pos x)) _ _ h
 obtain ⟨b1, b2⟩ := sumTo_mem acN_pos _ _ a1
 obtain ⟨c1, c2⟩ := sumTo_mem obN_pos _ _ b1
 exact ⟨c1, c2 p0, b2 p1, a2 p2⟩
theorem sumTo_count {α : Type} {b : Int} {f : α -> Int} (hf : ∀ x, 1 <= f x) : ∀ (l : List α) (n : Int), 0 <= n -> sumTo b f l n <= b -> n + l.length <= b
 | [], n, _, h => by
  have h' : n <= b := h
  show n + ((0 : Nat) : Int) <= b
  omega
 | y :: t, n, h0, h => by
  have h' := h
  rw [sumTo] at h
  cases hd : decide (n <= b) with
  | false => rw [hd] at h; exact absurd h (of_decide_eq_false hd)
  | true =>
   rw [hd, cond_true] at h
   have hy := hf y
   have := sumTo_count hf t _ (by omega) h
   simp only [List.length_cons]; omega
theorem ok_of_small {w : Wd} (hB : w.B) (hs : smallT w = true) : w.Ok := by
 obtain ⟨h0, h1, h2, h3⟩ := small_of hs
 obtain ⟨⟨_, o⟩, ⟨_, a⟩, ⟨_, c⟩, _⟩ := hB
 have hc : (w.cds.length : Int) <= 1200 := by
  have h := of_decide_eq_true hs
  unfold smallN at h
  have p0 : (0 : Int) <= (w.objs.length : Int) + w.acts.length := by omega
  have := sumTo_count cdN_pos _ _ (sumTo_pos acN_pos _ _ (sumTo_pos obN_pos _ _ p0)) h
  have p := sumTo_pos (b := 1200) acN_pos w.acts _ (sumTo_pos (b := 1200) obN_pos w.objs _ p0)
  omega
 refine ⟨fun x hx => ?_, fun x hx => ?_, fun x hx => ?_, by omega, by omega, by omega⟩
 ·have := h1 x hx; unfold obN at this
  exact ⟨fun s hs => ((o x hx).2.2.1.2 s hs).2.2.1.2.1, fun v hv => ((o x hx).2.2.2.1.2 v hv).2.1, by omega, by omega⟩
 ·have := h2 x hx; unfold acN at this
  exact ⟨(a x hx).2.2.1.2.1, fun v hv => ((a x hx).2.2.2.2.2.1.2 v hv).2.1, by omega⟩
 ·have := h3 x hx; unfold cdN at this
  exact ⟨fun v hv => ((c x hx).2.2.2.2.2.1.2 v hv).2.1, fun v hv => ((c x hx).2.2.2.2.2.2.1.2 v hv).2.1, by omega, by omega, by omega, by omega, by omega, fun i hi => ⟨((c x hx).2.2.2.2.2.2.2.2.1.2 i hi).2.1, ((c x hx).2.2.2.2.2.2.2.2.1.2 i hi).2.2.1, ((c x hx).2.2.2.2.2.2.2.2.1.2 i hi).2.2.2.1⟩⟩
section
variable {w0 : W0} {W : World} {L : List Nat} {β : List (Option Nat)} {N : Nat} {P : Program} {all : Array Oper} {ds : List (Nat × Option Nat)} {E0 E : Env} {σ0 σ : Sig} {Q : Exit -> Act -> World -> Prop} {a : Act}
end
section
variable {w0 : W0} {L : List Nat} {P : Program} {Q : Exit -> Act -> World -> Prop} {fn : Func} {c : Cfg}
end
def clrAt (P : Program) (N : Nat) (d : Cfg) : Option (List Prop × Cfg) :=
 match d.dr, d.todo with
 | none, .ops all (o1 :: o2 :: l) :: k =>
  match o1.op, o2.op, o1.dst with
  | .slice t x (some lo) none none, .call { callee := .builtin .clear, args, argTypes }, some d1 =>
   match args.toList, argTypes.toList with
   | [.tmp d2], [t2] =>
    match rowInfo P t, evA d.E x, optInt d.E (some lo), guardP all d.E o1, guardP all ((d1, .any) :: d.E) o2 with
    | some (_, kk, _, _), .os _ r k2 n, some (some i), some true, some true =>
     match d.σ[r]? with
     | some [.rws k3 m el] =>
      if d1 = d2 /\ t = t2 /\ kk = k2 /\ k2 = k3 /\ fitsD N (some d1) = true /\ fitsD N o2.dst = true then
       some ([0 <= i /\ i <= (n : Int) /\ n <= m /\ 0 < n], ⟨putE ((d1, .any) :: d.E) o2.dst .any, d.σ.set r [.rws k2 i.toNat el], .ops all l :: k, none⟩)
      else none
     | _ => none
    | _, _, _, _, _ => none
   | _, _ => none
  | _, _, _ => none
 | _, _ => none
section
variable {w0 : W0} {W : World} {L : List Nat} {β : List (Option Nat)} {N : Nat} {P : Program} {E : Env} {σ : Sig} {Q : Exit -> Act -> World -> Prop} {a : Act} {fn : Func} {c : Cfg}
theorem clear_run {t e : TypeId} {k bytes r n m i : Nat} {zs : List Value} {el : Nat -> List PV} {c g : Nat} {ty : TypeId} (hI : Inv w0 L β σ N E a W) (hri : rowInfo P t = some (e, k, bytes, zs)) (hσ : σ[r]? = some [.rws k m el]) (hg : β[r]? = some (some g)) (hin : i <= n) (hnm : n <= m) (hnc : n <= c) :
  ∃ v W', (Builtin.clear_ #[t] ty #[.slice (if c = i then some ⟨g, 0, none⟩ else (some (⟨g, 0, none⟩ : Addr)).map (·.add (i * k))) (n - i) (c - i)]).run P W = .ok v W' /\ Inv w0 L β (σ.set r [.rws k i el]) N E a W' := by
 obtain ⟨hu, hk0, hzl, hz1, inf, z, hi, hz, hsz, hbb, hzc⟩ := rowInfo_at hri
 obtain ⟨ty2, us, hheap, u1, ul, uw⟩ := rws_out (hI.bx.hold hσ hg)
 have hst : ∀ W0, W0 = W -> Inv w0 L β (σ.set r [.rws k i el]) N E a W := fun _ _ => by
  refine { hI with bx := ⟨by simp [hI.bx.1], fun i1 j1 g1 c1 d1 h1 h2 h3 h4 l1 l2 => ?_, hI.bx.2.2.1, fun i1 cs h1 => ?_⟩ }
  ·have key : ∀ (x : Nat) (y : List PV), (σ.set r [.rws k i el])[x]? = some y -> isDd y = false -> ∃ y', σ[x]? = some y' /\ isDd y' = false := fun x y hx hy => by
    rw [List.getElem?_set] at hx
    split at hx
    ·rename_i e; subst e; exact ⟨_, hσ, rfl⟩
    ·exact ⟨y, hx, hy⟩
   obtain ⟨c2, q1, q2⟩ := key _ _ h3 l1
   obtain ⟨d2, q3, q4⟩ := key _ _ h4 l2
   exact hI.bx.2.1 i1 j1 g1 c2 d2 h1 h2 q1 q3 q2 q4
  ·rw [List.getElem?_set] at h1
   split at h1
   ·rename_i e
    subst e
    split at h1
    ·cases h1
     exact ⟨some g, hg, .rws _ _ _ ty2 us hheap u1 (by have := Nat.mul_le_mul_right k (show i <= m by omega); omega) fun j hj => uw j (by omega)⟩
    ·cases h1
   ·exact hI.bx.2.2.2 i1 cs h1
 by_cases hz0 : n - i = 0
 ·refine ⟨.tuple #[], W, ?_, hst W rfl⟩
  ·rw [hz0]
   split <;> simp [Builtin.clear_, run_underlying hu, Sem.run_bind, Sem.run_pure]
 ·have hci : ¬ c = i := by omega
  rw [if_neg hci]
  have hlen : (Builtin.zeroCells z.cells (n - i)).toList.length = (n - i) * k := by
   unfold Builtin.zeroCells
   rw [hzc]
   simp [hzl, Nat.mul_comm]
  have hmul : i * k + (n - i) * k = n * k := by rw [<- Nat.add_mul]; congr 1; omega
  have hmul2 := Nat.mul_le_mul_right k hnm
  obtain ⟨W', hrun', hs, ho, hn, o1, o2, o3⟩ := storeCells_run (P := P) (g := g) (off := i * k) (Builtin.zeroCells z.cells (n - i)).toList 0 us W hheap (by rw [hlen]; omega) (grown_one hzc hz1)
  simp only [Nat.add_zero] at hn
  refine ⟨.tuple #[], W', ?_, hI.write (W' := W') (cs := [.rws k i el]) hσ rfl hg hs ho (by simp only [World.shape?, hn, hheap]; simp; rw [<- Array.length_toList, hlen]; omega) o1 o2 o3 fun mv => .rws _ _ _ ty2 _ hn (fun x hx => ?_) (by simp only [List.length_append, List.length_take]; omega) fun j hj => ?_⟩
  ·obtain ⟨q, hq⟩ : ∃ q, n - i = q + 1 := ⟨n - i - 1, by omega⟩
   simp only [Option.map_some, add_addr, Nat.zero_add]
   unfold Builtin.clear_
   simp only [List.getElem?_toArray, List.getElem?_cons_zero, Sem.run_bind, run_underlying hu, Result.andThen_ok]
   rw [hq] at hrun' ⊢
   have hzv : (zeroValue e).run P W = .ok z W := by
    unfold zeroValue typeInfo
    simp [hi, hz, program, Sem.run_bind, Sem.run_pure, Sem.run]
   simp only [Sem.run_bind, hzv, Result.andThen_ok, hrun', Sem.run_pure]
  ·simp only [List.mem_append] at hx
   rcases hx with hx | hx | hx
   ·exact u1 x (List.mem_of_mem_take hx)
   ·exact grown_one hzc hz1 x hx
   ·exact u1 x (List.mem_of_mem_drop hx)
  ·refine mv _ _ ?_
   have hw := uw j (by omega)
   have hjk : j * k + k <= i * k := by rw [<- Nat.succ_mul]; exact Nat.mul_le_mul_right _ hj
   have : ((us.take (i * k) ++ ((Builtin.zeroCells z.cells (n - i)).toList ++ us.drop (i * k + (Builtin.zeroCells z.cells (n - i)).toList.length))).drop (j * k)).take k = (us.drop (j * k)).take k := by
    apply List.ext_getElem?
    intro q
    simp only [List.getElem?_take, List.getElem?_drop]
    by_cases hq : q < k
    ·rw [if_pos hq, if_pos hq, List.getElem?_append_left (by rw [List.length_take]; omega), List.getElem?_take, if_pos (by omega)]
    ·rw [if_neg hq, if_neg hq]
   rw [this]
   exact hw
def clrC (P : Program) (fn : Func) (c : Cfg) : Cfg := match clrAt P fn.ntmps (stop P fn.ntmps c).2 with | some q => q.2 | none => c
theorem M.clear (ps qs : List Prop) (h : (stop P fn.ntmps c).1 = ps) (hp : All ps) (h3 : (clrAt P fn.ntmps (stop P fn.ntmps c).2).map (·.1) = some qs) (hq : All qs) (k : M P fn w0 L Q (clrC P fn c)) : M P fn w0 L Q c := by
 refine ⟨run_ok 3000 c (by rw [show (runC P fn.ntmps 3000 c).1 = ps from h]; exact hp) ?_⟩
 show OkF P fn w0 L Q (stop P fn.ntmps c).2
 have k := k.out
 unfold clrC at k
 obtain ⟨d, h2, k⟩ : ∃ d, clrAt P fn.ntmps (stop P fn.ntmps c).2 = some (qs, d) /\ OkF P fn w0 L Q d := by
  cases h4 : clrAt P fn.ntmps (stop P fn.ntmps c).2 with
  | none => rw [h4] at h3; cases h3
  | some q =>
   rw [h4] at h3 k
   simp only [Option.map_some, Option.some.injEq] at h3
   exact ⟨q.2, by rw [<- h3], k⟩
 clear h3
 generalize (stop P fn.ntmps c).2 = b at h2
 obtain ⟨E, σ, todo, dr⟩ := b
 unfold clrAt at h2
 simp only at h2
 split at h2
 case h_2 => cases h2
 rename_i all o1 o2 l kk
 split at h2
 case h_2 => cases h2
 rename_i t x lo args argTypes d1 e1 e2 ed1
 split at h2
 case h_2 => cases h2
 rename_i d2 t2 ha ht
 split at h2
 case h_2 => cases h2
 rename_i e kk2 bytes zs e' r k2 n i hri hx hlo hg1 hg2
 split at h2
 case h_2 => cases h2
 rename_i k3 m el hσ
 split at h2
 case isFalse => cases h2
 rename_i hc
 obtain ⟨rfl, rfl, rfl, rfl, hf1, hf2⟩ := hc
 simp only [Option.some.injEq, Prod.mk.injEq] at h2
 obtain ⟨rfl, rfl⟩ := h2
 obtain ⟨⟨h0, hin, hnm, hn0⟩, -⟩ := hq
 obtain rfl : args = #[.tmp d1] := by apply Array.ext'; simpa using ha
 obtain rfl : argTypes = #[t] := by apply Array.ext'; simpa using ht
 intro β a W hI
 show wpListIn (Fr w0.ro) 0 P all _ (o1 :: o2 :: l) a W
 have hxr := evA_R hI.ev x
 rw [hx, R] at hxr
 rcases hxr with ⟨g, cc, hb, ex, c1, c2, c3⟩ | ⟨_, hz, _⟩
 case inr => omega
 obtain ⟨hu, hk0, hzl, hz1, inf, z, hi, hz, hsz, hbb, hzc⟩ := rowInfo_at hri
 have hsize : szP P e = some kk2 := by unfold szP; rw [hi]; simp [hsz]
 have hbr := bounds_run (P := P) (isS := true) (optInt_R hI.ev hlo) (show OptV none none from rfl) c1 (by simp only [Option.getD_some, Option.getD_none]; omega) W
 simp only [Option.getD_some, Option.getD_none, Int.toNat_natCast] at hbr
 have hrun1 : (execOp a.eval o1).run P W = .ok (.value (.slice (if cc = i.toNat then some ⟨g, 0, none⟩ else (some (⟨g, 0, none⟩ : Addr)).map (·.add (i.toNat * kk2))) (n - i.toNat) (cc - i.toNat))) W := by
  unfold execOp
  rw [e1]
  simp only [Option.map_some, Option.map_none, ex]
  simp only [Option.map_some] at hbr
  unfold Instr.sliceAt
  simp only [Sem.run_bind, underlying_run hu, Result.andThen_ok]
  unfold Instr.slice
  simp only [Sem.run_bind, underlying_run hu, Result.andThen_ok, hbr, sizeOf_run' hsize, Sem.run_pure]
  rfl
 refine list_wp (by rw [e1]; rfl) (guard_wanted hI.ev hg1) ?_
 unfold Oper.wp
 rw [hrun1]
 show wpListIn (Fr w0.ro) 0 P all _ (o2 :: l) (a.put o1.dst _) W
 rw [ed1]
 have hI1 : Inv w0 L β σ fn.ntmps (putE E (some d1) .any) (a.put (some d1) (.slice (if cc = i.toNat then some ⟨g, 0, none⟩ else (some (⟨g, 0, none⟩ : Addr)).map (·.add (i.toNat * kk2))) (n - i.toNat) (cc - i.toNat))) W := { hI with ev := hI.ev.put (by rw [R]; trivial) hf1, nod := hI.nod.put _ _ }
 refine list_wp (by rw [e2]; rfl) (guard_wanted hI1.ev hg2) ?_
 have hd1 : d1 < a.tmps.size := by
  have h1 : a.tmps.size = fn.ntmps := hI.ev.1
  have h2 : d1 < fn.ntmps := by simpa [fitsD] using hf1
  rw [h1]; exact h2
 have hev : ∀ v, (a.put (some d1) v).eval (.tmp d1) = v := fun v => by
  simp [Act.put, Act.eval, hd1]
 obtain ⟨v, W', hrun2, hI2⟩ := clear_run (ty := o2.type) (c := cc) hI1 hri hσ hb (show i.toNat <= n by omega) hnm c1
 have hrun : (execOp (a.put (some d1) (.slice (if cc = i.toNat then some ⟨g, 0, none⟩ else (some (⟨g, 0, none⟩ : Addr)).map (·.add (i.toNat * kk2))) (n - i.toNat) (cc - i.toNat))).eval o2).run P W = .ok (.value v) W' := by
  unfold execOp
  simp only [e2, resolve, invoke, builtin, Sem.run_bind, Sem.run_pure, Result.andThen_ok, List.map_toArray, List.map_cons, List.map_nil, hev, hrun2]
 unfold Oper.wp
 rw [hrun]
 exact k β _ W' { hI2 with ev := hI2.ev.put (by rw [R]; trivial) hf2, nod := hI2.nod.put _ _ }
end
structure DelS (d : Sl -> Bool) (l : List Sl) (i j : Nat) (r : List Sl) : Prop where
 ij : i < j
 jn : j <= l.length
 len : r.length = l.length
 pre : r.take i = (l.take j).filter fun s => !d s
 post : r.drop j = l.drop j
theorem DelS.at {d : Sl -> Bool} {l r : List Sl} {i j : Nat} (h : DelS d l i j r) (hlt : j < l.length) : r.getD j default = l.getD j default := by
 have h1 := congrArg (fun x => x.getD 0 default) h.post
 simp only [List.getD_eq_getElem?_getD, List.getElem?_drop, Nat.add_zero] at h1
 simp only [List.getD_eq_getElem?_getD]; exact h1
theorem DelS.filt {d : Sl -> Bool} {l r : List Sl} {i j : Nat} (h : DelS d l i j r) (hlt : j < l.length) : (l.take (j + 1)).filter (fun s => !d s) = r.take i ++ (if d (l.getD j default) then [] else [l.getD j default]) := by
 rw [List.take_succ_eq_append_getElem hlt, List.filter_append, <- h.pre]
 congr 1
 have e : l.getD j default = l[j] := by rw [List.getD_eq_getElem?_getD, List.getElem?_eq_getElem hlt]; rfl
 rw [e]
 cases hd : d l[j] <;> simp [hd]
theorem DelS.drop1 {l r : List Sl} {j : Nat} (h : r.drop j = l.drop j) : r.drop (j + 1) = l.drop (j + 1) := by
 rw [<- List.drop_drop, <- List.drop_drop, h]
theorem DelS.keep {d : Sl -> Bool} {l r : List Sl} {i j : Nat} (h : DelS d l i j r) (hlt : j < l.length) (hd : d (r.getD j default) = false) : DelS d l (i + 1) (j + 1) (r.set i (r.getD j default)) where
 ij := by have := h.ij; omega
 jn := hlt
 len := by rw [List.length_set]; exact h.len
 pre := by
  have hi : i < r.length := by have := h.len; have := h.ij; omega
  have e := h.at hlt
  rw [e] at hd ⊢
  rw [h.filt hlt, hd, List.take_succ_eq_append_getElem (by rw [List.length_set]; exact hi), List.take_set, List.getElem_set_self]
  rw [List.set_eq_of_length_le (by rw [List.length_take]; omega)]
  rfl
 post := by
  rw [List.drop_set_of_lt (by have := h.ij; omega)]
  exact DelS.drop1 h.post
theorem DelS.skip {d : Sl -> Bool} {l r : List Sl} {i j : Nat} (h : DelS d l i j r) (hlt : j < l.length) (hd : d (r.getD j default) = true) : DelS d l i (j + 1) r where
 ij := by have := h.ij; omega
 jn := hlt
 len := h.len
 pre := by
  have e := h.at hlt
  rw [e] at hd
  rw [h.filt hlt, hd]; simp
 post := DelS.drop1 h.post
def newO (n : Int) : Ob := ⟨n, 1, [], [], 0, 0⟩
abbrev mkW (w : Wd) (n : Int) : Wd := { w with objs := w.objs ++ [newO n], nO := w.nO + 1 }
theorem incr_sorted : ∀ (l : List Int) (k m : Int), incr k l = some m -> (∀ x ∈ l, k < x /\ x <= m) /\ l.Pairwise (· < ·) /\ k <= m
 | [], k, m, h => by
  unfold incr at h; cases h
  exact ⟨fun x hx => by simp at hx, List.Pairwise.nil, Int.le_refl _⟩
 | n :: l, k, m, h => by
  unfold incr at h
  split at h
  ·cases h
  ·rename_i hn
   obtain ⟨h1, h2, h3⟩ := incr_sorted l n m h
   refine ⟨fun x hx => ?_, List.pairwise_cons.2 ⟨fun x hx => (h1 x hx).1, h2⟩, by omega⟩
   rcases List.mem_cons.1 hx with rfl | hx
   ·omega
   ·have := h1 x hx; omega
theorem bsch_split (c : Int -> Int) (len : Int) (hl : len <= 1000000000) (mono : ∀ a b, 0 <= a -> a <= b -> b < len -> c b < 0 -> c a < 0) : ∀ (n : Nat) (i j : Int), (j - i).toNat <= n -> 0 <= i -> i <= j -> j <= len ->
  (∀ k, 0 <= k -> k < i -> c k < 0) -> (∀ k, j <= k -> k < len -> ¬ c k < 0) -> (∀ k, 0 <= k -> k < bsch c n i j -> c k < 0) /\ ∀ k, bsch c n i j <= k -> k < len -> ¬ c k < 0
 | 0, i, j, hn, h0, hij, hj, ha, hb => by
  have : i = j := by omega
  subst this
  exact ⟨ha, hb⟩
 | n + 1, i, j, hn, h0, hij, hj, ha, hb => by
  unfold bsch
  split
  ·rename_i hlt
   obtain ⟨h1, h2⟩ := half_at h0 hlt (by omega)
   split
   ·rename_i hc
    exact bsch_split c len hl mono n (half i j + 1) j (by omega) (by omega) (by omega) hj (fun k hk hk2 => mono k (half i j) hk (by omega) (by omega) hc) hb
   ·rename_i hc
    exact bsch_split c len hl mono n i (half i j) (by omega) h0 h1 (by omega) ha (fun k hk hk2 h => hc (mono (half i j) k (by omega) hk hk2 h))
  ·exact ⟨ha, fun k hk => hb k (by omega)⟩
def Sorted (w : Wd) : Prop := (w.objs.map (·.oid)).Pairwise (· < ·) /\ w.objs.length <= 1000000000
theorem valid_sorted {w : Wd} (hw : w.Ok) (h : wcheckW w = 0) : Sorted w /\ ∀ o ∈ w.objs, 0 < o.oid /\ o.oid < w.nO := by
 unfold wcheckW at h
 have hv : validW w = true := by
  cases hx : validW w with
  | true => rfl
  | false => rw [hx] at h; exact absurd h (by decide)
 unfold validW at hv
 cases h1 : decide ((w.objs.length : Int) > 3000) with
 | true => rw [h1] at hv; cases hv
 | false =>
 rw [h1, cond_false] at hv
 cases h2 : decide ((w.acts.length : Int) > 4000) with
 | true => rw [h2] at hv; cases hv
 | false =>
 rw [h2, cond_false] at hv
 cases h3 : numbB (w.objs.map (·.oid)) w.nO with
 | false => rw [h3] at hv; cases hv
 | true =>
 unfold numbB at h3
 split at h3
 ·rename_i m hm
  obtain ⟨q1, q2, q3⟩ := incr_sorted _ _ _ hm
  simp only [Bool.and_eq_true, decide_eq_true_eq] at h3
  exact ⟨⟨q2, hw.nobjs⟩, fun o ho => by have := q1 o.oid (List.mem_map.2 ⟨o, ho, rfl⟩); omega⟩
 ·cases h3
theorem sorted_lt {l : List Ob} (h : (l.map (·.oid)).Pairwise (· < ·)) {a b : Nat} (hab : a < b) (hb : b < l.length) : (l.getD a default).oid < (l.getD b default).oid := by
 rw [List.pairwise_map, List.pairwise_iff_getElem] at h
 have := h a b (by omega) hb hab
 rw [List.getD_eq_getElem?_getD, List.getD_eq_getElem?_getD, List.getElem?_eq_getElem (by omega), List.getElem?_eq_getElem hb]
 exact this
theorem cmpF_neg {x y : Int} : cmpF x y < 0 ↔ x < y := by unfold cmpF; split <;> (try split) <;> omega
theorem cmpF_zero {x y : Int} : cmpF x y = 0 ↔ x = y := by unfold cmpF; split <;> (try split) <;> omega
theorem objI_split {w : Wd} (h : Sorted w) (n : Int) : (∀ k : Int, 0 <= k -> k < objI w n -> (w.objs.getD k.toNat default).oid < n) /\ ∀ k : Int, objI w n <= k -> k < w.objs.length -> n <= (w.objs.getD k.toNat default).oid := by
 have hh := bsch_split (fun h => haObF (w.objs.getD h.toNat default) n) w.objs.length (by have := h.2; omega) (fun a b ha hab hb hc => by
  simp only [haObF] at hc ⊢
  rw [cmpF_neg] at hc ⊢
  by_cases e : a = b
  ·rw [e]; exact hc
  ·have := sorted_lt h.1 (a := a.toNat) (b := b.toNat) (by omega) (by omega); omega) w.objs.length 0 w.objs.length (by omega) (by omega) (by omega) (by omega) (fun k h1 h2 => by omega) (fun k h1 h2 => by omega)
 refine ⟨fun k h1 h2 => ?_, fun k h1 h2 => ?_⟩
 ·have := hh.1 k h1 h2
  simp only [haObF, cmpF_neg] at this; exact this
 ·have := hh.2 k h1 h2
  simp only [haObF, cmpF_neg] at this; omega
theorem objT_true {w : Wd} {n : Int} (hl : w.objs.length <= 1000000000) (h : objF w n = true) : (objT w n).1 ∈ w.objs /\ (objT w n).1.oid = n /\ (objT w n).2 = true := by
 have h0 := (objI_in w n hl).1
 unfold objT
 rw [h, cond_true]
 unfold objF at h
 simp only [Bool.and_eq_true, decide_eq_true_eq, beq_iff_eq] at h
 refine ⟨getD_mem (by omega), ?_, rfl⟩
 have := h.2
 unfold haObF at this
 exact cmpF_zero.1 this
theorem objF_of {w : Wd} (h : Sorted w) {o : Ob} (ho : o ∈ w.objs) : objF w o.oid = true /\ (objT w o.oid).1 = o := by
 obtain ⟨i, hi, he⟩ := List.mem_iff_getElem.1 ho
 obtain ⟨h1, h2⟩ := objI_split h o.oid
 have hin := objI_in w o.oid h.2
 have hgi : w.objs.getD i default = o := by rw [List.getD_eq_getElem?_getD, List.getElem?_eq_getElem hi]; exact he
 have e : objI w o.oid = i := by
  rcases Int.lt_trichotomy (objI w o.oid) i with hlt | heq | hgt
  ·have a1 := h2 (objI w o.oid) (Int.le_refl _) (by omega)
   have a2 := sorted_lt h.1 (a := (objI w o.oid).toNat) (b := i) (by omega) hi
   rw [hgi] at a2; omega
  ·exact heq
  ·have a1 := h1 i (by omega) hgt
   rw [show (i : Int).toNat = i by omega, hgi] at a1; omega
 have hf : objF w o.oid = true := by
  unfold objF
  rw [e]
  simp only [Bool.and_eq_true, decide_eq_true_eq, beq_iff_eq]
  refine ⟨by omega, ?_⟩
  rw [show (i : Int).toNat = i by omega, hgi]
  unfold haObF
  exact cmpF_zero.2 rfl
 refine ⟨hf, ?_⟩
 unfold objT
 rw [hf, cond_true, e, show (i : Int).toNat = i by omega]
 exact hgi
theorem objT_mem_of {w : Wd} (h : Sorted w) {o : Ob} (ho : o ∈ w.objs) : objT w o.oid = (o, true) := by
 obtain ⟨h1, h2⟩ := objF_of h ho
 exact Prod.ext h2 (objT_true h.2 h1).2.2
theorem objT_none {w : Wd} (hl : w.objs.length <= 1000000000) {n : Int} (h : ∀ o ∈ w.objs, o.oid ≠ n) : objT w n = (⟨0, 0, [], [], 0, 0⟩, false) := by
 cases hf : objF w n with
 | true => exact absurd (objT_true hl hf).2.1 (h _ (objT_true hl hf).1)
 | false => unfold objT; rw [hf]; rfl
theorem objT_same {w v : Wd} (hw : Sorted w) (hv : Sorted v) {n : Int} (h : ∀ o : Ob, o.oid = n -> (o ∈ w.objs ↔ o ∈ v.objs)) : objT v n = objT w n := by
 by_cases he : ∃ o ∈ w.objs, o.oid = n
 ·obtain ⟨o, ho, rfl⟩ := he
  rw [objT_mem_of hw ho, objT_mem_of hv ((h o rfl).1 ho)]
 ·rw [objT_none hw.2 fun o ho e => he ⟨o, ho, e⟩, objT_none hv.2 fun o ho e => he ⟨o, (h o e).2 ho, e⟩]
theorem objI_at {w : Wd} (h : Sorted w) {n : Int} (hf : objF w n = true) : (w.objs.getD (objI w n).toNat default).oid = n /\ (objI w n).toNat < w.objs.length := by
 have h0 := (objI_in w n h.2).1
 unfold objF at hf
 simp only [Bool.and_eq_true, decide_eq_true_eq, beq_iff_eq] at hf
 exact ⟨cmpF_zero.1 hf.2, by omega⟩
theorem set_mem {l : List Ob} (h : (l.map (·.oid)).Pairwise (· < ·)) {i : Nat} (hi : i < l.length) {x o : Ob} (hx : x.oid = (l.getD i default).oid) (ho : o.oid ≠ x.oid) : o ∈ l ↔ o ∈ l.set i x := by
 constructor
 ·intro hm
  obtain ⟨j, hj, he⟩ := List.mem_iff_getElem.1 hm
  have hne : i ≠ j := fun e => by
   subst e
   apply ho
   rw [hx, List.getD_eq_getElem?_getD, List.getElem?_eq_getElem hi, <- he]; rfl
  exact List.mem_iff_getElem.2 ⟨j, by rw [List.length_set]; exact hj, by rw [List.getElem_set_ne hne]; exact he⟩
 ·intro hm
  rcases List.mem_or_eq_of_mem_set hm with hm | hm
  ·exact hm
  ·exact absurd (by rw [hm]) ho
structure Appd (w v : Wd) (ch : Ch) : Prop where
 ok : v.Ok
 valid : wcheckW v = 0
 acts : v.acts = w.acts
 cds : v.cds = w.cds
 nA : v.nA = w.nA
 nms : ∀ o ∈ v.objs, ∀ s ∈ o.sl, (∃ x ∈ w.objs, ∃ t ∈ x.sl, s.nm = t.nm) \/ s.nm = ch.slot.nm
 objs : (∃ o : Ob, objF w ch.oid = true /\ o.oid = ch.oid /\ o.kd = (chO w ch).kd /\ o.el = (chO w ch).el /\ o.code = (chO w ch).code /\ o.up = (chO w ch).up /\ v = setW w (chI w ch) o) \/ (ch.oid = w.nO /\ v = mkW w ch.oid)
theorem Appd.mem {w v : Wd} {ch : Ch} (h : Appd w v ch) (hs : Sorted w) {o : Ob} (ho : o.oid ≠ ch.oid) : o ∈ w.objs ↔ o ∈ v.objs := by
 rcases h.objs with ⟨x, hf, hx, -, -, -, -, rfl⟩ | ⟨hn, rfl⟩
 ·exact set_mem hs.1 (objI_at hs hf).2 (by rw [hx]; exact ((objI_at hs hf).1).symm) (by rw [hx]; exact ho)
 ·show o ∈ w.objs ↔ o ∈ w.objs ++ [newO ch.oid]
  rw [List.mem_append]
  constructor
  ·exact .inl
  ·rintro (h | h)
   ·exact h
   ·rw [List.mem_singleton.1 h] at ho; exact absurd rfl ho
theorem Appd.objT {w v : Wd} {ch : Ch} (h : Appd w v ch) (hs : Sorted w) {n : Int} (hn : n ≠ ch.oid) : objT v n = objT w n :=
 objT_same hs (valid_sorted h.ok h.valid).1 fun o ho => h.mem hs (by rw [ho]; exact hn)
theorem Appd.holds {w v : Wd} {ch : Ch} (h : Appd w v ch) (hs : Sorted w) {x : Dp} (hn : x.oid ≠ ch.oid) : holdsT v x = holdsT w x := by
 unfold holdsT; rw [h.objT hs hn]
def Has (w : Wd) (n : Int) : Prop := ∃ o ∈ w.objs, o.oid = n
theorem Has.objT {w : Wd} (hs : Sorted w) {n : Int} (h : Has w n) : (objT w n).2 = true /\ (objT w n).1 ∈ w.objs /\ (objT w n).1.oid = n := by
 obtain ⟨o, ho, rfl⟩ := h
 rw [objT_mem_of hs ho]
 exact ⟨rfl, ho, rfl⟩
theorem bif_and {a b : Bool} (h : (bif a then b else false) = true) : a = true /\ b = true := by cases a <;> simp_all
theorem bif_nor {a b : Bool} (h : (bif a then false else b) = true) : a = false /\ b = true := by cases a <;> simp_all
structure Parts (w : Wd) : Prop where
 roots : rootsW w 10 1 = true
 objs : ∀ o ∈ w.objs, objectW w o = true
theorem valid_parts {w : Wd} (h : wcheckW w = 0) : Parts w := by
 unfold wcheckW at h
 have hv : validW w = true := by
  cases hx : validW w with
  | true => rfl
  | false => rw [hx] at h; exact absurd h (by decide)
 unfold validW at hv
 have h1 := (bif_nor (bif_nor (bif_nor (bif_nor (bif_nor hv).2).2).2).2).2
 have h2 := bif_nor h1
 have h3 := (bif_nor (bif_nor h2.2).2).2
 refine ⟨by simpa using h2.1, fun o ho => ?_⟩
 have h4 : w.objs.any (nobjectW w) = false := by simpa using h3
 rw [List.any_eq_false] at h4
 have h5 := h4 o ho
 unfold nobjectW at h5
 simpa using h5
theorem slot_meth {w : Wd} {o : Ob} {s : Sl} (h : slotW w o s = true) (hk : s.v.k = 5) : s.kd = 1 := by
 unfold slotW at h
 rw [show (s.v.k != 5) = false by simp [hk], cond_false] at h
 simpa using (bif_nor h).1
section
variable {w u : Wd} {sel : List UInt8}
end
theorem Appd.has {w v : Wd} {ch : Ch} (h : Appd w v ch) (hs : Sorted w) {n : Int} (hn : Has w n) : Has v n := by
 obtain ⟨o, ho, rfl⟩ := hn
 by_cases e : o.oid = ch.oid
 ·rcases h.objs with ⟨x, hf, hx, -, -, -, -, rfl⟩ | ⟨hn, rfl⟩
  ·refine ⟨x, ?_, by rw [hx, e]⟩
   have hi := (objI_at hs hf).2
   exact List.mem_iff_getElem.2 ⟨chI w ch, by show chI w ch < (w.objs.set (chI w ch) x).length; rw [List.length_set]; exact hi, by show (w.objs.set (chI w ch) x)[chI w ch]'_ = x; rw [List.getElem_set_self]⟩
  ·exact ⟨o, List.mem_append_left _ ho, rfl⟩
 ·exact ⟨o, (h.mem hs e).1 ho, rfl⟩
section
variable {w v : Wd} {d s : PV}
structure Grows (w v : Wd) : Prop where
 has : ∀ n, (objT w n).2 = true -> (objT v n).2 = true
 cds : v.cds = w.cds
theorem Grows.hasT (h : Grows w v) {x : Vl} (hx : hasT w d s x = true) : hasT v d s x = true := by
 unfold Go.Proofs.YtcknpohghmkbmaaGreatDoor.hasT at hx ⊢
 have h1 := bif_nor hx
 rw [h1.1, cond_false]
 cases hk : x.k != 4 with
 | true => rfl
 | false =>
  have h2 := h1.2
  rw [hk, cond_false] at h2
  exact h.has _ h2
theorem Grows.slotT (h : Grows w v) {x : Sl} (hx : slotT w d s x = true) : slotT v d s x = true := by
 unfold Go.Proofs.YtcknpohghmkbmaaGreatDoor.slotT at hx ⊢
 rw [h.cds]
 have h1 := bif_nor hx
 have h2 := bif_nor h1.2
 rw [h1.1, cond_false, h2.1, cond_false]
 have h3 := h2.2
 cases ha : assignB x with
 | true => rw [ha] at h3; exact h3
 | false =>
  rw [ha, cond_false] at h3
  rw [cond_false]
  cases hk : x.v.k != 5 with
  | true =>
   rw [hk, cond_true] at h3
   have h4 := bif_and h3
   rw [cond_true, h.hasT h4.1]; exact h4.2
  | false => rw [hk] at h3; exact h3
theorem Grows.slotsT (h : Grows w v) {m : Mp} : ∀ (l : List Sl) (i : Nat), slotsT w d s m l i = true -> slotsT v d s m l i = true
 | [], _, _ => rfl
 | x :: t, i, hx => by
  unfold Go.Proofs.YtcknpohghmkbmaaGreatDoor.slotsT at hx ⊢
  have h1 := bif_nor hx
  have h2 := bif_nor h1.2
  rw [h.slotT (x := x) (by simpa using h1.1), h2.1]
  exact h.slotsT t _ h2.2
theorem Grows.mapT (h : Grows w v) {m : Mp} (hx : mapT w d s m = true) : mapT v d s m = true := by
 unfold Go.Proofs.YtcknpohghmkbmaaGreatDoor.mapT at hx ⊢
 have h1 := bif_nor hx
 have h2 := bif_nor h1.2
 have h3 := bif_nor h2.2
 rw [h1.1, h2.1, h3.1]
 exact h.slotsT _ _ h3.2
theorem Grows.mapsT (h : Grows w v) {maps : List Mp} : ∀ (l : List Mp) (i : Nat), mapsT w d s maps l i = true -> mapsT v d s maps l i = true
 | [], _, _ => rfl
 | x :: t, i, hx => by
  unfold Go.Proofs.YtcknpohghmkbmaaGreatDoor.mapsT at hx ⊢
  have h1 := bif_nor hx
  have h2 := bif_nor h1.2
  rw [h.mapT (m := x) (by simpa using h1.1), h2.1]
  exact h.mapsT t _ h2.2
theorem Grows.typeT (h : Grows w v) {y : Ty} {n : Int} (hx : typeT w d s y n = true) : typeT v d s y n = true := by
 unfold Go.Proofs.YtcknpohghmkbmaaGreatDoor.typeT at hx ⊢
 cases h1 : y.k == 1 with
 | true =>
  rw [h1, cond_true] at hx
  have h2 := bif_and hx
  rw [cond_true, h2.1, cond_true]; exact h.hasT h2.2
 | false => rw [h1] at hx; exact hx
theorem Grows.factsT (h : Grows w v) {maps : List Mp} {types : List Ty} (hx : factsT w d s maps types = true) : factsT v d s maps types = true := by
 unfold Go.Proofs.YtcknpohghmkbmaaGreatDoor.factsT at hx ⊢
 have h1 := bif_nor hx
 have h2 := bif_nor h1.2
 rw [h1.1, h.mapsT maps 0 (by simpa using h2.1)]
 have h3 := h2.2
 simp only [Bool.not_true, cond_false, Bool.not_eq_true', List.any_eq_false, ntypeT] at h3 ⊢
 intro y hy
 have := h3 y hy
 rw [h.typeT (by simpa using this)]
 simp
end
theorem rsameSlots (l m : List Sl) : Spec Tryz.prog 43 [row 5 Sl.pv l, row 5 Sl.pv m] (.sb (eqFrom slEq l m)) := by
 refine Spec.fact (by kernel_rfl) 0 rfl fun hf => ?_
 have hl : l.length <= 9223372036854775807 := hf.1
 refine Spec.startL (by kernel_rfl) Tryz.func43 rfl rfl fun w0 L hst => ?_
 refine M.test ((l.length : Int) != (m.length : Int)) (by kernel_rfl) (fun h0 => M.retb false (by kernel_rfl) (eqFrom_len (by simp at h0; omega)).symm) (fun h0 => ?_)
 have hlm : l.length = m.length := by simp at h0; omega
 refine M.loopL (ι := {i : Nat // i <= l.length /\ eqFrom slEq l m = eqFrom slEq (l.drop i) (m.drop i)}) (fun i => [(0, row 5 Sl.pv l), (1, row 5 Sl.pv m), (5, I i.1)]) (fun _ => []) (fun i => l.length - i.1) ⟨0, Nat.zero_le _, rfl⟩ [] (by kernel_rfl) trivial (by kernel_rfl) (by kernel_rfl) fun ⟨i, hi, hq⟩ L ih => ?_
 refine M.test (decide ((i : Int) < (l.length : Int))) (by kernel_rfl) (fun h1 => ?_) (fun h1 => ?_)
 ·have hlt : i < l.length := by simpa using h1
  have hlt' : i < m.length := by omega
  rw [List.drop_eq_getElem_cons hlt, List.drop_eq_getElem_cons hlt', eqFrom] at hq
  refine M.testp [0 <= (i : Int) /\ (i : Int) < (l.length : Int), 0 <= (i : Int) /\ (i : Int) < (m.length : Int)] (!slEq (l.getD (i : Int).toNat default) (m.getD (i : Int).toNat default)) (by kernel_rfl) ⟨by omega, by omega, trivial⟩ (fun h2 => ?_) (fun h2 => ?_)
  ·rw [getD_nat hlt, getD_nat hlt'] at h2
   simp only [Bool.not_eq_true'] at h2
   exact M.retb false (by kernel_rfl) (by rw [hq, h2]; rfl)
  ·rw [getD_nat hlt, getD_nat hlt'] at h2
   simp only [Bool.not_eq_false'] at h2
   exact M.back [In64 ((i : Int) + 1)] (ih ⟨i + 1, hlt, by rw [hq, h2]; rfl⟩ L (by show l.length - (i + 1) < l.length - i; omega)) (by kernel_rfl) ⟨⟨by omega, by omega⟩, trivial⟩ (by kernel_rfl) (by kernel_rfl) (by kernel_rfl) (by kernel_rfl)
 ·have hd : l.drop i = [] := List.drop_eq_nil_of_le (by have := of_decide_eq_false h1; omega)
  have hd' : m.drop i = [] := List.drop_eq_nil_of_le (by have := of_decide_eq_false h1; omega)
  rw [hd, hd'] at hq
  exact M.retb true (by kernel_rfl) (by rw [hq]; rfl)
def rmpEq (a b : Mp) : Bool := bif a.kd == b.kd then eqFrom slEq a.sl b.sl else false
theorem rsameMap (a b : Mp) : Spec Tryz.prog 24 [.agg a.pv, .agg b.pv] (.sb (rmpEq a b)) := by
 refine Spec.startL (by kernel_rfl) Tryz.func24 rfl rfl fun w0 L hst => ?_
 refine M.tq (r := rmpEq a b) rfl (fun h1 q1 => ?_) (fun h1 q1 => M.rq q1)
 refine M.cl (rsameSlots a.sl b.sl) ?_
 exact M.rq q1
theorem wcopyO (o : Ob) (h : o.sl.length <= 1000000) (h2 : o.el.length <= 1000000) : SpecM Tryz.prog 131 0 [] [.agg o.pv] [slotR o.sl] (.agg (ObO 0 o)) := by
 refine SpecM.start (by kernel_rfl) Tryz.func131 rfl rfl (Nat.le_refl _) fun w0 L hst => ?_
 refine M.callm [] (cloneO_Slot o.sl h) (by kernel_rfl) ?_
 refine M.cl (clone_Val o.el h2) ?_
 exact M.retm [] [2] hst rfl (by kernel_rfl) trivial rfl rfl
theorem wmapO (l : List Ob) (g : Nat) (i0 : Nat) (hl : l.length <= 1000000000) (hi0 : i0 < l.length) (hg : ∀ x ∈ l, Spec Tryz.prog g [.agg x.pv] (.agg x.pv))
  (hgo : SpecM Tryz.prog g 0 [] [.agg (l.getD i0 default).pv] [slotR (l.getD i0 default).sl] (.agg (ObO 0 (l.getD i0 default)))) :
  SpecM Tryz.prog 130 0 [] [row 6 Ob.pv l, .fn g []] [[.rwf 6 l.length (fun j => Ob.pv (l.getD j default)) i0 (ObO 1 (l.getD i0 default))], slotR (l.getD i0 default).sl] (.os 76 0 6 l.length) := by
 refine SpecM.start (by kernel_rfl) Tryz.func130 rfl rfl (Nat.le_refl _) fun w0 L hst => ?_
 refine M.nilT [] 76 6 (fun j => Ob.pv (l.getD j default)) 5 (by kernel_rfl) trivial (by kernel_rfl) (by kernel_rfl) ?_
 refine M.loopL (ι := {i : Nat // i <= i0} ⊕ {i : Nat // i0 < i /\ i <= l.length})
  (fun | .inl i => [(1, .fn g []), (5, .os 76 0 6 i.1), (8, row 6 Ob.pv l), (9, I l.length), (10, I i.1)] | .inr i => [(1, .fn g []), (5, .os 76 0 6 i.1), (8, row 6 Ob.pv l), (9, I l.length), (10, I i.1)])
  (fun | .inl i => [[.rws 6 i.1 (fun j => Ob.pv (l.getD j default))]] | .inr i => [[.rws 6 i.1 (focE l i0 (ObO 1 (l.getD i0 default)))], slotR (l.getD i0 default).sl])
  (fun | .inl i => l.length - i.1 | .inr i => l.length - i.1) (.inl ⟨0, Nat.zero_le _⟩) [] (by kernel_rfl) trivial (by kernel_rfl) (by kernel_rfl) fun x L ih => ?_
 cases x with
 | inl x =>
  obtain ⟨i, hi⟩ := x
  refine M.yes (b := decide ((i : Int) < (l.length : Int))) (by simp; omega) (by kernel_rfl) ?_
  by_cases hii : i = i0
  ·subst hii
   refine M.callmp [0 <= (i : Int) /\ (i : Int) < (l.length : Int)] [] hgo (by kernel_rfl) ⟨by omega, trivial⟩ ?_
   refine M.ren [1 <= 1 /\ i = i /\ 0 < 1 /\ i + 1 <= 9223372036854775807 /\ (i + 1) * 80 <= 140737488355328, In64 ((i : Int) + 1)] [4, 2] hst (by kernel_rfl) ⟨⟨Nat.le_refl _, rfl, by omega, by omega, by omega⟩, ⟨by omega, by omega⟩, trivial⟩ (by kernel_rfl) (by kernel_rfl) rfl fun L' => ?_
   refine M.sig [] [[.rws 6 (i + 1) (fun j => (joinEl (fun j => Ob.pv (l.getD j default)) i (fun j => ((ObO 2 (l.getD i default)).drop (j * 6)).take 6) j).map (renP (invF [4, 2] 0) 7))], slotR (l.getD i default).sl]
    [[.rws 6 (i + 1) (focE l i (ObO 1 (l.getD i default)))], slotR (l.getD i default).sl] (by kernel_rfl) trivial (by kernel_rfl) (by kernel_rfl) (.cons (.rws rfl fun j hj => ?_) (.cons (.refl _) .nil)) ?_
   ·unfold joinEl focE
    by_cases h : j < i
    ·rw [if_pos h, if_neg (by omega)]; rfl
    ·have : j = i := by omega
     subst this
     rw [if_neg (Nat.lt_irrefl _), if_pos rfl, Nat.sub_self]; rfl
   ·exact M.back [] (ih (.inr ⟨i + 1, Nat.lt_succ_self _, hi0⟩) L' (by show l.length - (i + 1) < l.length - i; omega)) (by kernel_rfl) trivial (by kernel_rfl) (by kernel_rfl) (by kernel_rfl) (by kernel_rfl)
  ·refine M.clp [0 <= (i : Int) /\ (i : Int) < (l.length : Int)] ⟨by omega, trivial⟩ (hg _ (getD_mem (p := (i : Int).toNat) (by omega))) ?_
   refine M.ren [i = i /\ 0 < 1 /\ i + 1 <= 9223372036854775807 /\ (i + 1) * 80 <= 140737488355328, In64 ((i : Int) + 1)] [2] hst (by kernel_rfl) ⟨⟨rfl, by omega, by omega, by omega⟩, ⟨by omega, by omega⟩, trivial⟩ (by kernel_rfl) (by kernel_rfl) rfl fun L' => ?_
   refine M.sig [] [[.rws 6 (i + 1) (fun j => (joinEl (fun j => Ob.pv (l.getD j default)) i (fun j => ((Ob.pv (l.getD (i : Int).toNat default)).drop (j * 6)).take 6) j).map (renP (invF [2] 0) 7))]]
    [[.rws 6 (i + 1) (fun j => Ob.pv (l.getD j default))]] (by kernel_rfl) trivial (by kernel_rfl) (by kernel_rfl) (.cons (app_cells rfl rfl fun j => rfl) .nil) ?_
   exact M.back [] (ih (.inl ⟨i + 1, by omega⟩) L' (by show l.length - (i + 1) < l.length - i; omega)) (by kernel_rfl) trivial (by kernel_rfl) (by kernel_rfl) (by kernel_rfl) (by kernel_rfl)
 | inr x =>
  obtain ⟨i, hi1, hi⟩ := x
  refine M.test (decide ((i : Int) < (l.length : Int))) (by kernel_rfl) (fun h1 => ?_) (fun h1 => ?_)
  ·have hlt : i < l.length := by simpa using h1
   refine M.clp [0 <= (i : Int) /\ (i : Int) < (l.length : Int)] ⟨by omega, trivial⟩ (hg _ (getD_mem (p := (i : Int).toNat) (by omega))) ?_
   refine M.ren [i = i /\ 0 < 1 /\ i + 1 <= 9223372036854775807 /\ (i + 1) * 80 <= 140737488355328, In64 ((i : Int) + 1)] [3, 1] hst (by kernel_rfl) ⟨⟨rfl, by omega, by omega, by omega⟩, ⟨by omega, by omega⟩, trivial⟩ (by kernel_rfl) (by kernel_rfl) rfl fun L' => ?_
   refine M.sig [] [[.rws 6 (i + 1) (fun j => (joinEl (focE l i0 (ObO 1 (l.getD i0 default))) i (fun j => ((Ob.pv (l.getD (i : Int).toNat default)).drop (j * 6)).take 6) j).map (renP (invF [3, 1] 0) 7))], slotR (l.getD i0 default).sl]
    [[.rws 6 (i + 1) (focE l i0 (ObO 1 (l.getD i0 default)))], slotR (l.getD i0 default).sl] (by kernel_rfl) trivial (by kernel_rfl) (by kernel_rfl) (.cons (.rws rfl fun j hj => ?_) (.cons (.refl _) .nil)) ?_
   ·unfold joinEl focE
    by_cases h : j < i
    ·rw [if_pos h]
     by_cases h2 : j = i0
     ·rw [if_pos h2]; rfl
     ·rw [if_neg h2]; rfl
    ·have : j = i := by omega
     subst this
     rw [if_neg (Nat.lt_irrefl _), if_neg (by omega), Nat.sub_self]; rfl
   ·exact M.back [] (ih (.inr ⟨i + 1, by omega, hlt⟩) L' (by show l.length - (i + 1) < l.length - i; omega)) (by kernel_rfl) trivial (by kernel_rfl) (by kernel_rfl) (by kernel_rfl) (by kernel_rfl)
  ·have : i = l.length := by have := of_decide_eq_false h1; omega
   subst this
   refine M.sig [] [[.rws 6 l.length (focE l i0 (ObO 1 (l.getD i0 default)))], slotR (l.getD i0 default).sl] [[.rwf 6 l.length (fun j => Ob.pv (l.getD j default)) i0 (ObO 1 (l.getD i0 default))], slotR (l.getD i0 default).sl] (by kernel_rfl) trivial (by kernel_rfl) (by kernel_rfl) (.cons (.foc rfl hi0 fun x _ => rfl) (.cons (.refl _) .nil)) ?_
   exact M.retm [] [0, 1] hst rfl (by kernel_rfl) trivial rfl rfl
abbrev fRow (w : Wd) (i k : Nat) : List PV := [.rwf 6 w.objs.length (fun j => Ob.pv (w.objs.getD j default)) i (ObO k (w.objs.getD i default))]
abbrev fRws (w : Wd) (i k : Nat) : List PV := [.rws 6 w.objs.length (focE w.objs i (ObO k (w.objs.getD i default)))]
theorem foc_at {w : Wd} {i k j : Nat} {cs : List PV} (hj : j < w.objs.length) (hc : focE w.objs i (ObO k (w.objs.getD i default)) j = cs) : CellsEq (fRws w i k) [.rwf 6 w.objs.length (focE w.objs i (ObO k (w.objs.getD i default))) j cs] :=
 .foc rfl hj fun x _ => by
  by_cases e : x = j
  ·rw [if_pos e, e, hc]
  ·rw [if_neg e]
theorem unf_at {w : Wd} {i k j : Nat} {cs : List PV} {g : PV -> PV} (hg : ∀ x : Ob, (Ob.pv x).map g = Ob.pv x) (hg2 : ∀ x : Ob, (ObO k x).map g = ObO k x) (hc : focE w.objs i (ObO k (w.objs.getD i default)) j = cs) : CellsEq [.rwf 6 w.objs.length (fun x => (focE w.objs i (ObO k (w.objs.getD i default)) x).map g) j (cs.map g)] (fRws w i k) :=
 .unf rfl fun x _ => by
  have e1 : (focE w.objs i (ObO k (w.objs.getD i default)) x).map g = focE w.objs i (ObO k (w.objs.getD i default)) x := by
   unfold focE
   by_cases h : x = i
   ·rw [if_pos h]; exact hg2 _
   ·rw [if_neg h]; exact hg _
  by_cases e : x = j
  ·rw [if_pos e, <- hc, <- e, e1]
  ·rw [if_neg e, e1]
theorem indexedF (w : Wd) (hw : w.Ok) (i0 : Nat) (hi0 : i0 < w.objs.length) : SpecM Tryz.prog 58 4 [fRow w i0 3, actR w, cdR w, slotR (w.objs.getD i0 default).sl] [.agg (wO w 0)] [fRow w i0 3, actR w, cdR w, slotR (w.objs.getD i0 default).sl, wO w 0 ++ [.mr 5], mpR w] (.ref 4 0) := by
 have hl := hw.nobjs
 refine SpecM.start (by kernel_rfl) Tryz.func58 rfl rfl (Nat.le_of_ble_eq_true rfl) fun w0 L hst => ?_
 refine M.sig [] [fRow w i0 3, actR w, cdR w, slotR (w.objs.getD i0 default).sl, wO w 0, [.mp (.int .i64) (.i .i64 (atN w.objs 0))], wO w 0 ++ [.mr 5]] [fRws w i0 3, actR w, cdR w, slotR (w.objs.getD i0 default).sl, wO w 0, [.mp (.int .i64) (.i .i64 (atN w.objs 0))], wO w 0 ++ [.mr 5]] (by kernel_rfl) trivial (by kernel_rfl) (by kernel_rfl) (.cons (.unf rfl fun x _ => rfl) (.refl _)) ?_
 refine M.loopL (ι := {i : Nat // i <= w.objs.length}) (fun i => [(3, .ref 6 0), (14, .os 76 0 6 w.objs.length), (15, I w.objs.length), (16, I i.1)]) (fun i => [fRws w i0 3, actR w, cdR w, slotR (w.objs.getD i0 default).sl, wO w 0, [.mp (.int .i64) (.i .i64 (atN w.objs i.1))], wO w 0 ++ [.mr 5]]) (fun i => w.objs.length - i.1) ⟨0, Nat.zero_le _⟩ [] (by kernel_rfl) trivial (by kernel_rfl) (by kernel_rfl) fun ⟨i, hi⟩ L ih => ?_
 refine M.test (decide ((i : Int) < (w.objs.length : Int))) (by kernel_rfl) (fun h1 => ?_) (fun h1 => ?_)
 ·have hlt : i < w.objs.length := by simpa using h1
  by_cases hii : i = i0
  ·subst hii
   have hc : focE w.objs i (ObO 3 (w.objs.getD i default)) i = ObO 3 (w.objs.getD i default) := if_pos rfl
   refine M.sigN 0 [] [fRws w i 3, actR w, cdR w, slotR (w.objs.getD i default).sl, wO w 0, [.mp (.int .i64) (.i .i64 (atN w.objs i))], wO w 0 ++ [.mr 5]] [[.rwf 6 w.objs.length (focE w.objs i (ObO 3 (w.objs.getD i default))) i (ObO 3 (w.objs.getD i default))], actR w, cdR w, slotR (w.objs.getD i default).sl, wO w 0, [.mp (.int .i64) (.i .i64 (atN w.objs i))], wO w 0 ++ [.mr 5]] (by kernel_rfl) trivial (by kernel_rfl) (by kernel_rfl) (.cons (foc_at hlt hc) (.refl _)) ?_
   refine M.ren [0 <= (i : Int) /\ (i : Int) < (w.objs.length : Int), (i : Int).toNat < w.objs.length /\ (i : Int).toNat = i, In64 ((i : Int) + 1)] [0, 1, 2, 3, 4, 5, 6] hst (by kernel_rfl) ⟨⟨by omega, by omega⟩, by omega, ⟨by omega, by omega⟩, trivial⟩ (by kernel_rfl) (by kernel_rfl) rfl fun L' => ?_
   refine M.sig [] ([.rwf 6 w.objs.length (fun x => (focE w.objs i (ObO 3 (w.objs.getD i default)) x).map (renP (invF [0, 1, 2, 3, 4, 5, 6] 0) 7)) i ((ObO 3 (w.objs.getD i default)).map (renP (invF [0, 1, 2, 3, 4, 5, 6] 0) 7))] :: [actR w, cdR w, slotR (w.objs.getD i default).sl, wO w 0, [.mp (.int .i64) (.i .i64 (atN w.objs (i + 1)))], wO w 0 ++ [.mr 5]]) (fRws w i 3 :: [actR w, cdR w, slotR (w.objs.getD i default).sl, wO w 0, [.mp (.int .i64) (.i .i64 (atN w.objs (i + 1)))], wO w 0 ++ [.mr 5]]) (by kernel_rfl) trivial (by kernel_rfl) (by kernel_rfl) (.cons (unf_at (fun x => rfl) (fun x => rfl) hc) (.refl _)) ?_
   exact M.back [] (ih ⟨i + 1, hlt⟩ L' (by show w.objs.length - (i + 1) < w.objs.length - i; omega)) (by kernel_rfl) trivial (by kernel_rfl) (by kernel_rfl) (by kernel_rfl) (by kernel_rfl)
  ·have hc : focE w.objs i0 (ObO 3 (w.objs.getD i0 default)) i = Ob.pv (w.objs.getD i default) := if_neg hii
   refine M.sigN 0 [] [fRws w i0 3, actR w, cdR w, slotR (w.objs.getD i0 default).sl, wO w 0, [.mp (.int .i64) (.i .i64 (atN w.objs i))], wO w 0 ++ [.mr 5]] [[.rwf 6 w.objs.length (focE w.objs i0 (ObO 3 (w.objs.getD i0 default))) i (Ob.pv (w.objs.getD i default))], actR w, cdR w, slotR (w.objs.getD i0 default).sl, wO w 0, [.mp (.int .i64) (.i .i64 (atN w.objs i))], wO w 0 ++ [.mr 5]] (by kernel_rfl) trivial (by kernel_rfl) (by kernel_rfl) (.cons (foc_at hlt hc) (.refl _)) ?_
   refine M.ren [0 <= (i : Int) /\ (i : Int) < (w.objs.length : Int), (i : Int).toNat < w.objs.length /\ (i : Int).toNat = i, In64 ((i : Int) + 1)] [0, 1, 2, 3, 4, 5, 6] hst (by kernel_rfl) ⟨⟨by omega, by omega⟩, by omega, ⟨by omega, by omega⟩, trivial⟩ (by kernel_rfl) (by kernel_rfl) rfl fun L' => ?_
   refine M.sig [] ([.rwf 6 w.objs.length (fun x => (focE w.objs i0 (ObO 3 (w.objs.getD i0 default)) x).map (renP (invF [0, 1, 2, 3, 4, 5, 6] 0) 7)) i ((Ob.pv (w.objs.getD i default)).map (renP (invF [0, 1, 2, 3, 4, 5, 6] 0) 7))] :: [actR w, cdR w, slotR (w.objs.getD i0 default).sl, wO w 0, [.mp (.int .i64) (.i .i64 (atN w.objs (i + 1)))], wO w 0 ++ [.mr 5]]) (fRws w i0 3 :: [actR w, cdR w, slotR (w.objs.getD i0 default).sl, wO w 0, [.mp (.int .i64) (.i .i64 (atN w.objs (i + 1)))], wO w 0 ++ [.mr 5]]) (by kernel_rfl) trivial (by kernel_rfl) (by kernel_rfl) (.cons (unf_at (fun x => rfl) (fun x => rfl) hc) (.refl _)) ?_
   exact M.back [] (ih ⟨i + 1, hlt⟩ L' (by show w.objs.length - (i + 1) < w.objs.length - i; omega)) (by kernel_rfl) trivial (by kernel_rfl) (by kernel_rfl) (by kernel_rfl) (by kernel_rfl)
 ·have : i = w.objs.length := by have := of_decide_eq_false h1; omega
  subst this
  refine M.sigN 0 [] [fRws w i0 3, actR w, cdR w, slotR (w.objs.getD i0 default).sl, wO w 0, mpR w, wO w 0 ++ [.mr 5]] [fRow w i0 3, actR w, cdR w, slotR (w.objs.getD i0 default).sl, wO w 0, mpR w, wO w 0 ++ [.mr 5]] (by kernel_rfl) trivial (by kernel_rfl) (by kernel_rfl) (.cons (.foc rfl hi0 fun x _ => rfl) (.refl _)) ?_
  exact M.retm [] [0, 1, 2, 3, 6, 5] hst rfl (by kernel_rfl) trivial rfl rfl
end Go.Proofs.YtcknpohghmkbmaaGreatDoor
