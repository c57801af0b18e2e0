import Derived.Test.YtcknpohghmkbmaaGreatDoorRows
import Derived.Test.YtcknpohghmkbmaaGreatDoorCards
import Derived.Test.YtcknpohghmkbmaaGreatDoorTie
import Derived.Test.YtcknpohghmkbmaaGreatDoorK29
import Derived.ProofKit
import Derived.OpenShut
import Derived.LaidMore
import Derived.Lay
import Derived.SevenTiedAt
import Derived.Stop.Joined
import Derived.Stop.LaidErr
import Derived.Lib.SmallJoins
import Derived.Lib.LaidTab
import Derived.Carry
set_option linter.unusedVariables false
set_option linter.unusedSimpArgs false
/- The texts R3 R4 D28 V37 V38 D29 D30 of the proof, laid one behind the other. -/
namespace Go.Proofs.YtcknpohghmkbmaaGreatDoor
open Go.ChangeShapes Go.WideShapes Go.ChangeAt Go.ChangeMaps Go.RowKit Go.Joins
theorem own : ownKnob Tryz.prog.godebug = none := by kernel_rfl
def seatLaid : List (String × DataW Unit) := Rows.depsOrderRow.laid
theorem laidPlain (W : World) : laidMetH Tryz.prog seatLaid W = laidMet Tryz.prog seatLaid W := MakeChecks.laidMetH_plain _ _ _ (by kernel_rfl)
theorem star : "*" ++ "errors.errorString" = "*errors.errorString" := by decide
theorem rowErr (u : TypeId) (h : Tryz.prog.typeName? 3 u = some "*errors.errorString") : u = 360 :=
 typeName_ptr_named (nm := "errors.errorString") (by rw [star]; kernel_rfl) (by kernel_rfl) (by decide) u (by rw [star]; exact h)
set_option maxRecDepth 100000 in
theorem gl_of_laid {W : World} (h : laidMetH Tryz.prog seatLaid W) : Gl [] W := by
 rw [laidPlain] at h
 have h3 := laidMet.tail (laidMet.tail h)
 have h5 := laidMet.tail (laidMet.tail h3)
 have e : (Rows.laid_internal_strconv_uint64pow10 : DataW Unit) = Lib.tabData .u64 Lib.pow10Tab := by kernel_rfl
 rw [e] at h3
 have t := Lib.tabIs_of_head (t := 346) (e := 322) (n := 20) (g := gPow) (by kernel_rfl) (by kernel_rfl) (by kernel_rfl) (by kernel_rfl) (by kernel_rfl) (by kernel_rfl) h3
 obtain ⟨a, s, hv, _⟩ := laid_sentinel (g := gErr) (ti := 274) (tp := 360) (te := 362) h5 (by kernel_rfl) (by kernel_rfl) Tryz.underlying274 rowErr (by kernel_rfl) Tryz.underlying362 rfl rfl (by kernel_rfl) (by kernel_rfl) (by kernel_rfl)
 have heap : ∀ {n : String} {g : Nat} {cs : Array Value}, Tryz.prog.globalNamed n = some g -> W.var? Tryz.prog n = some cs -> g < W.heap.size /\ ∃ t fr, W.heap[g]? = some (.cells cs t fr) := fun {n g cs} hg h => by
  unfold World.var? at h
  rw [hg] at h
  simp only [Option.bind_some] at h
  cases hh : W.heap[g]? with
  | none => rw [hh] at h; cases h
  | some o =>
   rw [hh] at h
   cases o with
   | cells c t fr =>
    simp only [Option.some.injEq] at h
    subst h
    exact ⟨(Array.getElem?_eq_some_iff.1 hh).1, t, fr, rfl⟩
   | _ => cases h
 obtain ⟨p1, t1, f1, q1⟩ := heap (g := gPow) (by kernel_rfl) t
 obtain ⟨p2, t2, f2, q2⟩ := heap (g := gErr) (by kernel_rfl) hv
 intro q hq
 simp only [ghosts, List.mem_cons, List.not_mem_nil, or_false] at hq
 rcases hq with rfl | rfl
 ·rw [R]
  exact ⟨fun h => by rcases h with h | h <;> simp at h, p1, _, _, _, q1, rfl⟩
 ·rw [R]
  exact ⟨fun h => by rcases h with h | h <;> simp at h, p2, _, _, _, q2, _, _, rfl⟩
end Go.Proofs.YtcknpohghmkbmaaGreatDoor
namespace Go.Proofs.YtcknpohghmkbmaaGreatDoor
open Go.ChangeShapes Go.WideShapes Go.ChangeAt Go.ChangeMaps Go.RowKit Go.Joins
theorem laidOut : laidOutB Tryz.prog = true := by kernel_rfl
section
variable {H : Type} {enc : TypeId × Value -> H} {P : Program} {W W' : World}
def rowedB (P : Program) (ts : List TypeId) : Bool := ts.all fun t => P.readableRec t && decide (t < P.types.size)
theorem rowed_of {ts : List TypeId} (h : rowedB P ts = true) : ∀ t ∈ ts, P.readableRec t = true /\ t < P.types.size := fun t ht => by
 have := List.all_eq_true.1 h t ht
 simpa using this
theorem below_trodAll (hl : laidOutB P = true) : ∀ {ts : List TypeId} {vs : List Value} {ds : List (DataW H)} {ps : List MemPlace}, DataW.TrodAll enc P W 0 (fun _ => true) true ts vs ds ps -> (∀ t ∈ ts, P.readableRec t = true /\ t < P.types.size) -> Below W.heap.size W W' ->
  DataW.TrodAll enc P W' 0 (fun b => decide (b < W.heap.size)) true ts vs ds ps
 | [], vs, ds, ps, h, _, _ => by
  obtain ⟨rfl, rfl, rfl⟩ := trodAll_nil h
  exact trodAll_mk0
 | t :: ts, vs, ds, ps, h, hr, hb => by
  have hlt := DataW.TrodAll.lt h
  obtain ⟨v, vs', d, ds', p, q, rfl, rfl, rfl, h1, h2⟩ := trodAll_cons h
  have ht := hr t (List.mem_cons_self ..)
  exact trodAll_cons_mk (Below.trod hl ht.1 ht.2 h1 hb fun x hx => hlt x (List.mem_append_left _ hx)) (below_trodAll hl h2 (fun t' h' => hr t' (List.mem_cons_of_mem _ h')) hb)
theorem sized_at {ts us : List TypeId} {ds gs : List (DataW H)} (h : (DataW.weightsEach P (ts ++ us) (ds ++ gs)).all (· <= reachBytes) = true) {j : Nat} {t : TypeId} {d : DataW H} (ht : (ts ++ us)[j]? = some t) (hd : (ds ++ gs)[j]? = some d) : (d.weights P t).all (· <= reachBytes) = true :=
 List.all_eq_true.2 fun n hn => List.all_eq_true.1 h n (DataW.weights_mem_each ht hd n hn)
theorem arg_struct {T : TypeId} {fs : Array Field} {α : Type} {k : Nat} {f : α -> List PV} {B : α -> Prop} {r : Reach} {b0 : Nat} {v : Value} {d : DataW H} {p : List MemPlace} {sp : Nat -> Bool} {held : Bool} (ho : OpenT P T k f B) (ht : P.underlying T = some (.struct fs))
  (hv : Value.okWide P W r b0 T v) (h : DataW.Trod enc P W 0 sp held T v d p) (hw : (d.weights P T).all (· <= reachBytes) = true) : ∃ a, R [] [] W (.agg (f a)) v /\ B a := by
 obtain ⟨cs, rfl, _⟩ := okWide_struct ht hv
 obtain ⟨fuel, hf⟩ := h
 obtain ⟨a, _, h2, h3, h4⟩ := ho.2 H enc W sp held fuel cs.toList (d, p) (by simpa [Value.cells] using hf) hw
 exact ⟨a, by rw [R]; exact ⟨cs.toList, by simp, h2, h3⟩, h4⟩
theorem arg_one {T : TypeId} {α : Type} {f : α -> PV} {B : α -> Prop} {v : Value} {d : DataW H} {p : List MemPlace} {sp : Nat -> Bool} {held : Bool} (ho : OpenT P T 1 (fun a => [f a]) B) (hc : v.cells.toList = [v])
  (h : DataW.Trod enc P W 0 sp held T v d p) (hw : (d.weights P T).all (· <= reachBytes) = true) : ∃ a, R [] [] W (f a) v /\ B a := by
 obtain ⟨fuel, hf⟩ := h
 rw [hc] at hf
 obtain ⟨a, _, _, h3, h4⟩ := ho.2 H enc W sp held fuel [v] (d, p) hf hw
 obtain ⟨u, us, e, q, _⟩ := h3.uncons
 cases e
 exact ⟨a, q, h4⟩
theorem arg_slice {T e : TypeId} {α : Type} {f : α -> PV} {B : α -> Prop} {r : Reach} {b0 : Nat} {v : Value} {d : DataW H} {p : List MemPlace} {sp : Nat -> Bool} {held : Bool} (ho : OpenT P T 1 (fun a => [f a]) B) (ht : P.underlying T = some (.slice e))
  (hv : Value.okWide P W r b0 T v) (h : DataW.Trod enc P W 0 sp held T v d p) (hw : (d.weights P T).all (· <= reachBytes) = true) : ∃ a, R [] [] W (f a) v /\ B a := by
 obtain ⟨a, len, cap, rfl⟩ := okWide_slice ht hv
 exact arg_one ho rfl h hw
end
section
variable {H : Type} {enc : TypeId × Value -> H} {W : World}
set_option maxRecDepth 100000 in
theorem arg_int {r : Reach} {b0 : Nat} {v : Value} {d : DataW H} {p : List MemPlace} {sp : Nat -> Bool} {held : Bool} (ht : Tryz.prog.underlying 3 = some (.int .i64)) (hv : Value.okWide Tryz.prog W r b0 3 v) (h : DataW.Trod enc Tryz.prog W 0 sp held 3 v d p) (hw : (d.weights Tryz.prog 3).all (· <= reachBytes) = true) : ∃ n : Int, R [] [] W (I n) v /\ In64 n := by
 obtain ⟨n, rfl⟩ := okWide_int ht hv
 exact arg_one intO rfl h hw
set_option maxRecDepth 100000 in
theorem arg_str {r : Reach} {b0 : Nat} {v : Value} {d : DataW H} {p : List MemPlace} {sp : Nat -> Bool} {held : Bool} (ht : Tryz.prog.underlying 9 = some .string) (hv : Value.okWide Tryz.prog W r b0 9 v) (h : DataW.Trod enc Tryz.prog W 0 sp held 9 v d p) (hw : (d.weights Tryz.prog 9).all (· <= reachBytes) = true) : ∃ s : List UInt8, R [] [] W (S s) v /\ s.length <= Big47 := by
 obtain ⟨n, rfl⟩ := okWide_string ht hv
 exact arg_one strO rfl h hw
end
theorem bulk_of {w : Wd} (h : w.B) : Bulk w := by
 obtain ⟨⟨h1, o⟩, ⟨h2, a⟩, ⟨h3, c⟩, _⟩ := h
 exact ⟨h1, h2, h3, fun x hx => ⟨(o x hx).2.2.1.1, (o x hx).2.2.2.1.1⟩, fun x hx => (a x hx).2.2.2.2.2.1.1, fun x hx => ⟨(c x hx).2.2.2.2.1.1, (c x hx).2.2.2.2.2.1.1, (c x hx).2.2.2.2.2.2.1.1, (c x hx).2.2.2.2.2.2.2.1.1, (c x hx).2.2.2.2.2.2.2.2.1.1⟩⟩
theorem sumTo_mem {α : Type} {b : Int} {f : α -> Int} (hf : ∀ x, 0 <= f x) : ∀ (l : List α) (n : Int), sumTo b f l n <= b -> n <= b /\ (0 <= n -> ∀ x ∈ l, f x <= b)
 | [], n, h => ⟨h, fun _ x hx => by cases hx⟩
 | y :: t, n, h => by
  rw [sumTo] at h
  cases hd : decide (n <= b) with
  | false => rw [hd] at h; exact absurd h (of_decide_eq_false hd)
  | true =>
   rw [hd, cond_true] at h
   obtain ⟨h1, h2⟩ := sumTo_mem hf t _ h
   have hy := hf y
   refine ⟨of_decide_eq_true hd, fun h0 x hx => ?_⟩
   rcases List.mem_cons.1 hx with rfl | hx
   ·omega
   ·exact h2 (by omega) x hx
theorem sumTo_pos {α : Type} {b : Int} {f : α -> Int} (hf : ∀ x, 0 <= f x) : ∀ (l : List α) (n : Int), 0 <= n -> 0 <= sumTo b f l n
 | [], n, h => h
 | y :: t, n, h => by
  rw [sumTo]
  cases decide (n <= b)
  ·exact h
  ·exact sumTo_pos hf t _ (by have := hf y; omega)
theorem obN_pos (x : Ob) : 0 <= obN x := by unfold obN; omega
theorem acN_pos (x : Ac) : 0 <= acN x := by unfold acN; omega
theorem cdN_pos (x : Cd) : 1 <= cdN x := by unfold cdN; omega
theorem small_of {w : Wd} (hs : smallT w = true) : (w.objs.length : Int) + w.acts.length <= 1200 /\ (∀ x ∈ w.objs, obN x <= 1200) /\ (∀ x ∈ w.acts, acN x <= 1200) /\ ∀ x ∈ w.cds, cdN x <= 1200 := by
 have h := of_decide_eq_true hs
 unfold smallN at h
 have p0 : (0 : Int) <= (w.objs.length : Int) + w.acts.length := by omega
 have p1 := sumTo_pos (b := 1200) obN_pos w.objs _ p0
 have p2 := sumTo_pos (b := 1200) acN_pos w.acts _ p1
 obtain ⟨a1, a2⟩ := sumTo_mem (fun x => Int.le_trans (by decide) (cdN_pos x)) _ _ h
 obtain ⟨b1, b2⟩ := sumTo_mem acN_pos _ _ a1
 obtain ⟨c1, c2⟩ := sumTo_mem obN_pos _ _ b1
 exact ⟨c1, c2 p0, b2 p1, a2 p2⟩
theorem sumTo_count {α : Type} {b : Int} {f : α -> Int} (hf : ∀ x, 1 <= f x) : ∀ (l : List α) (n : Int), 0 <= n -> sumTo b f l n <= b -> n + l.length <= b
 | [], n, _, h => by
  have h' : n <= b := h
  show n + ((0 : Nat) : Int) <= b
  omega
 | y :: t, n, h0, h => by
  have h' := h
  rw [sumTo] at h
  cases hd : decide (n <= b) with
  | false => rw [hd] at h; exact absurd h (of_decide_eq_false hd)
  | true =>
   rw [hd, cond_true] at h
   have hy := hf y
   have := sumTo_count hf t _ (by omega) h
   simp only [List.length_cons]; omega
theorem ok_of_small {w : Wd} (hB : w.B) (hs : smallT w = true) : w.Ok := by
 obtain ⟨h0, h1, h2, h3⟩ := small_of hs
 obtain ⟨⟨_, o⟩, ⟨_, a⟩, ⟨_, c⟩, _⟩ := hB
 have hc : (w.cds.length : Int) <= 1200 := by
  have h := of_decide_eq_true hs
  unfold smallN at h
  have p0 : (0 : Int) <= (w.objs.length : Int) + w.acts.length := by omega
  have := sumTo_count cdN_pos _ _ (sumTo_pos acN_pos _ _ (sumTo_pos obN_pos _ _ p0)) h
  have p := sumTo_pos (b := 1200) acN_pos w.acts _ (sumTo_pos (b := 1200) obN_pos w.objs _ p0)
  omega
 refine ⟨fun x hx => ?_, fun x hx => ?_, fun x hx => ?_, by omega, by omega, by omega⟩
 ·have := h1 x hx; unfold obN at this
  exact ⟨fun s hs => ((o x hx).2.2.1.2 s hs).2.2.1.2.1, fun v hv => ((o x hx).2.2.2.1.2 v hv).2.1, by omega, by omega⟩
 ·have := h2 x hx; unfold acN at this
  exact ⟨(a x hx).2.2.1.2.1, fun v hv => ((a x hx).2.2.2.2.2.1.2 v hv).2.1, by omega⟩
 ·have := h3 x hx; unfold cdN at this
  exact ⟨fun v hv => ((c x hx).2.2.2.2.2.1.2 v hv).2.1, fun v hv => ((c x hx).2.2.2.2.2.2.1.2 v hv).2.1, by omega, by omega, by omega, by omega, by omega, fun i hi => ⟨((c x hx).2.2.2.2.2.2.2.2.1.2 i hi).2.1, ((c x hx).2.2.2.2.2.2.2.2.1.2 i hi).2.2.1, ((c x hx).2.2.2.2.2.2.2.2.1.2 i hi).2.2.2.1⟩⟩
section
variable {w0 : W0} {W : World} {L : List Nat} {β : List (Option Nat)} {N : Nat} {P : Program} {all : Array Oper} {ds : List (Nat × Option Nat)} {E0 E : Env} {σ0 σ : Sig} {Q : Exit -> Act -> World -> Prop} {a : Act}
theorem top_nil {l : Array Bool} : ∀ n, top [] l n = 0
 | 0 => rfl
 | n + 1 => by unfold top; rw [if_neg (by simp)]; exact top_nil n
def panF (all : Array Oper) (p j : Nat) : Bool := (j == p) || reachP all 12 j p
theorem drawn_pan {ro : Option Nat} {nn p id : Nat} {o : Oper} {g : FuncId} {m : Nat} {σs σ1 : Sig} {rs qs : List PV} {x : PV} {is : List Nat} (ho : all[p]? = some o) (hnd : noDef all = true) (hm : P.follows .mixedOrders = true) (hok : okD all = true)
  (hT : TrF P N all (panF all p) E0 σ0 all.size E σ [] ds) (hsl : ∀ t ∈ slotsOf all o, ∀ k, p <= k -> k < all.size -> dstOf all k ≠ some t) (hg : guardP all E o = some true) (hc : opC P E o.op = some (g, rs)) (hs : SpecP P g m σs qs σ1 x) (hρ : renOk σ is = true) (e3 : renS is σ = σs)
  (e4 : rs.map (renP (invF is 0) 8) = qs) (k : ∀ L β a W u, Inv w0 L β (mergeS is m σ σ1) N [] a W -> R β L W (renP (outF is m σ.length) 8 x) u -> Q (.panic [{ v := u, recovered := false }]) a W)
  (β : List (Option Nat)) (a : Act) (W : World) (hI : Inv w0 L β σ0 N E0 a W) : (Code.region id all true).wpIn (Fr ro) nn P Q a W := by
 refine wpIn_region_any hm ?_
 have hb : Below W.heap.size W W.drew := (Below.refl W.heap.size W).drew
 have hlt : p < all.size := (Array.getElem?_eq_some_iff.1 ho).1
 obtain ⟨hn, hE0, hss, sg, g0, gi, gc, gt, hdata⟩ := hT.data hok
 have hdst : ∀ j k t, dstOf all j = some t -> dstOf all k = some t -> j = k := fun j k t hj hk => by
  cases hoj : all[j]? with
  | none => simp [dstOf, hoj] at hj
  | some o =>
   cases hok' : all[k]? with
   | none => simp [dstOf, hok'] at hk
   | some o' =>
    have hlt : k < all.size := (Array.getElem?_eq_some_iff.1 hok').1
    have hp := (okD_at hok hoj).2 k hlt
    unfold pairOk at hp
    rw [hk] at hp
    simp only [Bool.and_eq_true, Bool.or_eq_true, beq_iff_eq, bne_iff_ne, ne_eq] at hp
    rcases hp.1 with h | h
    ·exact h.symm
    ·exact absurd (by simpa [dstOf, hoj] using hj) h
 have hlo : ∀ k b, (fun k => if k = p then some false else none) k = some b -> panF all p k = true := fun k b h => by
  simp only at h
  by_cases e : k = p
  ·simp [panF, e]
  ·rw [if_neg e] at h; cases h
 have hs0 : sg 0 = σ := by
  rw [<- gi]
  exact (sg_const (si := []) (n := all.size) (a := 0) (fun j hj _ => gc j hj fun tl h => by simp at h) all.size (Nat.zero_le _) (Nat.le_refl _) fun t _ _ h => by simp at h).symm
 refine drawn_fl (w0 := w0) (L := L) (ss := []) (ds := ds) (panF all p) (fun k => if k = p then some false else none) hlo
  (n := all.size) (E := E) (σ := σ) (Nat.le_refl _) (.inl rfl) hnd hok rfl gi gc gt hss hE0 hdata
  (fun _ h => absurd (h p false (if_pos rfl) hlt) (by simp)) (fun h => absurd h (Nat.lt_irrefl _)) (fun j oj hoj hj hjn fuel l β a W hl hun hll hf hcl hnl hI => ?_) all.size _ (by simp) (Nat.le_trans (List.length_filter_le _ _) (by simp)) (fun j o ho hl => ?_) (fun k hk => by rw [Array.getD_eq_getD_getElem?, Array.getElem?_replicate]; split <;> rfl) (fun k b hk => ?_) β a _ ?_
 ·have hset : ∀ k, k < all.size -> (l.setIfInBounds j true).getD k false = if j = k then true else l.getD k false := fun k hk => by
   rw [Array.getD_eq_getD_getElem?, Array.getElem?_setIfInBounds]
   by_cases e : j = k
   ·subst e; simp [hl, hjn]
   ·rw [if_neg e, if_neg e, Array.getD_eq_getD_getElem?]
  have hpf := hll p false (if_pos rfl)
  by_cases e : j = p
  case neg =>
   have hr : reachP all 12 j p = true := by
    unfold panF at hj
    simp only [Bool.or_eq_true, beq_iff_eq] at hj
    exact hj.resolve_left e
   have := reach_done hcl 12 j p hr fun o2 ho2 e2 he hb => hcl j o2 ho2 (by rw [hset j hjn, if_pos rfl]) e2 he hb
   rw [hset p hlt, if_neg e, hpf] at this; cases this
  subst e
  rw [ho] at hoj; cases hoj
  have h0 : sg (min (top (si []) l all.size) all.size) = σ := by
   rw [show si [] = [] from rfl, top_nil, Nat.zero_min, hs0]
  rw [h0] at hI
  have hlk : ∀ t ∈ slotsOf all o, lk (maskE all E0 E l all.size) t = lk E t := fun t ht => by
   refine (lk_mask hdst t all.size).1 fun k hk hkt => ?_
   have hkj : k < j := Nat.lt_of_not_le fun h => hsl t ht k h hk hkt
   have hp := (okD_at hok ho).2 k hk
   unfold pairOk at hp
   rw [hkt] at hp
   have hcn : (slotsOf all o).contains t = true := by simpa using ht
   simp only [Bool.and_eq_true, Bool.or_eq_true, Bool.not_eq_true', decide_eq_true_eq] at hp
   rw [hcn] at hp
   have hdir : dirP all j k = true := by
    rcases hp.2 with (h | ⟨_, h⟩) | ⟨h, _⟩
    ·cases h
    ·exact h
    ·omega
   obtain ⟨e2, he, hb, heq⟩ := dirP_at ho hdir
   have := hcl j o ho (by rw [hset j hjn, if_pos rfl]) e2 he hb
   rw [heq, hset k hk, if_neg (by omega)] at this
   exact this
  have hg' : guardP all (maskE all E0 E l all.size) o = some true := (guard_congr hlk).trans hg
  have hc' : opC P (maskE all E0 E l all.size) o.op = some (g, rs) := (opC_congr (evA_congr hlk)).trans hc
  unfold wpOpIn
  simp only [ho]
  rw [if_pos (guard_wanted hI.ev hg')]
  exact op_in (noDef_at hnd ho) (callOpP hI hc' hs hρ e3 e4 _ _ fun γ u W' hi hr => k L γ _ W' u (hi.to fun t u _ => by simp only [lk]; rw [R]; trivial) hr)
 ·have hj : j < all.size := (Array.getElem?_eq_some_iff.1 ho).1
  simp [Array.getD_eq_getD_getElem?, hj] at hl
 ·by_cases e : k = p
  ·rw [if_pos e] at hk; cases hk; rw [Array.getD_eq_getD_getElem?, Array.getElem?_replicate]; split <;> rfl
  ·rw [if_neg e] at hk; cases hk
 ·have hI' := hI.below hb
  rw [show si [] = [] from rfl, top_nil, Nat.zero_min, g0]
  refine hI'.to fun t' u hu => ?_
  by_cases hex : ∃ k, k < all.size /\ dstOf all k = some t'
  ·obtain ⟨k, hk, hkt⟩ := hex
   rw [(lk_mask hdst t' all.size).2 k hk hkt (by simp [Array.getD_eq_getD_getElem?, hk])]; exact hu
  ·rw [(lk_mask hdst t' all.size).1 fun k hk hkt => absurd ⟨k, hk, hkt⟩ hex]
   exact (hE0 t' fun k hk hkt => hex ⟨k, by omega, hkt⟩) _ _ _ u |>.1 hu
def looseR (P : Program) (N : Nat) (all : Array Oper) (p : Nat) (σ : Sig) : Nat -> Nat -> Env -> Option (List Prop × Env)
 | 0, _, E => some ([], E)
 | n + 1, j, E =>
  match all[j]? with
  | none => none
  | some o =>
   if panF all p j then looseR P N all p σ n (j + 1) (putE E o.dst .any)
   else if fitsD N o.dst then
    match guardP all E o with
    | some true =>
     match opQ P E σ o.op with
     | some (pre, q) => if sind E o.op || (readI E o.op).isSome then (match looseR P N all p σ n (j + 1) (putE E o.dst q) with | some (ps, F) => some (pre.toList ++ ps, F) | none => none) else none
     | none => none
    | some false => looseR P N all p σ n (j + 1) (putE E o.dst (.v undef))
    | none => none
   else none
theorem looseR_T {p : Nat} : ∀ (n j : Nat) (E F : Env) (ps : List Prop) (ds : List (Nat × Option Nat)), looseR P N all p σ n j E = some (ps, F) -> All ps -> TrF P N all (panF all p) E0 σ0 j E σ [] ds -> ∃ ds', TrF P N all (panF all p) E0 σ0 (j + n) F σ [] ds'
 | 0, j, E, F, ps, ds, h, _, hT => by
  unfold looseR at h; cases h; exact ⟨_, hT⟩
 | n + 1, j, E, F, ps, ds, h, hp, hT => by
  unfold looseR at h
  rw [show j + (n + 1) = (j + 1) + n by omega]
  split at h
  ·cases h
  ·rename_i o ho
   split at h
   ·rename_i hf
    exact looseR_T n _ _ _ _ _ h hp (.fl hT ho hf)
   ·split at h
    ·rename_i hd
     split at h
     ·rename_i hg
      split at h
      ·rename_i pre q hq
       split at h
       ·rename_i hi
        split at h
        ·rename_i ps' F' hr
         cases h
         have h2 := All_app.1 hp
         have hpre : Pre pre := by cases pre with | none => trivial | some x => exact h2.1.1
         cases hsd : sind E o.op with
         | true => exact looseR_T n _ _ _ _ _ hr h2.2 (.op hT ho hd (.q0 pre hg hq hpre hsd rfl) rfl rfl)
         | false =>
          rw [hsd, Bool.false_or] at hi
          obtain ⟨x, hx⟩ := Option.isSome_iff_exists.1 hi
          exact looseR_T n _ _ _ _ _ hr h2.2 (.op hT ho hd (.q1 pre hg hq hpre x (opQ_rd hx) rfl) rfl rfl)
        ·cases h
       ·cases h
      ·cases h
     ·rename_i hg
      exact looseR_T n _ _ _ _ _ h hp (.op hT ho hd (.skip hg rfl rfl) rfl rfl)
     ·cases h
    ·cases h
def viewPd (P : Program) (fn : Func) (c : Cfg) (is : List Nat) : Option (List Prop × FuncId × Sig × List PV) :=
 let s := stop P fn.ntmps c
 match s.2.dr with
 | none => none
 | some q =>
  match q.all[q.i]? with
  | none => none
  | some o =>
   match looseR P fn.ntmps q.all q.i s.2.σ (q.all.size - q.i) q.i s.2.E with
   | none => none
   | some (ps, F) =>
    if q.ss.isEmpty && (renOk s.2.σ is && (slotsOf q.all o).all fun t => (List.range q.all.size).all fun k => !decide (q.i <= k) || dstOf q.all k != some t) then
     match guardP q.all F o with
     | some true => match opC P F o.op with
      | some (g, rs) => some (s.1 ++ ps, g, renS is s.2.σ, rs.map (renP (invF is 0) 8))
      | none => none
     | _ => none
    else none
end
section
variable {w0 : W0} {L : List Nat} {P : Program} {Q : Exit -> Act -> World -> Prop} {fn : Func} {c : Cfg}
theorem M.callPd {g : FuncId} {m : Nat} {σ0 σ1 : Sig} {qs : List PV} {x : PV} (ps : List Prop) (is : List Nat) (hs : SpecP P g m σ0 qs σ1 x) (h : viewPd P fn c is = some (ps, g, σ0, qs)) (hp : All ps)
  (k : OkP fn w0 Q (mergeS is m (stop P fn.ntmps c).2.σ σ1) [] (renP (outF is m (stop P fn.ntmps c).2.σ.length) 8 x)) : M P fn w0 L Q c := by
 refine ⟨?_⟩
 unfold viewPd at h
 simp only at h
 split at h
 ·cases h
 ·rename_i q hdr
  split at h
  ·cases h
  ·rename_i o ho
   split at h
   ·cases h
   ·rename_i ps2 F hl
    split at h
    ·rename_i hcond
     split at h
     ·rename_i hg
      split at h
      ·rename_i g2 rs hc
       simp only [Option.some.injEq, Prod.mk.injEq] at h
       obtain ⟨e1, e2, e3, e4⟩ := h
       subst e2
       subst e1
       have hp2 := All_app.1 hp
       refine run_ok 3000 c hp2.1 ?_
       show OkF P fn w0 L Q (stop P fn.ntmps c).2
       have hp2 := hp2.2
       clear hp
       generalize (stop P fn.ntmps c).2 = d at hdr hl hc hg hcond e3 e4 k hp2
       obtain ⟨E, σ, todo, dr⟩ := d
       simp only at hdr hl hc hg hcond e3 e4 k hp2
       subst hdr
       simp only [Bool.and_eq_true, List.isEmpty_iff, List.all_eq_true, List.mem_range, Bool.or_eq_true, Bool.not_eq_true', decide_eq_false_iff_not, bne_iff_ne, ne_eq] at hcond
       obtain ⟨hss, hρ, hsl⟩ := hcond
       intro hnd hok hm hT β a W hI
       simp only at hnd hok hT hI ⊢
       rw [hss] at hT
       have hlt : q.i < q.all.size := (Array.getElem?_eq_some_iff.1 ho).1
       obtain ⟨ds2, hT2⟩ := looseR_T (q.all.size - q.i) q.i E F ps2 q.ds hl hp2 (.of hT)
       rw [show q.i + (q.all.size - q.i) = q.all.size by omega] at hT2
       exact drawn_pan ho hnd hm hok hT2 (fun t ht k hk hks hkt => (hsl t ht k hks).elim (fun h => h hk) fun h => h hkt) hg hc hs hρ e3 e4 (fun L γ a W' u hi hr => wpK_panic (k L γ a W' u hi hr)) β a W hI
      ·cases h
     ·cases h
    ·cases h
end
def clrAt (P : Program) (N : Nat) (d : Cfg) : Option (List Prop × Cfg) :=
 match d.dr, d.todo with
 | none, .ops all (o1 :: o2 :: l) :: k =>
  match o1.op, o2.op, o1.dst with
  | .slice t x (some lo) none none, .call { callee := .builtin .clear, args, argTypes }, some d1 =>
   match args.toList, argTypes.toList with
   | [.tmp d2], [t2] =>
    match rowInfo P t, evA d.E x, optInt d.E (some lo), guardP all d.E o1, guardP all ((d1, .any) :: d.E) o2 with
    | some (_, kk, _, _), .os _ r k2 n, some (some i), some true, some true =>
     match d.σ[r]? with
     | some [.rws k3 m el] =>
      if d1 = d2 /\ t = t2 /\ kk = k2 /\ k2 = k3 /\ fitsD N (some d1) = true /\ fitsD N o2.dst = true then
       some ([0 <= i /\ i <= (n : Int) /\ n <= m /\ 0 < n], ⟨putE ((d1, .any) :: d.E) o2.dst .any, d.σ.set r [.rws k2 i.toNat el], .ops all l :: k, none⟩)
      else none
     | _ => none
    | _, _, _, _, _ => none
   | _, _ => none
  | _, _, _ => none
 | _, _ => none
section
variable {w0 : W0} {W : World} {L : List Nat} {β : List (Option Nat)} {N : Nat} {P : Program} {E : Env} {σ : Sig} {Q : Exit -> Act -> World -> Prop} {a : Act} {fn : Func} {c : Cfg}
theorem clear_run {t e : TypeId} {k bytes r n m i : Nat} {zs : List Value} {el : Nat -> List PV} {c g : Nat} {ty : TypeId} (hI : Inv w0 L β σ N E a W) (hri : rowInfo P t = some (e, k, bytes, zs)) (hσ : σ[r]? = some [.rws k m el]) (hg : β[r]? = some (some g)) (hin : i <= n) (hnm : n <= m) (hnc : n <= c) :
  ∃ v W', (Builtin.clear_ #[t] ty #[.slice (if c = i then some ⟨g, 0, none⟩ else (some (⟨g, 0, none⟩ : Addr)).map (·.add (i * k))) (n - i) (c - i)]).run P W = .ok v W' /\ Inv w0 L β (σ.set r [.rws k i el]) N E a W' := by
 obtain ⟨hu, hk0, hzl, hz1, inf, z, hi, hz, hsz, hbb, hzc⟩ := rowInfo_at hri
 obtain ⟨ty2, us, hheap, u1, ul, uw⟩ := rws_out (hI.bx.hold hσ hg)
 have hst : ∀ W0, W0 = W -> Inv w0 L β (σ.set r [.rws k i el]) N E a W := fun _ _ => by
  refine { hI with bx := ⟨by simp [hI.bx.1], fun i1 j1 g1 c1 d1 h1 h2 h3 h4 l1 l2 => ?_, hI.bx.2.2.1, fun i1 cs h1 => ?_⟩ }
  ·have key : ∀ (x : Nat) (y : List PV), (σ.set r [.rws k i el])[x]? = some y -> isDd y = false -> ∃ y', σ[x]? = some y' /\ isDd y' = false := fun x y hx hy => by
    rw [List.getElem?_set] at hx
    split at hx
    ·rename_i e; subst e; exact ⟨_, hσ, rfl⟩
    ·exact ⟨y, hx, hy⟩
   obtain ⟨c2, q1, q2⟩ := key _ _ h3 l1
   obtain ⟨d2, q3, q4⟩ := key _ _ h4 l2
   exact hI.bx.2.1 i1 j1 g1 c2 d2 h1 h2 q1 q3 q2 q4
  ·rw [List.getElem?_set] at h1
   split at h1
   ·rename_i e
    subst e
    split at h1
    ·cases h1
     exact ⟨some g, hg, .rws _ _ _ ty2 us hheap u1 (by have := Nat.mul_le_mul_right k (show i <= m by omega); omega) fun j hj => uw j (by omega)⟩
    ·cases h1
   ·exact hI.bx.2.2.2 i1 cs h1
 by_cases hz0 : n - i = 0
 ·refine ⟨.tuple #[], W, ?_, hst W rfl⟩
  ·rw [hz0]
   split <;> simp [Builtin.clear_, run_underlying hu, Sem.run_bind, Sem.run_pure]
 ·have hci : ¬ c = i := by omega
  rw [if_neg hci]
  have hlen : (Builtin.zeroCells z.cells (n - i)).toList.length = (n - i) * k := by
   unfold Builtin.zeroCells
   rw [hzc]
   simp [hzl, Nat.mul_comm]
  have hmul : i * k + (n - i) * k = n * k := by rw [<- Nat.add_mul]; congr 1; omega
  have hmul2 := Nat.mul_le_mul_right k hnm
  obtain ⟨W', hrun', hs, ho, hn, o1, o2, o3⟩ := storeCells_run (P := P) (g := g) (off := i * k) (Builtin.zeroCells z.cells (n - i)).toList 0 us W hheap (by rw [hlen]; omega) (grown_one hzc hz1)
  simp only [Nat.add_zero] at hn
  refine ⟨.tuple #[], W', ?_, hI.write (W' := W') (cs := [.rws k i el]) hσ rfl hg hs ho (by simp only [World.shape?, hn, hheap]; simp; rw [<- Array.length_toList, hlen]; omega) o1 o2 o3 fun mv => .rws _ _ _ ty2 _ hn (fun x hx => ?_) (by simp only [List.length_append, List.length_take]; omega) fun j hj => ?_⟩
  ·obtain ⟨q, hq⟩ : ∃ q, n - i = q + 1 := ⟨n - i - 1, by omega⟩
   simp only [Option.map_some, add_addr, Nat.zero_add]
   unfold Builtin.clear_
   simp only [List.getElem?_toArray, List.getElem?_cons_zero, Sem.run_bind, run_underlying hu, Result.andThen_ok]
   rw [hq] at hrun' ⊢
   have hzv : (zeroValue e).run P W = .ok z W := by
    unfold zeroValue typeInfo
    simp [hi, hz, program, Sem.run_bind, Sem.run_pure, Sem.run]
   simp only [Sem.run_bind, hzv, Result.andThen_ok, hrun', Sem.run_pure]
  ·simp only [List.mem_append] at hx
   rcases hx with hx | hx | hx
   ·exact u1 x (List.mem_of_mem_take hx)
   ·exact grown_one hzc hz1 x hx
   ·exact u1 x (List.mem_of_mem_drop hx)
  ·refine mv _ _ ?_
   have hw := uw j (by omega)
   have hjk : j * k + k <= i * k := by rw [<- Nat.succ_mul]; exact Nat.mul_le_mul_right _ hj
   have : ((us.take (i * k) ++ ((Builtin.zeroCells z.cells (n - i)).toList ++ us.drop (i * k + (Builtin.zeroCells z.cells (n - i)).toList.length))).drop (j * k)).take k = (us.drop (j * k)).take k := by
    apply List.ext_getElem?
    intro q
    simp only [List.getElem?_take, List.getElem?_drop]
    by_cases hq : q < k
    ·rw [if_pos hq, if_pos hq, List.getElem?_append_left (by rw [List.length_take]; omega), List.getElem?_take, if_pos (by omega)]
    ·rw [if_neg hq, if_neg hq]
   rw [this]
   exact hw
def clrC (P : Program) (fn : Func) (c : Cfg) : Cfg := match clrAt P fn.ntmps (stop P fn.ntmps c).2 with | some q => q.2 | none => c
theorem M.clear (ps qs : List Prop) (h : (stop P fn.ntmps c).1 = ps) (hp : All ps) (h3 : (clrAt P fn.ntmps (stop P fn.ntmps c).2).map (·.1) = some qs) (hq : All qs) (k : M P fn w0 L Q (clrC P fn c)) : M P fn w0 L Q c := by
 refine ⟨run_ok 3000 c (by rw [show (runC P fn.ntmps 3000 c).1 = ps from h]; exact hp) ?_⟩
 show OkF P fn w0 L Q (stop P fn.ntmps c).2
 have k := k.out
 unfold clrC at k
 obtain ⟨d, h2, k⟩ : ∃ d, clrAt P fn.ntmps (stop P fn.ntmps c).2 = some (qs, d) /\ OkF P fn w0 L Q d := by
  cases h4 : clrAt P fn.ntmps (stop P fn.ntmps c).2 with
  | none => rw [h4] at h3; cases h3
  | some q =>
   rw [h4] at h3 k
   simp only [Option.map_some, Option.some.injEq] at h3
   exact ⟨q.2, by rw [<- h3], k⟩
 clear h3
 generalize (stop P fn.ntmps c).2 = b at h2
 obtain ⟨E, σ, todo, dr⟩ := b
 unfold clrAt at h2
 simp only at h2
 split at h2
 case h_2 => cases h2
 rename_i all o1 o2 l kk
 split at h2
 case h_2 => cases h2
 rename_i t x lo args argTypes d1 e1 e2 ed1
 split at h2
 case h_2 => cases h2
 rename_i d2 t2 ha ht
 split at h2
 case h_2 => cases h2
 rename_i e kk2 bytes zs e' r k2 n i hri hx hlo hg1 hg2
 split at h2
 case h_2 => cases h2
 rename_i k3 m el hσ
 split at h2
 case isFalse => cases h2
 rename_i hc
 obtain ⟨rfl, rfl, rfl, rfl, hf1, hf2⟩ := hc
 simp only [Option.some.injEq, Prod.mk.injEq] at h2
 obtain ⟨rfl, rfl⟩ := h2
 obtain ⟨⟨h0, hin, hnm, hn0⟩, -⟩ := hq
 obtain rfl : args = #[.tmp d1] := by apply Array.ext'; simpa using ha
 obtain rfl : argTypes = #[t] := by apply Array.ext'; simpa using ht
 intro β a W hI
 show wpListIn (Fr w0.ro) 0 P all _ (o1 :: o2 :: l) a W
 have hxr := evA_R hI.ev x
 rw [hx, R] at hxr
 rcases hxr with ⟨g, cc, hb, ex, c1, c2, c3⟩ | ⟨_, hz, _⟩
 case inr => omega
 obtain ⟨hu, hk0, hzl, hz1, inf, z, hi, hz, hsz, hbb, hzc⟩ := rowInfo_at hri
 have hsize : szP P e = some kk2 := by unfold szP; rw [hi]; simp [hsz]
 have hbr := bounds_run (P := P) (isS := true) (optInt_R hI.ev hlo) (show OptV none none from rfl) c1 (by simp only [Option.getD_some, Option.getD_none]; omega) W
 simp only [Option.getD_some, Option.getD_none, Int.toNat_natCast] at hbr
 have hrun1 : (execOp a.eval o1).run P W = .ok (.value (.slice (if cc = i.toNat then some ⟨g, 0, none⟩ else (some (⟨g, 0, none⟩ : Addr)).map (·.add (i.toNat * kk2))) (n - i.toNat) (cc - i.toNat))) W := by
  unfold execOp
  rw [e1]
  simp only [Option.map_some, Option.map_none, ex]
  simp only [Option.map_some] at hbr
  unfold Instr.sliceAt
  simp only [Sem.run_bind, underlying_run hu, Result.andThen_ok]
  unfold Instr.slice
  simp only [Sem.run_bind, underlying_run hu, Result.andThen_ok, hbr, sizeOf_run' hsize, Sem.run_pure]
  rfl
 refine list_wp (by rw [e1]; rfl) (guard_wanted hI.ev hg1) ?_
 unfold Oper.wp
 rw [hrun1]
 show wpListIn (Fr w0.ro) 0 P all _ (o2 :: l) (a.put o1.dst _) W
 rw [ed1]
 have hI1 : Inv w0 L β σ fn.ntmps (putE E (some d1) .any) (a.put (some d1) (.slice (if cc = i.toNat then some ⟨g, 0, none⟩ else (some (⟨g, 0, none⟩ : Addr)).map (·.add (i.toNat * kk2))) (n - i.toNat) (cc - i.toNat))) W := { hI with ev := hI.ev.put (by rw [R]; trivial) hf1, nod := hI.nod.put _ _ }
 refine list_wp (by rw [e2]; rfl) (guard_wanted hI1.ev hg2) ?_
 have hd1 : d1 < a.tmps.size := by
  have h1 : a.tmps.size = fn.ntmps := hI.ev.1
  have h2 : d1 < fn.ntmps := by simpa [fitsD] using hf1
  rw [h1]; exact h2
 have hev : ∀ v, (a.put (some d1) v).eval (.tmp d1) = v := fun v => by
  simp [Act.put, Act.eval, hd1]
 obtain ⟨v, W', hrun2, hI2⟩ := clear_run (ty := o2.type) (c := cc) hI1 hri hσ hb (show i.toNat <= n by omega) hnm c1
 have hrun : (execOp (a.put (some d1) (.slice (if cc = i.toNat then some ⟨g, 0, none⟩ else (some (⟨g, 0, none⟩ : Addr)).map (·.add (i.toNat * kk2))) (n - i.toNat) (cc - i.toNat))).eval o2).run P W = .ok (.value v) W' := by
  unfold execOp
  simp only [e2, resolve, invoke, builtin, Sem.run_bind, Sem.run_pure, Result.andThen_ok, List.map_toArray, List.map_cons, List.map_nil, hev, hrun2]
 unfold Oper.wp
 rw [hrun]
 exact k β _ W' { hI2 with ev := hI2.ev.put (by rw [R]; trivial) hf2, nod := hI2.nod.put _ _ }
end
theorem put_none (w : Wd) (hw : w.Ok) (ch : Ch) (hf : objF w ch.oid = false) : SpecP Tryz.prog 109 4 (edS w) [.ref 0 0, .agg ch.pv] (edS w) (unfV 3) := by
 refine SpecP.start (by kernel_rfl) Tryz.func109 rfl rfl (Nat.le_of_ble_eq_true rfl) fun w0 L hst => ?_
 exact M.callPd [] [0, 1, 2, 3] (slot_none w hw ch hf) (by kernel_rfl) trivial (OkP.done [0, 1, 2, 3] hst rfl (by kernel_rfl) (by kernel_rfl) (by kernel_rfl))
theorem put_no (w : Wd) (hw : w.Ok) (ch : Ch) (hf : objF w ch.oid = true) (ha : decide (atF (chO w ch).sl ch.name >= 0) = false) :
  SpecP Tryz.prog 109 5 (edG w (chI w ch) (chO w ch)) [.ref 0 0, .agg ch.pv] (edG w (chI w ch) (chO w ch)) (unfV 3) := by
 refine SpecP.start (by kernel_rfl) Tryz.func109 rfl rfl (Nat.le_of_ble_eq_true rfl) fun w0 L hst => ?_
 exact M.callPd [] [0, 1, 2, 3, 4] (slot_no w hw ch (chI w ch) hf rfl ha) (by kernel_rfl) trivial (OkP.done [0, 1, 2, 3, 4] hst rfl (by kernel_rfl) (by kernel_rfl) (by kernel_rfl))
theorem turn_none (w : Wd) (hw : w.Ok) (ch : Ch) (hf : objF w ch.oid = false) : SpecP Tryz.prog 112 4 (edS w) [.ref 0 0, .agg ch.pv] (edS w) (unfV 3) := by
 refine SpecP.start (by kernel_rfl) Tryz.func112 rfl rfl (Nat.le_of_ble_eq_true rfl) fun w0 L hst => ?_
 exact M.callPd [] [0, 1, 2, 3] (slot_none w hw ch hf) (by kernel_rfl) trivial (OkP.done [0, 1, 2, 3] hst rfl (by kernel_rfl) (by kernel_rfl) (by kernel_rfl))
theorem turn_no (w : Wd) (hw : w.Ok) (ch : Ch) (hf : objF w ch.oid = true) (ha : decide (atF (chO w ch).sl ch.name >= 0) = false) :
  SpecP Tryz.prog 112 5 (edG w (chI w ch) (chO w ch)) [.ref 0 0, .agg ch.pv] (edG w (chI w ch) (chO w ch)) (unfV 3) := by
 refine SpecP.start (by kernel_rfl) Tryz.func112 rfl rfl (Nat.le_of_ble_eq_true rfl) fun w0 L hst => ?_
 exact M.callPd [] [0, 1, 2, 3, 4] (slot_no w hw ch (chI w ch) hf rfl ha) (by kernel_rfl) trivial (OkP.done [0, 1, 2, 3, 4] hst rfl (by kernel_rfl) (by kernel_rfl) (by kernel_rfl))
theorem remove_none (w : Wd) (hw : w.Ok) (ch : Ch) (hf : objF w ch.oid = false) : SpecP Tryz.prog 107 4 (edS w) [.ref 0 0, .agg ch.pv] (edS w) (unfV 3) := by
 refine SpecP.start (by kernel_rfl) Tryz.func107 rfl rfl (Nat.le_of_ble_eq_true rfl) fun w0 L hst => ?_
 exact M.callP [] [0, 1, 2, 3] (slot_none w hw ch hf) (by kernel_rfl) trivial (by kernel_rfl) (OkP.done [0, 1, 2, 3] hst rfl (by kernel_rfl) (by kernel_rfl) (by kernel_rfl))
theorem remove_no (w : Wd) (hw : w.Ok) (ch : Ch) (hf : objF w ch.oid = true) (ha : decide (atF (chO w ch).sl ch.name >= 0) = false) :
  SpecP Tryz.prog 107 5 (edG w (chI w ch) (chO w ch)) [.ref 0 0, .agg ch.pv] (edG w (chI w ch) (chO w ch)) (unfV 3) := by
 refine SpecP.start (by kernel_rfl) Tryz.func107 rfl rfl (Nat.le_of_ble_eq_true rfl) fun w0 L hst => ?_
 exact M.callP [] [0, 1, 2, 3, 4] (slot_no w hw ch (chI w ch) hf rfl ha) (by kernel_rfl) trivial (by kernel_rfl) (OkP.done [0, 1, 2, 3, 4] hst rfl (by kernel_rfl) (by kernel_rfl) (by kernel_rfl))
theorem del1_spec (ch : Ch) (s : Sl) : Spec Tryz.prog 161 [.agg s.pv, .ptr ch.pv] (.sb (nmEq ch.name s)) := by
 refine Spec.startL (by kernel_rfl) Tryz.func161 rfl rfl fun w0 L hst => ?_
 exact M.ret (.sb (nmEq ch.name s)) (by kernel_rfl) rfl
def delF (n : List UInt8) (l : List Sl) : List Sl := l.filter fun s => !nmEq n s
theorem fst_split {p : Sl -> Bool} {l : List Sl} {i : Nat} (h : fstI p l = (i : Int)) : i < l.length /\ (l.take (i + 1)).filter (fun s => !p s) = l.take i := by
 unfold fstI at h
 cases hf : l.findIdx? p with
 | none => rw [hf] at h; simp only at h; omega
 | some k =>
  rw [hf] at h
  simp only at h
  obtain rfl : k = i := by omega
  obtain ⟨hk, h1, h2⟩ := List.findIdx?_eq_some_iff_getElem.1 hf
  refine ⟨hk, ?_⟩
  rw [List.take_succ_eq_append_getElem hk, List.filter_append, List.filter_eq_self.2 fun x hx => ?_]
  ·simp [h1]
  ·obtain ⟨j, hj, he⟩ := List.mem_iff_getElem.1 hx
   rw [List.getElem_take] at he
   rw [List.length_take] at hj
   have := h2 j (by omega)
   rw [<- he]; simpa using this
structure DelS (d : Sl -> Bool) (l : List Sl) (i j : Nat) (r : List Sl) : Prop where
 ij : i < j
 jn : j <= l.length
 len : r.length = l.length
 pre : r.take i = (l.take j).filter fun s => !d s
 post : r.drop j = l.drop j
theorem DelS.at {d : Sl -> Bool} {l r : List Sl} {i j : Nat} (h : DelS d l i j r) (hlt : j < l.length) : r.getD j default = l.getD j default := by
 have h1 := congrArg (fun x => x.getD 0 default) h.post
 simp only [List.getD_eq_getElem?_getD, List.getElem?_drop, Nat.add_zero] at h1
 simp only [List.getD_eq_getElem?_getD]; exact h1
theorem DelS.filt {d : Sl -> Bool} {l r : List Sl} {i j : Nat} (h : DelS d l i j r) (hlt : j < l.length) : (l.take (j + 1)).filter (fun s => !d s) = r.take i ++ (if d (l.getD j default) then [] else [l.getD j default]) := by
 rw [List.take_succ_eq_append_getElem hlt, List.filter_append, <- h.pre]
 congr 1
 have e : l.getD j default = l[j] := by rw [List.getD_eq_getElem?_getD, List.getElem?_eq_getElem hlt]; rfl
 rw [e]
 cases hd : d l[j] <;> simp [hd]
theorem DelS.drop1 {l r : List Sl} {j : Nat} (h : r.drop j = l.drop j) : r.drop (j + 1) = l.drop (j + 1) := by
 rw [<- List.drop_drop, <- List.drop_drop, h]
theorem DelS.keep {d : Sl -> Bool} {l r : List Sl} {i j : Nat} (h : DelS d l i j r) (hlt : j < l.length) (hd : d (r.getD j default) = false) : DelS d l (i + 1) (j + 1) (r.set i (r.getD j default)) where
 ij := by have := h.ij; omega
 jn := hlt
 len := by rw [List.length_set]; exact h.len
 pre := by
  have hi : i < r.length := by have := h.len; have := h.ij; omega
  have e := h.at hlt
  rw [e] at hd ⊢
  rw [h.filt hlt, hd, List.take_succ_eq_append_getElem (by rw [List.length_set]; exact hi), List.take_set, List.getElem_set_self]
  rw [List.set_eq_of_length_le (by rw [List.length_take]; omega)]
  rfl
 post := by
  rw [List.drop_set_of_lt (by have := h.ij; omega)]
  exact DelS.drop1 h.post
theorem DelS.skip {d : Sl -> Bool} {l r : List Sl} {i j : Nat} (h : DelS d l i j r) (hlt : j < l.length) (hd : d (r.getD j default) = true) : DelS d l i (j + 1) r where
 ij := by have := h.ij; omega
 jn := hlt
 len := h.len
 pre := by
  have e := h.at hlt
  rw [e] at hd
  rw [h.filt hlt, hd]; simp
 post := DelS.drop1 h.post
theorem delF_spec (l : List Sl) (ch : Ch) (hl : l.length <= 1000000000) (i0 : Nat) (hi0 : fstI (nmEq ch.name) l = (i0 : Int)) :
  SpecM Tryz.prog 160 2 [slotR l, ch.pv] [.os 30 0 5 l.length, .fn 161 [.ref 1 0]] [slotR (delF ch.name l), ch.pv] (.os 30 0 5 (delF ch.name l).length) := by
 obtain ⟨hi0l, hf0⟩ := fst_split hi0
 refine SpecM.start (by kernel_rfl) Tryz.func160 rfl rfl (Nat.le_of_ble_eq_true rfl) fun w0 L hst => ?_
 have hidx := idx_Slot_1' l 161 (.ptr ch.pv) (nmEq ch.name) rfl fun x _ => del1_spec ch x
 rw [hi0] at hidx
 refine M.clp [l.length <= l.length] ⟨Nat.le_refl _, trivial⟩ hidx ?_
 refine M.no (b := (i0 : Int) == -1) (by rw [beq_eq_false_iff_ne]; omega) (by kernel_rfl) ?_
 refine M.loopL (ι := {q : Nat × Nat × List Sl // DelS (nmEq ch.name) l q.1 q.2.1 q.2.2}) (fun q => [(0, .os 30 0 5 l.length), (1, .fn 161 [.ref 1 0]), (5, I q.1.1), (6, I q.1.2.1)])
  (fun q => [[.rws 5 l.length (fun x => Sl.pv (q.1.2.2.getD x default))], ch.pv]) (fun q => l.length - q.1.2.1) ⟨(i0, i0 + 1, l), Nat.lt_succ_self _, hi0l, rfl, hf0.symm, rfl⟩ [In64 ((i0 : Int) + 1)] (by kernel_rfl) ⟨⟨by omega, by omega⟩, trivial⟩ (by kernel_rfl) (by kernel_rfl) fun ⟨(i, j, r), hD⟩ L ih => ?_
 simp only at hD
 refine M.test (decide ((j : Int) < (l.length : Int))) (by kernel_rfl) (fun h1 => ?_) (fun h1 => ?_)
 ·have hlt : j < l.length := by simpa using h1
  have hij := hD.ij
  refine M.clp [0 <= (j : Int) /\ (j : Int) < (l.length : Int), j < l.length] ⟨by omega, hlt, trivial⟩ (del1_spec ch (r.getD j default)) ?_
  refine M.test (!nmEq ch.name (r.getD j default)) (by kernel_rfl) (fun h2 => ?_) (fun h2 => ?_)
  ·have hd : nmEq ch.name (r.getD j default) = false := by simpa using h2
   have hK := hD.keep hlt hd
   have hir : i < r.length := by have := hD.len; omega
   refine M.ren [0 <= (i : Int) /\ (i : Int) < (l.length : Int), i < l.length, In64 ((i : Int) + 1), In64 ((j : Int) + 1)] [0, 1] hst (by kernel_rfl) ⟨by omega, by omega, ⟨by omega, by omega⟩, ⟨by omega, by omega⟩, trivial⟩ (by kernel_rfl) (by kernel_rfl) rfl fun L' => ?_
   refine M.sigT [] [[.rws 5 l.length (fun x => (setEl (fun x => Sl.pv (r.getD x default)) i 0 (Sl.pv (r.getD j default)) x).map (renP (invF [0, 1] 0) 7))], ch.pv] [[.rws 5 l.length (fun x => Sl.pv ((r.set i (r.getD j default)).getD x default))], ch.pv] (by kernel_rfl) trivial (by kernel_rfl) (by kernel_rfl) (.cons (.rws rfl fun x hx β L W us h => ?_) (.cons (.refl _) .nil)) ?_
   ·unfold setEl at h
    by_cases e : x = i
    ·rw [if_pos e] at h
     subst e
     have e2 : (r.set x (r.getD j default)).getD x default = r.getD j default := by
      rw [List.getD_eq_getElem?_getD, List.getElem?_set_self hir]; rfl
     rw [e2]
     exact h
    ·rw [if_neg e] at h
     have e2 : (r.set i (r.getD j default)).getD x default = r.getD x default := by
      simp only [List.getD_eq_getElem?_getD]; rw [List.getElem?_set_ne (fun h => e h.symm)]
     rw [e2]
     exact h
   ·exact M.back [] (ih ⟨(i + 1, j + 1, r.set i (r.getD j default)), hK⟩ L' (by show l.length - (j + 1) < l.length - j; omega)) (by kernel_rfl) trivial (by kernel_rfl) (by kernel_rfl) (by kernel_rfl) (by kernel_rfl)
  ·have hd : nmEq ch.name (r.getD j default) = true := by simpa using h2
   have hK := hD.skip hlt hd
   refine M.ren [In64 ((j : Int) + 1)] [0, 1] hst (by kernel_rfl) ⟨⟨by omega, by omega⟩, trivial⟩ (by kernel_rfl) (by kernel_rfl) rfl fun L' => ?_
   exact M.back [] (ih ⟨(i, j + 1, r), hK⟩ L' (by show l.length - (j + 1) < l.length - j; omega)) (by kernel_rfl) trivial (by kernel_rfl) (by kernel_rfl) (by kernel_rfl) (by kernel_rfl)
 ·have hj : j = l.length := by have := of_decide_eq_false h1; have := hD.jn; omega
  subst hj
  have hij := hD.ij
  have hpre : r.take i = delF ch.name l := by have := hD.pre; rwa [List.take_length] at this
  have hlen : (delF ch.name l).length = i := by rw [<- hpre, List.length_take, hD.len]; omega
  refine M.clear [] [0 <= (i : Int) /\ (i : Int) <= (l.length : Int) /\ l.length <= l.length /\ 0 < l.length] (by kernel_rfl) trivial (by kernel_rfl) ⟨⟨by omega, by omega, by omega, by omega⟩, trivial⟩ ?_
  generalize delF ch.name l = d at hpre hlen ⊢
  subst hlen
  refine M.sigT [(0 : Int) <= 0 /\ 0 <= (d.length : Int) /\ (d.length : Int) <= (l.length : Int)] [[.rws 5 d.length (fun x => Sl.pv (r.getD x default))], ch.pv] [slotR d, ch.pv] (by kernel_rfl) ⟨by omega, trivial⟩ (by kernel_rfl) (by kernel_rfl) (.cons (.rws rfl fun x hx β L W us h => ?_) (.cons (.refl _) .nil)) ?_
  ·have e : r.getD x default = d.getD x default := by
    rw [<- hpre]
    simp only [List.getD_eq_getElem?_getD, List.getElem?_take]
    rw [if_pos hx]
   rw [<- e]; exact h
  ·exact M.retm [] [0, 1] hst rfl (by kernel_rfl) trivial rfl rfl
end Go.Proofs.YtcknpohghmkbmaaGreatDoor
