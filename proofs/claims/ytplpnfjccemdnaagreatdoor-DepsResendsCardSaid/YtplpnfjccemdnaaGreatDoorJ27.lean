import Derived.Test.YtplpnfjccemdnaaGreatDoorRows
import Derived.Test.YtplpnfjccemdnaaGreatDoorCards
import Derived.Test.YtplpnfjccemdnaaGreatDoorTie
import Derived.Test.YtplpnfjccemdnaaGreatDoorJ26
import Derived.ProofKit
import Derived.OpenShut
import Derived.LaidMore
import Derived.Lay
import Derived.SevenTiedAt
import Derived.Stop.Joined
import Derived.Stop.LaidErr
import Derived.Lib.SmallJoins
import Derived.Lib.LaidTab
import Derived.Carry
set_option linter.unusedVariables false
set_option linter.unusedSimpArgs false
/- The texts R3 R4 D28 H1 H2 H3 H4 H6 H7 of the proof, laid one behind the other. -/
namespace Go.Proofs.YtplpnfjccemdnaaGreatDoor
open Go.ChangeShapes Go.WideShapes Go.ChangeAt Go.ChangeMaps Go.RowKit Go.Joins
theorem own : ownKnob Tryz.prog.godebug = none := by kernel_rfl
def seatLaid : List (String × DataW Unit) := Rows.depsSoundRow.laid
theorem laidPlain (W : World) : laidMetH Tryz.prog seatLaid W = laidMet Tryz.prog seatLaid W := MakeChecks.laidMetH_plain _ _ _ (by kernel_rfl)
theorem star : "*" ++ "errors.errorString" = "*errors.errorString" := by decide
theorem rowErr (u : TypeId) (h : Tryz.prog.typeName? 3 u = some "*errors.errorString") : u = 400 :=
 typeName_ptr_named (nm := "errors.errorString") (by rw [star]; kernel_rfl) (by kernel_rfl) (by decide) u (by rw [star]; exact h)
set_option maxRecDepth 100000 in
theorem gl_of_laid {W : World} (h : laidMetH Tryz.prog seatLaid W) : Gl [] W := by
 rw [laidPlain] at h
 have h3 := laidMet.tail (laidMet.tail h)
 have h5 := laidMet.tail (laidMet.tail h3)
 have e : (Rows.laid_internal_strconv_uint64pow10 : DataW Unit) = Lib.tabData .u64 Lib.pow10Tab := by kernel_rfl
 rw [e] at h3
 have t := Lib.tabIs_of_head (t := 386) (e := 357) (n := 20) (g := gPow) (by kernel_rfl) (by kernel_rfl) (by kernel_rfl) (by kernel_rfl) (by kernel_rfl) (by kernel_rfl) h3
 obtain ⟨a, s, hv, _⟩ := laid_sentinel (g := gErr) (ti := 314) (tp := 400) (te := 402) h5 (by kernel_rfl) (by kernel_rfl) Tryz.underlying314 rowErr (by kernel_rfl) Tryz.underlying402 rfl rfl (by kernel_rfl) (by kernel_rfl) (by kernel_rfl)
 have heap : ∀ {n : String} {g : Nat} {cs : Array Value}, Tryz.prog.globalNamed n = some g -> W.var? Tryz.prog n = some cs -> g < W.heap.size /\ ∃ t fr, W.heap[g]? = some (.cells cs t fr) := fun {n g cs} hg h => by
  unfold World.var? at h
  rw [hg] at h
  simp only [Option.bind_some] at h
  cases hh : W.heap[g]? with
  | none => rw [hh] at h; cases h
  | some o =>
   rw [hh] at h
   cases o with
   | cells c t fr =>
    simp only [Option.some.injEq] at h
    subst h
    exact ⟨(Array.getElem?_eq_some_iff.1 hh).1, t, fr, rfl⟩
   | _ => cases h
 obtain ⟨p1, t1, f1, q1⟩ := heap (g := gPow) (by kernel_rfl) t
 obtain ⟨p2, t2, f2, q2⟩ := heap (g := gErr) (by kernel_rfl) hv
 intro q hq
 simp only [ghosts, List.mem_cons, List.not_mem_nil, or_false] at hq
 rcases hq with rfl | rfl
 ·rw [R]
  exact ⟨fun h => by rcases h with h | h <;> simp at h, p1, _, _, _, q1, rfl⟩
 ·rw [R]
  exact ⟨fun h => by rcases h with h | h <;> simp at h, p2, _, _, _, q2, _, _, rfl⟩
end Go.Proofs.YtplpnfjccemdnaaGreatDoor
namespace Go.Proofs.YtplpnfjccemdnaaGreatDoor
open Go.ChangeShapes Go.WideShapes Go.ChangeAt Go.ChangeMaps Go.RowKit Go.Joins
theorem laidOut : laidOutB Tryz.prog = true := by kernel_rfl
section
variable {H : Type} {enc : TypeId × Value -> H} {P : Program} {W W' : World}
def rowedB (P : Program) (ts : List TypeId) : Bool := ts.all fun t => P.readableRec t && decide (t < P.types.size)
theorem rowed_of {ts : List TypeId} (h : rowedB P ts = true) : ∀ t ∈ ts, P.readableRec t = true /\ t < P.types.size := fun t ht => by
 have := List.all_eq_true.1 h t ht
 simpa using this
theorem below_trodAll (hl : laidOutB P = true) : ∀ {ts : List TypeId} {vs : List Value} {ds : List (DataW H)} {ps : List MemPlace}, DataW.TrodAll enc P W 0 (fun _ => true) true ts vs ds ps -> (∀ t ∈ ts, P.readableRec t = true /\ t < P.types.size) -> Below W.heap.size W W' ->
  DataW.TrodAll enc P W' 0 (fun b => decide (b < W.heap.size)) true ts vs ds ps
 | [], vs, ds, ps, h, _, _ => by
  obtain ⟨rfl, rfl, rfl⟩ := trodAll_nil h
  exact trodAll_mk0
 | t :: ts, vs, ds, ps, h, hr, hb => by
  have hlt := DataW.TrodAll.lt h
  obtain ⟨v, vs', d, ds', p, q, rfl, rfl, rfl, h1, h2⟩ := trodAll_cons h
  have ht := hr t (List.mem_cons_self ..)
  exact trodAll_cons_mk (Below.trod hl ht.1 ht.2 h1 hb fun x hx => hlt x (List.mem_append_left _ hx)) (below_trodAll hl h2 (fun t' h' => hr t' (List.mem_cons_of_mem _ h')) hb)
theorem sized_at {ts us : List TypeId} {ds gs : List (DataW H)} (h : (DataW.weightsEach P (ts ++ us) (ds ++ gs)).all (· <= reachBytes) = true) {j : Nat} {t : TypeId} {d : DataW H} (ht : (ts ++ us)[j]? = some t) (hd : (ds ++ gs)[j]? = some d) : (d.weights P t).all (· <= reachBytes) = true :=
 List.all_eq_true.2 fun n hn => List.all_eq_true.1 h n (DataW.weights_mem_each ht hd n hn)
theorem arg_struct {T : TypeId} {fs : Array Field} {α : Type} {k : Nat} {f : α -> List PV} {B : α -> Prop} {r : Reach} {b0 : Nat} {v : Value} {d : DataW H} {p : List MemPlace} {sp : Nat -> Bool} {held : Bool} (ho : OpenT P T k f B) (ht : P.underlying T = some (.struct fs))
  (hv : Value.okWide P W r b0 T v) (h : DataW.Trod enc P W 0 sp held T v d p) (hw : (d.weights P T).all (· <= reachBytes) = true) : ∃ a, R [] [] W (.agg (f a)) v /\ B a := by
 obtain ⟨cs, rfl, _⟩ := okWide_struct ht hv
 obtain ⟨fuel, hf⟩ := h
 obtain ⟨a, _, h2, h3, h4⟩ := ho.2 H enc W sp held fuel cs.toList (d, p) (by simpa [Value.cells] using hf) hw
 exact ⟨a, by rw [R]; exact ⟨cs.toList, by simp, h2, h3⟩, h4⟩
theorem arg_one {T : TypeId} {α : Type} {f : α -> PV} {B : α -> Prop} {v : Value} {d : DataW H} {p : List MemPlace} {sp : Nat -> Bool} {held : Bool} (ho : OpenT P T 1 (fun a => [f a]) B) (hc : v.cells.toList = [v])
  (h : DataW.Trod enc P W 0 sp held T v d p) (hw : (d.weights P T).all (· <= reachBytes) = true) : ∃ a, R [] [] W (f a) v /\ B a := by
 obtain ⟨fuel, hf⟩ := h
 rw [hc] at hf
 obtain ⟨a, _, _, h3, h4⟩ := ho.2 H enc W sp held fuel [v] (d, p) hf hw
 obtain ⟨u, us, e, q, _⟩ := h3.uncons
 cases e
 exact ⟨a, q, h4⟩
theorem arg_slice {T e : TypeId} {α : Type} {f : α -> PV} {B : α -> Prop} {r : Reach} {b0 : Nat} {v : Value} {d : DataW H} {p : List MemPlace} {sp : Nat -> Bool} {held : Bool} (ho : OpenT P T 1 (fun a => [f a]) B) (ht : P.underlying T = some (.slice e))
  (hv : Value.okWide P W r b0 T v) (h : DataW.Trod enc P W 0 sp held T v d p) (hw : (d.weights P T).all (· <= reachBytes) = true) : ∃ a, R [] [] W (f a) v /\ B a := by
 obtain ⟨a, len, cap, rfl⟩ := okWide_slice ht hv
 exact arg_one ho rfl h hw
end
section
variable {H : Type} {enc : TypeId × Value -> H} {W : World}
set_option maxRecDepth 100000 in
theorem arg_int {r : Reach} {b0 : Nat} {v : Value} {d : DataW H} {p : List MemPlace} {sp : Nat -> Bool} {held : Bool} (ht : Tryz.prog.underlying 3 = some (.int .i64)) (hv : Value.okWide Tryz.prog W r b0 3 v) (h : DataW.Trod enc Tryz.prog W 0 sp held 3 v d p) (hw : (d.weights Tryz.prog 3).all (· <= reachBytes) = true) : ∃ n : Int, R [] [] W (I n) v /\ In64 n := by
 obtain ⟨n, rfl⟩ := okWide_int ht hv
 exact arg_one intO rfl h hw
set_option maxRecDepth 100000 in
theorem arg_str {r : Reach} {b0 : Nat} {v : Value} {d : DataW H} {p : List MemPlace} {sp : Nat -> Bool} {held : Bool} (ht : Tryz.prog.underlying 9 = some .string) (hv : Value.okWide Tryz.prog W r b0 9 v) (h : DataW.Trod enc Tryz.prog W 0 sp held 9 v d p) (hw : (d.weights Tryz.prog 9).all (· <= reachBytes) = true) : ∃ s : List UInt8, R [] [] W (S s) v /\ s.length <= Big47 := by
 obtain ⟨n, rfl⟩ := okWide_string ht hv
 exact arg_one strO rfl h hw
end
theorem bulk_of {w : Wd} (h : w.B) : Bulk w := by
 obtain ⟨⟨h1, o⟩, ⟨h2, a⟩, ⟨h3, c⟩, _⟩ := h
 exact ⟨h1, h2, h3, fun x hx => ⟨(o x hx).2.2.1.1, (o x hx).2.2.2.1.1⟩, fun x hx => (a x hx).2.2.2.2.2.1.1, fun x hx => ⟨(c x hx).2.2.2.2.1.1, (c x hx).2.2.2.2.2.1.1, (c x hx).2.2.2.2.2.2.1.1, (c x hx).2.2.2.2.2.2.2.1.1, (c x hx).2.2.2.2.2.2.2.2.1.1⟩⟩
theorem sumTo_mem {α : Type} {b : Int} {f : α -> Int} (hf : ∀ x, 0 <= f x) : ∀ (l : List α) (n : Int), sumTo b f l n <= b -> n <= b /\ (0 <= n -> ∀ x ∈ l, f x <= b)
 | [], n, h => ⟨h, fun _ x hx => by cases hx⟩
 | y :: t, n, h => by
  rw [sumTo] at h
  cases hd : decide (n <= b) with
  | false => rw [hd] at h; exact absurd h (of_decide_eq_false hd)
  | true =>
   rw [hd, cond_true] at h
   obtain ⟨h1, h2⟩ := sumTo_mem hf t _ h
   have hy := hf y
   refine ⟨of_decide_eq_true hd, fun h0 x hx => ?_⟩
   rcases List.mem_cons.1 hx with rfl | hx
   ·omega
   ·exact h2 (by omega) x hx
theorem sumTo_pos {α : Type} {b : Int} {f : α -> Int} (hf : ∀ x, 0 <= f x) : ∀ (l : List α) (n : Int), 0 <= n -> 0 <= sumTo b f l n
 | [], n, h => h
 | y :: t, n, h => by
  rw [sumTo]
  cases decide (n <= b)
  ·exact h
  ·exact sumTo_pos hf t _ (by have := hf y; omega)
theorem obN_pos (x : Ob) : 0 <= obN x := by unfold obN; omega
theorem acN_pos (x : Ac) : 0 <= acN x := by unfold acN; omega
theorem cdN_pos (x : Cd) : 1 <= cdN x := by unfold cdN; omega
theorem small_of {w : Wd} (hs : smallT w = true) : (w.objs.length : Int) + w.acts.length <= 1200 /\ (∀ x ∈ w.objs, obN x <= 1200) /\ (∀ x ∈ w.acts, acN x <= 1200) /\ ∀ x ∈ w.cds, cdN x <= 1200 := by
 have h := of_decide_eq_true hs
 unfold smallN at h
 have p0 : (0 : Int) <= (w.objs.length : Int) + w.acts.length := by omega
 have p1 := sumTo_pos (b := 1200) obN_pos w.objs _ p0
 have p2 := sumTo_pos (b := 1200) acN_pos w.acts _ p1
 obtain ⟨a1, a2⟩ := sumTo_mem (fun x => Int.le_trans (by decide) (cdN_pos x)) _ _ h
 obtain ⟨b1, b2⟩ := sumTo_mem acN_pos _ _ a1
 obtain ⟨c1, c2⟩ := sumTo_mem obN_pos _ _ b1
 exact ⟨c1, c2 p0, b2 p1, a2 p2⟩
theorem sumTo_count {α : Type} {b : Int} {f : α -> Int} (hf : ∀ x, 1 <= f x) : ∀ (l : List α) (n : Int), 0 <= n -> sumTo b f l n <= b -> n + l.length <= b
 | [], n, _, h => by
  have h' : n <= b := h
  show n + ((0 : Nat) : Int) <= b
  omega
 | y :: t, n, h0, h => by
  have h' := h
  rw [sumTo] at h
  cases hd : decide (n <= b) with
  | false => rw [hd] at h; exact absurd h (of_decide_eq_false hd)
  | true =>
   rw [hd, cond_true] at h
   have hy := hf y
   have := sumTo_count hf t _ (by omega) h
   simp only [List.length_cons]; omega
theorem ok_of_small {w : Wd} (hB : w.B) (hs : smallT w = true) : w.Ok := by
 obtain ⟨h0, h1, h2, h3⟩ := small_of hs
 obtain ⟨⟨_, o⟩, ⟨_, a⟩, ⟨_, c⟩, _⟩ := hB
 have hc : (w.cds.length : Int) <= 1200 := by
  have h := of_decide_eq_true hs
  unfold smallN at h
  have p0 : (0 : Int) <= (w.objs.length : Int) + w.acts.length := by omega
  have := sumTo_count cdN_pos _ _ (sumTo_pos acN_pos _ _ (sumTo_pos obN_pos _ _ p0)) h
  have p := sumTo_pos (b := 1200) acN_pos w.acts _ (sumTo_pos (b := 1200) obN_pos w.objs _ p0)
  omega
 refine ⟨fun x hx => ?_, fun x hx => ?_, fun x hx => ?_, by omega, by omega, by omega⟩
 ·have := h1 x hx; unfold obN at this
  exact ⟨fun s hs => ((o x hx).2.2.1.2 s hs).2.2.1.2.1, fun v hv => ((o x hx).2.2.2.1.2 v hv).2.1, by omega, by omega⟩
 ·have := h2 x hx; unfold acN at this
  exact ⟨(a x hx).2.2.1.2.1, fun v hv => ((a x hx).2.2.2.2.2.1.2 v hv).2.1, by omega⟩
 ·have := h3 x hx; unfold cdN at this
  exact ⟨fun v hv => ((c x hx).2.2.2.2.2.1.2 v hv).2.1, fun v hv => ((c x hx).2.2.2.2.2.2.1.2 v hv).2.1, by omega, by omega, by omega, by omega, by omega, fun i hi => ⟨((c x hx).2.2.2.2.2.2.2.2.1.2 i hi).2.1, ((c x hx).2.2.2.2.2.2.2.2.1.2 i hi).2.2.1, ((c x hx).2.2.2.2.2.2.2.2.1.2 i hi).2.2.2.1⟩⟩
def objU (w : Wd) : List Int := w.objs.flatMap fun o => (parL o.sl).map fun v => startF v
def mapU (maps : List Mp) : List Int := maps.flatMap fun m => (parL m.sl).map fun v => startF v
def moreU (w : Wd) (maps : List Mp) (y : Ty) : List Int := 5 :: 6 :: startF y.v :: (objU w ++ mapU maps)
theorem parL_len (l : List Sl) : (parL l).length <= l.length := by unfold parL; rw [List.length_map]; exact List.length_filter_le _ _
theorem sumTo_sum {α : Type} {b : Int} {f : α -> Int} (hf0 : ∀ x : α, 0 <= f x) : ∀ (l : List α) (n : Int), sumTo b f l n <= b -> n + (l.map f).sum = sumTo b f l n
 | [], n, h => by simp [sumTo]
 | x :: t, n, h => by
  by_cases hn : n <= b
  ·rw [sumTo, decide_eq_true hn, cond_true] at h ⊢
   have := sumTo_sum hf0 t _ h
   rw [<- this, List.map_cons, List.sum_cons]; omega
  ·rw [sumTo_stop hn] at h; omega
theorem sumTo_ge {α : Type} {b : Int} {f : α -> Int} (hf0 : ∀ x : α, 0 <= f x) : ∀ (l : List α) (n : Int), n <= sumTo b f l n
 | [], n => Int.le_refl _
 | x :: t, n => by
  rw [sumTo]
  cases decide (n <= b)
  ·exact Int.le_refl _
  ·have := sumTo_ge (b := b) hf0 t (n + f x); have := hf0 x
   rw [cond_true]; omega
theorem flat_len {α : Type} (g : α -> List Int) (f : α -> Int) (h : ∀ x, ((g x).length : Int) <= f x) : ∀ l : List α, ((l.flatMap g).length : Int) <= (l.map f).sum
 | [] => by simp
 | x :: t => by
  have := flat_len g f h t; have := h x
  rw [List.flatMap_cons, List.length_append, List.map_cons, List.sum_cons]; omega
theorem objU_len {w : Wd} (h : smallT w = true) : (objU w).length <= 1200 := by
 have h := of_decide_eq_true h
 unfold smallN at h
 have a1 := sumTo_ge (b := 1200) (f := cdN) (fun c => by unfold cdN; omega) w.cds (sumTo 1200 acN w.acts (sumTo 1200 obN w.objs ((w.objs.length : Int) + (w.acts.length : Int))))
 have a2 := sumTo_ge (b := 1200) (f := acN) (fun c => by unfold acN; omega) w.acts (sumTo 1200 obN w.objs ((w.objs.length : Int) + (w.acts.length : Int)))
 have a3 := sumTo_sum (b := 1200) (f := obN) (fun c => by unfold obN; omega) w.objs ((w.objs.length : Int) + (w.acts.length : Int)) (by omega)
 have a4 := flat_len (fun o : Ob => (parL o.sl).map fun v => startF v) obN (fun o => by have := parL_len o.sl; rw [List.length_map]; unfold obN; omega) w.objs
 unfold objU; omega
theorem mapU_len {maps : List Mp} (h : fewT maps = true) : (mapU maps).length <= 1500 := by
 have h := of_decide_eq_true h
 have a3 := sumTo_sum (b := 1500) (f := mpN) (fun c => by unfold mpN; omega) maps (maps.length : Int) h
 have a4 := flat_len (fun o : Mp => (parL o.sl).map fun v => startF v) mpN (fun o => by have := parL_len o.sl; rw [List.length_map]; unfold mpN; omega) maps
 unfold mapU; omega
theorem moreU_len {w : Wd} {maps : List Mp} (y : Ty) (h : smallT w = true) (h2 : fewT maps = true) : (moreU w maps y).length < 4000 := by
 have := objU_len h; have := mapU_len h2
 simp only [moreU, List.length_cons, List.length_append]; omega
theorem objT_mem {w : Wd} {n : Int} {P : Sl -> Prop} (h : ∀ o ∈ w.objs, ∀ s ∈ o.sl, P s) : ∀ s ∈ (objT w n).1.sl, P s := by
 unfold objT
 cases objF w n with
 | false => intro s hs; cases hs
 | true =>
  intro s hs
  rw [cond_true, List.getD_eq_getElem?_getD] at hs
  cases hg : w.objs[(objI w n).toNat]? with
  | none => rw [hg] at hs; cases hs
  | some o => rw [hg] at hs; exact h o (List.mem_of_getElem? hg) s hs
theorem par_mem {l : List Sl} {v : Vl} (h : v ∈ parL l) : ∃ s ∈ l, isPar s = true /\ s.v = v := by
 unfold parL at h
 obtain ⟨s, hs, e⟩ := List.mem_map.1 h
 obtain ⟨h1, h2⟩ := List.mem_filter.1 hs
 exact ⟨s, h1, h2, e⟩
theorem more_ok {w : Wd} {maps : List Mp} (y : Ty) (h : smallT w = true) (h2 : fewT maps = true) (hn : ∀ o ∈ w.objs, ∀ s ∈ o.sl, s.nm.length <= 140737488355328) (hm : ∀ m ∈ maps, ∀ s ∈ m.sl, s.nm.length <= 140737488355328) : LkOk w maps y (moreU w maps y) where
 clo := {
  clo := fun n _ v hv => by
   obtain ⟨s, hs, hp, rfl⟩ := par_mem hv
   refine objT_mem (w := w) (n := n) (P := fun s => isPar s = true -> startF s.v ∈ moreU w maps y) (fun o ho s hs hp => ?_) s hs hp
   refine List.mem_cons_of_mem _ (List.mem_cons_of_mem _ (List.mem_cons_of_mem _ (List.mem_append_left _ ?_)))
   exact List.mem_flatMap.2 ⟨o, ho, List.mem_map.2 ⟨s.v, List.mem_map.2 ⟨s, List.mem_filter.2 ⟨hs, hp⟩, rfl⟩, rfl⟩⟩
  nm := fun n _ s hs => objT_mem (P := fun s => s.nm.length <= 140737488355328) hn s hs
  many := by have := moreU_len y h h2; omega }
 i5 := List.mem_cons_self ..
 i6 := List.mem_cons_of_mem _ (List.mem_cons_self ..)
 st := List.mem_cons_of_mem _ (List.mem_cons_of_mem _ (List.mem_cons_self ..))
 mp := fun m hmm => ⟨by
   have h := of_decide_eq_true h2
   have a3 := sumTo_sum (b := 1500) (f := mpN) (fun c => by unfold mpN; omega) maps (maps.length : Int) h
   have a5 : mpN m <= (maps.map mpN).sum := by
    clear a3 h h2 hm
    induction maps with
    | nil => cases hmm
    | cons a l ih =>
     have h0 : ∀ l : List Mp, 0 <= (l.map mpN).sum := fun l => by
      induction l with
      | nil => simp
      | cons b l ih => rw [List.map_cons, List.sum_cons]; unfold mpN at *; omega
     rw [List.map_cons, List.sum_cons]
     rcases List.mem_cons.1 hmm with rfl | hmm
     ·have := h0 l; omega
     ·have := ih hmm
      have : 0 <= mpN a := by unfold mpN; omega
      omega
   have a6 : (m.sl.length : Int) = mpN m := rfl
   have h := of_decide_eq_true h2
   omega, hm m hmm, fun v hv => by
   refine List.mem_cons_of_mem _ (List.mem_cons_of_mem _ (List.mem_cons_of_mem _ (List.mem_append_right _ ?_)))
   exact List.mem_flatMap.2 ⟨m, hmm, List.mem_map.2 ⟨v, hv, rfl⟩⟩⟩
theorem incr_sorted : ∀ (l : List Int) (k m : Int), incr k l = some m -> (∀ x ∈ l, k < x /\ x <= m) /\ l.Pairwise (· < ·) /\ k <= m
 | [], k, m, h => by
  unfold incr at h; cases h
  exact ⟨fun x hx => by simp at hx, List.Pairwise.nil, Int.le_refl _⟩
 | n :: l, k, m, h => by
  unfold incr at h
  split at h
  ·cases h
  ·rename_i hn
   obtain ⟨h1, h2, h3⟩ := incr_sorted l n m h
   refine ⟨fun x hx => ?_, List.pairwise_cons.2 ⟨fun x hx => (h1 x hx).1, h2⟩, by omega⟩
   rcases List.mem_cons.1 hx with rfl | hx
   ·omega
   ·have := h1 x hx; omega
theorem bsch_split (c : Int -> Int) (len : Int) (hl : len <= 1000000000) (mono : ∀ a b, 0 <= a -> a <= b -> b < len -> c b < 0 -> c a < 0) : ∀ (n : Nat) (i j : Int), (j - i).toNat <= n -> 0 <= i -> i <= j -> j <= len ->
  (∀ k, 0 <= k -> k < i -> c k < 0) -> (∀ k, j <= k -> k < len -> ¬ c k < 0) -> (∀ k, 0 <= k -> k < bsch c n i j -> c k < 0) /\ ∀ k, bsch c n i j <= k -> k < len -> ¬ c k < 0
 | 0, i, j, hn, h0, hij, hj, ha, hb => by
  have : i = j := by omega
  subst this
  exact ⟨ha, hb⟩
 | n + 1, i, j, hn, h0, hij, hj, ha, hb => by
  unfold bsch
  split
  ·rename_i hlt
   obtain ⟨h1, h2⟩ := half_at h0 hlt (by omega)
   split
   ·rename_i hc
    exact bsch_split c len hl mono n (half i j + 1) j (by omega) (by omega) (by omega) hj (fun k hk hk2 => mono k (half i j) hk (by omega) (by omega) hc) hb
   ·rename_i hc
    exact bsch_split c len hl mono n i (half i j) (by omega) h0 h1 (by omega) ha (fun k hk hk2 h => hc (mono (half i j) k (by omega) hk hk2 h))
  ·exact ⟨ha, fun k hk => hb k (by omega)⟩
def Sorted (w : Wd) : Prop := (w.objs.map (·.oid)).Pairwise (· < ·) /\ w.objs.length <= 1000000000
theorem valid_sorted {w : Wd} (hw : w.Ok) (h : wcheckW w = 0) : Sorted w /\ ∀ o ∈ w.objs, 0 < o.oid /\ o.oid < w.nO := by
 unfold wcheckW at h
 have hv : validW w = true := by
  cases hx : validW w with
  | true => rfl
  | false => rw [hx] at h; exact absurd h (by decide)
 unfold validW at hv
 cases h1 : decide ((w.objs.length : Int) > 3000) with
 | true => rw [h1] at hv; cases hv
 | false =>
 rw [h1, cond_false] at hv
 cases h2 : decide ((w.acts.length : Int) > 4000) with
 | true => rw [h2] at hv; cases hv
 | false =>
 rw [h2, cond_false] at hv
 cases h3 : numbB (w.objs.map (·.oid)) w.nO with
 | false => rw [h3] at hv; cases hv
 | true =>
 unfold numbB at h3
 split at h3
 ·rename_i m hm
  obtain ⟨q1, q2, q3⟩ := incr_sorted _ _ _ hm
  simp only [Bool.and_eq_true, decide_eq_true_eq] at h3
  exact ⟨⟨q2, hw.nobjs⟩, fun o ho => by have := q1 o.oid (List.mem_map.2 ⟨o, ho, rfl⟩); omega⟩
 ·cases h3
theorem sorted_lt {l : List Ob} (h : (l.map (·.oid)).Pairwise (· < ·)) {a b : Nat} (hab : a < b) (hb : b < l.length) : (l.getD a default).oid < (l.getD b default).oid := by
 rw [List.pairwise_map, List.pairwise_iff_getElem] at h
 have := h a b (by omega) hb hab
 rw [List.getD_eq_getElem?_getD, List.getD_eq_getElem?_getD, List.getElem?_eq_getElem (by omega), List.getElem?_eq_getElem hb]
 exact this
theorem cmpF_neg {x y : Int} : cmpF x y < 0 ↔ x < y := by unfold cmpF; split <;> (try split) <;> omega
theorem cmpF_zero {x y : Int} : cmpF x y = 0 ↔ x = y := by unfold cmpF; split <;> (try split) <;> omega
theorem objI_split {w : Wd} (h : Sorted w) (n : Int) : (∀ k : Int, 0 <= k -> k < objI w n -> (w.objs.getD k.toNat default).oid < n) /\ ∀ k : Int, objI w n <= k -> k < w.objs.length -> n <= (w.objs.getD k.toNat default).oid := by
 have hh := bsch_split (fun h => haObF (w.objs.getD h.toNat default) n) w.objs.length (by have := h.2; omega) (fun a b ha hab hb hc => by
  simp only [haObF] at hc ⊢
  rw [cmpF_neg] at hc ⊢
  by_cases e : a = b
  ·rw [e]; exact hc
  ·have := sorted_lt h.1 (a := a.toNat) (b := b.toNat) (by omega) (by omega); omega) w.objs.length 0 w.objs.length (by omega) (by omega) (by omega) (by omega) (fun k h1 h2 => by omega) (fun k h1 h2 => by omega)
 refine ⟨fun k h1 h2 => ?_, fun k h1 h2 => ?_⟩
 ·have := hh.1 k h1 h2
  simp only [haObF, cmpF_neg] at this; exact this
 ·have := hh.2 k h1 h2
  simp only [haObF, cmpF_neg] at this; omega
theorem objT_true {w : Wd} {n : Int} (hl : w.objs.length <= 1000000000) (h : objF w n = true) : (objT w n).1 ∈ w.objs /\ (objT w n).1.oid = n /\ (objT w n).2 = true := by
 have h0 := (objI_in w n hl).1
 unfold objT
 rw [h, cond_true]
 unfold objF at h
 simp only [Bool.and_eq_true, decide_eq_true_eq, beq_iff_eq] at h
 refine ⟨getD_mem (by omega), ?_, rfl⟩
 have := h.2
 unfold haObF at this
 exact cmpF_zero.1 this
theorem objF_of {w : Wd} (h : Sorted w) {o : Ob} (ho : o ∈ w.objs) : objF w o.oid = true /\ (objT w o.oid).1 = o := by
 obtain ⟨i, hi, he⟩ := List.mem_iff_getElem.1 ho
 obtain ⟨h1, h2⟩ := objI_split h o.oid
 have hin := objI_in w o.oid h.2
 have hgi : w.objs.getD i default = o := by rw [List.getD_eq_getElem?_getD, List.getElem?_eq_getElem hi]; exact he
 have e : objI w o.oid = i := by
  rcases Int.lt_trichotomy (objI w o.oid) i with hlt | heq | hgt
  ·have a1 := h2 (objI w o.oid) (Int.le_refl _) (by omega)
   have a2 := sorted_lt h.1 (a := (objI w o.oid).toNat) (b := i) (by omega) hi
   rw [hgi] at a2; omega
  ·exact heq
  ·have a1 := h1 i (by omega) hgt
   rw [show (i : Int).toNat = i by omega, hgi] at a1; omega
 have hf : objF w o.oid = true := by
  unfold objF
  rw [e]
  simp only [Bool.and_eq_true, decide_eq_true_eq, beq_iff_eq]
  refine ⟨by omega, ?_⟩
  rw [show (i : Int).toNat = i by omega, hgi]
  unfold haObF
  exact cmpF_zero.2 rfl
 refine ⟨hf, ?_⟩
 unfold objT
 rw [hf, cond_true, e, show (i : Int).toNat = i by omega]
 exact hgi
theorem objT_mem_of {w : Wd} (h : Sorted w) {o : Ob} (ho : o ∈ w.objs) : objT w o.oid = (o, true) := by
 obtain ⟨h1, h2⟩ := objF_of h ho
 exact Prod.ext h2 (objT_true h.2 h1).2.2
theorem objT_none {w : Wd} (hl : w.objs.length <= 1000000000) {n : Int} (h : ∀ o ∈ w.objs, o.oid ≠ n) : objT w n = (⟨0, 0, [], [], 0, 0⟩, false) := by
 cases hf : objF w n with
 | true => exact absurd (objT_true hl hf).2.1 (h _ (objT_true hl hf).1)
 | false => unfold objT; rw [hf]; rfl
theorem mpEq_iff {a b : Mp} : mpEq a b = true ↔ a = b := by
 obtain ⟨k, l⟩ := a; obtain ⟨k', l'⟩ := b
 simp [mpEq, eqFrom_iff slEq_iff]
theorem atN_mem (l : List Ob) (n : Int) : ∀ i, i <= l.length -> (atN l i (.i n)).isSome = true -> ∃ o ∈ l, o.oid = n
 | 0, _, h => by cases h
 | i + 1, hi, h => by
  unfold atN at h
  split at h
  ·rename_i e
   exact ⟨_, getD_mem (p := (i : Int).toNat) (by omega), by injection e with e; exact e.symm⟩
  ·exact atN_mem l n i (by omega) h
def Has (w : Wd) (n : Int) : Prop := ∃ o ∈ w.objs, o.oid = n
theorem objAt_has {w : Wd} {n : Int} (h : (objAt w n).isSome = true) : Has w n := by
 refine atN_mem w.objs n w.objs.length (Nat.le_refl _) ?_
 unfold objAt at h
 split at h
 ·rename_i i hi; rw [hi]; rfl
 ·cases h
theorem Has.objT {w : Wd} (hs : Sorted w) {n : Int} (h : Has w n) : (objT w n).2 = true /\ (objT w n).1 ∈ w.objs /\ (objT w n).1.oid = n := by
 obtain ⟨o, ho, rfl⟩ := h
 rw [objT_mem_of hs ho]
 exact ⟨rfl, ho, rfl⟩
theorem has_of_objT {w : Wd} (hl : w.objs.length <= 1000000000) {n : Int} (h : (objT w n).2 = true) : Has w n := by
 cases hf : objF w n with
 | true => exact ⟨_, (objT_true hl hf).1, (objT_true hl hf).2.1⟩
 | false => unfold objT at h; rw [hf] at h; cases h
theorem bif_and {a b : Bool} (h : (bif a then b else false) = true) : a = true /\ b = true := by cases a <;> simp_all
theorem bif_nor {a b : Bool} (h : (bif a then false else b) = true) : a = false /\ b = true := by cases a <;> simp_all
structure Parts (w : Wd) : Prop where
 roots : rootsW w 10 1 = true
 objs : ∀ o ∈ w.objs, objectW w o = true
theorem valid_parts {w : Wd} (h : wcheckW w = 0) : Parts w := by
 unfold wcheckW at h
 have hv : validW w = true := by
  cases hx : validW w with
  | true => rfl
  | false => rw [hx] at h; exact absurd h (by decide)
 unfold validW at hv
 have h1 := (bif_nor (bif_nor (bif_nor (bif_nor (bif_nor hv).2).2).2).2).2
 have h2 := bif_nor h1
 have h3 := (bif_nor (bif_nor h2.2).2).2
 refine ⟨by simpa using h2.1, fun o ho => ?_⟩
 have h4 : w.objs.any (nobjectW w) = false := by simpa using h3
 rw [List.any_eq_false] at h4
 have h5 := h4 o ho
 unfold nobjectW at h5
 simpa using h5
theorem slotsW_all {w : Wd} {o : Ob} : ∀ (l : List Sl) (i : Nat), slotsW w o l i = true -> ∀ s ∈ l, slotW w o s = true
 | [], _, _, s, hs => by cases hs
 | x :: t, i, h, s, hs => by
  unfold slotsW at h
  have h1 := bif_nor h
  have h2 := bif_nor h1.2
  rcases List.mem_cons.1 hs with rfl | hs
  ·simpa using h1.1
  ·exact slotsW_all t _ h2.2 s hs
theorem root_has {w : Wd} (h : Parts w) : Has w 5 /\ Has w 6 := by
 have step : ∀ (n : Nat) (k : Int), rootsW w (n + 1) k = true -> (objAt w k).isSome = true /\ rootsW w n (k + 1) = true := fun n k h => by
  unfold rootsW at h
  have := bif_nor h
  exact ⟨by simpa using this.1, this.2⟩
 have h2 := (step _ _ h.roots).2
 have h3 := (step _ _ h2).2
 have h4 := (step _ _ h3).2
 have h5 := (step _ _ h4).2
 exact ⟨objAt_has (step _ _ h5).1, objAt_has (step _ _ (step _ _ h5).2).1⟩
theorem start_has {w : Wd} (h : Parts w) {v : Vl} (hv : v.k = 4 -> Has w v.n) : Has w (startF v) := by
 unfold startF
 split
 ·rename_i e; exact hv e
 ·split
  ·exact (root_has h).2
  ·exact (root_has h).1
theorem object_slots {w : Wd} {o : Ob} (h : objectW w o = true) : ∀ s ∈ o.sl, slotW w o s = true := by
 unfold objectW at h
 exact slotsW_all _ _ (bif_nor (bif_nor (bif_nor (bif_nor h).2).2).2).2
theorem slot_meth {w : Wd} {o : Ob} {s : Sl} (h : slotW w o s = true) (hk : s.v.k = 5) : s.kd = 1 := by
 unfold slotW at h
 rw [show (s.v.k != 5) = false by simp [hk], cond_false] at h
 simpa using (bif_nor h).1
theorem slot_ref {w : Wd} {o : Ob} {s : Sl} (h : slotW w o s = true) (hk : s.v.k = 4) : Has w s.v.n := by
 unfold slotW at h
 rw [show (s.v.k != 5) = true by simp [hk], cond_true] at h
 have h1 := (bif_and (bif_and (bif_and h).2).2).2
 unfold hasW at h1
 have h2 := (bif_nor h1).2
 rw [show (s.v.k != 4) = false by simp [hk], cond_false] at h2
 exact objAt_has h2
theorem par_has {w : Wd} (h : Parts w) {o : Ob} (ho : o ∈ w.objs) {v : Vl} (hv : v ∈ parL o.sl) : Has w (startF v) := by
 obtain ⟨s, hs, -, rfl⟩ := par_mem hv
 exact start_has h fun hk => slot_ref (object_slots (h.objs o ho) s hs) hk
theorem ofF_map {s t : Sl} (hs : s.v.k = 5 -> s.kd = 1) (ht : t.v.k = 5 -> t.kd = 1) (h : mslot s = mslot t) (x : Fo) : ofF s x = ofF t x := by
 have e1 : ∀ q : Sl, (mslot q).nm = q.nm := fun q => by unfold mslot; split <;> rfl
 have e2 : ∀ q : Sl, (mslot q).kd = q.kd := fun q => by unfold mslot; split <;> rfl
 have hnm : s.nm = t.nm /\ s.kd = t.kd := ⟨by rw [<- e1 s, h, e1], by rw [<- e2 s, h, e2]⟩
 unfold mslot at h
 unfold ofF
 have ha : assignB s = assignB t := by unfold assignB; rw [hnm.2]
 rw [<- ha]
 cases hx : assignB s with
 | true =>
  have nk : ∀ q : Sl, assignB q = true -> (q.v.k = 5 -> q.kd = 1) -> (q.v.k == 5) = false := fun q h1 h2 => by
   rw [beq_eq_false_iff_ne]
   intro e
   have := h2 e
   unfold assignB at h1
   rw [this] at h1; cases h1
  rw [nk s hx hs, nk t (by rw [<- ha]; exact hx) ht]
  rfl
 | false =>
  rw [<- ha, hx] at h
  simp only [Bool.false_eq_true, if_false] at h
  rw [h]
theorem map_nm {l m : List Sl} (h : l.map mslot = m.map mslot) : l.map (fun s => (s.nm, s.kd)) = m.map (fun s => (s.nm, s.kd)) := by
 have e : ∀ s : Sl, ((mslot s).nm, (mslot s).kd) = (s.nm, s.kd) := fun s => by unfold mslot; split <;> rfl
 have h2 := congrArg (List.map fun s : Sl => (s.nm, s.kd)) h
 simpa [List.map_map, Function.comp_def, e] using h2
theorem fstI_map {α β : Type} (f : α -> β) (p : β -> Bool) (l : List α) : fstI (fun x => p (f x)) l = fstI p (l.map f) := by
 unfold fstI
 rw [List.findIdx?_map]; rfl
theorem match_map {l m : List Sl} (h : l.map mslot = m.map mslot) (sel : List UInt8) : matchF l sel = matchF m sel := by
 have h := map_nm h
 have e1 : ∀ l : List Sl, fstI (fun x => matchA x sel) l = fstI (fun q : List UInt8 × Int => q.1 == sel) (l.map fun s => (s.nm, s.kd)) := fun l => by
  rw [<- fstI_map]; rfl
 have e2 : ∀ l : List Sl, fstI (fun x => matchB x sel) l = fstI (fun q : List UInt8 × Int => bif (q.2 == 2 || q.2 == 4) then q.1 ++ [58] == sel else false) (l.map fun s => (s.nm, s.kd)) := fun l => by
  rw [<- fstI_map]; rfl
 unfold matchF
 rw [e1 l, e1 m, e2 l, e2 m, h]
theorem contL_at (o : Ob) : ∀ (l : List Sl) (i j : Nat) (s : Sl), l[j]? = some s -> s.kd = 4 -> (⟨o.oid, false, ⟨0, []⟩, (i + j : Nat), s.v⟩ : Dp) ∈ contL o l i
 | [], i, j, s, h, _ => by simp at h
 | x :: t, i, j, s, h, hk => by
  unfold contL
  cases j with
  | zero =>
   simp at h; subst h
   rw [show (x.kd == 4) = true by simp [hk], cond_true]
   exact List.mem_cons_self ..
  | succ j =>
   have := contL_at o t (i + 1) j s (by simpa using h) hk
   rw [show i + 1 + j = i + (j + 1) by omega] at this
   cases x.kd == 4 with
   | true => exact List.mem_cons_of_mem _ this
   | false => exact this
theorem slots_same {o o' : Ob} (hid : o'.oid = o.oid) : ∀ (l l' : List Sl) (i : Nat), l'.map mslot = l.map mslot -> (∀ (j : Nat) (s s' : Sl), l[j]? = some s -> l'[j]? = some s' -> s.kd = 4 -> s'.v = s.v) -> parL l' = parL l /\ contL o' l' i = contL o l i
 | [], [], i, _, _ => ⟨rfl, rfl⟩
 | [], x :: t, i, h, _ => by cases h
 | x :: t, [], i, h, _ => by cases h
 | x :: t, x' :: t', i, h, hc => by
  simp only [List.map_cons, List.cons.injEq] at h
  obtain ⟨ih1, ih2⟩ := slots_same hid t t' (i + 1) h.2 fun j s s' h1 h2 hk => hc (j + 1) s s' (by simpa using h1) (by simpa using h2) hk
  have hkd : x'.kd = x.kd := by
   have := congrArg Sl.kd h.1
   have e : ∀ s : Sl, (mslot s).kd = s.kd := fun s => by unfold mslot; split <;> rfl
   rwa [e, e] at this
  have hv : isPar x = true -> x'.v = x.v := fun hp => by
   by_cases h4 : x.kd = 4
   ·exact hc 0 x x' rfl rfl h4
   ·have h3 : x.kd = 3 := by unfold isPar at hp; simpa [h4] using hp
    have hm := h.1
    unfold mslot at hm
    have na : ∀ q : Sl, q.kd = 3 -> assignB q = false := fun q hq => by unfold assignB; rw [hq]; rfl
    rw [na x h3, na x' (by rw [hkd]; exact h3)] at hm
    simp only [Bool.false_eq_true, if_false] at hm
    rw [hm]
  have hpar : isPar x' = isPar x := by unfold isPar; rw [hkd]
  refine ⟨?_, ?_⟩
  ·unfold parL at ih1 ⊢
   rw [List.filter_cons, List.filter_cons, hpar]
   cases hp : isPar x with
   | true => simp only [if_true, List.map_cons, hv hp, ih1]
   | false => simpa using ih1
  ·unfold contL
   rw [hkd, ih2]
   cases h4 : x.kd == 4 with
   | true =>
    rw [cond_true, cond_true, hid, hv (by unfold isPar; rw [h4]; simp)]
   | false => rfl
theorem holdsT_whole {w : Wd} {o : Ob} : holdsT w (wholeD o) = true ↔ (objT w o.oid).2 = true /\ mapOfF (objT w o.oid).1 = mapOfF o := by
 unfold holdsT wholeD
 cases (objT w o.oid).2 with
 | false => simp
 | true => simp [mpEq_iff]
theorem holdsT_cont {w : Wd} {n : Int} {j : Nat} {v : Vl} : holdsT w ⟨n, false, ⟨0, []⟩, (0 + j : Nat), v⟩ = true ↔ (objT w n).2 = true /\ ∃ s, (objT w n).1.sl[j]? = some s /\ s.v = v := by
 unfold holdsT
 simp only [Nat.zero_add]
 cases (objT w n).2 with
 | false => simp
 | true =>
  simp only [Bool.not_true, cond_false, true_and]
  rw [show decide ((j : Int) >= 0) = true by simp, cond_true]
  by_cases hj : j < (objT w n).1.sl.length
  ·rw [show decide ((j : Int) < ((objT w n).1.sl.length : Int)) = true by simpa using hj, cond_true, List.getElem?_eq_getElem hj, vlEq_iff, List.getD_eq_getElem?_getD, Int.toNat_natCast, List.getElem?_eq_getElem hj]
   simp
  ·rw [show decide ((j : Int) < ((objT w n).1.sl.length : Int)) = false by simpa using hj, cond_false, List.getElem?_eq_none (by omega)]
   simp
section
variable {w u : Wd} {sel : List UInt8}
theorem upT_pre {f : Nat} {d : Dp} (hv : ∀ s n, d ∈ s.2.1 -> d ∈ (visT w sel f s n).2.1) : ∀ (l : List Vl) (s : St), d ∈ s.2.1 -> d ∈ (upT w sel f l s).2.1
 | [], s, h => h
 | v :: l, s, h => upT_pre hv l _ (hv s _ h)
theorem visT_pre {d : Dp} : ∀ (f : Nat) (s : St) (n : Int), d ∈ s.2.1 -> d ∈ (visT w sel f s n).2.1
 | 0, s, n, h => h
 | f + 1, s, n, h => by
  unfold visT
  cases (s.1 (.i n)).getD false with
  | true => exact h
  | false =>
   cases decide ((matchF (objT w n).1.sl sel).1 >= 0) with
   | true => exact List.mem_append_left _ h
   | false => exact upT_pre (visT_pre f) _ _ (List.mem_append_left _ (List.mem_append_left _ h))
theorem upT_keep {P : St -> Prop} {f : Nat} (hp : Parts w) (hv : ∀ s n, Has w n -> P s -> P (visT w sel f s n)) : ∀ (l : List Vl) (s : St), (∀ v ∈ l, Has w (startF v)) -> P s -> P (upT w sel f l s)
 | [], s, _, h => h
 | v :: l, s, hl, h => upT_keep hp hv l _ (fun x hx => hl x (List.mem_cons_of_mem _ hx)) (hv s _ (hl v (List.mem_cons_self ..)) h)
abbrev HoldsAll (u : Wd) (s : St) : Prop := ∀ d ∈ s.2.1, holdsT u d = true
def OutD (w : Wd) (s : St) : Prop := ∀ x ∈ s.2.2, Has w x.holder /\ wholeD (objT w x.holder).1 ∈ s.2.1
theorem visT_outd (hs : Sorted w) (hp : Parts w) : ∀ (f : Nat) (s : St) (n : Int), Has w n -> OutD w s -> OutD w (visT w sel f s n)
 | 0, s, n, _, h => h
 | f + 1, s, n, hn, h => by
  unfold visT
  cases (s.1 (.i n)).getD false with
  | true => exact h
  | false =>
   cases decide ((matchF (objT w n).1.sl sel).1 >= 0) with
   | true =>
    intro x hx
    rcases List.mem_append.1 hx with hx | hx
    ·exact ⟨(h x hx).1, List.mem_append_left _ (h x hx).2⟩
    ·rw [List.mem_singleton.1 hx]
     exact ⟨hn, List.mem_append_right _ (List.mem_singleton.2 rfl)⟩
   | false => exact upT_keep hp (visT_outd hs hp f) _ _ (fun v hv => par_has hp (hn.objT hs).2.1 hv) fun x hx => ⟨(h x hx).1, List.mem_append_left _ (List.mem_append_left _ (h x hx).2)⟩
theorem upT_same {f : Nat} (hv : ∀ s n, Has w n -> HoldsAll u (visT w sel f s n) -> visT u sel f s n = visT w sel f s n) : ∀ (l : List Vl) (s : St), (∀ v ∈ l, Has w (startF v)) -> HoldsAll u (upT w sel f l s) -> upT u sel f l s = upT w sel f l s
 | [], s, _, _ => rfl
 | v :: l, s, hl, h => by
  have h1 : visT u sel f s (startF v) = visT w sel f s (startF v) := hv s _ (hl v (List.mem_cons_self ..)) fun d hd => h d (upT_pre (fun s n => visT_pre f s n) l _ hd)
  show upT u sel f l (visT u sel f s (startF v)) = upT w sel f l (visT w sel f s (startF v))
  rw [h1]
  exact upT_same hv l _ (fun x hx => hl x (List.mem_cons_of_mem _ hx)) h
theorem whole_same (hs : Sorted w) (hu : Sorted u) {n : Int} (hn : Has w n) (h : holdsT u (wholeD (objT w n).1) = true) : Has u n /\ (objT u n).1.oid = n /\ (objT w n).1.oid = n /\ mapOfF (objT u n).1 = mapOfF (objT w n).1 := by
 obtain ⟨h1, h2, h3⟩ := hn.objT hs
 rw [holdsT_whole, h3] at h
 have hh := has_of_objT hu.2 h.1
 exact ⟨hh, (hh.objT hu).2.2, h3, h.2⟩
theorem visT_same (hs : Sorted w) (hu : Sorted u) (hp : Parts w) : ∀ (f : Nat) (s : St) (n : Int), Has w n -> HoldsAll u (visT w sel f s n) -> visT u sel f s n = visT w sel f s n
 | 0, s, n, _, _ => rfl
 | f + 1, s, n, hn, h => by
  unfold visT at h ⊢
  cases hse : (s.1 (.i n)).getD false with
  | true => rfl
  | false =>
   rw [hse, cond_false] at h
   rw [cond_false, cond_false]
   have hw0 : holdsT u (wholeD (objT w n).1) = true := by
    cases hm : decide ((matchF (objT w n).1.sl sel).1 >= 0) with
    | true => rw [hm] at h; exact h _ (List.mem_append_right _ (List.mem_singleton.2 rfl))
    | false => rw [hm] at h; exact h _ (upT_pre (fun s n => visT_pre f s n) _ _ (List.mem_append_left _ (List.mem_append_right _ (List.mem_singleton.2 rfl))))
   obtain ⟨hun, e1, e2, e3⟩ := whole_same hs hu hn hw0
   have e4 : (objT u n).1.sl.map mslot = (objT w n).1.sl.map mslot := congrArg Mp.sl e3
   have e5 : wholeD (objT u n).1 = wholeD (objT w n).1 := by unfold wholeD; rw [e1, e2, e3]
   rw [match_map e4 sel, e5]
   cases hm : decide ((matchF (objT w n).1.sl sel).1 >= 0) with
   | true => rfl
   | false =>
    rw [hm, cond_false] at h
    rw [cond_false, cond_false]
    obtain ⟨q1, q2⟩ := slots_same (o := (objT w n).1) (o' := (objT u n).1) (by rw [e1, e2]) (objT w n).1.sl (objT u n).1.sl 0 e4 fun j s1 s2 h1 h2 hk => by
     have hd := contL_at (objT w n).1 _ 0 j s1 h1 hk
     have hh := h _ (upT_pre (fun s n => visT_pre f s n) _ _ (List.mem_append_right _ hd))
     rw [e2, holdsT_cont] at hh
     obtain ⟨-, s3, h3, h4⟩ := hh
     rw [h2] at h3; cases h3
     exact h4
    rw [q1, q2]
    exact upT_same (visT_same hs hu hp f) _ _ (fun v hv => par_has hp (hn.objT hs).2.1 hv) h
theorem getD_map {l m : List Sl} (h : l.map mslot = m.map mslot) (k : Nat) : mslot (l.getD k default) = mslot (m.getD k default) := by
 have e : ∀ l : List Sl, mslot (l.getD k default) = (l.map mslot).getD k default := fun l => by
  simp only [List.getD_eq_getElem?_getD, List.getElem?_map]
  cases l[k]? with
  | none => rfl
  | some x => rfl
 rw [e l, e m, h]
theorem getD_meth {w : Wd} (hp : Parts w) {n : Int} (hs : Sorted w) (h : Has w n) (k : Nat) : ((objT w n).1.sl.getD k default).v.k = 5 -> ((objT w n).1.sl.getD k default).kd = 1 := by
 intro hk
 by_cases hl : k < (objT w n).1.sl.length
 ·exact slot_meth (object_slots (hp.objs _ (h.objT hs).2.1) _ (getD_mem hl)) hk
 ·rw [List.getD_eq_getElem?_getD, List.getElem?_eq_none (by omega)] at hk
  exact absurd (show (0 : Int) = 5 from hk) (by decide)
theorem targT_same (hs : Sorted w) (hu : Sorted u) (hp : Parts w) (hpu : Parts u) {s : St} (ho : OutD w s) (h : HoldsAll u s) : targT u s.2.2 = targT w s.2.2 := by
 obtain ⟨sf, D, O⟩ := s
 match O, ho with
 | [], _ => rfl
 | [x], ho =>
  obtain ⟨h1, h2⟩ := ho x (List.mem_singleton.2 rfl)
  obtain ⟨hun, e1, e2, e3⟩ := whole_same hs hu h1 (h _ h2)
  exact ofF_map (getD_meth hpu hu hun _) (getD_meth hp hs h1 _) (getD_map (congrArg Mp.sl e3) _) x
 | x :: y :: l, _ => rfl
end
section
variable {w v : Wd} {d s : PV}
structure Grows (w v : Wd) : Prop where
 has : ∀ n, (objT w n).2 = true -> (objT v n).2 = true
 cds : v.cds = w.cds
theorem Grows.hasT (h : Grows w v) {x : Vl} (hx : hasT w d s x = true) : hasT v d s x = true := by
 unfold Go.Proofs.YtplpnfjccemdnaaGreatDoor.hasT at hx ⊢
 have h1 := bif_nor hx
 rw [h1.1, cond_false]
 cases hk : x.k != 4 with
 | true => rfl
 | false =>
  have h2 := h1.2
  rw [hk, cond_false] at h2
  exact h.has _ h2
theorem Grows.slotT (h : Grows w v) {x : Sl} (hx : slotT w d s x = true) : slotT v d s x = true := by
 unfold Go.Proofs.YtplpnfjccemdnaaGreatDoor.slotT at hx ⊢
 rw [h.cds]
 have h1 := bif_nor hx
 have h2 := bif_nor h1.2
 rw [h1.1, cond_false, h2.1, cond_false]
 have h3 := h2.2
 cases ha : assignB x with
 | true => rw [ha] at h3; exact h3
 | false =>
  rw [ha, cond_false] at h3
  rw [cond_false]
  cases hk : x.v.k != 5 with
  | true =>
   rw [hk, cond_true] at h3
   have h4 := bif_and h3
   rw [cond_true, h.hasT h4.1]; exact h4.2
  | false => rw [hk] at h3; exact h3
theorem Grows.slotsT (h : Grows w v) {m : Mp} : ∀ (l : List Sl) (i : Nat), slotsT w d s m l i = true -> slotsT v d s m l i = true
 | [], _, _ => rfl
 | x :: t, i, hx => by
  unfold Go.Proofs.YtplpnfjccemdnaaGreatDoor.slotsT at hx ⊢
  have h1 := bif_nor hx
  have h2 := bif_nor h1.2
  rw [h.slotT (x := x) (by simpa using h1.1), h2.1]
  exact h.slotsT t _ h2.2
theorem Grows.mapT (h : Grows w v) {m : Mp} (hx : mapT w d s m = true) : mapT v d s m = true := by
 unfold Go.Proofs.YtplpnfjccemdnaaGreatDoor.mapT at hx ⊢
 have h1 := bif_nor hx
 have h2 := bif_nor h1.2
 have h3 := bif_nor h2.2
 rw [h1.1, h2.1, h3.1]
 exact h.slotsT _ _ h3.2
theorem Grows.mapsT (h : Grows w v) {maps : List Mp} : ∀ (l : List Mp) (i : Nat), mapsT w d s maps l i = true -> mapsT v d s maps l i = true
 | [], _, _ => rfl
 | x :: t, i, hx => by
  unfold Go.Proofs.YtplpnfjccemdnaaGreatDoor.mapsT at hx ⊢
  have h1 := bif_nor hx
  have h2 := bif_nor h1.2
  rw [h.mapT (m := x) (by simpa using h1.1), h2.1]
  exact h.mapsT t _ h2.2
theorem Grows.typeT (h : Grows w v) {y : Ty} {n : Int} (hx : typeT w d s y n = true) : typeT v d s y n = true := by
 unfold Go.Proofs.YtplpnfjccemdnaaGreatDoor.typeT at hx ⊢
 cases h1 : y.k == 1 with
 | true =>
  rw [h1, cond_true] at hx
  have h2 := bif_and hx
  rw [cond_true, h2.1, cond_true]; exact h.hasT h2.2
 | false => rw [h1] at hx; exact hx
theorem Grows.factsT (h : Grows w v) {maps : List Mp} {types : List Ty} (hx : factsT w d s maps types = true) : factsT v d s maps types = true := by
 unfold Go.Proofs.YtplpnfjccemdnaaGreatDoor.factsT at hx ⊢
 have h1 := bif_nor hx
 have h2 := bif_nor h1.2
 rw [h1.1, h.mapsT maps 0 (by simpa using h2.1)]
 have h3 := h2.2
 simp only [Bool.not_true, cond_false, Bool.not_eq_true', List.any_eq_false, ntypeT] at h3 ⊢
 intro y hy
 have := h3 y hy
 rw [h.typeT (by simpa using this)]
 simp
end
abbrev seenB (sf : Atom -> Option Bool) (n : Int) : Bool := (sf (.i n)).getD false
theorem seen_upd {sf : Atom -> Option Bool} {n m : Int} : seenB (updS sf n) m = true ↔ m = n \/ seenB sf m = true := by
 unfold seenB updS
 by_cases e : m = n
 ·subst e; simp
 ·rw [if_neg (fun h => e (Atom.i.inj h))]; simp [e]
section
variable (w : Wd) (sel : List UInt8)
abbrev Answers (n : Int) : Prop := (matchF (objT w n).1.sl sel).1 >= 0
inductive Leads : Int -> Int -> Prop where
 | here (n : Int) : Leads n n
 | step {n m : Int} {v : Vl} (hn : ¬ Answers w sel n) (hv : v ∈ parL (objT w n).1.sl) (h : Leads (startF v) m) : Leads n m
variable {w sel}
structure Outs (w : Wd) (sel : List UInt8) (s : St) : Prop where
 mem : ∀ m, m ∈ s.2.2.map Fo.holder ↔ seenB s.1 m = true /\ Answers w sel m
 nd : (s.2.2.map Fo.holder).Nodup
 at_ : ∀ x ∈ s.2.2, x = ⟨x.holder, (matchF (objT w x.holder).1.sl sel).1, (matchF (objT w x.holder).1.sl sel).2⟩
theorem upT_outs {f : Nat} (hv : ∀ s n, Outs w sel s -> Outs w sel (visT w sel f s n)) : ∀ (l : List Vl) (s : St), Outs w sel s -> Outs w sel (upT w sel f l s)
 | [], s, h => h
 | v :: l, s, h => upT_outs hv l _ (hv s _ h)
theorem visT_outs : ∀ (f : Nat) (s : St) (n : Int), Outs w sel s -> Outs w sel (visT w sel f s n)
 | 0, s, n, h => h
 | f + 1, s, n, h => by
  unfold visT
  cases hs : (s.1 (.i n)).getD false with
  | true => exact h
  | false =>
   rw [cond_false]
   cases hm : decide ((matchF (objT w n).1.sl sel).1 >= 0) with
   | true =>
    have ha : Answers w sel n := of_decide_eq_true hm
    have hnm : n ∉ s.2.2.map Fo.holder := fun hc => by
     have := ((h.mem n).1 hc).1
     rw [show seenB s.1 n = false from hs] at this; cases this
    refine ⟨fun m => ?_, ?_, fun x hx => ?_⟩
    ·show m ∈ (s.2.2 ++ [_]).map Fo.holder ↔ seenB (updS s.1 n) m = true /\ _
     rw [List.map_append, List.mem_append, seen_upd, h.mem m]
     simp only [List.map_cons, List.map_nil, List.mem_singleton]
     constructor
     ·rintro (h | h)
      ·exact ⟨.inr h.1, h.2⟩
      ·subst h; exact ⟨.inl rfl, ha⟩
     ·rintro ⟨h1 | h1, h2⟩
      ·exact .inr h1
      ·exact .inl ⟨h1, h2⟩
    ·show ((s.2.2 ++ [_]).map Fo.holder).Nodup
     rw [List.map_append, List.nodup_append]
     refine ⟨h.nd, by simp, fun p hp q hq e => ?_⟩
     simp only [List.map_cons, List.map_nil, List.mem_singleton] at hq
     rw [e, hq] at hp
     exact hnm hp
    ·rcases List.mem_append.1 hx with hx | hx
     ·exact h.at_ x hx
     ·rw [List.mem_singleton.1 hx]
   | false =>
    have ha : ¬ Answers w sel n := of_decide_eq_false hm
    refine upT_outs (visT_outs f) _ _ ⟨fun m => ?_, h.nd, h.at_⟩
    rw [h.mem m]
    show _ ↔ seenB (updS s.1 n) m = true /\ _
    rw [seen_upd]
    constructor
    ·rintro ⟨h1, h2⟩; exact ⟨.inr h1, h2⟩
    ·rintro ⟨h1 | h1, h2⟩
     ·subst h1; exact absurd h2 ha
     ·exact ⟨h1, h2⟩
theorem Leads.closed {P : Int -> Prop} (hc : ∀ m, P m -> ¬ Answers w sel m -> ∀ v ∈ parL (objT w m).1.sl, P (startF v)) {n m : Int} (h : Leads w sel n m) : P n -> P m := by
 induction h with
 | here => exact fun h => h
 | step hn hv _ ih => exact fun h => ih (hc _ h hn _ hv)
end
structure Fd where
 kind : Int
 holder : Int
 slot : Int
 set : Bool
def fdOf : List Fo -> Fd
 | [] => ⟨0, 0, 0, false⟩
 | [x] => ⟨1, x.holder, x.slot, x.set⟩
 | x :: _ :: _ => ⟨2, x.holder, x.slot, x.set⟩
inductive FitsP (u : Wd) (g : Tg) (f : Fd) (v : Vl) : Prop where
 | none (hg : g.kind = 1) (hf : f.kind = 0)
 | many (hg : g.kind = 2) (hf : f.kind = 2)
 | one (n : Int) (s : Sl) (h1 : g.kind ≠ 1) (h2 : g.kind ≠ 2) (ho : g.own = true -> v.k = 4 /\ (g.holder = 0 \/ g.holder = v.n) /\ n = v.n) (hn : g.own = false -> n = g.holder) (hf : f.kind = 1) (hh : f.holder = n) (hs : f.slot = g.slot) (hset : f.set = (g.kind == 5)) (hu : Has u n)
   (h0 : 0 <= g.slot) (hsl : (objT u n).1.sl[g.slot.toNat]? = some s) (hk : (g.kind = 6 /\ s.v.k = 5 /\ s.v.n = g.code) \/ (g.kind = 3 /\ s.v = g.v /\ (s.kd = 1 \/ s.kd = 3)) \/ ((g.kind = 4 \/ g.kind = 5) /\ (s.kd = 2 \/ s.kd = 4)))
theorem fst_at {p : Sl -> Bool} {l : List Sl} (h : fstI p l >= 0) : ∃ s, l[(fstI p l).toNat]? = some s /\ p s = true := by
 unfold fstI at h ⊢
 cases hf : l.findIdx? p with
 | none => rw [hf] at h; simp only at h; omega
 | some k =>
  obtain ⟨hk, h1, -⟩ := List.findIdx?_eq_some_iff_getElem.1 hf
  exact ⟨l[k], by simp [List.getElem?_eq_getElem hk], h1⟩
theorem match_slot {l : List Sl} {sel : List UInt8} (h : (matchF l sel).1 >= 0) : ∃ s, l[(matchF l sel).1.toNat]? = some s /\ ((matchF l sel).2 = true -> assignB s = true) := by
 unfold matchF at h ⊢
 cases h1 : decide (fstI (fun x => matchA x sel) l >= 0) with
 | true =>
  obtain ⟨s, q1, -⟩ := fst_at (of_decide_eq_true h1)
  exact ⟨s, q1, fun h => by cases h⟩
 | false =>
  rw [h1] at h
  obtain ⟨s, q1, q2⟩ := fst_at h
  refine ⟨s, q1, fun _ => ?_⟩
  unfold matchB at q2
  exact (bif_and q2).1
theorem slot_kd {w : Wd} {o : Ob} {s : Sl} (h : slotW w o s = true) : s.kd = 1 \/ s.kd = 2 \/ s.kd = 3 \/ s.kd = 4 := by
 by_cases hk : s.v.k = 5
 ·exact .inl (slot_meth h hk)
 ·unfold slotW at h
  rw [show (s.v.k != 5) = true by simp [hk], cond_true] at h
  have h1 := bif_and h
  have h2 := bif_and h1.2
  have q1 := of_decide_eq_true h1.1
  have q2 := of_decide_eq_true h2.1
  omega
theorem fits_slot {u : Wd} (hs : Sorted u) (hp : Parts u) {n : Int} (hn : Has u n) {sel : List UInt8} (ha : Answers u sel n) (g : Tg) (v : Vl) (h : Int)
  (hg : g.kind = (ofF ((objT u n).1.sl.getD (matchF (objT u n).1.sl sel).1.toNat default) ⟨h, (matchF (objT u n).1.sl sel).1, (matchF (objT u n).1.sl sel).2⟩).kind) (hsl : g.slot = (matchF (objT u n).1.sl sel).1)
  (hc : g.code = (ofF ((objT u n).1.sl.getD (matchF (objT u n).1.sl sel).1.toNat default) ⟨h, (matchF (objT u n).1.sl sel).1, (matchF (objT u n).1.sl sel).2⟩).code) (hv : g.v = (ofF ((objT u n).1.sl.getD (matchF (objT u n).1.sl sel).1.toNat default) ⟨h, (matchF (objT u n).1.sl sel).1, (matchF (objT u n).1.sl sel).2⟩).v)
  (ho : g.own = true -> v.k = 4 /\ (g.holder = 0 \/ g.holder = v.n) /\ n = v.n) (hno : g.own = false -> n = g.holder) : FitsP u g ⟨1, n, (matchF (objT u n).1.sl sel).1, (matchF (objT u n).1.sl sel).2⟩ v := by
 obtain ⟨s, q1, q2⟩ := match_slot ha
 have hso := (hp.objs _ (hn.objT hs).2.1)
 have hsw := object_slots hso s (List.mem_of_getElem? q1)
 have e : (objT u n).1.sl.getD (matchF (objT u n).1.sl sel).1.toNat default = s := by rw [List.getD_eq_getElem?_getD, q1]; rfl
 rw [e] at hg hc hv
 generalize (matchF (objT u n).1.sl sel).2 = st at hg hc hv q2 ⊢
 have hkd := slot_kd hsw
 have key : (g.kind ≠ 1 /\ g.kind ≠ 2) /\ st = (g.kind == 5) /\ ((g.kind = 6 /\ s.v.k = 5 /\ s.v.n = g.code) \/ (g.kind = 3 /\ s.v = g.v /\ (s.kd = 1 \/ s.kd = 3)) \/ ((g.kind = 4 \/ g.kind = 5) /\ (s.kd = 2 \/ s.kd = 4))) := by
  unfold ofF at hg hc hv
  cases st with
  | true =>
   simp only [cond_true] at hg hc hv
   have ha := q2 rfl
   unfold assignB at ha
   simp only [Bool.or_eq_true, beq_iff_eq] at ha
   rw [hg]
   exact ⟨⟨by decide, by decide⟩, rfl, .inr (.inr ⟨.inr rfl, ha⟩)⟩
  | false =>
   simp only [cond_false] at hg hc hv
   cases h5 : s.v.k == 5 with
   | true =>
    rw [h5] at hg hc hv
    simp only [cond_true] at hg hc hv
    rw [hg]
    exact ⟨⟨by decide, by decide⟩, rfl, .inl ⟨rfl, by simpa using h5, hc.symm⟩⟩
   | false =>
    rw [h5] at hg hc hv
    simp only [cond_false] at hg hc hv
    cases ha : assignB s with
    | true =>
     rw [ha] at hg hc hv
     simp only [cond_true] at hg hc hv
     unfold assignB at ha
     simp only [Bool.or_eq_true, beq_iff_eq] at ha
     rw [hg]
     exact ⟨⟨by decide, by decide⟩, rfl, .inr (.inr ⟨.inl rfl, ha⟩)⟩
    | false =>
     rw [ha] at hg hc hv
     simp only [cond_false] at hg hc hv
     unfold assignB at ha
     simp only [Bool.or_eq_false_iff, beq_eq_false_iff_ne] at ha
     rw [hg]
     exact ⟨⟨by decide, by decide⟩, rfl, .inr (.inl ⟨rfl, hv.symm, by omega⟩)⟩
 exact .one n s key.1.1 key.1.2 ho hno rfl rfl hsl.symm key.2.1 hn (by rw [hsl]; exact ha) (by rw [hsl]; exact q1) key.2.2
theorem fits_targ {u : Wd} (hs : Sorted u) (hp : Parts u) {sel : List UInt8} {s : St} (ho : Outs u sel s) (hd : OutD u s) (v : Vl) (own : Bool) (hown : own = true -> ∀ x, s.2.2 = [x] -> v.k = 4 /\ x.holder = v.n) :
  FitsP u { targT u s.2.2 with own := bif decide ((targT u s.2.2).kind >= 3) then own else false } (fdOf s.2.2) v := by
 obtain ⟨sf, D, O⟩ := s
 match O, ho, hd, hown with
 | [], _, _, _ => exact .none rfl rfl
 | x :: y :: l, _, _, _ => exact .many rfl rfl
 | [x], ho, hd, hown =>
  have hx := ho.at_ x (List.mem_singleton.2 rfl)
  have hm := (ho.mem x.holder).1 (List.mem_map.2 ⟨x, List.mem_singleton.2 rfl, rfl⟩)
  have hh := (hd x (List.mem_singleton.2 rfl)).1
  have e1 : x.slot = (matchF (objT u x.holder).1.sl sel).1 := congrArg Fo.slot hx
  have e2 : x.set = (matchF (objT u x.holder).1.sl sel).2 := congrArg Fo.set hx
  have hk : ∀ s : Sl, (ofF s x).kind >= 3 := fun s => by
   unfold ofF
   cases x.set
   ·cases s.v.k == 5
    ·cases assignB s
     ·show (3 : Int) >= 3; decide
     ·show (4 : Int) >= 3; decide
    ·show (6 : Int) >= 3; decide
   ·show (5 : Int) >= 3; decide
  have hf : fdOf [x] = ⟨1, x.holder, (matchF (objT u x.holder).1.sl sel).1, (matchF (objT u x.holder).1.sl sel).2⟩ := by
   show (⟨1, x.holder, x.slot, x.set⟩ : Fd) = _
   rw [e1, e2]
  have hs2 : ∀ s : Sl, (ofF s x).slot = x.slot /\ (ofF s x).holder = x.holder := fun s => by
   unfold ofF
   cases x.set
   ·cases s.v.k == 5
    ·cases assignB s <;> exact ⟨rfl, rfl⟩
    ·exact ⟨rfl, rfl⟩
   ·exact ⟨rfl, rfl⟩
  show FitsP u { ofF ((objT u x.holder).1.sl.getD x.slot.toNat default) x with own := bif decide ((ofF ((objT u x.holder).1.sl.getD x.slot.toNat default) x).kind >= 3) then own else false } (fdOf [x]) v
  rw [hf]
  have hx2 : x = ⟨x.holder, (matchF (objT u x.holder).1.sl sel).1, (matchF (objT u x.holder).1.sl sel).2⟩ := hx
  refine fits_slot hs hp hh hm.2 _ v x.holder ?_ ?_ ?_ ?_ (fun h => ?_) (fun h => ?_)
  ·show (ofF _ x).kind = _; rw [<- hx2, <- e1]
  ·show (ofF _ x).slot = _; rw [(hs2 _).1, e1]
  ·show (ofF _ x).code = _; rw [<- hx2, <- e1]
  ·show (ofF _ x).v = _; rw [<- hx2, <- e1]
  ·have h' : (bif decide ((ofF ((objT u x.holder).1.sl.getD x.slot.toNat default) x).kind >= 3) then own else false) = true := h
   rw [decide_eq_true (hk _), cond_true] at h'
   obtain ⟨q1, q2⟩ := hown h' x rfl
   exact ⟨q1, .inr (by show (ofF _ x).holder = v.n; rw [(hs2 _).2, q2]), q2⟩
  ·show x.holder = (ofF _ x).holder; rw [(hs2 _).2]
theorem targT_own (u : Wd) (O : List Fo) : (targT u O).own = false := by
 match O with
 | [] => rfl
 | x :: y :: l => rfl
 | [x] =>
  show (ofF _ x).own = false
  unfold ofF
  cases x.set
  ·cases ((objT u x.holder).1.sl.getD x.slot.toNat default).v.k == 5
   ·cases assignB ((objT u x.holder).1.sl.getD x.slot.toNat default) <;> rfl
   ·rfl
  ·rfl
theorem own_false {t : Tg} {b : Bool} (h : t.own = false) : ({ t with own := bif b then false else false } : Tg) = t := by
 obtain ⟨a, b', c, d, e, f⟩ := t
 simp only at h
 subst h
 cases b <;> rfl
theorem outs_none (w : Wd) (sel : List UInt8) : Outs w sel (sf0, [], []) := ⟨fun m => ⟨fun h => by (cases h), fun h => by (cases h.1)⟩, List.nodup_nil, fun x hx => by (cases hx)⟩
end Go.Proofs.YtplpnfjccemdnaaGreatDoor
