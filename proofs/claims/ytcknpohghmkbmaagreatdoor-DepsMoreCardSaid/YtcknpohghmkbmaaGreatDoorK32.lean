import Derived.Test.YtcknpohghmkbmaaGreatDoorRows
import Derived.Test.YtcknpohghmkbmaaGreatDoorCards
import Derived.Test.YtcknpohghmkbmaaGreatDoorTie
import Derived.Test.YtcknpohghmkbmaaGreatDoorK31
import Derived.ProofKit
import Derived.OpenShut
import Derived.LaidMore
import Derived.Lay
import Derived.SevenTiedAt
import Derived.Stop.Joined
import Derived.Stop.LaidErr
import Derived.Lib.SmallJoins
import Derived.Lib.LaidTab
import Derived.Carry
set_option linter.unusedVariables false
set_option linter.unusedSimpArgs false
/- The texts R3 R4 of the proof, laid one behind the other. -/
namespace Go.Proofs.YtcknpohghmkbmaaGreatDoor
open Go.ChangeShapes Go.WideShapes Go.ChangeAt Go.ChangeMaps Go.RowKit Go.Joins
theorem own : ownKnob Tryz.prog.godebug = none := by kernel_rfl
/-- What the rows of this seat list. -/
def seatLaid : List (String × DataW Unit) := Rows.depsOrderRow.laid
theorem laidPlain (W : World) : laidMetH Tryz.prog seatLaid W = laidMet Tryz.prog seatLaid W := MakeChecks.laidMetH_plain _ _ _ (by kernel_rfl)
theorem star : "*" ++ "errors.errorString" = "*errors.errorString" := by decide
theorem rowErr (u : TypeId) (h : Tryz.prog.typeName? 3 u = some "*errors.errorString") : u = 360 :=
  typeName_ptr_named (nm := "errors.errorString") (by rw [star]; kernel_rfl) (by kernel_rfl) (by decide) u (by rw [star]; exact h)
set_option maxRecDepth 100000 in
theorem gl_of_laid {W : World} (h : laidMetH Tryz.prog seatLaid W) : Gl [] W := by
  rw [laidPlain] at h
  have h3 := laidMet.tail (laidMet.tail h)
  have h5 := laidMet.tail (laidMet.tail h3)
  have e : (Rows.laid_internal_strconv_uint64pow10 : DataW Unit) = Lib.tabData .u64 Lib.pow10Tab := by kernel_rfl
  rw [e] at h3
  have t := Lib.tabIs_of_head (t := 346) (e := 322) (n := 20) (g := gPow) (by kernel_rfl) (by kernel_rfl) (by kernel_rfl) (by kernel_rfl) (by kernel_rfl) (by kernel_rfl) h3
  obtain ⟨a, s, hv, _⟩ := laid_sentinel (g := gErr) (ti := 274) (tp := 360) (te := 362) h5 (by kernel_rfl) (by kernel_rfl) Tryz.underlying274 rowErr (by kernel_rfl) Tryz.underlying362 rfl rfl (by kernel_rfl) (by kernel_rfl) (by kernel_rfl)
  have heap : ∀ {n : String} {g : Nat} {cs : Array Value}, Tryz.prog.globalNamed n = some g → W.var? Tryz.prog n = some cs → g < W.heap.size ∧ ∃ t fr, W.heap[g]? = some (.cells cs t fr) := fun {n g cs} hg h => by
    unfold World.var? at h
    rw [hg] at h
    simp only [Option.bind_some] at h
    cases hh : W.heap[g]? with
    | none => rw [hh] at h; cases h
    | some o =>
      rw [hh] at h
      cases o with
      | cells c t fr =>
        simp only [Option.some.injEq] at h
        subst h
        exact ⟨(Array.getElem?_eq_some_iff.1 hh).1, t, fr, rfl⟩
      | _ => cases h
  obtain ⟨p1, t1, f1, q1⟩ := heap (g := gPow) (by kernel_rfl) t
  obtain ⟨p2, t2, f2, q2⟩ := heap (g := gErr) (by kernel_rfl) hv
  intro q hq
  simp only [ghosts, List.mem_cons, List.not_mem_nil, or_false] at hq
  rcases hq with rfl | rfl
  · rw [R]
    exact ⟨fun h => by rcases h with h | h <;> simp at h, p1, _, _, _, q1, rfl⟩
  · rw [R]
    exact ⟨fun h => by rcases h with h | h <;> simp at h, p2, _, _, _, q2, _, _, rfl⟩
end Go.Proofs.YtcknpohghmkbmaaGreatDoor
namespace Go.Proofs.YtcknpohghmkbmaaGreatDoor
open Go.ChangeShapes Go.WideShapes Go.ChangeAt Go.ChangeMaps Go.RowKit Go.Joins
theorem laidOut : laidOutB Tryz.prog = true := by kernel_rfl
section
variable {H : Type} {enc : TypeId × Value → H} {P : Program} {W W' : World}
def rowedB (P : Program) (ts : List TypeId) : Bool := ts.all fun t => P.readableRec t && decide (t < P.types.size)
theorem rowed_of {ts : List TypeId} (h : rowedB P ts = true) : ∀ t ∈ ts, P.readableRec t = true ∧ t < P.types.size := fun t ht => by
  have := List.all_eq_true.1 h t ht
  simpa using this
theorem below_trodAll (hl : laidOutB P = true) : ∀ {ts : List TypeId} {vs : List Value} {ds : List (DataW H)} {ps : List MemPlace}, DataW.TrodAll enc P W 0 (fun _ => true) true ts vs ds ps → (∀ t ∈ ts, P.readableRec t = true ∧ t < P.types.size) → Below W.heap.size W W' →
    DataW.TrodAll enc P W' 0 (fun b => decide (b < W.heap.size)) true ts vs ds ps
  | [], vs, ds, ps, h, _, _ => by
    obtain ⟨rfl, rfl, rfl⟩ := trodAll_nil h
    exact trodAll_mk0
  | t :: ts, vs, ds, ps, h, hr, hb => by
    have hlt := DataW.TrodAll.lt h
    obtain ⟨v, vs', d, ds', p, q, rfl, rfl, rfl, h1, h2⟩ := trodAll_cons h
    have ht := hr t (List.mem_cons_self ..)
    exact trodAll_cons_mk (Below.trod hl ht.1 ht.2 h1 hb fun x hx => hlt x (List.mem_append_left _ hx)) (below_trodAll hl h2 (fun t' h' => hr t' (List.mem_cons_of_mem _ h')) hb)
theorem sized_at {ts us : List TypeId} {ds gs : List (DataW H)} (h : (DataW.weightsEach P (ts ++ us) (ds ++ gs)).all (· ≤ reachBytes) = true) {j : Nat} {t : TypeId} {d : DataW H} (ht : (ts ++ us)[j]? = some t) (hd : (ds ++ gs)[j]? = some d) : (d.weights P t).all (· ≤ reachBytes) = true :=
  List.all_eq_true.2 fun n hn => List.all_eq_true.1 h n (DataW.weights_mem_each ht hd n hn)
theorem arg_struct {T : TypeId} {fs : Array Field} {α : Type} {k : Nat} {f : α → List PV} {B : α → Prop} {r : Reach} {b0 : Nat} {v : Value} {d : DataW H} {p : List MemPlace} {sp : Nat → Bool} {held : Bool} (ho : OpenT P T k f B) (ht : P.underlying T = some (.struct fs))
    (hv : Value.okWide P W r b0 T v) (h : DataW.Trod enc P W 0 sp held T v d p) (hw : (d.weights P T).all (· ≤ reachBytes) = true) : ∃ a, R [] [] W (.agg (f a)) v ∧ B a := by
  obtain ⟨cs, rfl, _⟩ := okWide_struct ht hv
  obtain ⟨fuel, hf⟩ := h
  obtain ⟨a, _, h2, h3, h4⟩ := ho.2 H enc W sp held fuel cs.toList (d, p) (by simpa [Value.cells] using hf) hw
  exact ⟨a, by rw [R]; exact ⟨cs.toList, by simp, h2, h3⟩, h4⟩
theorem arg_one {T : TypeId} {α : Type} {f : α → PV} {B : α → Prop} {v : Value} {d : DataW H} {p : List MemPlace} {sp : Nat → Bool} {held : Bool} (ho : OpenT P T 1 (fun a => [f a]) B) (hc : v.cells.toList = [v])
    (h : DataW.Trod enc P W 0 sp held T v d p) (hw : (d.weights P T).all (· ≤ reachBytes) = true) : ∃ a, R [] [] W (f a) v ∧ B a := by
  obtain ⟨fuel, hf⟩ := h
  rw [hc] at hf
  obtain ⟨a, _, _, h3, h4⟩ := ho.2 H enc W sp held fuel [v] (d, p) hf hw
  obtain ⟨u, us, e, q, _⟩ := h3.uncons
  cases e
  exact ⟨a, q, h4⟩
theorem arg_slice {T e : TypeId} {α : Type} {f : α → PV} {B : α → Prop} {r : Reach} {b0 : Nat} {v : Value} {d : DataW H} {p : List MemPlace} {sp : Nat → Bool} {held : Bool} (ho : OpenT P T 1 (fun a => [f a]) B) (ht : P.underlying T = some (.slice e))
    (hv : Value.okWide P W r b0 T v) (h : DataW.Trod enc P W 0 sp held T v d p) (hw : (d.weights P T).all (· ≤ reachBytes) = true) : ∃ a, R [] [] W (f a) v ∧ B a := by
  obtain ⟨a, len, cap, rfl⟩ := okWide_slice ht hv
  exact arg_one ho rfl h hw
end
section
variable {H : Type} {enc : TypeId × Value → H} {W : World}
set_option maxRecDepth 100000 in
theorem arg_int {r : Reach} {b0 : Nat} {v : Value} {d : DataW H} {p : List MemPlace} {sp : Nat → Bool} {held : Bool} (ht : Tryz.prog.underlying 3 = some (.int .i64)) (hv : Value.okWide Tryz.prog W r b0 3 v) (h : DataW.Trod enc Tryz.prog W 0 sp held 3 v d p) (hw : (d.weights Tryz.prog 3).all (· ≤ reachBytes) = true) : ∃ n : Int, R [] [] W (I n) v ∧ In64 n := by
  obtain ⟨n, rfl⟩ := okWide_int ht hv
  exact arg_one intO rfl h hw
set_option maxRecDepth 100000 in
theorem arg_str {r : Reach} {b0 : Nat} {v : Value} {d : DataW H} {p : List MemPlace} {sp : Nat → Bool} {held : Bool} (ht : Tryz.prog.underlying 9 = some .string) (hv : Value.okWide Tryz.prog W r b0 9 v) (h : DataW.Trod enc Tryz.prog W 0 sp held 9 v d p) (hw : (d.weights Tryz.prog 9).all (· ≤ reachBytes) = true) : ∃ s : List UInt8, R [] [] W (S s) v ∧ s.length ≤ Big47 := by
  obtain ⟨n, rfl⟩ := okWide_string ht hv
  exact arg_one strO rfl h hw
end
/-- What is asked of a small world. -/
theorem bulk_of {w : Wd} (h : w.B) : Bulk w := by
  obtain ⟨⟨h1, o⟩, ⟨h2, a⟩, ⟨h3, c⟩, _⟩ := h
  exact ⟨h1, h2, h3, fun x hx => ⟨(o x hx).2.2.1.1, (o x hx).2.2.2.1.1⟩, fun x hx => (a x hx).2.2.2.2.2.1.1, fun x hx => ⟨(c x hx).2.2.2.2.1.1, (c x hx).2.2.2.2.2.1.1, (c x hx).2.2.2.2.2.2.1.1, (c x hx).2.2.2.2.2.2.2.1.1, (c x hx).2.2.2.2.2.2.2.2.1.1⟩⟩
theorem sumTo_mem {α : Type} {b : Int} {f : α → Int} (hf : ∀ x, 0 ≤ f x) : ∀ (l : List α) (n : Int), sumTo b f l n ≤ b → n ≤ b ∧ (0 ≤ n → ∀ x ∈ l, f x ≤ b)
  | [], n, h => ⟨h, fun _ x hx => by cases hx⟩
  | y :: t, n, h => by
    rw [sumTo] at h
    cases hd : decide (n ≤ b) with
    | false => rw [hd] at h; exact absurd h (of_decide_eq_false hd)
    | true =>
      rw [hd, cond_true] at h
      obtain ⟨h1, h2⟩ := sumTo_mem hf t _ h
      have hy := hf y
      refine ⟨of_decide_eq_true hd, fun h0 x hx => ?_⟩
      rcases List.mem_cons.1 hx with rfl | hx
      · omega
      · exact h2 (by omega) x hx
theorem sumTo_pos {α : Type} {b : Int} {f : α → Int} (hf : ∀ x, 0 ≤ f x) : ∀ (l : List α) (n : Int), 0 ≤ n → 0 ≤ sumTo b f l n
  | [], n, h => h
  | y :: t, n, h => by
    rw [sumTo]
    cases decide (n ≤ b)
    · exact h
    · exact sumTo_pos hf t _ (by have := hf y; omega)
theorem obN_pos (x : Ob) : 0 ≤ obN x := by unfold obN; omega
theorem acN_pos (x : Ac) : 0 ≤ acN x := by unfold acN; omega
theorem cdN_pos (x : Cd) : 1 ≤ cdN x := by unfold cdN; omega
theorem small_of {w : Wd} (hs : smallT w = true) : (w.objs.length : Int) + w.acts.length ≤ 1200 ∧ (∀ x ∈ w.objs, obN x ≤ 1200) ∧ (∀ x ∈ w.acts, acN x ≤ 1200) ∧ ∀ x ∈ w.cds, cdN x ≤ 1200 := by
  have h := of_decide_eq_true hs
  unfold smallN at h
  have p0 : (0 : Int) ≤ (w.objs.length : Int) + w.acts.length := by omega
  have p1 := sumTo_pos (b := 1200) obN_pos w.objs _ p0
  have p2 := sumTo_pos (b := 1200) acN_pos w.acts _ p1
  obtain ⟨a1, a2⟩ := sumTo_mem (fun x => Int.le_trans (by decide) (cdN_pos x)) _ _ h
  obtain ⟨b1, b2⟩ := sumTo_mem acN_pos _ _ a1
  obtain ⟨c1, c2⟩ := sumTo_mem obN_pos _ _ b1
  exact ⟨c1, c2 p0, b2 p1, a2 p2⟩
theorem sumTo_count {α : Type} {b : Int} {f : α → Int} (hf : ∀ x, 1 ≤ f x) : ∀ (l : List α) (n : Int), 0 ≤ n → sumTo b f l n ≤ b → n + l.length ≤ b
  | [], n, _, h => by
    have h' : n ≤ b := h
    show n + ((0 : Nat) : Int) ≤ b
    omega
  | y :: t, n, h0, h => by
    have h' := h
    rw [sumTo] at h
    cases hd : decide (n ≤ b) with
    | false => rw [hd] at h; exact absurd h (of_decide_eq_false hd)
    | true =>
      rw [hd, cond_true] at h
      have hy := hf y
      have := sumTo_count hf t _ (by omega) h
      simp only [List.length_cons]; omega
theorem ok_of_small {w : Wd} (hB : w.B) (hs : smallT w = true) : w.Ok := by
  obtain ⟨h0, h1, h2, h3⟩ := small_of hs
  obtain ⟨⟨_, o⟩, ⟨_, a⟩, ⟨_, c⟩, _⟩ := hB
  have hc : (w.cds.length : Int) ≤ 1200 := by
    have h := of_decide_eq_true hs
    unfold smallN at h
    have p0 : (0 : Int) ≤ (w.objs.length : Int) + w.acts.length := by omega
    have := sumTo_count cdN_pos _ _ (sumTo_pos acN_pos _ _ (sumTo_pos obN_pos _ _ p0)) h
    have p := sumTo_pos (b := 1200) acN_pos w.acts _ (sumTo_pos (b := 1200) obN_pos w.objs _ p0)
    omega
  refine ⟨fun x hx => ?_, fun x hx => ?_, fun x hx => ?_, by omega, by omega, by omega⟩
  · have := h1 x hx; unfold obN at this
    exact ⟨fun s hs => ((o x hx).2.2.1.2 s hs).2.2.1.2.1, fun v hv => ((o x hx).2.2.2.1.2 v hv).2.1, by omega, by omega⟩
  · have := h2 x hx; unfold acN at this
    exact ⟨(a x hx).2.2.1.2.1, fun v hv => ((a x hx).2.2.2.2.2.1.2 v hv).2.1, by omega⟩
  · have := h3 x hx; unfold cdN at this
    exact ⟨fun v hv => ((c x hx).2.2.2.2.2.1.2 v hv).2.1, fun v hv => ((c x hx).2.2.2.2.2.2.1.2 v hv).2.1, by omega, by omega, by omega, by omega, by omega, fun i hi => ⟨((c x hx).2.2.2.2.2.2.2.2.1.2 i hi).2.1, ((c x hx).2.2.2.2.2.2.2.2.1.2 i hi).2.2.1, ((c x hx).2.2.2.2.2.2.2.2.1.2 i hi).2.2.2.1⟩⟩
end Go.Proofs.YtcknpohghmkbmaaGreatDoor
