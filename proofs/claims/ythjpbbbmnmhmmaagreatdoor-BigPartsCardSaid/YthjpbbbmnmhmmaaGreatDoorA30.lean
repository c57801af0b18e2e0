import Derived.Test.YthjpbbbmnmhmmaaGreatDoorA29
import Derived.Test.YthjpbbbmnmhmmaaGreatDoorL0
import Derived.Laws.StructEq
import Derived.Deep.DeepCutAuto
set_option linter.unusedVariables false
set_option linter.unusedSimpArgs false
namespace Go.Proofs.YthjpbbbmnmhmmaaGreatDoor
open Go.RowKit Go.Shelf Go.Lib

/-- Two values are equal. -/
def veqB (k n : Int) (t : List UInt8) (k' n' : Int) (t' : List UInt8) : Bool := if k == k' then if n == n' then t == t' else false else false
def veq (a b : Vl) : Bool := veqB a.k a.n a.t b.k b.n b.t
theorem veq_iff {a b : Vl} : veq a b = true ↔ a = b := by
  obtain ⟨k, n, t⟩ := a
  obtain ⟨k', n', t'⟩ := b
  simp only [veq, veqB]
  constructor
  · intro h
    split at h
    · split at h
      · rename_i h1 h2
        rw [eq_of_beq h1, eq_of_beq h2, eq_of_beq h]
      · cases h
    · cases h
  · intro h; cases h; simp
theorem veq_refl (a : Vl) : veq a a = true := veq_iff.2 rfl
theorem veq_ne {a b : Vl} (h : a ≠ b) : veq a b = false := by
  cases e : veq a b with
  | true => exact absurd (veq_iff.1 e) h
  | false => rfl

theorem list_beq_arr (t t' : List UInt8) : ((⟨t.toArray⟩ : ByteArray).toList == (⟨t'.toArray⟩ : ByteArray).toList) = (t == t') := by
  rw [ByteArray.toList_eq, ByteArray.toList_eq]

set_option maxRecDepth 100000 in
theorem run_val_in (k n : Int) (t : List UInt8) (k' n' : Int) (t' : List UInt8) (W : World) :
    (Op.equalIn 10000 23 (.agg #[.int .i64 k, .int .i64 n, .string ⟨t.toArray⟩]) (.agg #[.int .i64 k', .int .i64 n', .string ⟨t'.toArray⟩])).run Tryz.prog W = .ok (veqB k n t k' n' t') W := by
  have h := run_equalIn_agg (P := Tryz.prog) W 9999 23 #[.int .i64 k, .int .i64 n, .string ⟨t.toArray⟩] #[.int .i64 k', .int .i64 n', .string ⟨t'.toArray⟩] (by kernel_rfl) (by kernel_rfl)
  rw [h]
  have hf : (Tryz.prog.fieldsOf 23).toList.map (fun f => (f.name, f.type, f.offset)) = [("K", 3, 0), ("N", 3, 1), ("T", 9, 2)] := by kernel_rfl
  obtain ⟨l, hl⟩ : ∃ l, (Tryz.prog.fieldsOf 23).toList = l := ⟨_, rfl⟩
  rw [hl] at hf ⊢
  match l, hf with
  | [f1, f2, f3], hf =>
    simp only [List.map_cons, List.map_nil, List.cons.injEq, Prod.mk.injEq, and_true] at hf
    obtain ⟨⟨a1, a2, a3⟩, ⟨b1, b2, b3⟩, c1, c2, c3⟩ := hf
    have p1 : ∀ (x y z : Value), (part 3 #[x, y, z] 0).run Tryz.prog W = .ok x W := fun x y z => by kernel_rfl
    have p2 : ∀ (x y z : Value), (part 3 #[x, y, z] 1).run Tryz.prog W = .ok y W := fun x y z => by kernel_rfl
    have p3 : ∀ (x y z : Value), (part 9 #[x, y, z] 2).run Tryz.prog W = .ok z W := fun x y z => by kernel_rfl
    have hi : Tryz.prog.underlying 3 = some (.int .i64) := Tryz.underlying3
    have hs : Tryz.prog.underlying 9 = some .string := Tryz.underlying9
    obtain ⟨e1, h1⟩ : ∃ b, (k == k') = b := ⟨_, rfl⟩
    obtain ⟨e2, h2⟩ : ∃ b, (n == n') = b := ⟨_, rfl⟩
    obtain ⟨e3, h3⟩ : ∃ b, (t == t') = b := ⟨_, rfl⟩
    have q1 : (Op.equalIn 9999 3 (.int .i64 k) (.int .i64 k')).run Tryz.prog W = .ok e1 W := by rw [← h1]; exact run_equalIn_int (P := Tryz.prog) W 9998 3 .i64 .i64 _ _ hi
    have q2 : (Op.equalIn 9999 3 (.int .i64 n) (.int .i64 n')).run Tryz.prog W = .ok e2 W := by rw [← h2]; exact run_equalIn_int (P := Tryz.prog) W 9998 3 .i64 .i64 _ _ hi
    have q3 : (Op.equalIn 9999 9 (.string ⟨t.toArray⟩) (.string ⟨t'.toArray⟩)).run Tryz.prog W = .ok e3 W := by rw [← h3, ← list_beq_arr]; exact run_equalIn_string (P := Tryz.prog) W 9998 9 _ _ hs
    unfold veqB
    rw [h1, h2, h3]
    clear h1 h2 h3
    cases e1 <;> cases e2 <;> cases e3 <;> simp only [Op.eqFields, a1, a2, a3, b1, b2, b3, c1, c2, c3, ne_eq, String.reduceEq, not_false_eq_true, if_true, if_false, Sem.run_bind, Sem.run_pure, p1, p2, p3, Result.andThen_ok, q1, q2, q3, Bool.not_true, Bool.not_false, Bool.false_eq_true]
theorem run_val_eql (k n : Int) (t : List UInt8) (k' n' : Int) (t' : List UInt8) (W : World) :
    (binOp .eql 23 (.agg #[.int .i64 k, .int .i64 n, .string ⟨t.toArray⟩]) (.agg #[.int .i64 k', .int .i64 n', .string ⟨t'.toArray⟩])).run Tryz.prog W = .ok (.bool (veqB k n t k' n' t')) W := by
  rw [run_eql_struct, run_val_in]; rfl
theorem run_val_neq (k n : Int) (t : List UInt8) (k' n' : Int) (t' : List UInt8) (W : World) :
    (binOp .neq 23 (.agg #[.int .i64 k, .int .i64 n, .string ⟨t.toArray⟩]) (.agg #[.int .i64 k', .int .i64 n', .string ⟨t'.toArray⟩])).run Tryz.prog W = .ok (.bool (!veqB k n t k' n' t')) W := by
  rw [run_neq_struct, run_val_in]; rfl

/-- The variables of a law, the newest first: each a box that holds a value. -/
structure Box (W : World) (g : Nat) (a : Vl) : Prop where
  c0 : W.cell? ⟨g, 0, none⟩ = some (.int .i64 a.k)
  c1 : W.cell? ⟨g, 1, none⟩ = some (.int .i64 a.n)
  c2 : W.cell? ⟨g, 2, none⟩ = some (.string ⟨a.t.toArray⟩)
  f0 : W.frozen? ⟨g, 0, none⟩ = false
  f1 : W.frozen? ⟨g, 1, none⟩ = false
  f2 : W.frozen? ⟨g, 2, none⟩ = false
  lt : g < W.heap.size
theorem Box.below {W W' : World} {g : Nat} {a : Vl} (h : Box W g a) (hb : Below W.heap.size W W') : Box W' g a :=
  ⟨cell_on hb h.c0, cell_on hb h.c1, cell_on hb h.c2, (hb.frozen (p := ⟨g, 0, none⟩) h.lt).trans h.f0, (hb.frozen (p := ⟨g, 1, none⟩) h.lt).trans h.f1, (hb.frozen (p := ⟨g, 2, none⟩) h.lt).trans h.f2, Nat.lt_of_lt_of_le h.lt hb.size⟩
theorem box_new (W : World) (a : Vl) (t : TypeId) : Box (W.alloc (.cells #[.int .i64 a.k, .int .i64 a.n, .string ⟨a.t.toArray⟩] t)) W.heap.size a :=
  ⟨cell_in _ _ _ 0 rfl, cell_in _ _ _ 1 rfl, cell_in _ _ _ 2 rfl, frozen_in _ _ _ 0, frozen_in _ _ _ 1, frozen_in _ _ _ 2, by simp⟩

def Bxs (W : World) : List (Nat × Vl) → Prop
  | [] => True
  | (g, a) :: L => Box W g a ∧ (∀ p ∈ L, p.1 < g) ∧ Bxs W L
theorem Bxs.below {W W' : World} (hb : Below W.heap.size W W') : ∀ {L : List (Nat × Vl)}, Bxs W L → Bxs W' L
  | [], _ => trivial
  | (_, _) :: _, ⟨h1, h2, h3⟩ => ⟨h1.below hb, h2, Bxs.below hb h3⟩
theorem Bxs.lt {W : World} : ∀ {L : List (Nat × Vl)}, Bxs W L → ∀ p ∈ L, p.1 < W.heap.size
  | [], _, p, hp => by cases hp
  | (g, a) :: L, ⟨h1, _, h3⟩, p, hp => by
    rcases List.mem_cons.1 hp with rfl | hp
    · exact h1.lt
    · exact Bxs.lt h3 p hp
theorem Bxs.push {W : World} {L : List (Nat × Vl)} (h : Bxs W L) (a : Vl) (t : TypeId) : Bxs (W.alloc (.cells #[.int .i64 a.k, .int .i64 a.n, .string ⟨a.t.toArray⟩] t)) ((W.heap.size, a) :: L) :=
  ⟨box_new W a t, h.lt, h.below ((Below.refl _ _).alloc (Nat.le_refl _) _)⟩
theorem Bxs.head {W : World} {g : Nat} {a : Vl} {L : List (Nat × Vl)} (h : Bxs W ((g, a) :: L)) : Box W g a := h.1
theorem Bxs.tail {W : World} {p : Nat × Vl} {L : List (Nat × Vl)} (h : Bxs W (p :: L)) : Bxs W L := h.2.2
theorem Bxs.get {W : World} {L : List (Nat × Vl)} (h : Bxs W L) (i : Nat) {g : Nat} {a : Vl} (hi : L[i]? = some (g, a)) : Box W g a := by
  induction L generalizing i with
  | nil => simp at hi
  | cons p L ih =>
    obtain ⟨g', a'⟩ := p
    cases i with
    | zero => simp at hi; obtain ⟨rfl, rfl⟩ := hi; exact h.1
    | succ i => exact ih h.2.2 i (by simpa using hi)

/-- The world behind a store into a box. -/
def putV (W : World) (g : Nat) (a : Vl) : World := ((W.setCell ⟨g, 0, none⟩ (.int .i64 a.k)).setCell ⟨g, 1, none⟩ (.int .i64 a.n)).setCell ⟨g, 2, none⟩ (.string ⟨a.t.toArray⟩)
theorem cell_putV {W : World} {g g' j : Nat} {v : Value} {a : Vl} (h : W.cell? ⟨g, j, none⟩ = some v) (hne : ¬ g' = g) : (putV W g' a).cell? ⟨g, j, none⟩ = some v := by
  unfold putV
  rw [World.cell?_setCell_other _ _ _ _ (fun e => hne (congrArg Addr.block e)), World.cell?_setCell_other _ _ _ _ (fun e => hne (congrArg Addr.block e)), World.cell?_setCell_other _ _ _ _ (fun e => hne (congrArg Addr.block e))]
  exact h
theorem Box.put_other {W : World} {g g' : Nat} {a b : Vl} (h : Box W g a) (hne : ¬ g' = g) : Box (putV W g' b) g a :=
  ⟨cell_putV h.c0 hne, cell_putV h.c1 hne, cell_putV h.c2 hne, by have := h.f0; simpa [putV] using this, by have := h.f1; simpa [putV] using this, by have := h.f2; simpa [putV] using this, by have := h.lt; simpa [putV] using this⟩
theorem Box.put {W : World} {g : Nat} {a : Vl} (h : Box W g a) (b : Vl) : Box (putV W g b) g b := by
  have h0 := h.c0; have h1 := h.c1; have h2 := h.c2
  unfold putV
  constructor
  · go_simp
  · go_simp
  · go_simp
  · have := h.f0; simpa using this
  · have := h.f1; simpa using this
  · have := h.f2; simpa using this
  · have := h.lt; simpa using this
def setAt : List (Nat × Vl) → Nat → Vl → List (Nat × Vl)
  | [], _, _ => []
  | (g, a) :: L, 0, b => (g, b) :: L
  | p :: L, i + 1, b => p :: setAt L i b
theorem setAt_mem {b : Vl} : ∀ {L : List (Nat × Vl)} {i : Nat} {p : Nat × Vl}, p ∈ setAt L i b → ∃ q ∈ L, q.1 = p.1
  | [], _, _, h => by cases h
  | (g, a) :: L, 0, p, h => by
    rcases List.mem_cons.1 h with rfl | h
    · exact ⟨_, List.mem_cons_self .., rfl⟩
    · exact ⟨p, List.mem_cons_of_mem _ h, rfl⟩
  | q :: L, i + 1, p, h => by
    rcases List.mem_cons.1 h with rfl | h
    · exact ⟨_, List.mem_cons_self .., rfl⟩
    · obtain ⟨r, hr, e⟩ := setAt_mem h
      exact ⟨r, List.mem_cons_of_mem _ hr, e⟩
theorem Bxs.put_other {W : World} {g : Nat} {b : Vl} : ∀ {L : List (Nat × Vl)}, Bxs W L → (∀ p ∈ L, ¬ g = p.1) → Bxs (putV W g b) L
  | [], _, _ => trivial
  | (_, _) :: _, ⟨h1, h2, h3⟩, hn => ⟨h1.put_other (hn _ (List.mem_cons_self ..)), h2, Bxs.put_other h3 fun p hp => hn p (List.mem_cons_of_mem _ hp)⟩
theorem Bxs.put {W : World} {b : Vl} {g : Nat} {a : Vl} : ∀ {L : List (Nat × Vl)} (i : Nat), Bxs W L → L[i]? = some (g, a) → Bxs (putV W g b) (setAt L i b)
  | [], i, _, hi => by simp at hi
  | (g', a') :: L, 0, ⟨h1, h2, h3⟩, hi => by
    simp at hi
    obtain ⟨rfl, rfl⟩ := hi
    exact ⟨h1.put b, h2, h3.put_other fun p hp e => by have := h2 p hp; omega⟩
  | (g', a') :: L, i + 1, ⟨h1, h2, h3⟩, hi => by
    have hi' : L[i]? = some (g, a) := by simpa using hi
    have hm : (g, a) ∈ L := List.mem_of_getElem? hi'
    refine ⟨h1.put_other (fun e => by have := h2 _ hm; simp at this; omega), fun p hp => ?_, Bxs.put i h3 hi'⟩
    obtain ⟨q, hq, e⟩ := setAt_mem hp
    rw [← e]; exact h2 q hq
theorem below_putV {B : Nat} {w W : World} (h : Below B w W) {g : Nat} (hg : B ≤ g) (b : Vl) : Below B w (putV W g b) := below_put3 h hg _ _ _

/-! ### The small functions of the laws -/
set_option maxHeartbeats 400000 in
theorem num_calls (n : Int) (w : World) : Ans Tryz.prog 31 #[.int .i64 n] w (.agg #[.int .i64 1, .int .i64 n, .string ⟨#[]⟩]) := by
  go_enter Tryz.func31, Tryz.ntmps31
  go_wp2
  refine bodyPost_ret (v := .agg #[.int .i64 1, .int .i64 n, .string ⟨#[]⟩]) (by simp [results, Tryz.results31, go_sem]) rfl ?_
  exact ⟨rfl, (Below.refl _ _).alloc (Nat.le_refl _) _⟩

def shortB (a : Vl) : Bool := decide (a.t.length ≤ 800)
set_option maxHeartbeats 400000 in
theorem short_calls (k n : Int) (t : List UInt8) (ht : t.length ≤ 9223372036854775807) (w : World) : Ans Tryz.prog 16 #[.agg #[.int .i64 k, .int .i64 n, .string ⟨t.toArray⟩]] w (.bool (shortB ⟨k, n, t⟩)) := by
  go_enter Tryz.func16, Tryz.ntmps16
  go_wp2
  go_ret
  exact ⟨by simp [shortB]; omega, (Below.refl _ _).alloc (Nat.le_refl _) _⟩

def negB (a : Vl) : Bool := (a.k == 1 && decide (a.n < 0)) || a.t.head? == some 45
set_option maxHeartbeats 1000000 in
theorem negative_calls (k n : Int) (t : List UInt8) (ht : t.length ≤ 9223372036854775807) (w : World) : Ans Tryz.prog 30 #[.agg #[.int .i64 k, .int .i64 n, .string ⟨t.toArray⟩]] w (.bool (negB ⟨k, n, t⟩)) := by
  have hb := (Below.refl w.heap.size w).alloc (Nat.le_refl _) (.cells #[.int .i64 k, .int .i64 n, .string ⟨t.toArray⟩] 23)
  have HB := Lib.hid hb
  clear hb
  by_cases h1 : k = 1 ∧ n < 0
  · obtain ⟨rfl, hn⟩ := h1
    go_enter Tryz.func30, Tryz.ntmps30
    go_wp2
    go_ret
    exact ⟨by simp [negB, hn], HB.out⟩
  · have hneg : negB ⟨k, n, t⟩ = (t.head? == some 45) := by
      unfold negB
      by_cases hk : k = 1
      · have : ¬ n < 0 := fun h => h1 ⟨hk, h⟩
        simp [this]
      · simp [hk]
    rw [hneg]
    have hcase : (k = 1 ∧ decide (n < 0) = false) ∨ ((k : Int) == 1) = false := by
      by_cases hk : k = 1
      · exact .inl ⟨hk, by simp; have := fun h => h1 ⟨hk, h⟩; omega⟩
      · exact .inr (by simp [hk])
    clear h1 hneg
    cases t with
    | nil =>
      rcases hcase with ⟨rfl, h1⟩ | h1
      all_goals
        go_enter Tryz.func30, Tryz.ntmps30
        go_wp2
        go_ret
        exact ⟨rfl, HB.out⟩
    | cons c l =>
      simp only [List.length_cons] at ht
      by_cases hc : c = 45
      · subst hc
        rcases hcase with ⟨rfl, h1⟩ | h1
        all_goals
          go_enter Tryz.func30, Tryz.ntmps30
          go_wp2
          go_ret
          exact ⟨rfl, HB.out⟩
      · have hc' : ((c.toNat : Int) == 45) = false := by
          have : c.toNat ≠ 45 := fun h => hc (UInt8.toNat_inj.1 (by simpa using h))
          simp; omega
        have hh : (List.head? (c :: l) == some 45) = false := by simp [hc]
        rw [hh]
        clear hh hc
        rcases hcase with ⟨rfl, h1⟩ | h1
        all_goals
          go_enter Tryz.func30, Tryz.ntmps30
          go_wp2
          go_ret
          exact ⟨congrArg (fun b => Ending.returned (.bool b)) hc', HB.out⟩
/-- What a row gives of a value that comes in. -/
def Vl.inp (a : Vl) : Prop := Small64 a.n ∧ a.t.length ≤ 9223372036854775807
theorem num_ok (n : Int) (h : Small64 n) : Vl.ok ⟨1, n, []⟩ := ⟨h, by simp⟩
theorem textR_len (a : Vl) (ha : a.ok) : (textR a).1.length ≤ 100000 := by
  unfold textR
  split
  · simp
  · rename_i x h
    have := (vl_of_num ha h).2
    show (itoa x).length ≤ 100000
    rw [itoa_length]; split <;> omega

end Go.Proofs.YthjpbbbmnmhmmaaGreatDoor
