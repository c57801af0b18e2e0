import Derived.Test.YtplpnfjccemdnaaGreatDoorK26
import Derived.ProofKit
import Derived.ChangeArms
import Derived.Deep.Slices
import Derived.SizedLaws
import Derived.Test.YtplpnfjccemdnaaGreatDoorRows
import Derived.Test.YtplpnfjccemdnaaGreatDoorCards
import Derived.Test.YtplpnfjccemdnaaGreatDoorTie
import Derived.OpenShut
import Derived.LaidMore
import Derived.Lay
import Derived.SevenTiedAt
import Derived.Stop.Joined
import Derived.Stop.LaidErr
import Derived.Lib.SmallJoins
import Derived.Lib.LaidTab
import Derived.Carry
set_option linter.unusedVariables false
set_option linter.unusedSimpArgs false
/- The texts R1 R2 R3 R4 D28 H1 of the proof, laid one behind the other. -/
namespace Go.Proofs.YtplpnfjccemdnaaGreatDoor
open Go.RowKit Go.ChangeShapes Go.WideShapes
def OpenT (P : Program) (T : TypeId) {α : Type} (k : Nat) (f : α -> List PV) (B : α -> Prop) : Prop :=
 P.cellsOf T = k /\ ∀ (H : Type) (enc : TypeId × Value -> H) (W : World) (sp : Nat -> Bool) (held : Bool) (fuel : Nat) (cs : List Value) (x : DataW H × List MemPlace), DataW.trod enc P W 0 sp held fuel T cs = some x -> (x.1.weights P T).all (· <= reachBytes) = true ->
  ∃ a : α, cs.length = k /\ (∀ c ∈ cs, c.oneCell' = true) /\ Rs [] [] W (f a) cs /\ B a
section
variable {P : Program}
theorem open_int' {T : TypeId} (ht : P.underlying T = some (.int .i64)) (hc : P.cellsOf T = 1) : OpenT P T 1 (fun n : Int => [I n]) In64 :=
 ⟨hc, fun H enc W sp held fuel cs x h hw => by
  obtain ⟨n, rfl, rfl, wf⟩ := DataW.trod_int ht h
  exact ⟨n, rfl, fun c hc => by rw [List.mem_singleton] at hc; subst hc; rfl, Rs.cons (by rw [R]) Rs.nil, by unfold In64; simpa [Lit.wf, IntKind.min, IntKind.max, IntKind.signed, IntKind.bits] using wf⟩⟩
theorem open_str' {T : TypeId} (ht : P.underlying T = some .string) (hc : P.cellsOf T = 1) : OpenT P T 1 (fun s : List UInt8 => [S s]) (fun s => s.length <= 140737488355328) :=
 ⟨hc, fun H enc W sp held fuel cs x h hw => by
  obtain ⟨s, rfl, rfl, _⟩ := DataW.trod_string ht h
  refine ⟨s.data.toList, rfl, fun c hc => by rw [List.mem_singleton] at hc; subst hc; rfl, Rs.cons (by rw [R]) Rs.nil, ?_⟩
  simp only [DataW.weights, List.all_cons, List.all_nil, Bool.and_true, decide_eq_true_eq] at hw
  exact Nat.le_trans hw (by decide)⟩
theorem open_bool' {T : TypeId} (ht : P.underlying T = some .bool) (hc : P.cellsOf T = 1) : OpenT P T 1 (fun b : Bool => [.sb b]) (fun _ => True) :=
 ⟨hc, fun H enc W sp held fuel cs x h hw => by
  obtain ⟨b, rfl, rfl⟩ := DataW.trod_bool ht h
  exact ⟨b, rfl, fun c hc => by rw [List.mem_singleton] at hc; subst hc; rfl, Rs.cons (by rw [R]) Rs.nil, trivial⟩⟩
theorem OpenT.map {T : TypeId} {α β : Type} {k : Nat} {f : α -> List PV} {f' : β -> List PV} {B : α -> Prop} {B' : β -> Prop} (h : OpenT P T k f B) (g : α -> β) (hf : ∀ a, f' (g a) = f a) (hB : ∀ a, B a -> B' (g a)) : OpenT P T k f' B' :=
 ⟨h.1, fun H enc W sp held fuel cs x hx hw => by
  obtain ⟨a, h1, h2, h3, h4⟩ := h.2 H enc W sp held fuel cs x hx hw
  exact ⟨g a, h1, h2, by rw [hf]; exact h3, hB a h4⟩⟩
def OpenFs (P : Program) (fs : List Field) (off : Nat) {α : Type} (k : Nat) (f : α -> List PV) (B : α -> Prop) : Prop :=
 ∀ (H : Type) (enc : TypeId × Value -> H) (W : World) (sp : Nat -> Bool) (held : Bool) (n : Nat) (cs : List Value) (xs : List (DataW H × List MemPlace)), xs.length = fs.length ->
  (∀ (i : Nat) (fd : Field), fs[i]? = some fd -> DataW.trod enc P W 0 sp held n fd.type ((cs.drop fd.offset).take (P.cellsOf fd.type)) = xs[i]?) -> (DataW.weightsEach P (fs.map (·.type)) (xs.map (·.1))).all (· <= reachBytes) = true ->
  ∃ a : α, ((cs.drop off).take k).length = k /\ (∀ c ∈ (cs.drop off).take k, c.oneCell' = true) /\ Rs [] [] W (f a) ((cs.drop off).take k) /\ B a
theorem OpenFs.nil {off : Nat} : OpenFs P [] off 0 (fun _ : Unit => []) (fun _ => True) := fun H enc W sp held n cs xs _ _ _ => ⟨(), by simp, fun c hc => by simp at hc, by simpa using Rs.nil, trivial⟩
theorem OpenFs.cons {fd : Field} {fs : List Field} {off k1 k2 : Nat} {α β : Type} {f : α -> List PV} {g : β -> List PV} {B : α -> Prop} {B2 : β -> Prop} (hoff : fd.offset = off) (h1 : OpenT P fd.type k1 f B) (h2 : OpenFs P fs (off + k1) k2 g B2) :
  OpenFs P (fd :: fs) off (k1 + k2) (fun q : α × β => f q.1 ++ g q.2) (fun q => B q.1 /\ B2 q.2) := fun H enc W sp held n cs xs hl hx hw => by
 cases xs with
 | nil => simp at hl
 | cons x xs =>
  have e0 := hx 0 fd rfl
  rw [List.getElem?_cons_zero, hoff, h1.1] at e0
  simp only [List.map_cons, DataW.weightsEach, List.all_append, Bool.and_eq_true] at hw
  obtain ⟨a, a1, a2, a3, a4⟩ := h1.2 H enc W sp held n _ x e0 hw.1
  obtain ⟨b, b1, b2, b3, b4⟩ := h2 H enc W sp held n cs xs (by simpa using hl) (fun i fd' h => by simpa using hx (i + 1) fd' (by simpa using h)) hw.2
  have e : (cs.drop off).take (k1 + k2) = (cs.drop off).take k1 ++ (cs.drop (off + k1)).take k2 := by rw [List.take_add, List.drop_drop]
  refine ⟨(a, b), by rw [e, List.length_append, a1, b1], fun c hc => ?_, by rw [e]; exact a3.append b3, a4, b4⟩
  rw [e] at hc
  rcases List.mem_append.1 hc with h | h
  ·exact a2 c h
  ·exact b2 c h
theorem open_struct' {T : TypeId} {fs : List Field} {α : Type} {k : Nat} {f : α -> List PV} {B : α -> Prop} (ht : P.underlying T = some (.struct fs.toArray)) (hc : P.cellsOf T = k) (h : OpenFs P fs 0 k f B) : OpenT P T k f B :=
 ⟨hc, fun H enc W sp held fuel cs x hx hw => by
  obtain ⟨xs, n, rfl, rfl, hlen, hxl, hf⟩ := DataW.trod_struct ht hx
  simp only [DataW.weights, ht] at hw
  obtain ⟨a, h1, h2, h3, h4⟩ := h H enc W sp held n cs xs (by simpa using hxl) (fun i fd hfd => hf i fd (by simpa using hfd)) (by simpa using hw)
  rw [List.drop_zero, List.take_of_length_le (by rw [hlen, hc]; exact Nat.le_refl _)] at h1 h2 h3
  exact ⟨a, h1, h2, h3, h4⟩⟩
theorem weightsAll_each {H : Type} {e : TypeId} : ∀ {ds : List (DataW H)}, (DataW.weightsAll P e ds).all (· <= reachBytes) = true -> ∀ d ∈ ds, (d.weights P e).all (· <= reachBytes) = true
 | [], _, d, hd => by simp at hd
 | x :: ds, h, d, hd => by
  simp only [DataW.weightsAll, List.all_append, Bool.and_eq_true] at h
  rcases List.mem_cons.1 hd with rfl | hd
  ·exact h.1
  ·exact weightsAll_each h.2 d hd
theorem cells_get {w : World} {base n : Nat} {a : Addr} {cs : List Value} (h : w.cells? base a n = some cs) : cs.length = n /\ ∀ i, i < n -> w.cell? (a.add i) = cs[i]? := by
 unfold World.cells? at h
 split at h
 ·refine ⟨by simpa using mapM_some_length h, fun i hi => by have := mapM_some_get h i i (by simp [hi]); simpa using this⟩
 ·cases h
theorem plain_add (b off n : Nat) : (⟨b, off, none⟩ : Addr).add n = ⟨b, off + n, none⟩ := by
 unfold Addr.add
 split
 ·rename_i h; subst h; rfl
 ·rfl
theorem open_list' {T e : TypeId} {α : Type} [Inhabited α] {k : Nat} {f : α -> List PV} {B : α -> Prop} (ht : P.underlying T = some (.slice e)) (hc : P.cellsOf T = 1) (hk : 0 < k) (hb : 0 < P.bytesOf e) (h : OpenT P e k f B) :
  OpenT P T 1 (fun l : List α => [row k f l]) (fun l => l.length <= 140737488355328 /\ ∀ a ∈ l, B a) :=
 ⟨hc, fun H enc W sp held fuel cs x hx hw => by
  rcases Go.Deep.open_slice ht hx with ⟨rfl, rfl⟩ | ⟨a, len, cap, m, n, D, Pl, rfl, hba, hle, hcm, hm, rfl, hel⟩
  ·exact ⟨[], rfl, fun c hc => by rw [List.mem_singleton] at hc; subst hc; rfl, Rs.cons (nil_row k f (by rw [R])) Rs.nil, Nat.zero_le _, fun a h => by cases h⟩
  ·simp only [DataW.weights, ht, List.all_cons, List.all_append, Bool.and_eq_true, decide_eq_true_eq] at hw
   obtain ⟨hw1, hw2, _⟩ := hw
   have hlm : len <= m := by rw [hm]; split <;> omega
   have hlen : len <= 140737488355328 := by
    have h1 : len <= reachBytes := by
     refine Nat.le_trans ?_ hw1
     refine Nat.le_trans ?_ (Nat.le_mul_of_pos_right _ hb)
     simp
    exact Nat.le_trans h1 (by decide)
   have hex : ∀ i, ∃ q : α, i < len -> ∃ cs', W.cells? 0 (a.add (i * k)) k = some cs' /\ cs'.length = k /\ (∀ c ∈ cs', c.oneCell' = true) /\ Rs [] [] W (f q) cs' /\ B q := fun i => by
    by_cases hi : i < len
    ·obtain ⟨cs', h1, h2⟩ := hel i (by omega)
     rw [h.1] at h1
     obtain ⟨q, q1, q2, q3, q4⟩ := h.2 H enc W sp held n cs' (D i, Pl i) h2 (weightsAll_each hw2 (D i) (List.mem_map.2 ⟨i, List.mem_range.2 hi, rfl⟩))
     exact ⟨q, fun _ => ⟨cs', h1, q1, q2, q3, q4⟩⟩
    ·exact ⟨default, fun h => absurd h hi⟩
   have hg : ∀ i, i < len -> ∃ cs', W.cells? 0 (a.add (i * k)) k = some cs' /\ cs'.length = k /\ (∀ c ∈ cs', c.oneCell' = true) /\ Rs [] [] W (f (Classical.choose (hex i))) cs' /\ B (Classical.choose (hex i)) := fun i => Classical.choose_spec (hex i)
   have hget : ∀ j, j < len -> ((List.range len).map fun i => Classical.choose (hex i)).getD j default = Classical.choose (hex j) := fun j hj => by
    simp [List.getD_eq_getElem?_getD, hj]
   refine ⟨(List.range len).map fun i => Classical.choose (hex i), rfl, fun c hc => by rw [List.mem_singleton] at hc; subst hc; rfl, Rs.cons ?_ Rs.nil, by simpa using hlen, fun q hq => ?_⟩
   ·rw [R]
    refine ⟨some a, cap, by simp, by simpa using hle, hcm, fun h0 => ?_⟩
    have h0 : 0 < len := by simpa using h0
    obtain ⟨cs0, c1, c2, _⟩ := hg 0 h0
    have hspot : a.spot = none := by
     have h2 := (cells_get c1).2 0 hk
     rw [List.getElem?_eq_getElem (by omega)] at h2
     unfold World.cell? at h2
     split at h2
     ·split at h2
      ·cases h2
      ·rename_i hs
       simpa [Addr.add] using hs
     ·cases h2
    have hblk : a.block < W.heap.size := by
     have h2 := (cells_get c1).2 0 hk
     rw [List.getElem?_eq_getElem (by omega)] at h2
     unfold World.cell? at h2
     split at h2
     ·rename_i h3
      have := (Array.getElem?_eq_some_iff.1 h3).1
      simpa [Addr.add] using this
     ·cases h2
    obtain ⟨b, off, spot⟩ := a
    simp only at hspot hblk
    subst hspot
    refine ⟨b, off, rfl, fun h => by rcases h with h | h <;> simp at h, hblk, fun j hj => ?_⟩
    have hj : j < len := by simpa using hj
    obtain ⟨cs', q1, q2, q3, q4, _⟩ := hg j hj
    refine ⟨cs', q2, q3, ?_, fun i x hi => ?_⟩
    ·rw [hget j hj]; exact q4
    ·have hik : i < k := by have := (List.getElem?_eq_some_iff.1 hi).1; omega
     have := (cells_get q1).2 i hik
     rw [hi, plain_add, plain_add] at this
     exact this
   ·obtain ⟨i, hi, rfl⟩ := List.mem_map.1 hq
    exact (hg i (List.mem_range.1 hi)).choose_spec.2.2.2.2⟩
end
abbrev Big47 : Nat := 140737488355328
abbrev intO : OpenT Tryz.prog 3 1 (fun n : Int => [I n]) In64 := open_int' Tryz.underlying3 (by kernel_rfl)
abbrev strO : OpenT Tryz.prog 9 1 (fun s : List UInt8 => [S s]) (fun s => s.length <= Big47) := open_str' Tryz.underlying9 (by kernel_rfl)
abbrev boolO : OpenT Tryz.prog 4 1 (fun b : Bool => [.sb b]) (fun _ => True) := open_bool' Tryz.underlying4 (by kernel_rfl)
theorem open_s2 {P : Program} {T : TypeId} {f1 f2 : Field} {k1 k2 : Nat} {α1 α2 : Type} {g1 : α1 -> List PV} {B1 : α1 -> Prop} {g2 : α2 -> List PV} {B2 : α2 -> Prop} (ht : P.underlying T = some (.struct #[f1, f2])) (hc : P.cellsOf T = (k1 + (k2 + 0))) (o1 : f1.offset = 0) (h1 : OpenT P f1.type k1 g1 B1) (o2 : f2.offset = 0 + k1) (h2 : OpenT P f2.type k2 g2 B2) : OpenT P T (k1 + (k2 + 0)) (fun q : α1 × α2 × Unit => g1 q.1 ++ (g2 q.2.1 ++ ([]))) (fun q => B1 q.1 /\ B2 q.2.1 /\ True) :=
 open_struct' ht hc (OpenFs.cons o1 h1 (OpenFs.cons o2 h2 OpenFs.nil))
theorem open_s3 {P : Program} {T : TypeId} {f1 f2 f3 : Field} {k1 k2 k3 : Nat} {α1 α2 α3 : Type} {g1 : α1 -> List PV} {B1 : α1 -> Prop} {g2 : α2 -> List PV} {B2 : α2 -> Prop} {g3 : α3 -> List PV} {B3 : α3 -> Prop} (ht : P.underlying T = some (.struct #[f1, f2, f3])) (hc : P.cellsOf T = (k1 + (k2 + (k3 + 0)))) (o1 : f1.offset = 0) (h1 : OpenT P f1.type k1 g1 B1) (o2 : f2.offset = 0 + k1) (h2 : OpenT P f2.type k2 g2 B2) (o3 : f3.offset = 0 + k1 + k2) (h3 : OpenT P f3.type k3 g3 B3) : OpenT P T (k1 + (k2 + (k3 + 0))) (fun q : α1 × α2 × α3 × Unit => g1 q.1 ++ (g2 q.2.1 ++ (g3 q.2.2.1 ++ ([])))) (fun q => B1 q.1 /\ B2 q.2.1 /\ B3 q.2.2.1 /\ True) :=
 open_struct' ht hc (OpenFs.cons o1 h1 (OpenFs.cons o2 h2 (OpenFs.cons o3 h3 OpenFs.nil)))
theorem open_s4 {P : Program} {T : TypeId} {f1 f2 f3 f4 : Field} {k1 k2 k3 k4 : Nat} {α1 α2 α3 α4 : Type} {g1 : α1 -> List PV} {B1 : α1 -> Prop} {g2 : α2 -> List PV} {B2 : α2 -> Prop} {g3 : α3 -> List PV} {B3 : α3 -> Prop} {g4 : α4 -> List PV} {B4 : α4 -> Prop} (ht : P.underlying T = some (.struct #[f1, f2, f3, f4])) (hc : P.cellsOf T = (k1 + (k2 + (k3 + (k4 + 0))))) (o1 : f1.offset = 0) (h1 : OpenT P f1.type k1 g1 B1) (o2 : f2.offset = 0 + k1) (h2 : OpenT P f2.type k2 g2 B2) (o3 : f3.offset = 0 + k1 + k2) (h3 : OpenT P f3.type k3 g3 B3) (o4 : f4.offset = 0 + k1 + k2 + k3) (h4 : OpenT P f4.type k4 g4 B4) : OpenT P T (k1 + (k2 + (k3 + (k4 + 0)))) (fun q : α1 × α2 × α3 × α4 × Unit => g1 q.1 ++ (g2 q.2.1 ++ (g3 q.2.2.1 ++ (g4 q.2.2.2.1 ++ ([]))))) (fun q => B1 q.1 /\ B2 q.2.1 /\ B3 q.2.2.1 /\ B4 q.2.2.2.1 /\ True) :=
 open_struct' ht hc (OpenFs.cons o1 h1 (OpenFs.cons o2 h2 (OpenFs.cons o3 h3 (OpenFs.cons o4 h4 OpenFs.nil))))
theorem open_s5 {P : Program} {T : TypeId} {f1 f2 f3 f4 f5 : Field} {k1 k2 k3 k4 k5 : Nat} {α1 α2 α3 α4 α5 : Type} {g1 : α1 -> List PV} {B1 : α1 -> Prop} {g2 : α2 -> List PV} {B2 : α2 -> Prop} {g3 : α3 -> List PV} {B3 : α3 -> Prop} {g4 : α4 -> List PV} {B4 : α4 -> Prop} {g5 : α5 -> List PV} {B5 : α5 -> Prop} (ht : P.underlying T = some (.struct #[f1, f2, f3, f4, f5])) (hc : P.cellsOf T = (k1 + (k2 + (k3 + (k4 + (k5 + 0)))))) (o1 : f1.offset = 0) (h1 : OpenT P f1.type k1 g1 B1) (o2 : f2.offset = 0 + k1) (h2 : OpenT P f2.type k2 g2 B2) (o3 : f3.offset = 0 + k1 + k2) (h3 : OpenT P f3.type k3 g3 B3) (o4 : f4.offset = 0 + k1 + k2 + k3) (h4 : OpenT P f4.type k4 g4 B4) (o5 : f5.offset = 0 + k1 + k2 + k3 + k4) (h5 : OpenT P f5.type k5 g5 B5) : OpenT P T (k1 + (k2 + (k3 + (k4 + (k5 + 0))))) (fun q : α1 × α2 × α3 × α4 × α5 × Unit => g1 q.1 ++ (g2 q.2.1 ++ (g3 q.2.2.1 ++ (g4 q.2.2.2.1 ++ (g5 q.2.2.2.2.1 ++ ([])))))) (fun q => B1 q.1 /\ B2 q.2.1 /\ B3 q.2.2.1 /\ B4 q.2.2.2.1 /\ B5 q.2.2.2.2.1 /\ True) :=
 open_struct' ht hc (OpenFs.cons o1 h1 (OpenFs.cons o2 h2 (OpenFs.cons o3 h3 (OpenFs.cons o4 h4 (OpenFs.cons o5 h5 OpenFs.nil)))))
theorem open_s6 {P : Program} {T : TypeId} {f1 f2 f3 f4 f5 f6 : Field} {k1 k2 k3 k4 k5 k6 : Nat} {α1 α2 α3 α4 α5 α6 : Type} {g1 : α1 -> List PV} {B1 : α1 -> Prop} {g2 : α2 -> List PV} {B2 : α2 -> Prop} {g3 : α3 -> List PV} {B3 : α3 -> Prop} {g4 : α4 -> List PV} {B4 : α4 -> Prop} {g5 : α5 -> List PV} {B5 : α5 -> Prop} {g6 : α6 -> List PV} {B6 : α6 -> Prop} (ht : P.underlying T = some (.struct #[f1, f2, f3, f4, f5, f6])) (hc : P.cellsOf T = (k1 + (k2 + (k3 + (k4 + (k5 + (k6 + 0))))))) (o1 : f1.offset = 0) (h1 : OpenT P f1.type k1 g1 B1) (o2 : f2.offset = 0 + k1) (h2 : OpenT P f2.type k2 g2 B2) (o3 : f3.offset = 0 + k1 + k2) (h3 : OpenT P f3.type k3 g3 B3) (o4 : f4.offset = 0 + k1 + k2 + k3) (h4 : OpenT P f4.type k4 g4 B4) (o5 : f5.offset = 0 + k1 + k2 + k3 + k4) (h5 : OpenT P f5.type k5 g5 B5) (o6 : f6.offset = 0 + k1 + k2 + k3 + k4 + k5) (h6 : OpenT P f6.type k6 g6 B6) : OpenT P T (k1 + (k2 + (k3 + (k4 + (k5 + (k6 + 0)))))) (fun q : α1 × α2 × α3 × α4 × α5 × α6 × Unit => g1 q.1 ++ (g2 q.2.1 ++ (g3 q.2.2.1 ++ (g4 q.2.2.2.1 ++ (g5 q.2.2.2.2.1 ++ (g6 q.2.2.2.2.2.1 ++ ([]))))))) (fun q => B1 q.1 /\ B2 q.2.1 /\ B3 q.2.2.1 /\ B4 q.2.2.2.1 /\ B5 q.2.2.2.2.1 /\ B6 q.2.2.2.2.2.1 /\ True) :=
 open_struct' ht hc (OpenFs.cons o1 h1 (OpenFs.cons o2 h2 (OpenFs.cons o3 h3 (OpenFs.cons o4 h4 (OpenFs.cons o5 h5 (OpenFs.cons o6 h6 OpenFs.nil))))))
theorem open_s7 {P : Program} {T : TypeId} {f1 f2 f3 f4 f5 f6 f7 : Field} {k1 k2 k3 k4 k5 k6 k7 : Nat} {α1 α2 α3 α4 α5 α6 α7 : Type} {g1 : α1 -> List PV} {B1 : α1 -> Prop} {g2 : α2 -> List PV} {B2 : α2 -> Prop} {g3 : α3 -> List PV} {B3 : α3 -> Prop} {g4 : α4 -> List PV} {B4 : α4 -> Prop} {g5 : α5 -> List PV} {B5 : α5 -> Prop} {g6 : α6 -> List PV} {B6 : α6 -> Prop} {g7 : α7 -> List PV} {B7 : α7 -> Prop} (ht : P.underlying T = some (.struct #[f1, f2, f3, f4, f5, f6, f7])) (hc : P.cellsOf T = (k1 + (k2 + (k3 + (k4 + (k5 + (k6 + (k7 + 0)))))))) (o1 : f1.offset = 0) (h1 : OpenT P f1.type k1 g1 B1) (o2 : f2.offset = 0 + k1) (h2 : OpenT P f2.type k2 g2 B2) (o3 : f3.offset = 0 + k1 + k2) (h3 : OpenT P f3.type k3 g3 B3) (o4 : f4.offset = 0 + k1 + k2 + k3) (h4 : OpenT P f4.type k4 g4 B4) (o5 : f5.offset = 0 + k1 + k2 + k3 + k4) (h5 : OpenT P f5.type k5 g5 B5) (o6 : f6.offset = 0 + k1 + k2 + k3 + k4 + k5) (h6 : OpenT P f6.type k6 g6 B6) (o7 : f7.offset = 0 + k1 + k2 + k3 + k4 + k5 + k6) (h7 : OpenT P f7.type k7 g7 B7) : OpenT P T (k1 + (k2 + (k3 + (k4 + (k5 + (k6 + (k7 + 0))))))) (fun q : α1 × α2 × α3 × α4 × α5 × α6 × α7 × Unit => g1 q.1 ++ (g2 q.2.1 ++ (g3 q.2.2.1 ++ (g4 q.2.2.2.1 ++ (g5 q.2.2.2.2.1 ++ (g6 q.2.2.2.2.2.1 ++ (g7 q.2.2.2.2.2.2.1 ++ ([])))))))) (fun q => B1 q.1 /\ B2 q.2.1 /\ B3 q.2.2.1 /\ B4 q.2.2.2.1 /\ B5 q.2.2.2.2.1 /\ B6 q.2.2.2.2.2.1 /\ B7 q.2.2.2.2.2.2.1 /\ True) :=
 open_struct' ht hc (OpenFs.cons o1 h1 (OpenFs.cons o2 h2 (OpenFs.cons o3 h3 (OpenFs.cons o4 h4 (OpenFs.cons o5 h5 (OpenFs.cons o6 h6 (OpenFs.cons o7 h7 OpenFs.nil)))))))
theorem open_s9 {P : Program} {T : TypeId} {f1 f2 f3 f4 f5 f6 f7 f8 f9 : Field} {k1 k2 k3 k4 k5 k6 k7 k8 k9 : Nat} {α1 α2 α3 α4 α5 α6 α7 α8 α9 : Type} {g1 : α1 -> List PV} {B1 : α1 -> Prop} {g2 : α2 -> List PV} {B2 : α2 -> Prop} {g3 : α3 -> List PV} {B3 : α3 -> Prop} {g4 : α4 -> List PV} {B4 : α4 -> Prop} {g5 : α5 -> List PV} {B5 : α5 -> Prop} {g6 : α6 -> List PV} {B6 : α6 -> Prop} {g7 : α7 -> List PV} {B7 : α7 -> Prop} {g8 : α8 -> List PV} {B8 : α8 -> Prop} {g9 : α9 -> List PV} {B9 : α9 -> Prop} (ht : P.underlying T = some (.struct #[f1, f2, f3, f4, f5, f6, f7, f8, f9])) (hc : P.cellsOf T = (k1 + (k2 + (k3 + (k4 + (k5 + (k6 + (k7 + (k8 + (k9 + 0)))))))))) (o1 : f1.offset = 0) (h1 : OpenT P f1.type k1 g1 B1) (o2 : f2.offset = 0 + k1) (h2 : OpenT P f2.type k2 g2 B2) (o3 : f3.offset = 0 + k1 + k2) (h3 : OpenT P f3.type k3 g3 B3) (o4 : f4.offset = 0 + k1 + k2 + k3) (h4 : OpenT P f4.type k4 g4 B4) (o5 : f5.offset = 0 + k1 + k2 + k3 + k4) (h5 : OpenT P f5.type k5 g5 B5) (o6 : f6.offset = 0 + k1 + k2 + k3 + k4 + k5) (h6 : OpenT P f6.type k6 g6 B6) (o7 : f7.offset = 0 + k1 + k2 + k3 + k4 + k5 + k6) (h7 : OpenT P f7.type k7 g7 B7) (o8 : f8.offset = 0 + k1 + k2 + k3 + k4 + k5 + k6 + k7) (h8 : OpenT P f8.type k8 g8 B8) (o9 : f9.offset = 0 + k1 + k2 + k3 + k4 + k5 + k6 + k7 + k8) (h9 : OpenT P f9.type k9 g9 B9) : OpenT P T (k1 + (k2 + (k3 + (k4 + (k5 + (k6 + (k7 + (k8 + (k9 + 0))))))))) (fun q : α1 × α2 × α3 × α4 × α5 × α6 × α7 × α8 × α9 × Unit => g1 q.1 ++ (g2 q.2.1 ++ (g3 q.2.2.1 ++ (g4 q.2.2.2.1 ++ (g5 q.2.2.2.2.1 ++ (g6 q.2.2.2.2.2.1 ++ (g7 q.2.2.2.2.2.2.1 ++ (g8 q.2.2.2.2.2.2.2.1 ++ (g9 q.2.2.2.2.2.2.2.2.1 ++ ([])))))))))) (fun q => B1 q.1 /\ B2 q.2.1 /\ B3 q.2.2.1 /\ B4 q.2.2.2.1 /\ B5 q.2.2.2.2.1 /\ B6 q.2.2.2.2.2.1 /\ B7 q.2.2.2.2.2.2.1 /\ B8 q.2.2.2.2.2.2.2.1 /\ B9 q.2.2.2.2.2.2.2.2.1 /\ True) :=
 open_struct' ht hc (OpenFs.cons o1 h1 (OpenFs.cons o2 h2 (OpenFs.cons o3 h3 (OpenFs.cons o4 h4 (OpenFs.cons o5 h5 (OpenFs.cons o6 h6 (OpenFs.cons o7 h7 (OpenFs.cons o8 h8 (OpenFs.cons o9 h9 OpenFs.nil)))))))))
theorem strsO : OpenT Tryz.prog 76 1 (fun l : List (List UInt8) => [row 1 (fun s => [S s]) l]) (fun l => l.length <= Big47 /\ ∀ a ∈ l, a.length <= Big47) := open_list' Tryz.underlying76 (by kernel_rfl) (by decide) (of_decide_eq_true (by kernel_rfl)) strO
def Vl.B (x : Vl) : Prop := In64 x.k /\ In64 x.n /\ x.t.length <= Big47 /\ True
set_option maxRecDepth 100000 in
theorem Vl.O : OpenT Tryz.prog 29 3 Vl.pv Vl.B :=
 (open_s3 Tryz.underlying29 (by kernel_rfl) rfl intO rfl intO rfl strO).map (fun (q : Int × Int × List UInt8 × Unit) => ⟨q.1, q.2.1, q.2.2.1⟩) (fun q => rfl) (fun q h => h)
theorem Vl.lO : OpenT Tryz.prog 71 1 (fun l : List Vl => [row 3 Vl.pv l]) (fun l => l.length <= Big47 /\ ∀ a ∈ l, Vl.B a) := open_list' Tryz.underlying71 (by kernel_rfl) (by decide) (of_decide_eq_true (by kernel_rfl)) Vl.O
def Sl.B (x : Sl) : Prop := x.nm.length <= Big47 /\ In64 x.kd /\ Vl.B x.v /\ True
set_option maxRecDepth 100000 in
theorem Sl.O : OpenT Tryz.prog 65 5 Sl.pv Sl.B :=
 (open_s3 Tryz.underlying65 (by kernel_rfl) rfl strO rfl intO rfl Vl.O).map (fun (q : List UInt8 × Int × Vl × Unit) => ⟨q.1, q.2.1, q.2.2.1⟩) (fun q => rfl) (fun q h => h)
theorem Sl.lO : OpenT Tryz.prog 58 1 (fun l : List Sl => [row 5 Sl.pv l]) (fun l => l.length <= Big47 /\ ∀ a ∈ l, Sl.B a) := open_list' Tryz.underlying58 (by kernel_rfl) (by decide) (of_decide_eq_true (by kernel_rfl)) Sl.O
def Ob.B (x : Ob) : Prop := In64 x.oid /\ In64 x.kd /\ (x.sl.length <= Big47 /\ ∀ y ∈ x.sl, Sl.B y) /\ (x.el.length <= Big47 /\ ∀ y ∈ x.el, Vl.B y) /\ In64 x.code /\ In64 x.up /\ True
set_option maxRecDepth 100000 in
theorem Ob.O : OpenT Tryz.prog 73 6 Ob.pv Ob.B :=
 (open_s6 Tryz.underlying73 (by kernel_rfl) rfl intO rfl intO rfl Sl.lO rfl Vl.lO rfl intO rfl intO).map (fun (q : Int × Int × List Sl × List Vl × Int × Int × Unit) => ⟨q.1, q.2.1, q.2.2.1, q.2.2.2.1, q.2.2.2.2.1, q.2.2.2.2.2.1⟩) (fun q => rfl) (fun q h => h)
theorem Ob.lO : OpenT Tryz.prog 22 1 (fun l : List Ob => [row 6 Ob.pv l]) (fun l => l.length <= Big47 /\ ∀ a ∈ l, Ob.B a) := open_list' Tryz.underlying22 (by kernel_rfl) (by decide) (of_decide_eq_true (by kernel_rfl)) Ob.O
def Ac.B (x : Ac) : Prop := In64 x.aid /\ In64 x.code /\ Vl.B x.self /\ In64 x.holder /\ In64 x.up /\ (x.vars.length <= Big47 /\ ∀ y ∈ x.vars, Vl.B y) /\ True /\ True
set_option maxRecDepth 100000 in
theorem Ac.O : OpenT Tryz.prog 75 9 Ac.pv Ac.B :=
 (open_s7 Tryz.underlying75 (by kernel_rfl) rfl intO rfl intO rfl Vl.O rfl intO rfl intO rfl Vl.lO rfl boolO).map (fun (q : Int × Int × Vl × Int × Int × List Vl × Bool × Unit) => ⟨q.1, q.2.1, q.2.2.1, q.2.2.2.1, q.2.2.2.2.1, q.2.2.2.2.2.1, q.2.2.2.2.2.2.1⟩) (fun q => rfl) (fun q h => h)
theorem Ac.lO : OpenT Tryz.prog 23 1 (fun l : List Ac => [row 9 Ac.pv l]) (fun l => l.length <= Big47 /\ ∀ a ∈ l, Ac.B a) := open_list' Tryz.underlying23 (by kernel_rfl) (by decide) (of_decide_eq_true (by kernel_rfl)) Ac.O
def In.B (x : In) : Prop := In64 x.op /\ In64 x.a /\ In64 x.b /\ In64 x.c /\ True
set_option maxRecDepth 100000 in
theorem In.O : OpenT Tryz.prog 207 4 In.pv In.B :=
 (open_s4 Tryz.underlying207 (by kernel_rfl) rfl intO rfl intO rfl intO rfl intO).map (fun (q : Int × Int × Int × Int × Unit) => ⟨q.1, q.2.1, q.2.2.1, q.2.2.2.1⟩) (fun q => rfl) (fun q h => h)
theorem In.lO : OpenT Tryz.prog 77 1 (fun l : List In => [row 4 In.pv l]) (fun l => l.length <= Big47 /\ ∀ a ∈ l, In.B a) := open_list' Tryz.underlying77 (by kernel_rfl) (by decide) (of_decide_eq_true (by kernel_rfl)) In.O
def Cd.B (x : Cd) : Prop := x.nm.length <= Big47 /\ True /\ In64 x.outer /\ In64 x.args /\ (x.names.length <= Big47 /\ ∀ y ∈ x.names, y.length <= Big47) /\ (x.init.length <= Big47 /\ ∀ y ∈ x.init, Vl.B y) /\ (x.lits.length <= Big47 /\ ∀ y ∈ x.lits, Vl.B y) /\ (x.sels.length <= Big47 /\ ∀ y ∈ x.sels, y.length <= Big47) /\ (x.ins.length <= Big47 /\ ∀ y ∈ x.ins, In.B y) /\ True
set_option maxRecDepth 100000 in
theorem Cd.O : OpenT Tryz.prog 79 9 Cd.pv Cd.B :=
 (open_s9 Tryz.underlying79 (by kernel_rfl) rfl strO rfl boolO rfl intO rfl intO rfl strsO rfl Vl.lO rfl Vl.lO rfl strsO rfl In.lO).map (fun (q : List UInt8 × Bool × Int × Int × List (List UInt8) × List Vl × List Vl × List (List UInt8) × List In × Unit) => ⟨q.1, q.2.1, q.2.2.1, q.2.2.2.1, q.2.2.2.2.1, q.2.2.2.2.2.1, q.2.2.2.2.2.2.1, q.2.2.2.2.2.2.2.1, q.2.2.2.2.2.2.2.2.1⟩) (fun q => rfl) (fun q h => h)
theorem Cd.lO : OpenT Tryz.prog 24 1 (fun l : List Cd => [row 9 Cd.pv l]) (fun l => l.length <= Big47 /\ ∀ a ∈ l, Cd.B a) := open_list' Tryz.underlying24 (by kernel_rfl) (by decide) (of_decide_eq_true (by kernel_rfl)) Cd.O
def Wd.B (x : Wd) : Prop := (x.objs.length <= Big47 /\ ∀ y ∈ x.objs, Ob.B y) /\ (x.acts.length <= Big47 /\ ∀ y ∈ x.acts, Ac.B y) /\ (x.cds.length <= Big47 /\ ∀ y ∈ x.cds, Cd.B y) /\ In64 x.nO /\ In64 x.nA /\ True
set_option maxRecDepth 100000 in
theorem Wd.O : OpenT Tryz.prog 26 5 Wd.pv Wd.B :=
 (open_s5 Tryz.underlying26 (by kernel_rfl) rfl Ob.lO rfl Ac.lO rfl Cd.lO rfl intO rfl intO).map (fun (q : List Ob × List Ac × List Cd × Int × Int × Unit) => ⟨q.1, q.2.1, q.2.2.1, q.2.2.2.1, q.2.2.2.2.1⟩) (fun q => rfl) (fun q h => h)
def Mp.B (x : Mp) : Prop := In64 x.kd /\ (x.sl.length <= Big47 /\ ∀ y ∈ x.sl, Sl.B y) /\ True
set_option maxRecDepth 100000 in
theorem Mp.O : OpenT Tryz.prog 60 2 Mp.pv Mp.B :=
 (open_s2 Tryz.underlying60 (by kernel_rfl) rfl intO rfl Sl.lO).map (fun (q : Int × List Sl × Unit) => ⟨q.1, q.2.1⟩) (fun q => rfl) (fun q h => h)
theorem Mp.lO : OpenT Tryz.prog 27 1 (fun l : List Mp => [row 2 Mp.pv l]) (fun l => l.length <= Big47 /\ ∀ a ∈ l, Mp.B a) := open_list' Tryz.underlying27 (by kernel_rfl) (by decide) (of_decide_eq_true (by kernel_rfl)) Mp.O
def Ty.B (x : Ty) : Prop := In64 x.k /\ In64 x.n /\ Vl.B x.v /\ True
set_option maxRecDepth 100000 in
theorem Ty.O : OpenT Tryz.prog 31 5 Ty.pv Ty.B :=
 (open_s3 Tryz.underlying31 (by kernel_rfl) rfl intO rfl intO rfl Vl.O).map (fun (q : Int × Int × Vl × Unit) => ⟨q.1, q.2.1, q.2.2.1⟩) (fun q => rfl) (fun q h => h)
def Dp.B (x : Dp) : Prop := In64 x.oid /\ True /\ Mp.B x.map /\ In64 x.slot /\ Vl.B x.v /\ True
set_option maxRecDepth 100000 in
theorem Dp.O : OpenT Tryz.prog 70 8 Dp.pv Dp.B :=
 (open_s5 Tryz.underlying70 (by kernel_rfl) rfl intO rfl boolO rfl Mp.O rfl intO rfl Vl.O).map (fun (q : Int × Bool × Mp × Int × Vl × Unit) => ⟨q.1, q.2.1, q.2.2.1, q.2.2.2.1, q.2.2.2.2.1⟩) (fun q => rfl) (fun q h => h)
def Ch.B (x : Ch) : Prop := In64 x.kind /\ In64 x.oid /\ x.name.length <= Big47 /\ Sl.B x.slot /\ True
set_option maxRecDepth 100000 in
theorem Ch.O : OpenT Tryz.prog 67 8 Ch.pv Ch.B :=
 (open_s4 Tryz.underlying67 (by kernel_rfl) rfl intO rfl intO rfl strO rfl Sl.O).map (fun (q : Int × Int × List UInt8 × Sl × Unit) => ⟨q.1, q.2.1, q.2.2.1, q.2.2.2.1⟩) (fun q => rfl) (fun q h => h)
end Go.Proofs.YtplpnfjccemdnaaGreatDoor
namespace Go.Proofs.YtplpnfjccemdnaaGreatDoor
open Go.ChangeShapes Go.WideShapes Go.ChangeAt Go.ChangeMaps Go.RowKit Go.Joins
theorem own : ownKnob Tryz.prog.godebug = none := by kernel_rfl
def seatLaid : List (String × DataW Unit) := Rows.depsSoundRow.laid
theorem laidPlain (W : World) : laidMetH Tryz.prog seatLaid W = laidMet Tryz.prog seatLaid W := MakeChecks.laidMetH_plain _ _ _ (by kernel_rfl)
theorem star : "*" ++ "errors.errorString" = "*errors.errorString" := by decide
theorem rowErr (u : TypeId) (h : Tryz.prog.typeName? 3 u = some "*errors.errorString") : u = 400 :=
 typeName_ptr_named (nm := "errors.errorString") (by rw [star]; kernel_rfl) (by kernel_rfl) (by decide) u (by rw [star]; exact h)
set_option maxRecDepth 100000 in
theorem gl_of_laid {W : World} (h : laidMetH Tryz.prog seatLaid W) : Gl [] W := by
 rw [laidPlain] at h
 have h3 := laidMet.tail (laidMet.tail h)
 have h5 := laidMet.tail (laidMet.tail h3)
 have e : (Rows.laid_internal_strconv_uint64pow10 : DataW Unit) = Lib.tabData .u64 Lib.pow10Tab := by kernel_rfl
 rw [e] at h3
 have t := Lib.tabIs_of_head (t := 386) (e := 357) (n := 20) (g := gPow) (by kernel_rfl) (by kernel_rfl) (by kernel_rfl) (by kernel_rfl) (by kernel_rfl) (by kernel_rfl) h3
 obtain ⟨a, s, hv, _⟩ := laid_sentinel (g := gErr) (ti := 314) (tp := 400) (te := 402) h5 (by kernel_rfl) (by kernel_rfl) Tryz.underlying314 rowErr (by kernel_rfl) Tryz.underlying402 rfl rfl (by kernel_rfl) (by kernel_rfl) (by kernel_rfl)
 have heap : ∀ {n : String} {g : Nat} {cs : Array Value}, Tryz.prog.globalNamed n = some g -> W.var? Tryz.prog n = some cs -> g < W.heap.size /\ ∃ t fr, W.heap[g]? = some (.cells cs t fr) := fun {n g cs} hg h => by
  unfold World.var? at h
  rw [hg] at h
  simp only [Option.bind_some] at h
  cases hh : W.heap[g]? with
  | none => rw [hh] at h; cases h
  | some o =>
   rw [hh] at h
   cases o with
   | cells c t fr =>
    simp only [Option.some.injEq] at h
    subst h
    exact ⟨(Array.getElem?_eq_some_iff.1 hh).1, t, fr, rfl⟩
   | _ => cases h
 obtain ⟨p1, t1, f1, q1⟩ := heap (g := gPow) (by kernel_rfl) t
 obtain ⟨p2, t2, f2, q2⟩ := heap (g := gErr) (by kernel_rfl) hv
 intro q hq
 simp only [ghosts, List.mem_cons, List.not_mem_nil, or_false] at hq
 rcases hq with rfl | rfl
 ·rw [R]
  exact ⟨fun h => by rcases h with h | h <;> simp at h, p1, _, _, _, q1, rfl⟩
 ·rw [R]
  exact ⟨fun h => by rcases h with h | h <;> simp at h, p2, _, _, _, q2, _, _, rfl⟩
end Go.Proofs.YtplpnfjccemdnaaGreatDoor
namespace Go.Proofs.YtplpnfjccemdnaaGreatDoor
open Go.ChangeShapes Go.WideShapes Go.ChangeAt Go.ChangeMaps Go.RowKit Go.Joins
theorem laidOut : laidOutB Tryz.prog = true := by kernel_rfl
section
variable {H : Type} {enc : TypeId × Value -> H} {P : Program} {W W' : World}
def rowedB (P : Program) (ts : List TypeId) : Bool := ts.all fun t => P.readableRec t && decide (t < P.types.size)
theorem rowed_of {ts : List TypeId} (h : rowedB P ts = true) : ∀ t ∈ ts, P.readableRec t = true /\ t < P.types.size := fun t ht => by
 have := List.all_eq_true.1 h t ht
 simpa using this
theorem below_trodAll (hl : laidOutB P = true) : ∀ {ts : List TypeId} {vs : List Value} {ds : List (DataW H)} {ps : List MemPlace}, DataW.TrodAll enc P W 0 (fun _ => true) true ts vs ds ps -> (∀ t ∈ ts, P.readableRec t = true /\ t < P.types.size) -> Below W.heap.size W W' ->
  DataW.TrodAll enc P W' 0 (fun b => decide (b < W.heap.size)) true ts vs ds ps
 | [], vs, ds, ps, h, _, _ => by
  obtain ⟨rfl, rfl, rfl⟩ := trodAll_nil h
  exact trodAll_mk0
 | t :: ts, vs, ds, ps, h, hr, hb => by
  have hlt := DataW.TrodAll.lt h
  obtain ⟨v, vs', d, ds', p, q, rfl, rfl, rfl, h1, h2⟩ := trodAll_cons h
  have ht := hr t (List.mem_cons_self ..)
  exact trodAll_cons_mk (Below.trod hl ht.1 ht.2 h1 hb fun x hx => hlt x (List.mem_append_left _ hx)) (below_trodAll hl h2 (fun t' h' => hr t' (List.mem_cons_of_mem _ h')) hb)
theorem sized_at {ts us : List TypeId} {ds gs : List (DataW H)} (h : (DataW.weightsEach P (ts ++ us) (ds ++ gs)).all (· <= reachBytes) = true) {j : Nat} {t : TypeId} {d : DataW H} (ht : (ts ++ us)[j]? = some t) (hd : (ds ++ gs)[j]? = some d) : (d.weights P t).all (· <= reachBytes) = true :=
 List.all_eq_true.2 fun n hn => List.all_eq_true.1 h n (DataW.weights_mem_each ht hd n hn)
theorem arg_struct {T : TypeId} {fs : Array Field} {α : Type} {k : Nat} {f : α -> List PV} {B : α -> Prop} {r : Reach} {b0 : Nat} {v : Value} {d : DataW H} {p : List MemPlace} {sp : Nat -> Bool} {held : Bool} (ho : OpenT P T k f B) (ht : P.underlying T = some (.struct fs))
  (hv : Value.okWide P W r b0 T v) (h : DataW.Trod enc P W 0 sp held T v d p) (hw : (d.weights P T).all (· <= reachBytes) = true) : ∃ a, R [] [] W (.agg (f a)) v /\ B a := by
 obtain ⟨cs, rfl, _⟩ := okWide_struct ht hv
 obtain ⟨fuel, hf⟩ := h
 obtain ⟨a, _, h2, h3, h4⟩ := ho.2 H enc W sp held fuel cs.toList (d, p) (by simpa [Value.cells] using hf) hw
 exact ⟨a, by rw [R]; exact ⟨cs.toList, by simp, h2, h3⟩, h4⟩
theorem arg_one {T : TypeId} {α : Type} {f : α -> PV} {B : α -> Prop} {v : Value} {d : DataW H} {p : List MemPlace} {sp : Nat -> Bool} {held : Bool} (ho : OpenT P T 1 (fun a => [f a]) B) (hc : v.cells.toList = [v])
  (h : DataW.Trod enc P W 0 sp held T v d p) (hw : (d.weights P T).all (· <= reachBytes) = true) : ∃ a, R [] [] W (f a) v /\ B a := by
 obtain ⟨fuel, hf⟩ := h
 rw [hc] at hf
 obtain ⟨a, _, _, h3, h4⟩ := ho.2 H enc W sp held fuel [v] (d, p) hf hw
 obtain ⟨u, us, e, q, _⟩ := h3.uncons
 cases e
 exact ⟨a, q, h4⟩
theorem arg_slice {T e : TypeId} {α : Type} {f : α -> PV} {B : α -> Prop} {r : Reach} {b0 : Nat} {v : Value} {d : DataW H} {p : List MemPlace} {sp : Nat -> Bool} {held : Bool} (ho : OpenT P T 1 (fun a => [f a]) B) (ht : P.underlying T = some (.slice e))
  (hv : Value.okWide P W r b0 T v) (h : DataW.Trod enc P W 0 sp held T v d p) (hw : (d.weights P T).all (· <= reachBytes) = true) : ∃ a, R [] [] W (f a) v /\ B a := by
 obtain ⟨a, len, cap, rfl⟩ := okWide_slice ht hv
 exact arg_one ho rfl h hw
end
section
variable {H : Type} {enc : TypeId × Value -> H} {W : World}
set_option maxRecDepth 100000 in
theorem arg_int {r : Reach} {b0 : Nat} {v : Value} {d : DataW H} {p : List MemPlace} {sp : Nat -> Bool} {held : Bool} (ht : Tryz.prog.underlying 3 = some (.int .i64)) (hv : Value.okWide Tryz.prog W r b0 3 v) (h : DataW.Trod enc Tryz.prog W 0 sp held 3 v d p) (hw : (d.weights Tryz.prog 3).all (· <= reachBytes) = true) : ∃ n : Int, R [] [] W (I n) v /\ In64 n := by
 obtain ⟨n, rfl⟩ := okWide_int ht hv
 exact arg_one intO rfl h hw
set_option maxRecDepth 100000 in
theorem arg_str {r : Reach} {b0 : Nat} {v : Value} {d : DataW H} {p : List MemPlace} {sp : Nat -> Bool} {held : Bool} (ht : Tryz.prog.underlying 9 = some .string) (hv : Value.okWide Tryz.prog W r b0 9 v) (h : DataW.Trod enc Tryz.prog W 0 sp held 9 v d p) (hw : (d.weights Tryz.prog 9).all (· <= reachBytes) = true) : ∃ s : List UInt8, R [] [] W (S s) v /\ s.length <= Big47 := by
 obtain ⟨n, rfl⟩ := okWide_string ht hv
 exact arg_one strO rfl h hw
end
theorem bulk_of {w : Wd} (h : w.B) : Bulk w := by
 obtain ⟨⟨h1, o⟩, ⟨h2, a⟩, ⟨h3, c⟩, _⟩ := h
 exact ⟨h1, h2, h3, fun x hx => ⟨(o x hx).2.2.1.1, (o x hx).2.2.2.1.1⟩, fun x hx => (a x hx).2.2.2.2.2.1.1, fun x hx => ⟨(c x hx).2.2.2.2.1.1, (c x hx).2.2.2.2.2.1.1, (c x hx).2.2.2.2.2.2.1.1, (c x hx).2.2.2.2.2.2.2.1.1, (c x hx).2.2.2.2.2.2.2.2.1.1⟩⟩
theorem sumTo_mem {α : Type} {b : Int} {f : α -> Int} (hf : ∀ x, 0 <= f x) : ∀ (l : List α) (n : Int), sumTo b f l n <= b -> n <= b /\ (0 <= n -> ∀ x ∈ l, f x <= b)
 | [], n, h => ⟨h, fun _ x hx => by cases hx⟩
 | y :: t, n, h => by
  rw [sumTo] at h
  cases hd : decide (n <= b) with
  | false => rw [hd] at h; exact absurd h (of_decide_eq_false hd)
  | true =>
   rw [hd, cond_true] at h
   obtain ⟨h1, h2⟩ := sumTo_mem hf t _ h
   have hy := hf y
   refine ⟨of_decide_eq_true hd, fun h0 x hx => ?_⟩
   rcases List.mem_cons.1 hx with rfl | hx
   ·omega
   ·exact h2 (by omega) x hx
theorem sumTo_pos {α : Type} {b : Int} {f : α -> Int} (hf : ∀ x, 0 <= f x) : ∀ (l : List α) (n : Int), 0 <= n -> 0 <= sumTo b f l n
 | [], n, h => h
 | y :: t, n, h => by
  rw [sumTo]
  cases decide (n <= b)
  ·exact h
  ·exact sumTo_pos hf t _ (by have := hf y; omega)
theorem obN_pos (x : Ob) : 0 <= obN x := by unfold obN; omega
theorem acN_pos (x : Ac) : 0 <= acN x := by unfold acN; omega
theorem cdN_pos (x : Cd) : 1 <= cdN x := by unfold cdN; omega
theorem small_of {w : Wd} (hs : smallT w = true) : (w.objs.length : Int) + w.acts.length <= 1200 /\ (∀ x ∈ w.objs, obN x <= 1200) /\ (∀ x ∈ w.acts, acN x <= 1200) /\ ∀ x ∈ w.cds, cdN x <= 1200 := by
 have h := of_decide_eq_true hs
 unfold smallN at h
 have p0 : (0 : Int) <= (w.objs.length : Int) + w.acts.length := by omega
 have p1 := sumTo_pos (b := 1200) obN_pos w.objs _ p0
 have p2 := sumTo_pos (b := 1200) acN_pos w.acts _ p1
 obtain ⟨a1, a2⟩ := sumTo_mem (fun x => Int.le_trans (by decide) (cdN_pos x)) _ _ h
 obtain ⟨b1, b2⟩ := sumTo_mem acN_pos _ _ a1
 obtain ⟨c1, c2⟩ := sumTo_mem obN_pos _ _ b1
 exact ⟨c1, c2 p0, b2 p1, a2 p2⟩
theorem sumTo_count {α : Type} {b : Int} {f : α -> Int} (hf : ∀ x, 1 <= f x) : ∀ (l : List α) (n : Int), 0 <= n -> sumTo b f l n <= b -> n + l.length <= b
 | [], n, _, h => by
  have h' : n <= b := h
  show n + ((0 : Nat) : Int) <= b
  omega
 | y :: t, n, h0, h => by
  have h' := h
  rw [sumTo] at h
  cases hd : decide (n <= b) with
  | false => rw [hd] at h; exact absurd h (of_decide_eq_false hd)
  | true =>
   rw [hd, cond_true] at h
   have hy := hf y
   have := sumTo_count hf t _ (by omega) h
   simp only [List.length_cons]; omega
theorem ok_of_small {w : Wd} (hB : w.B) (hs : smallT w = true) : w.Ok := by
 obtain ⟨h0, h1, h2, h3⟩ := small_of hs
 obtain ⟨⟨_, o⟩, ⟨_, a⟩, ⟨_, c⟩, _⟩ := hB
 have hc : (w.cds.length : Int) <= 1200 := by
  have h := of_decide_eq_true hs
  unfold smallN at h
  have p0 : (0 : Int) <= (w.objs.length : Int) + w.acts.length := by omega
  have := sumTo_count cdN_pos _ _ (sumTo_pos acN_pos _ _ (sumTo_pos obN_pos _ _ p0)) h
  have p := sumTo_pos (b := 1200) acN_pos w.acts _ (sumTo_pos (b := 1200) obN_pos w.objs _ p0)
  omega
 refine ⟨fun x hx => ?_, fun x hx => ?_, fun x hx => ?_, by omega, by omega, by omega⟩
 ·have := h1 x hx; unfold obN at this
  exact ⟨fun s hs => ((o x hx).2.2.1.2 s hs).2.2.1.2.1, fun v hv => ((o x hx).2.2.2.1.2 v hv).2.1, by omega, by omega⟩
 ·have := h2 x hx; unfold acN at this
  exact ⟨(a x hx).2.2.1.2.1, fun v hv => ((a x hx).2.2.2.2.2.1.2 v hv).2.1, by omega⟩
 ·have := h3 x hx; unfold cdN at this
  exact ⟨fun v hv => ((c x hx).2.2.2.2.2.1.2 v hv).2.1, fun v hv => ((c x hx).2.2.2.2.2.2.1.2 v hv).2.1, by omega, by omega, by omega, by omega, by omega, fun i hi => ⟨((c x hx).2.2.2.2.2.2.2.2.1.2 i hi).2.1, ((c x hx).2.2.2.2.2.2.2.2.1.2 i hi).2.2.1, ((c x hx).2.2.2.2.2.2.2.2.1.2 i hi).2.2.2.1⟩⟩
def objU (w : Wd) : List Int := w.objs.flatMap fun o => (parL o.sl).map fun v => startF v
def mapU (maps : List Mp) : List Int := maps.flatMap fun m => (parL m.sl).map fun v => startF v
def moreU (w : Wd) (maps : List Mp) (y : Ty) : List Int := 5 :: 6 :: startF y.v :: (objU w ++ mapU maps)
theorem parL_len (l : List Sl) : (parL l).length <= l.length := by unfold parL; rw [List.length_map]; exact List.length_filter_le _ _
theorem sumTo_sum {α : Type} {b : Int} {f : α -> Int} (hf0 : ∀ x : α, 0 <= f x) : ∀ (l : List α) (n : Int), sumTo b f l n <= b -> n + (l.map f).sum = sumTo b f l n
 | [], n, h => by simp [sumTo]
 | x :: t, n, h => by
  by_cases hn : n <= b
  ·rw [sumTo, decide_eq_true hn, cond_true] at h ⊢
   have := sumTo_sum hf0 t _ h
   rw [<- this, List.map_cons, List.sum_cons]; omega
  ·rw [sumTo_stop hn] at h; omega
theorem sumTo_ge {α : Type} {b : Int} {f : α -> Int} (hf0 : ∀ x : α, 0 <= f x) : ∀ (l : List α) (n : Int), n <= sumTo b f l n
 | [], n => Int.le_refl _
 | x :: t, n => by
  rw [sumTo]
  cases decide (n <= b)
  ·exact Int.le_refl _
  ·have := sumTo_ge (b := b) hf0 t (n + f x); have := hf0 x
   rw [cond_true]; omega
theorem flat_len {α : Type} (g : α -> List Int) (f : α -> Int) (h : ∀ x, ((g x).length : Int) <= f x) : ∀ l : List α, ((l.flatMap g).length : Int) <= (l.map f).sum
 | [] => by simp
 | x :: t => by
  have := flat_len g f h t; have := h x
  rw [List.flatMap_cons, List.length_append, List.map_cons, List.sum_cons]; omega
theorem objU_len {w : Wd} (h : smallT w = true) : (objU w).length <= 1200 := by
 have h := of_decide_eq_true h
 unfold smallN at h
 have a1 := sumTo_ge (b := 1200) (f := cdN) (fun c => by unfold cdN; omega) w.cds (sumTo 1200 acN w.acts (sumTo 1200 obN w.objs ((w.objs.length : Int) + (w.acts.length : Int))))
 have a2 := sumTo_ge (b := 1200) (f := acN) (fun c => by unfold acN; omega) w.acts (sumTo 1200 obN w.objs ((w.objs.length : Int) + (w.acts.length : Int)))
 have a3 := sumTo_sum (b := 1200) (f := obN) (fun c => by unfold obN; omega) w.objs ((w.objs.length : Int) + (w.acts.length : Int)) (by omega)
 have a4 := flat_len (fun o : Ob => (parL o.sl).map fun v => startF v) obN (fun o => by have := parL_len o.sl; rw [List.length_map]; unfold obN; omega) w.objs
 unfold objU; omega
theorem mapU_len {maps : List Mp} (h : fewT maps = true) : (mapU maps).length <= 1500 := by
 have h := of_decide_eq_true h
 have a3 := sumTo_sum (b := 1500) (f := mpN) (fun c => by unfold mpN; omega) maps (maps.length : Int) h
 have a4 := flat_len (fun o : Mp => (parL o.sl).map fun v => startF v) mpN (fun o => by have := parL_len o.sl; rw [List.length_map]; unfold mpN; omega) maps
 unfold mapU; omega
theorem moreU_len {w : Wd} {maps : List Mp} (y : Ty) (h : smallT w = true) (h2 : fewT maps = true) : (moreU w maps y).length < 4000 := by
 have := objU_len h; have := mapU_len h2
 simp only [moreU, List.length_cons, List.length_append]; omega
theorem objT_mem {w : Wd} {n : Int} {P : Sl -> Prop} (h : ∀ o ∈ w.objs, ∀ s ∈ o.sl, P s) : ∀ s ∈ (objT w n).1.sl, P s := by
 unfold objT
 cases objF w n with
 | false => intro s hs; cases hs
 | true =>
  intro s hs
  rw [cond_true, List.getD_eq_getElem?_getD] at hs
  cases hg : w.objs[(objI w n).toNat]? with
  | none => rw [hg] at hs; cases hs
  | some o => rw [hg] at hs; exact h o (List.mem_of_getElem? hg) s hs
theorem par_mem {l : List Sl} {v : Vl} (h : v ∈ parL l) : ∃ s ∈ l, isPar s = true /\ s.v = v := by
 unfold parL at h
 obtain ⟨s, hs, e⟩ := List.mem_map.1 h
 obtain ⟨h1, h2⟩ := List.mem_filter.1 hs
 exact ⟨s, h1, h2, e⟩
theorem more_ok {w : Wd} {maps : List Mp} (y : Ty) (h : smallT w = true) (h2 : fewT maps = true) (hn : ∀ o ∈ w.objs, ∀ s ∈ o.sl, s.nm.length <= 140737488355328) (hm : ∀ m ∈ maps, ∀ s ∈ m.sl, s.nm.length <= 140737488355328) : LkOk w maps y (moreU w maps y) where
 clo := {
  clo := fun n _ v hv => by
   obtain ⟨s, hs, hp, rfl⟩ := par_mem hv
   refine objT_mem (w := w) (n := n) (P := fun s => isPar s = true -> startF s.v ∈ moreU w maps y) (fun o ho s hs hp => ?_) s hs hp
   refine List.mem_cons_of_mem _ (List.mem_cons_of_mem _ (List.mem_cons_of_mem _ (List.mem_append_left _ ?_)))
   exact List.mem_flatMap.2 ⟨o, ho, List.mem_map.2 ⟨s.v, List.mem_map.2 ⟨s, List.mem_filter.2 ⟨hs, hp⟩, rfl⟩, rfl⟩⟩
  nm := fun n _ s hs => objT_mem (P := fun s => s.nm.length <= 140737488355328) hn s hs
  many := by have := moreU_len y h h2; omega }
 i5 := List.mem_cons_self ..
 i6 := List.mem_cons_of_mem _ (List.mem_cons_self ..)
 st := List.mem_cons_of_mem _ (List.mem_cons_of_mem _ (List.mem_cons_self ..))
 mp := fun m hmm => ⟨by
   have h := of_decide_eq_true h2
   have a3 := sumTo_sum (b := 1500) (f := mpN) (fun c => by unfold mpN; omega) maps (maps.length : Int) h
   have a5 : mpN m <= (maps.map mpN).sum := by
    clear a3 h h2 hm
    induction maps with
    | nil => cases hmm
    | cons a l ih =>
     have h0 : ∀ l : List Mp, 0 <= (l.map mpN).sum := fun l => by
      induction l with
      | nil => simp
      | cons b l ih => rw [List.map_cons, List.sum_cons]; unfold mpN at *; omega
     rw [List.map_cons, List.sum_cons]
     rcases List.mem_cons.1 hmm with rfl | hmm
     ·have := h0 l; omega
     ·have := ih hmm
      have : 0 <= mpN a := by unfold mpN; omega
      omega
   have a6 : (m.sl.length : Int) = mpN m := rfl
   have h := of_decide_eq_true h2
   omega, hm m hmm, fun v hv => by
   refine List.mem_cons_of_mem _ (List.mem_cons_of_mem _ (List.mem_cons_of_mem _ (List.mem_append_right _ ?_)))
   exact List.mem_flatMap.2 ⟨m, hmm, List.mem_map.2 ⟨v, hv, rfl⟩⟩⟩
theorem incr_sorted : ∀ (l : List Int) (k m : Int), incr k l = some m -> (∀ x ∈ l, k < x /\ x <= m) /\ l.Pairwise (· < ·) /\ k <= m
 | [], k, m, h => by
  unfold incr at h; cases h
  exact ⟨fun x hx => by simp at hx, List.Pairwise.nil, Int.le_refl _⟩
 | n :: l, k, m, h => by
  unfold incr at h
  split at h
  ·cases h
  ·rename_i hn
   obtain ⟨h1, h2, h3⟩ := incr_sorted l n m h
   refine ⟨fun x hx => ?_, List.pairwise_cons.2 ⟨fun x hx => (h1 x hx).1, h2⟩, by omega⟩
   rcases List.mem_cons.1 hx with rfl | hx
   ·omega
   ·have := h1 x hx; omega
theorem bsch_split (c : Int -> Int) (len : Int) (hl : len <= 1000000000) (mono : ∀ a b, 0 <= a -> a <= b -> b < len -> c b < 0 -> c a < 0) : ∀ (n : Nat) (i j : Int), (j - i).toNat <= n -> 0 <= i -> i <= j -> j <= len ->
  (∀ k, 0 <= k -> k < i -> c k < 0) -> (∀ k, j <= k -> k < len -> ¬ c k < 0) -> (∀ k, 0 <= k -> k < bsch c n i j -> c k < 0) /\ ∀ k, bsch c n i j <= k -> k < len -> ¬ c k < 0
 | 0, i, j, hn, h0, hij, hj, ha, hb => by
  have : i = j := by omega
  subst this
  exact ⟨ha, hb⟩
 | n + 1, i, j, hn, h0, hij, hj, ha, hb => by
  unfold bsch
  split
  ·rename_i hlt
   obtain ⟨h1, h2⟩ := half_at h0 hlt (by omega)
   split
   ·rename_i hc
    exact bsch_split c len hl mono n (half i j + 1) j (by omega) (by omega) (by omega) hj (fun k hk hk2 => mono k (half i j) hk (by omega) (by omega) hc) hb
   ·rename_i hc
    exact bsch_split c len hl mono n i (half i j) (by omega) h0 h1 (by omega) ha (fun k hk hk2 h => hc (mono (half i j) k (by omega) hk hk2 h))
  ·exact ⟨ha, fun k hk => hb k (by omega)⟩
def Sorted (w : Wd) : Prop := (w.objs.map (·.oid)).Pairwise (· < ·) /\ w.objs.length <= 1000000000
theorem valid_sorted {w : Wd} (hw : w.Ok) (h : wcheckW w = 0) : Sorted w /\ ∀ o ∈ w.objs, 0 < o.oid /\ o.oid < w.nO := by
 unfold wcheckW at h
 have hv : validW w = true := by
  cases hx : validW w with
  | true => rfl
  | false => rw [hx] at h; exact absurd h (by decide)
 unfold validW at hv
 cases h1 : decide ((w.objs.length : Int) > 3000) with
 | true => rw [h1] at hv; cases hv
 | false =>
 rw [h1, cond_false] at hv
 cases h2 : decide ((w.acts.length : Int) > 4000) with
 | true => rw [h2] at hv; cases hv
 | false =>
 rw [h2, cond_false] at hv
 cases h3 : numbB (w.objs.map (·.oid)) w.nO with
 | false => rw [h3] at hv; cases hv
 | true =>
 unfold numbB at h3
 split at h3
 ·rename_i m hm
  obtain ⟨q1, q2, q3⟩ := incr_sorted _ _ _ hm
  simp only [Bool.and_eq_true, decide_eq_true_eq] at h3
  exact ⟨⟨q2, hw.nobjs⟩, fun o ho => by have := q1 o.oid (List.mem_map.2 ⟨o, ho, rfl⟩); omega⟩
 ·cases h3
theorem sorted_lt {l : List Ob} (h : (l.map (·.oid)).Pairwise (· < ·)) {a b : Nat} (hab : a < b) (hb : b < l.length) : (l.getD a default).oid < (l.getD b default).oid := by
 rw [List.pairwise_map, List.pairwise_iff_getElem] at h
 have := h a b (by omega) hb hab
 rw [List.getD_eq_getElem?_getD, List.getD_eq_getElem?_getD, List.getElem?_eq_getElem (by omega), List.getElem?_eq_getElem hb]
 exact this
theorem cmpF_neg {x y : Int} : cmpF x y < 0 ↔ x < y := by unfold cmpF; split <;> (try split) <;> omega
theorem cmpF_zero {x y : Int} : cmpF x y = 0 ↔ x = y := by unfold cmpF; split <;> (try split) <;> omega
theorem objI_split {w : Wd} (h : Sorted w) (n : Int) : (∀ k : Int, 0 <= k -> k < objI w n -> (w.objs.getD k.toNat default).oid < n) /\ ∀ k : Int, objI w n <= k -> k < w.objs.length -> n <= (w.objs.getD k.toNat default).oid := by
 have hh := bsch_split (fun h => haObF (w.objs.getD h.toNat default) n) w.objs.length (by have := h.2; omega) (fun a b ha hab hb hc => by
  simp only [haObF] at hc ⊢
  rw [cmpF_neg] at hc ⊢
  by_cases e : a = b
  ·rw [e]; exact hc
  ·have := sorted_lt h.1 (a := a.toNat) (b := b.toNat) (by omega) (by omega); omega) w.objs.length 0 w.objs.length (by omega) (by omega) (by omega) (by omega) (fun k h1 h2 => by omega) (fun k h1 h2 => by omega)
 refine ⟨fun k h1 h2 => ?_, fun k h1 h2 => ?_⟩
 ·have := hh.1 k h1 h2
  simp only [haObF, cmpF_neg] at this; exact this
 ·have := hh.2 k h1 h2
  simp only [haObF, cmpF_neg] at this; omega
theorem objT_true {w : Wd} {n : Int} (hl : w.objs.length <= 1000000000) (h : objF w n = true) : (objT w n).1 ∈ w.objs /\ (objT w n).1.oid = n /\ (objT w n).2 = true := by
 have h0 := (objI_in w n hl).1
 unfold objT
 rw [h, cond_true]
 unfold objF at h
 simp only [Bool.and_eq_true, decide_eq_true_eq, beq_iff_eq] at h
 refine ⟨getD_mem (by omega), ?_, rfl⟩
 have := h.2
 unfold haObF at this
 exact cmpF_zero.1 this
theorem objF_of {w : Wd} (h : Sorted w) {o : Ob} (ho : o ∈ w.objs) : objF w o.oid = true /\ (objT w o.oid).1 = o := by
 obtain ⟨i, hi, he⟩ := List.mem_iff_getElem.1 ho
 obtain ⟨h1, h2⟩ := objI_split h o.oid
 have hin := objI_in w o.oid h.2
 have hgi : w.objs.getD i default = o := by rw [List.getD_eq_getElem?_getD, List.getElem?_eq_getElem hi]; exact he
 have e : objI w o.oid = i := by
  rcases Int.lt_trichotomy (objI w o.oid) i with hlt | heq | hgt
  ·have a1 := h2 (objI w o.oid) (Int.le_refl _) (by omega)
   have a2 := sorted_lt h.1 (a := (objI w o.oid).toNat) (b := i) (by omega) hi
   rw [hgi] at a2; omega
  ·exact heq
  ·have a1 := h1 i (by omega) hgt
   rw [show (i : Int).toNat = i by omega, hgi] at a1; omega
 have hf : objF w o.oid = true := by
  unfold objF
  rw [e]
  simp only [Bool.and_eq_true, decide_eq_true_eq, beq_iff_eq]
  refine ⟨by omega, ?_⟩
  rw [show (i : Int).toNat = i by omega, hgi]
  unfold haObF
  exact cmpF_zero.2 rfl
 refine ⟨hf, ?_⟩
 unfold objT
 rw [hf, cond_true, e, show (i : Int).toNat = i by omega]
 exact hgi
theorem objT_mem_of {w : Wd} (h : Sorted w) {o : Ob} (ho : o ∈ w.objs) : objT w o.oid = (o, true) := by
 obtain ⟨h1, h2⟩ := objF_of h ho
 exact Prod.ext h2 (objT_true h.2 h1).2.2
theorem objT_none {w : Wd} (hl : w.objs.length <= 1000000000) {n : Int} (h : ∀ o ∈ w.objs, o.oid ≠ n) : objT w n = (⟨0, 0, [], [], 0, 0⟩, false) := by
 cases hf : objF w n with
 | true => exact absurd (objT_true hl hf).2.1 (h _ (objT_true hl hf).1)
 | false => unfold objT; rw [hf]; rfl
end Go.Proofs.YtplpnfjccemdnaaGreatDoor
