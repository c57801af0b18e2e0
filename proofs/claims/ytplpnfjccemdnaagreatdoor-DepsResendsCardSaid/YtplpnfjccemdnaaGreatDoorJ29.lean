import Derived.Test.YtplpnfjccemdnaaGreatDoorJ28
import Derived.Test.YtplpnfjccemdnaaGreatDoorJ23
import Derived.Test.YtplpnfjccemdnaaGreatDoorJ27
set_option linter.unusedVariables false
set_option linter.unusedSimpArgs false
/- The texts S5 S6 S7 S8 D34 D35 D36 D37 S9 S10 S6l of the proof, laid one behind the other. -/
namespace Go.Proofs.YtplpnfjccemdnaaGreatDoor
open Go.RowKit
theorem upL_app {w : Wd} {sel : List UInt8} {f : Nat} (l m : List Vl) (s : StL) : upL w sel f (l ++ m) s = upL w sel f m (upL w sel f l s) := by unfold upL; rw [List.foldl_append]
theorem pth_app (k : Nat) (p : PV) (g : PV -> PV) (hg : g .any = .any) : CTo [.rws 1 (k + 1) (fun j => (joinEl (fun _ => [.any]) k (fun j => (([p] : List PV).drop (j * 1)).take 1) j).map g)] (pth (k + 1)) := by
 refine .rws rfl fun j hj β L W us h => ?_
 unfold joinEl at h
 split at h
 ·have h : Rs β L W [g .any] us := h
  rw [hg] at h; exact h
 ·have : j = k := by omega
  subst this
  rw [Nat.sub_self] at h
  have h : Rs β L W [g p] us := h
  obtain ⟨u0, us, rfl, h0, h⟩ := h.uncons
  exact .cons (by rw [R]; trivial) h
theorem lup_of_vis {w : Wd} {sel : List UInt8} {U : List Int} (hU : LkW w U) (f : Nat) (hv : LVisC w sel U f) : LUpC w sel U f := by
 intro s o k hl hlU hf hr hk hkf
 refine SpecM.start (by kernel_rfl) Tryz.func46 rfl rfl (Nat.le_of_ble_eq_true rfl) fun w0 L hst => ?_
 refine M.loopL (ι := {i : Nat // i <= o.sl.length}) (fun i => [(0, .ref 0 0), (2, .os 3 4 1 k), (6, .bm 31 0), (14, row 5 Sl.pv o.sl), (15, I o.sl.length), (16, I i.1)]) (fun i => visS w sel (upL w sel f (parL (o.sl.take i.1)) s) ++ [pth k, o.pv]) (fun i => o.sl.length - i.1) ⟨0, Nat.zero_le _⟩ [] (by kernel_rfl) trivial (by kernel_rfl) (by kernel_rfl) fun ⟨i, hi⟩ L ih => ?_
 refine M.ts (decide ((i : Int) < (o.sl.length : Int))) (fun h1 => ?_) (fun h1 => ?_)
 ·have hlt : i < o.sl.length := by simpa using h1
  have htk := parL_take hlt
  refine M.clp [0 <= (i : Int) /\ (i : Int) < (o.sl.length : Int)] ⟨by omega, trivial⟩ (leads_spec (o.sl.getD (i : Int).toNat default)) ?_
  refine M.ts (isPar (o.sl.getD (i : Int).toNat default)) (fun h2 => ?_) (fun h2 => ?_)
  ·rw [h2, cond_true] at htk
   obtain ⟨b1, b2, b3⟩ := hlU (o.sl.getD (i : Int).toNat default).v (by
    unfold parL
    exact List.mem_map.2 ⟨_, List.mem_filter.2 ⟨getD_mem (by omega), h2⟩, rfl⟩)
   have hmem : ∀ v ∈ parL (o.sl.take i), startF v ∈ U := fun v h => (hlU v (by
    have e : parL o.sl = parL (o.sl.take i) ++ parL (o.sl.drop i) := by rw [<- parL_app, List.take_append_drop]
    rw [e]; exact List.mem_append_left _ h)).1
   have hless := upL_less (visL_less hU.clo (sel := sel) f) (parL (o.sl.take i)) s hmem
   refine M.cl (gstart_spec w hU.so (o.sl.getD (i : Int).toNat default).v b3) ?_
   rw [gstW_of b2]
   refine M.cm [4] (clone_int k hk (by omega)) ?_
   refine M.rn [k = k /\ 0 < 1 /\ k + 1 <= 9223372036854775807 /\ (k + 1) * 8 <= 140737488355328] [0, 1, 2, 3, 4, 5, 8] hst ⟨⟨rfl, by omega, by omega, by omega⟩, trivial⟩ fun L' => ?_
   refine M.sigT [] (visS w sel (upL w sel f (parL (o.sl.take i)) s) ++ [pth k, o.pv, [.rws 1 (k + 1) (fun j => (joinEl (fun _ => [.any]) k (fun j => (([I i] : List PV).drop (j * 1)).take 1) j).map (renP (invF [0, 1, 2, 3, 4, 5, 8] 0) 7))]]) (visS w sel (upL w sel f (parL (o.sl.take i)) s) ++ [pth k, o.pv, pth (k + 1)]) (by kernel_rfl) trivial (by kernel_rfl) (by kernel_rfl)
    (.cons (.refl _) (.cons (.refl _) (.cons (.refl _) (.cons (.refl _) (.cons (.refl _) (.cons (.refl _) (.cons (pth_app k (I i) _ rfl) .nil))))))) ?_
   refine M.cm [0, 1, 2, 3, 6] (hv (upL w sel f (parL (o.sl.take i)) s) (startF (o.sl.getD (i : Int).toNat default).v) (k + 1) b1 (Nat.lt_of_le_of_lt hless.un hf) (hless.room hr) (Nat.succ_pos _) (by omega)) ?_
   have e : visL w sel f (upL w sel f (parL (o.sl.take i)) s) (startF (o.sl.getD (i : Int).toNat default).v) = upL w sel f (parL (o.sl.take (i + 1))) s := by rw [htk, upL_app]; rfl
   rw [e]
   refine M.rn [In64 ((i : Int) + 1)] [0, 1, 7, 8, 4, 5] hst ⟨⟨by omega, by omega⟩, trivial⟩ fun L' => ?_
   exact M.bk [] (ih ⟨i + 1, hlt⟩ L' (by show o.sl.length - (i + 1) < o.sl.length - i; omega)) trivial
  ·rw [h2, cond_false, List.append_nil] at htk
   refine M.rn [In64 ((i : Int) + 1)] [0, 1, 2, 3, 4, 5] hst ⟨⟨by omega, by omega⟩, trivial⟩ fun L' => ?_
   have kk := ih ⟨i + 1, hlt⟩ L' (by show o.sl.length - (i + 1) < o.sl.length - i; omega)
   simp only [htk] at kk
   exact M.bk [] kk trivial
 ·have : i = o.sl.length := by have := of_decide_eq_false h1; omega
  subst this
  have e : o.sl.take o.sl.length = o.sl := List.take_length
  simp only [e]
  exact M.retm [] [0, 1, 2, 3, 4] hst rfl (by kernel_rfl) trivial rfl rfl
theorem lvisC {w : Wd} {sel : List UInt8} {U : List Int} (hU : LkW w U) (hsel : sel.length <= 1000000000) : ∀ f, LVisC w sel U f
 | 0 => fun s n k hn hf => absurd hf (Nat.not_lt_zero _)
 | f + 1 => lvis_of_up hU hsel f (lup_of_vis hU f (lvisC hU hsel f))
def LUpN (w : Wd) (sel : List UInt8) (U : List Int) (f : Nat) : Prop := ∀ (s : StL) (o : Ob), o.sl.length <= 1000000 -> (∀ v ∈ parL o.sl, startF v ∈ U /\ valueC v = 0 /\ In64 v.n) -> unseenL U s.1 < f -> RoomL U s -> f <= 900000 -> SpecM Tryz.prog 46 2 (visS w sel s) [.ref 0 0, .agg o.pv, nilS] (visS w sel (upL w sel f (parL o.sl) s)) (.tup [])
theorem lup_nil {w : Wd} {sel : List UInt8} {U : List Int} (hU : LkW w U) (f : Nat) (hv : LVisC w sel U f) : LUpN w sel U f := by
 intro s o hl hlU hf hr hkf
 refine SpecM.start (by kernel_rfl) Tryz.func46 rfl rfl (Nat.le_of_ble_eq_true rfl) fun w0 L hst => ?_
 refine M.loopL (ι := {i : Nat // i <= o.sl.length}) (fun i => [(0, .ref 0 0), (2, nilS), (6, .bm 31 0), (14, row 5 Sl.pv o.sl), (15, I o.sl.length), (16, I i.1)]) (fun i => visS w sel (upL w sel f (parL (o.sl.take i.1)) s) ++ [o.pv]) (fun i => o.sl.length - i.1) ⟨0, Nat.zero_le _⟩ [] (by kernel_rfl) trivial (by kernel_rfl) (by kernel_rfl) fun ⟨i, hi⟩ L ih => ?_
 refine M.ts (decide ((i : Int) < (o.sl.length : Int))) (fun h1 => ?_) (fun h1 => ?_)
 ·have hlt : i < o.sl.length := by simpa using h1
  have htk := parL_take hlt
  refine M.clp [0 <= (i : Int) /\ (i : Int) < (o.sl.length : Int)] ⟨by omega, trivial⟩ (leads_spec (o.sl.getD (i : Int).toNat default)) ?_
  refine M.ts (isPar (o.sl.getD (i : Int).toNat default)) (fun h2 => ?_) (fun h2 => ?_)
  ·rw [h2, cond_true] at htk
   obtain ⟨b1, b2, b3⟩ := hlU (o.sl.getD (i : Int).toNat default).v (by
    unfold parL
    exact List.mem_map.2 ⟨_, List.mem_filter.2 ⟨getD_mem (by omega), h2⟩, rfl⟩)
   have hmem : ∀ v ∈ parL (o.sl.take i), startF v ∈ U := fun v h => (hlU v (by
    have e : parL o.sl = parL (o.sl.take i) ++ parL (o.sl.drop i) := by rw [<- parL_app, List.take_append_drop]
    rw [e]; exact List.mem_append_left _ h)).1
   have hless := upL_less (visL_less hU.clo (sel := sel) f) (parL (o.sl.take i)) s hmem
   refine M.cl (gstart_spec w hU.so (o.sl.getD (i : Int).toNat default).v b3) ?_
   rw [gstW_of b2]
   refine M.cl cloneN_int ?_
   refine M.rn [0 < 1 /\ 1 <= 9223372036854775807 /\ 1 * 8 <= 140737488355328] [0, 1, 2, 3, 4, 6] hst ⟨⟨by omega, by omega, by omega⟩, trivial⟩ fun L' => ?_
   refine M.sigT [] (visS w sel (upL w sel f (parL (o.sl.take i)) s) ++ [o.pv, [.rws 1 1 (fun j => ((([I i] : List PV).drop (j * 1)).take 1).map (renP (invF [0, 1, 2, 3, 4, 6] 0) 7))]]) (visS w sel (upL w sel f (parL (o.sl.take i)) s) ++ [o.pv, pth 1]) (by kernel_rfl) trivial (by kernel_rfl) (by kernel_rfl)
    (.cons (.refl _) (.cons (.refl _) (.cons (.refl _) (.cons (.refl _) (.cons (.refl _) (.cons (.rws rfl fun j hj β L W us h => by
     have : j = 0 := by omega
     subst this
     obtain ⟨u0, us, rfl, h0, h⟩ := h.uncons
     exact .cons (by rw [R]; trivial) h) .nil)))))) ?_
   refine M.cm [0, 1, 2, 3, 5] (hv (upL w sel f (parL (o.sl.take i)) s) (startF (o.sl.getD (i : Int).toNat default).v) 1 b1 (Nat.lt_of_le_of_lt hless.un hf) (hless.room hr) (Nat.succ_pos _) (by omega)) ?_
   have e : visL w sel f (upL w sel f (parL (o.sl.take i)) s) (startF (o.sl.getD (i : Int).toNat default).v) = upL w sel f (parL (o.sl.take (i + 1))) s := by rw [htk, upL_app]; rfl
   rw [e]
   refine M.rn [In64 ((i : Int) + 1)] [0, 1, 6, 7, 4] hst ⟨⟨by omega, by omega⟩, trivial⟩ fun L' => ?_
   exact M.bk [] (ih ⟨i + 1, hlt⟩ L' (by show o.sl.length - (i + 1) < o.sl.length - i; omega)) trivial
  ·rw [h2, cond_false, List.append_nil] at htk
   refine M.rn [In64 ((i : Int) + 1)] [0, 1, 2, 3, 4] hst ⟨⟨by omega, by omega⟩, trivial⟩ fun L' => ?_
   have kk := ih ⟨i + 1, hlt⟩ L' (by show o.sl.length - (i + 1) < o.sl.length - i; omega)
   simp only [htk] at kk
   exact M.bk [] kk trivial
 ·have : i = o.sl.length := by have := of_decide_eq_false h1; omega
  subst this
  have e : o.sl.take o.sl.length = o.sl := List.take_length
  simp only [e]
  exact M.retm [] [0, 1, 2, 3] hst rfl (by kernel_rfl) trivial rfl rfl
theorem lupN {w : Wd} {sel : List UInt8} {U : List Int} (hU : LkW w U) (hsel : sel.length <= 1000000000) (f : Nat) : LUpN w sel U f := lup_nil hU f (lvisC hU hsel f)
abbrev fdP (f : Fd) : List PV := [I f.kind, I f.holder, I f.slot, .any, .sb f.set, .any, .any, .any]
abbrev visP (w : Wd) (sel : List UInt8) (s : StL) : List PV := [.ptr (chgF w), S sel, .fm (.int .i64) (.v s.1), row 1 (fun x : Int => [I x]) s.2.1, row 4 htV s.2.2]
theorem any_R (p : PV) {β : List (Option Nat)} {L : List Nat} {W : World} {u : Value} (h : R β L W p u) : R β L W .any u := by rw [R]; trivial
theorem fd_to {k h n : Int} {b : Bool} {p q r s : PV} {L : List Nat} {W : World} {u : Value} (hh : R [] L W (.agg [I k, I h, I n, p, .sb b, q, r, s]) u) : R [] L W (.agg (fdP ⟨k, h, n, b⟩)) u :=
 agg_to (.cons (fun _ h => h) (.cons (fun _ h => h) (.cons (fun _ h => h) (.cons (fun _ h => any_R p h) (.cons (fun _ h => h) (.cons (fun _ h => any_R q h) (.cons (fun _ h => any_R r h) (.cons (fun _ h => any_R s h) .nil)))))))) hh
theorem found_spec (w : Wd) (sel : List UInt8) (s : StL) : Spec Tryz.prog 32 [.ptr (visP w sel s)] (.agg (fdP (fdOf s.2.2))) := by
 obtain ⟨f, D, O⟩ := s
 refine Spec.startL (by kernel_rfl) Tryz.func32 rfl rfl fun w0 L hst => ?_
 cases O with
 | nil =>
  refine M.ys (b := decide ((([] : List Fo).length : Int) = 0)) rfl ?_
  exact M.retw [] (.agg [I 0, I 0, I 0, nilS, .sb false, I 0, I 0, nilS]) (by kernel_rfl) trivial fun L W u h => fd_to h
 | cons x O =>
  refine M.n (b := decide (((x :: O).length : Int) = 0)) (by simp; omega) ?_
  cases O with
  | nil =>
   refine M.testp [(0 : Int) <= 0 /\ (0 : Int) < (([x] : List Fo).length : Int)] (decide ((([x] : List Fo).length : Int) > 1)) (by kernel_rfl) ⟨by simp, trivial⟩ (fun h => absurd h (by simp)) (fun h => ?_)
   exact M.retw [] (.agg [I 1, I x.holder, I x.slot, .o .any, .sb x.set, I 0, I 0, nilS]) (by kernel_rfl) trivial fun L W u h => fd_to h
  | cons y O =>
   refine M.testp [(0 : Int) <= 0 /\ (0 : Int) < ((x :: y :: O : List Fo).length : Int)] (decide (((x :: y :: O).length : Int) > 1)) (by kernel_rfl) ⟨by simp; omega, trivial⟩ (fun h => ?_) (fun h => absurd h (by simp; omega))
   exact M.retw [(0 : Int) <= 1 /\ (1 : Int) < ((x :: y :: O : List Fo).length : Int)] (.agg [I 2, I x.holder, I x.slot, .o .any, .sb x.set, I y.holder, I y.slot, .o .any]) (by kernel_rfl) ⟨by simp; omega, trivial⟩ fun L W u h => fd_to h
theorem slot_val {w : Wd} {o : Ob} {s : Sl} (h : slotW w o s = true) (hk : s.v.k ≠ 5) : valueC s.v = 0 := by
 unfold slotW at h
 rw [show (s.v.k != 5) = true by simp [hk], cond_true] at h
 have h1 := (bif_and (bif_and (bif_and h).2).2).2
 unfold hasW at h1
 have h2 := (bif_nor h1).1
 simpa using h2
theorem par_val {w : Wd} (hw : w.Ok) (h : Parts w) {o : Ob} (ho : o ∈ w.objs) {v : Vl} (hv : v ∈ parL o.sl) : valueC v = 0 /\ In64 v.n := by
 obtain ⟨s, hs, hp, rfl⟩ := par_mem hv
 refine ⟨slot_val (object_slots (h.objs o ho) s hs) fun hk => ?_, (hw.objs o ho).sl s hs⟩
 have := slot_meth (object_slots (h.objs o ho) s hs) hk
 unfold isPar at hp
 rw [this] at hp; cases hp
theorem parT_val {w : Wd} (hw : w.Ok) (h : Parts w) (n : Int) {v : Vl} (hv : v ∈ parL (objT w n).1.sl) : valueC v = 0 /\ In64 v.n := by
 obtain ⟨s, hs, hp, rfl⟩ := par_mem hv
 exact objT_mem (w := w) (n := n) (P := fun s => isPar s = true -> valueC s.v = 0 /\ In64 s.v.n) (fun o ho s hs hp => par_val hw h ho (List.mem_map.2 ⟨s, List.mem_filter.2 ⟨hs, hp⟩, rfl⟩)) s hs hp
theorem lkW_of {w : Wd} (hw : w.Ok) (h : wcheckW w = 0) {U : List Int} (hU : Clo w U) : LkW w U := ⟨hw, (valid_sorted hw h).1, hU, fun n _ v hv => parT_val hw (valid_parts h) n hv⟩
abbrev s0L : StL := (fun _ => false, [], [])
theorem room0 {w : Wd} {U : List Int} (hU : Clo w U) : unseenL U s0L.1 <= U.length /\ RoomL U s0L := by
 have h : unseenL U s0L.1 <= U.length := List.length_filter_le _ _
 have := hU.many
 exact ⟨h, ⟨by show 0 + _ <= _; omega, by show 0 + _ <= _; omega⟩⟩
theorem wcopyO (o : Ob) (h : o.sl.length <= 1000000) (h2 : o.el.length <= 1000000) : SpecM Tryz.prog 136 0 [] [.agg o.pv] [slotR o.sl] (.agg (ObO 0 o)) := by
 refine SpecM.start (by kernel_rfl) Tryz.func136 rfl rfl (Nat.le_refl _) fun w0 L hst => ?_
 refine M.cm [] (cloneO_Slot o.sl h) ?_
 refine M.cl (clone_Val o.el h2) ?_
 exact M.retm [] [2] hst rfl (by kernel_rfl) trivial rfl rfl
theorem wmapO (l : List Ob) (g : Nat) (i0 : Nat) (hl : l.length <= 1000000000) (hi0 : i0 < l.length) (hg : ∀ x ∈ l, Spec Tryz.prog g [.agg x.pv] (.agg x.pv))
  (hgo : SpecM Tryz.prog g 0 [] [.agg (l.getD i0 default).pv] [slotR (l.getD i0 default).sl] (.agg (ObO 0 (l.getD i0 default)))) :
  SpecM Tryz.prog 135 0 [] [row 6 Ob.pv l, .fn g []] [[.rwf 6 l.length (fun j => Ob.pv (l.getD j default)) i0 (ObO 1 (l.getD i0 default))], slotR (l.getD i0 default).sl] (.os 73 0 6 l.length) := by
 refine SpecM.start (by kernel_rfl) Tryz.func135 rfl rfl (Nat.le_refl _) fun w0 L hst => ?_
 refine M.nilT [] 73 6 (fun j => Ob.pv (l.getD j default)) 5 (by kernel_rfl) trivial (by kernel_rfl) (by kernel_rfl) ?_
 refine M.loopL (ι := {i : Nat // i <= i0} ⊕ {i : Nat // i0 < i /\ i <= l.length})
  (fun | .inl i => [(1, .fn g []), (5, .os 73 0 6 i.1), (8, row 6 Ob.pv l), (9, I l.length), (10, I i.1)] | .inr i => [(1, .fn g []), (5, .os 73 0 6 i.1), (8, row 6 Ob.pv l), (9, I l.length), (10, I i.1)])
  (fun | .inl i => [[.rws 6 i.1 (fun j => Ob.pv (l.getD j default))]] | .inr i => [[.rws 6 i.1 (focE l i0 (ObO 1 (l.getD i0 default)))], slotR (l.getD i0 default).sl])
  (fun | .inl i => l.length - i.1 | .inr i => l.length - i.1) (.inl ⟨0, Nat.zero_le _⟩) [] (by kernel_rfl) trivial (by kernel_rfl) (by kernel_rfl) fun x L ih => ?_
 cases x with
 | inl x =>
  obtain ⟨i, hi⟩ := x
  refine M.ys (b := decide ((i : Int) < (l.length : Int))) (by simp; omega) ?_
  by_cases hii : i = i0
  ·subst hii
   refine M.callmp [0 <= (i : Int) /\ (i : Int) < (l.length : Int)] [] hgo (by kernel_rfl) ⟨by omega, trivial⟩ ?_
   refine M.rn [1 <= 1 /\ i = i /\ 0 < 1 /\ i + 1 <= 9223372036854775807 /\ (i + 1) * 80 <= 140737488355328, In64 ((i : Int) + 1)] [4, 2] hst ⟨⟨Nat.le_refl _, rfl, by omega, by omega, by omega⟩, ⟨by omega, by omega⟩, trivial⟩ fun L' => ?_
   refine M.sig [] [[.rws 6 (i + 1) (fun j => (joinEl (fun j => Ob.pv (l.getD j default)) i (fun j => ((ObO 2 (l.getD i default)).drop (j * 6)).take 6) j).map (renP (invF [4, 2] 0) 7))], slotR (l.getD i default).sl]
    [[.rws 6 (i + 1) (focE l i (ObO 1 (l.getD i default)))], slotR (l.getD i default).sl] (by kernel_rfl) trivial (by kernel_rfl) (by kernel_rfl) (.cons (.rws rfl fun j hj => ?_) (.cons (.refl _) .nil)) ?_
   ·unfold joinEl focE
    by_cases h : j < i
    ·rw [if_pos h, if_neg (by omega)]; rfl
    ·have : j = i := by omega
     subst this
     rw [if_neg (Nat.lt_irrefl _), if_pos rfl, Nat.sub_self]; rfl
   ·exact M.bk [] (ih (.inr ⟨i + 1, Nat.lt_succ_self _, hi0⟩) L' (by show l.length - (i + 1) < l.length - i; omega)) trivial
  ·refine M.clp [0 <= (i : Int) /\ (i : Int) < (l.length : Int)] ⟨by omega, trivial⟩ (hg _ (getD_mem (p := (i : Int).toNat) (by omega))) ?_
   refine M.rn [i = i /\ 0 < 1 /\ i + 1 <= 9223372036854775807 /\ (i + 1) * 80 <= 140737488355328, In64 ((i : Int) + 1)] [2] hst ⟨⟨rfl, by omega, by omega, by omega⟩, ⟨by omega, by omega⟩, trivial⟩ fun L' => ?_
   refine M.sig [] [[.rws 6 (i + 1) (fun j => (joinEl (fun j => Ob.pv (l.getD j default)) i (fun j => ((Ob.pv (l.getD (i : Int).toNat default)).drop (j * 6)).take 6) j).map (renP (invF [2] 0) 7))]]
    [[.rws 6 (i + 1) (fun j => Ob.pv (l.getD j default))]] (by kernel_rfl) trivial (by kernel_rfl) (by kernel_rfl) (.cons (app_cells rfl rfl fun j => rfl) .nil) ?_
   exact M.bk [] (ih (.inl ⟨i + 1, by omega⟩) L' (by show l.length - (i + 1) < l.length - i; omega)) trivial
 | inr x =>
  obtain ⟨i, hi1, hi⟩ := x
  refine M.ts (decide ((i : Int) < (l.length : Int))) (fun h1 => ?_) (fun h1 => ?_)
  ·have hlt : i < l.length := by simpa using h1
   refine M.clp [0 <= (i : Int) /\ (i : Int) < (l.length : Int)] ⟨by omega, trivial⟩ (hg _ (getD_mem (p := (i : Int).toNat) (by omega))) ?_
   refine M.rn [i = i /\ 0 < 1 /\ i + 1 <= 9223372036854775807 /\ (i + 1) * 80 <= 140737488355328, In64 ((i : Int) + 1)] [3, 1] hst ⟨⟨rfl, by omega, by omega, by omega⟩, ⟨by omega, by omega⟩, trivial⟩ fun L' => ?_
   refine M.sig [] [[.rws 6 (i + 1) (fun j => (joinEl (focE l i0 (ObO 1 (l.getD i0 default))) i (fun j => ((Ob.pv (l.getD (i : Int).toNat default)).drop (j * 6)).take 6) j).map (renP (invF [3, 1] 0) 7))], slotR (l.getD i0 default).sl]
    [[.rws 6 (i + 1) (focE l i0 (ObO 1 (l.getD i0 default)))], slotR (l.getD i0 default).sl] (by kernel_rfl) trivial (by kernel_rfl) (by kernel_rfl) (.cons (.rws rfl fun j hj => ?_) (.cons (.refl _) .nil)) ?_
   ·unfold joinEl focE
    by_cases h : j < i
    ·rw [if_pos h]
     by_cases h2 : j = i0
     ·rw [if_pos h2]; rfl
     ·rw [if_neg h2]; rfl
    ·have : j = i := by omega
     subst this
     rw [if_neg (Nat.lt_irrefl _), if_neg (by omega), Nat.sub_self]; rfl
   ·exact M.bk [] (ih (.inr ⟨i + 1, by omega, hlt⟩) L' (by show l.length - (i + 1) < l.length - i; omega)) trivial
  ·have : i = l.length := by have := of_decide_eq_false h1; omega
   subst this
   refine M.sig [] [[.rws 6 l.length (focE l i0 (ObO 1 (l.getD i0 default)))], slotR (l.getD i0 default).sl] [[.rwf 6 l.length (fun j => Ob.pv (l.getD j default)) i0 (ObO 1 (l.getD i0 default))], slotR (l.getD i0 default).sl] (by kernel_rfl) trivial (by kernel_rfl) (by kernel_rfl) (.cons (.foc rfl hi0 fun x _ => rfl) (.cons (.refl _) .nil)) ?_
   exact M.retm [] [0, 1] hst rfl (by kernel_rfl) trivial rfl rfl
abbrev fRow (w : Wd) (i k : Nat) : List PV := [.rwf 6 w.objs.length (fun j => Ob.pv (w.objs.getD j default)) i (ObO k (w.objs.getD i default))]
abbrev fRws (w : Wd) (i k : Nat) : List PV := [.rws 6 w.objs.length (focE w.objs i (ObO k (w.objs.getD i default)))]
theorem foc_at {w : Wd} {i k j : Nat} {cs : List PV} (hj : j < w.objs.length) (hc : focE w.objs i (ObO k (w.objs.getD i default)) j = cs) : CellsEq (fRws w i k) [.rwf 6 w.objs.length (focE w.objs i (ObO k (w.objs.getD i default))) j cs] :=
 .foc rfl hj fun x _ => by
  by_cases e : x = j
  ·rw [if_pos e, e, hc]
  ·rw [if_neg e]
theorem unf_at {w : Wd} {i k j : Nat} {cs : List PV} {g : PV -> PV} (hg : ∀ x : Ob, (Ob.pv x).map g = Ob.pv x) (hg2 : ∀ x : Ob, (ObO k x).map g = ObO k x) (hc : focE w.objs i (ObO k (w.objs.getD i default)) j = cs) : CellsEq [.rwf 6 w.objs.length (fun x => (focE w.objs i (ObO k (w.objs.getD i default)) x).map g) j (cs.map g)] (fRws w i k) :=
 .unf rfl fun x _ => by
  have e1 : (focE w.objs i (ObO k (w.objs.getD i default)) x).map g = focE w.objs i (ObO k (w.objs.getD i default)) x := by
   unfold focE
   by_cases h : x = i
   ·rw [if_pos h]; exact hg2 _
   ·rw [if_neg h]; exact hg _
  by_cases e : x = j
  ·rw [if_pos e, <- hc, <- e, e1]
  ·rw [if_neg e, e1]
theorem indexedF (w : Wd) (hw : w.Ok) (i0 : Nat) (hi0 : i0 < w.objs.length) : SpecM Tryz.prog 43 4 [fRow w i0 3, actR w, cdR w, slotR (w.objs.getD i0 default).sl] [.agg (wO w 0)] [fRow w i0 3, actR w, cdR w, slotR (w.objs.getD i0 default).sl, wO w 0 ++ [.mr 5], mpR w] (.ref 4 0) := by
 have hl := hw.nobjs
 refine SpecM.start (by kernel_rfl) Tryz.func43 rfl rfl (Nat.le_of_ble_eq_true rfl) fun w0 L hst => ?_
 refine M.sig [] [fRow w i0 3, actR w, cdR w, slotR (w.objs.getD i0 default).sl, wO w 0, [.mp (.int .i64) (.i .i64 (atN w.objs 0))], wO w 0 ++ [.mr 5]] [fRws w i0 3, actR w, cdR w, slotR (w.objs.getD i0 default).sl, wO w 0, [.mp (.int .i64) (.i .i64 (atN w.objs 0))], wO w 0 ++ [.mr 5]] (by kernel_rfl) trivial (by kernel_rfl) (by kernel_rfl) (.cons (.unf rfl fun x _ => rfl) (.refl _)) ?_
 refine M.loopL (ι := {i : Nat // i <= w.objs.length}) (fun i => [(3, .ref 6 0), (14, .os 73 0 6 w.objs.length), (15, I w.objs.length), (16, I i.1)]) (fun i => [fRws w i0 3, actR w, cdR w, slotR (w.objs.getD i0 default).sl, wO w 0, [.mp (.int .i64) (.i .i64 (atN w.objs i.1))], wO w 0 ++ [.mr 5]]) (fun i => w.objs.length - i.1) ⟨0, Nat.zero_le _⟩ [] (by kernel_rfl) trivial (by kernel_rfl) (by kernel_rfl) fun ⟨i, hi⟩ L ih => ?_
 refine M.ts (decide ((i : Int) < (w.objs.length : Int))) (fun h1 => ?_) (fun h1 => ?_)
 ·have hlt : i < w.objs.length := by simpa using h1
  by_cases hii : i = i0
  ·subst hii
   have hc : focE w.objs i (ObO 3 (w.objs.getD i default)) i = ObO 3 (w.objs.getD i default) := if_pos rfl
   refine M.sigN 0 [] [fRws w i 3, actR w, cdR w, slotR (w.objs.getD i default).sl, wO w 0, [.mp (.int .i64) (.i .i64 (atN w.objs i))], wO w 0 ++ [.mr 5]] [[.rwf 6 w.objs.length (focE w.objs i (ObO 3 (w.objs.getD i default))) i (ObO 3 (w.objs.getD i default))], actR w, cdR w, slotR (w.objs.getD i default).sl, wO w 0, [.mp (.int .i64) (.i .i64 (atN w.objs i))], wO w 0 ++ [.mr 5]] (by kernel_rfl) trivial (by kernel_rfl) (by kernel_rfl) (.cons (foc_at hlt hc) (.refl _)) ?_
   refine M.rn [0 <= (i : Int) /\ (i : Int) < (w.objs.length : Int), (i : Int).toNat < w.objs.length /\ (i : Int).toNat = i, In64 ((i : Int) + 1)] [0, 1, 2, 3, 4, 5, 6] hst ⟨⟨by omega, by omega⟩, by omega, ⟨by omega, by omega⟩, trivial⟩ fun L' => ?_
   refine M.sig [] ([.rwf 6 w.objs.length (fun x => (focE w.objs i (ObO 3 (w.objs.getD i default)) x).map (renP (invF [0, 1, 2, 3, 4, 5, 6] 0) 7)) i ((ObO 3 (w.objs.getD i default)).map (renP (invF [0, 1, 2, 3, 4, 5, 6] 0) 7))] :: [actR w, cdR w, slotR (w.objs.getD i default).sl, wO w 0, [.mp (.int .i64) (.i .i64 (atN w.objs (i + 1)))], wO w 0 ++ [.mr 5]]) (fRws w i 3 :: [actR w, cdR w, slotR (w.objs.getD i default).sl, wO w 0, [.mp (.int .i64) (.i .i64 (atN w.objs (i + 1)))], wO w 0 ++ [.mr 5]]) (by kernel_rfl) trivial (by kernel_rfl) (by kernel_rfl) (.cons (unf_at (fun x => rfl) (fun x => rfl) hc) (.refl _)) ?_
   exact M.bk [] (ih ⟨i + 1, hlt⟩ L' (by show w.objs.length - (i + 1) < w.objs.length - i; omega)) trivial
  ·have hc : focE w.objs i0 (ObO 3 (w.objs.getD i0 default)) i = Ob.pv (w.objs.getD i default) := if_neg hii
   refine M.sigN 0 [] [fRws w i0 3, actR w, cdR w, slotR (w.objs.getD i0 default).sl, wO w 0, [.mp (.int .i64) (.i .i64 (atN w.objs i))], wO w 0 ++ [.mr 5]] [[.rwf 6 w.objs.length (focE w.objs i0 (ObO 3 (w.objs.getD i0 default))) i (Ob.pv (w.objs.getD i default))], actR w, cdR w, slotR (w.objs.getD i0 default).sl, wO w 0, [.mp (.int .i64) (.i .i64 (atN w.objs i))], wO w 0 ++ [.mr 5]] (by kernel_rfl) trivial (by kernel_rfl) (by kernel_rfl) (.cons (foc_at hlt hc) (.refl _)) ?_
   refine M.rn [0 <= (i : Int) /\ (i : Int) < (w.objs.length : Int), (i : Int).toNat < w.objs.length /\ (i : Int).toNat = i, In64 ((i : Int) + 1)] [0, 1, 2, 3, 4, 5, 6] hst ⟨⟨by omega, by omega⟩, by omega, ⟨by omega, by omega⟩, trivial⟩ fun L' => ?_
   refine M.sig [] ([.rwf 6 w.objs.length (fun x => (focE w.objs i0 (ObO 3 (w.objs.getD i0 default)) x).map (renP (invF [0, 1, 2, 3, 4, 5, 6] 0) 7)) i ((Ob.pv (w.objs.getD i default)).map (renP (invF [0, 1, 2, 3, 4, 5, 6] 0) 7))] :: [actR w, cdR w, slotR (w.objs.getD i0 default).sl, wO w 0, [.mp (.int .i64) (.i .i64 (atN w.objs (i + 1)))], wO w 0 ++ [.mr 5]]) (fRws w i0 3 :: [actR w, cdR w, slotR (w.objs.getD i0 default).sl, wO w 0, [.mp (.int .i64) (.i .i64 (atN w.objs (i + 1)))], wO w 0 ++ [.mr 5]]) (by kernel_rfl) trivial (by kernel_rfl) (by kernel_rfl) (.cons (unf_at (fun x => rfl) (fun x => rfl) hc) (.refl _)) ?_
   exact M.bk [] (ih ⟨i + 1, hlt⟩ L' (by show w.objs.length - (i + 1) < w.objs.length - i; omega)) trivial
 ·have : i = w.objs.length := by have := of_decide_eq_false h1; omega
  subst this
  refine M.sigN 0 [] [fRws w i0 3, actR w, cdR w, slotR (w.objs.getD i0 default).sl, wO w 0, mpR w, wO w 0 ++ [.mr 5]] [fRow w i0 3, actR w, cdR w, slotR (w.objs.getD i0 default).sl, wO w 0, mpR w, wO w 0 ++ [.mr 5]] (by kernel_rfl) trivial (by kernel_rfl) (by kernel_rfl) (.cons (.foc rfl hi0 fun x _ => rfl) (.refl _)) ?_
  exact M.retm [] [0, 1, 2, 3, 6, 5] hst rfl (by kernel_rfl) trivial rfl rfl
abbrev opnF (w : Wd) (i : Nat) (o : Ob) : Sig := [wO w 1 ++ [.mr 5], [.rwf 6 w.objs.length (fun j => Ob.pv (w.objs.getD j default)) i (ObO 4 o)], actR w, cdR w, slotR o.sl, mpR w]
theorem open_okF (w : Wd) (hw : w.Ok) (h : wcheckW w = 0) (i : Nat) (hi : i < w.objs.length) : SpecM Tryz.prog 99 0 [] [.agg w.pv] (opnF w i (w.objs.getD i default)) (.tup [.ref 0 0, I 0]) := by
 have hv : validW w = true := by
  unfold wcheckW at h
  cases hx : validW w with
  | true => rfl
  | false => rw [hx] at h; cases h
 have ho := hw.objs (w.objs.getD i default) (getD_mem (p := i) hi)
 refine SpecM.start (by kernel_rfl) Tryz.func99 rfl rfl (Nat.zero_le _) fun w0 L hst => ?_
 refine M.cm [] (indexed_spec w) ?_
 refine M.cl (valid_spec w hw) ?_
 refine M.n (b := !validW w) (by rw [hv]; rfl) ?_
 refine M.cm [] (wmapO w.objs 136 i hw.nobjs hi (fun x hx => wcopyObj x (hw.objs x hx).nsl (hw.objs x hx).nel) (wcopyO _ ho.nsl ho.nel)) ?_
 refine M.cm [] (w_mapped_Act w.acts 138 hw.nacts fun x hx => wcopyAct x (hw.acts x hx).nvars) ?_
 refine M.cm [] (w_mapped_Code w.cds 140 hw.ncds fun x hx => wcopyCode x (hw.cds x hx).names (hw.cds x hx).ninit (hw.cds x hx).nlits (hw.cds x hx).sels (hw.cds x hx).nins) ?_
 refine M.cm [3, 5, 6, 4] (indexedF w hw i hi) ?_
 exact M.retm [] [7, 3, 5, 6, 4, 8] hst rfl (by kernel_rfl) trivial rfl rfl
def atI (w : Wd) (n : Int) : Nat := ((atN w.objs w.objs.length (.i n)).getD 0).toNat
def atS (w : Wd) (n : Int) : Bool := (atN w.objs w.objs.length (.i n)).isSome
theorem atI_lt {w : Wd} {n : Int} (h : atS w n = true) : 0 <= (atN w.objs w.objs.length (.i n)).getD 0 /\ (atN w.objs w.objs.length (.i n)).getD 0 < (w.objs.length : Int) := by
 unfold atS at h
 obtain ⟨i, hi⟩ := Option.isSome_iff_exists.1 h
 rw [hi]
 exact atN_lt _ _ _ _ hi
theorem objM_ok (w : Wd) (n : Int) (i : Nat) (hs : atS w n = true) (hi : i = atI w n) : SpecM Tryz.prog 90 6 (opnF w i (w.objs.getD i default)) [.ref 0 0, I n] (opnF w i (w.objs.getD i default)) (.rr 1 6 i 0) := by
 have hlt := atI_lt hs
 refine SpecM.start (by kernel_rfl) Tryz.func90 rfl rfl (Nat.le_of_ble_eq_true rfl) fun w0 L hst => ?_
 refine M.n (b := !atS w n) (by rw [hs]; rfl) ?_
 subst hi
 exact M.retm [0 <= (atN w.objs w.objs.length (.i n)).getD 0 /\ (atN w.objs w.objs.length (.i n)).getD 0 < (w.objs.length : Int)] [0, 1, 2, 3, 4, 5] hst rfl (by kernel_rfl) ⟨hlt, trivial⟩ rfl rfl
theorem object_ok (w : Wd) (hw : w.Ok) (h : wcheckW w = 0) (n : Int) (i : Nat) (hs : atS w n = true) (hi : i = atI w n) : SpecM Tryz.prog 77 0 [] [.agg w.pv, I n] (opnF w i (w.objs.getD i default)) (.tup [.ref 0 0, .rr 1 6 i 0, I 0]) := by
 have hil : i < w.objs.length := by have := atI_lt hs; rw [hi]; unfold atI; omega
 refine SpecM.start (by kernel_rfl) Tryz.func77 rfl rfl (Nat.zero_le _) fun w0 L hst => ?_
 refine M.cm [] (open_okF w hw h i hil) ?_
 refine M.n (b := (0 : Int) != 0) rfl ?_
 refine M.cm [1, 2, 3, 4, 5, 6] (objM_ok w n i hs hi) ?_
 exact M.retm [] [1, 2, 3, 4, 5, 6] hst rfl (by kernel_rfl) trivial rfl rfl
theorem at_has {w : Wd} (hs : Sorted w) {n : Int} (h : Has w n) : atS w n = true /\ w.objs.getD (atI w n) default = (objT w n).1 := by
 unfold atS atI
 cases ha : atN w.objs w.objs.length (.i n) with
 | none =>
  have := at_none hs ha
  have h2 := (h.objT hs).1
  rw [this] at h2; cases h2
 | some i =>
  rw [at_some hs ha]
  exact ⟨rfl, rfl⟩
theorem Find_ok (w : Wd) (hw : w.Ok) (h : wcheckW w = 0) (n : Int) (hn : Has w n) : Spec Tryz.prog 33 [.agg w.pv, I n] (.tup [.agg (objT w n).1.pv, I 0]) := by
 obtain ⟨h1, h2⟩ := at_has (valid_sorted hw h).1 hn
 rw [<- h2]
 refine Spec.startL (by kernel_rfl) Tryz.func33 rfl rfl fun w0 L hst => ?_
 refine M.cm [] (object_ok w hw h n (atI w n) h1 rfl) ?_
 refine M.n (b := (0 : Int) != 0) rfl ?_
 exact M.retp [atI w n < w.objs.length /\ atI w n = atI w n, (w.objs.getD (atI w n) default).sl.length <= (w.objs.getD (atI w n) default).sl.length] (.tup [.agg (w.objs.getD (atI w n) default).pv, I 0]) (by kernel_rfl) ⟨⟨by have := atI_lt h1; unfold atI; omega, rfl⟩, Nat.le_refl _, trivial⟩ rfl
theorem or_two {k a b : Int} (h : (k == a) = false) (q : k = a \/ k = b) : (k == b) = true := by
 rcases q with q | q
 ·rw [q] at h; simp at h
 ·rw [q]; simp
theorem fits_spec (u : Wd) (hu : u.Ok) (hc : wcheckW u = 0) (g : Tg) (f : Fd) (v : Vl) (h : FitsP u g f v) : Spec Tryz.prog 12 [.agg u.pv, .agg g.pv, .agg (fdP f), .agg v.pv] (.sb true) := by
 obtain ⟨gk, gh, gs, go, gc, gv⟩ := g
 obtain ⟨fk, fh, fs, fset⟩ := f
 refine Spec.startL (by kernel_rfl) Tryz.func12 rfl rfl fun w0 L hst => ?_
 rcases h with ⟨hg, hf⟩ | ⟨hg, hf⟩ | ⟨n, s, h1, h2, ho, hn, hf, hh, hs, hset, hun, h0, hsl, hk⟩
 ·have hg : gk = 1 := hg
  have hf : fk = 0 := hf
  subst hg; subst hf
  refine M.ys (b := (1 : Int) == 1) rfl ?_
  exact M.retb ((0 : Int) == 0) (by kernel_rfl) rfl
 ·have hg : gk = 2 := hg
  have hf : fk = 2 := hf
  subst hg; subst hf
  refine M.n (b := (2 : Int) == 1) rfl ?_
  refine M.ys (b := (2 : Int) == 2) rfl ?_
  exact M.retb ((2 : Int) == 2) (by kernel_rfl) rfl
 have h1' : gk ≠ 1 := h1
 have h2' : gk ≠ 2 := h2
 have hf' : fk = 1 := hf
 have hh' : fh = n := hh
 have hs' : fs = gs := hs
 have hset' : fset = (gk == 5) := hset
 have h0' : 0 <= gs := h0
 have hsl' : (objT u n).1.sl[gs.toNat]? = some s := hsl
 have hk' : (gk = 6 /\ s.v.k = 5 /\ s.v.n = gc) \/ (gk = 3 /\ s.v = gv /\ (s.kd = 1 \/ s.kd = 3)) \/ ((gk = 4 \/ gk = 5) /\ (s.kd = 2 \/ s.kd = 4)) := hk
 have hlen : gs.toNat < (objT u n).1.sl.length := (List.getElem?_eq_some_iff.1 hsl').1
 have hgd : (objT u n).1.sl.getD gs.toNat default = s := by rw [List.getD_eq_getElem?_getD, hsl']; rfl
 clear h1 h2 hf hh hs hset h0 hsl hk
 refine M.n (b := gk == 1) (by simp [h1']) ?_
 refine M.n (b := gk == 2) (by simp [h2']) ?_
 cases go with
 | false =>
  have e : n = gh := hn rfl
  subst e
  refine M.n (b := false) rfl ?_
  refine M.n (b := fk != 1) (by simp [hf']) ?_
  refine M.n (b := fh != n) (by simp [hh']) ?_
  refine M.n (b := fs != gs) (by simp [hs']) ?_
  refine M.n (b := fset != (gk == 5)) (by simp [hset']) ?_
  refine M.cl (Find_ok u hu hc n hun) ?_
  refine M.n (b := (0 : Int) != 0) rfl ?_
  refine M.n (b := decide (gs >= ((objT u n).1.sl.length : Int))) (by simp; omega) ?_
  refine M.testp [0 <= gs /\ gs < ((objT u n).1.sl.length : Int)] (gk == 6) (by kernel_rfl) ⟨⟨h0', by omega⟩, trivial⟩ (fun k1 => ?_) (fun k1 => ?_)
  ·rcases hk' with ⟨q1, q2, q3⟩ | ⟨q1, -⟩ | ⟨q1, -⟩
   ·refine M.ys (b := ((objT u n).1.sl.getD gs.toNat default).v.k == 5) (by rw [hgd, q2]; rfl) ?_
    exact M.retb (((objT u n).1.sl.getD gs.toNat default).v.n == gc) (by kernel_rfl) (by rw [hgd, q3]; simp)
   ·simp [q1] at k1
   ·rcases q1 with q1 | q1 <;> simp [q1] at k1
  refine M.ts (gk == 3) (fun k2 => ?_) (fun k2 => ?_)
  ·rcases hk' with ⟨q1, -⟩ | ⟨q1, q2, q3⟩ | ⟨q1, -⟩
   ·simp [q1] at k1
   ·refine M.ys (b := vlEq ((objT u n).1.sl.getD gs.toNat default).v gv) (by rw [hgd, q2]; simp [vlEq]) ?_
    refine M.ts (((objT u n).1.sl.getD gs.toNat default).kd == 1) (fun k3 => M.retb true (by kernel_rfl) rfl) (fun k3 => ?_)
    exact M.retb (((objT u n).1.sl.getD gs.toNat default).kd == 3) (by kernel_rfl) (by rw [hgd] at k3 ⊢; exact or_two k3 q3)
   ·rcases q1 with q1 | q1 <;> simp [q1] at k2
  ·have q2 : s.kd = 2 \/ s.kd = 4 := by
    rcases hk' with ⟨q1, -⟩ | ⟨q1, -⟩ | ⟨-, q2⟩
    ·simp [q1] at k1
    ·simp [q1] at k2
    ·exact q2
   refine M.ts (((objT u n).1.sl.getD gs.toNat default).kd == 2) (fun k3 => M.retb true (by kernel_rfl) rfl) (fun k3 => ?_)
   exact M.retb (((objT u n).1.sl.getD gs.toNat default).kd == 4) (by kernel_rfl) (by rw [hgd] at k3 ⊢; exact or_two k3 q2)
 | true =>
  obtain ⟨q1, q2, e⟩ := ho rfl
  have q2 : gh = 0 \/ gh = v.n := q2
  subst e
  refine M.ys (b := true) rfl ?_
  refine M.n (b := v.k != 4) (by simp [q1]) ?_
  refine M.ts (gh != 0) (fun k0 => ?_) (fun k0 => ?_)
  ·have e : gh = v.n := by rcases q2 with q2 | q2 <;> simp_all
   refine M.n (b := gh != v.n) (by simp [e]) ?_
   refine M.n (b := fk != 1) (by simp [hf']) ?_
   refine M.n (b := fh != v.n) (by simp [hh']) ?_
   refine M.n (b := fs != gs) (by simp [hs']) ?_
   refine M.n (b := fset != (gk == 5)) (by simp [hset']) ?_
   refine M.cl (Find_ok u hu hc v.n hun) ?_
   refine M.n (b := (0 : Int) != 0) rfl ?_
   refine M.n (b := decide (gs >= ((objT u v.n).1.sl.length : Int))) (by simp; omega) ?_
   refine M.testp [0 <= gs /\ gs < ((objT u v.n).1.sl.length : Int)] (gk == 6) (by kernel_rfl) ⟨⟨h0', by omega⟩, trivial⟩ (fun k1 => ?_) (fun k1 => ?_)
   ·rcases hk' with ⟨q1, q2, q3⟩ | ⟨q1, -⟩ | ⟨q1, -⟩
    ·refine M.ys (b := ((objT u v.n).1.sl.getD gs.toNat default).v.k == 5) (by rw [hgd, q2]; rfl) ?_
     exact M.retb (((objT u v.n).1.sl.getD gs.toNat default).v.n == gc) (by kernel_rfl) (by rw [hgd, q3]; simp)
    ·simp [q1] at k1
    ·rcases q1 with q1 | q1 <;> simp [q1] at k1
   refine M.ts (gk == 3) (fun k2 => ?_) (fun k2 => ?_)
   ·rcases hk' with ⟨q1, -⟩ | ⟨q1, q2, q3⟩ | ⟨q1, -⟩
    ·simp [q1] at k1
    ·refine M.ys (b := vlEq ((objT u v.n).1.sl.getD gs.toNat default).v gv) (by rw [hgd, q2]; simp [vlEq]) ?_
     refine M.ts (((objT u v.n).1.sl.getD gs.toNat default).kd == 1) (fun k3 => M.retb true (by kernel_rfl) rfl) (fun k3 => ?_)
     exact M.retb (((objT u v.n).1.sl.getD gs.toNat default).kd == 3) (by kernel_rfl) (by rw [hgd] at k3 ⊢; exact or_two k3 q3)
    ·rcases q1 with q1 | q1 <;> simp [q1] at k2
   ·have q2 : s.kd = 2 \/ s.kd = 4 := by
     rcases hk' with ⟨q1, -⟩ | ⟨q1, -⟩ | ⟨-, q2⟩
     ·simp [q1] at k1
     ·simp [q1] at k2
     ·exact q2
    refine M.ts (((objT u v.n).1.sl.getD gs.toNat default).kd == 2) (fun k3 => M.retb true (by kernel_rfl) rfl) (fun k3 => ?_)
    exact M.retb (((objT u v.n).1.sl.getD gs.toNat default).kd == 4) (by kernel_rfl) (by rw [hgd] at k3 ⊢; exact or_two k3 q2)
  ·skip
   refine M.n (b := fk != 1) (by simp [hf']) ?_
   refine M.n (b := fh != v.n) (by simp [hh']) ?_
   refine M.n (b := fs != gs) (by simp [hs']) ?_
   refine M.n (b := fset != (gk == 5)) (by simp [hset']) ?_
   refine M.cl (Find_ok u hu hc v.n hun) ?_
   refine M.n (b := (0 : Int) != 0) rfl ?_
   refine M.n (b := decide (gs >= ((objT u v.n).1.sl.length : Int))) (by simp; omega) ?_
   refine M.testp [0 <= gs /\ gs < ((objT u v.n).1.sl.length : Int)] (gk == 6) (by kernel_rfl) ⟨⟨h0', by omega⟩, trivial⟩ (fun k1 => ?_) (fun k1 => ?_)
   ·rcases hk' with ⟨q1, q2, q3⟩ | ⟨q1, -⟩ | ⟨q1, -⟩
    ·refine M.ys (b := ((objT u v.n).1.sl.getD gs.toNat default).v.k == 5) (by rw [hgd, q2]; rfl) ?_
     exact M.retb (((objT u v.n).1.sl.getD gs.toNat default).v.n == gc) (by kernel_rfl) (by rw [hgd, q3]; simp)
    ·simp [q1] at k1
    ·rcases q1 with q1 | q1 <;> simp [q1] at k1
   refine M.ts (gk == 3) (fun k2 => ?_) (fun k2 => ?_)
   ·rcases hk' with ⟨q1, -⟩ | ⟨q1, q2, q3⟩ | ⟨q1, -⟩
    ·simp [q1] at k1
    ·refine M.ys (b := vlEq ((objT u v.n).1.sl.getD gs.toNat default).v gv) (by rw [hgd, q2]; simp [vlEq]) ?_
     refine M.ts (((objT u v.n).1.sl.getD gs.toNat default).kd == 1) (fun k3 => M.retb true (by kernel_rfl) rfl) (fun k3 => ?_)
     exact M.retb (((objT u v.n).1.sl.getD gs.toNat default).kd == 3) (by kernel_rfl) (by rw [hgd] at k3 ⊢; exact or_two k3 q3)
    ·rcases q1 with q1 | q1 <;> simp [q1] at k2
   ·have q2 : s.kd = 2 \/ s.kd = 4 := by
     rcases hk' with ⟨q1, -⟩ | ⟨q1, -⟩ | ⟨-, q2⟩
     ·simp [q1] at k1
     ·simp [q1] at k2
     ·exact q2
    refine M.ts (((objT u v.n).1.sl.getD gs.toNat default).kd == 2) (fun k3 => M.retb true (by kernel_rfl) rfl) (fun k3 => ?_)
    exact M.retb (((objT u v.n).1.sl.getD gs.toNat default).kd == 4) (by kernel_rfl) (by rw [hgd] at k3 ⊢; exact or_two k3 q2)
theorem allHoldG (w : Wd) (hw : w.Ok) (l : List Dp) (h0 : wcheckW w = 0) : Spec Tryz.prog 10 [.agg w.pv, row 8 Dp.pv l] (.sb (l.all (holdsT w))) := by
 refine Spec.fact (by kernel_rfl) 1 rfl fun hf => ?_
 have hl : l.length <= 9223372036854775807 := hf.1
 refine Spec.startL (by kernel_rfl) Tryz.func10 rfl rfl fun w0 L hst => ?_
 refine M.loopL (ι := {i : Nat // i <= l.length /\ l.all (holdsT w) = (l.drop i).all (holdsT w)}) (fun i => [(1, row 8 Dp.pv l), (2, .ref 0 0), (5, I i.1)]) (fun _ => [w.pv]) (fun i => l.length - i.1) ⟨0, Nat.zero_le _, rfl⟩ [] (by kernel_rfl) trivial (by kernel_rfl) (by kernel_rfl) fun ⟨i, hi, hq⟩ L ih => ?_
 refine M.ts (decide ((i : Int) < (l.length : Int))) (fun h1 => ?_) (fun h1 => ?_)
 ·have hlt : i < l.length := by simpa using h1
  rw [List.drop_eq_getElem_cons hlt, List.all_cons] at hq
  have hg : l.getD (i : Int).toNat default = l[i] := getD_nat hlt
  refine M.clp [0 <= (i : Int) /\ (i : Int) < (l.length : Int)] ⟨by omega, trivial⟩ (Holds_spec w hw (l.getD (i : Int).toNat default)) ?_
  have e : HoldsW w (l.getD (i : Int).toNat default) = (holdsT w l[i], 0) := by
   unfold HoldsW; rw [h0, hg]; rfl
  rw [e]
  refine M.n (b := (0 : Int) != 0) rfl ?_
  refine M.ts (!holdsT w l[i]) (fun h2 => M.retb false (by kernel_rfl) (by rw [hq, show holdsT w l[i] = false by simpa using h2]; rfl)) (fun h2 => ?_)
  refine M.rn [In64 ((i : Int) + 1)] [0] hst ⟨⟨by omega, by omega⟩, trivial⟩ fun L' => ?_
  exact M.bk [] (ih ⟨i + 1, hlt, by rw [hq, show holdsT w l[i] = true by simpa using h2]; rfl⟩ L' (by show l.length - (i + 1) < l.length - i; omega)) trivial
 ·have hd : l.drop i = [] := List.drop_eq_nil_of_le (by have := of_decide_eq_false h1; omega)
  rw [hd] at hq
  exact M.retb true (by kernel_rfl) (by rw [hq]; rfl)
theorem has_of {u : Wd} (hl : u.objs.length <= 1000000000) {n : Int} (h : (objT u n).2 = true) : Has u n := by
 cases hf : objF u n with
 | true => exact ⟨_, (objT_true hl hf).1, (objT_true hl hf).2.1⟩
 | false => unfold objT at h; rw [hf] at h; cases h
theorem more_v {u : Wd} (v : Vl) (h : smallT u = true) (hn : ∀ o ∈ u.objs, ∀ s ∈ o.sl, s.nm.length <= 140737488355328) : Clo u (moreU u [] ⟨1, 0, v⟩) /\ startF v ∈ moreU u [] ⟨1, 0, v⟩ /\ (moreU u [] ⟨1, 0, v⟩).length + 1 < 4000 := by
 have hk := more_ok (w := u) (maps := []) ⟨1, 0, v⟩ h rfl hn (fun m hm => by cases hm)
 refine ⟨hk.clo, hk.st, ?_⟩
 have := objU_len h
 have e : mapU [] = [] := rfl
 simp only [moreU, e, List.length_cons, List.length_append, List.length_nil]
 omega
abbrev litP : PV := .sl 1 1 (fun _ => [.any])
theorem clone_lit : SpecM Tryz.prog 98 0 [] [litP] [pth 1] (.os 3 0 1 1) := by
 refine SpecM.start (by kernel_rfl) Tryz.func98 rfl rfl (Nat.le_refl _) fun w0 L hst => ?_
 refine M.rn [0 < 1, (0 : Nat) = 0 /\ 0 < 1 /\ 0 + 1 <= 9223372036854775807 /\ (0 + 1) * 8 <= 140737488355328] [1] hst ⟨by omega, ⟨rfl, by omega, by omega, by omega⟩, trivial⟩ fun L' => ?_
 refine M.sigT [] [[.rws 1 (0 + 1) (fun j => (joinEl (fun j => (([] : List PV).drop (j * 1)).take 1) 0 (fun j => [.any]) j).map (renP (invF [1] 0) 7))]] [pth 1] (by kernel_rfl) trivial (by kernel_rfl) (by kernel_rfl) (.cons (.rws (Nat.zero_add _).symm fun j hj β L W us h => by
  unfold joinEl at h; rw [if_neg (Nat.not_lt_zero _)] at h; exact h) .nil) ?_
 exact M.retm (r' := .os 3 0 1 (0 + 1)) [] [0] hst rfl (by kernel_rfl) trivial rfl rfl
theorem lit_o {β : List (Option Nat)} {L : List Nat} {W : World} {u : Value} (h : R β L W litP u) : R β L W (.o .any) u := by
 rw [R] at h
 rw [R]
 obtain ⟨a, c, e, _⟩ := h
 exact ⟨by rw [e]; rfl, by rw [R]; trivial⟩
def LVisL (w : Wd) (sel : List UInt8) (U : List Int) (f : Nat) : Prop := ∀ (s : StL) (n : Int), n ∈ U -> unseenL U s.1 < f -> RoomL U s -> f <= 900000 -> SpecM Tryz.prog 31 2 (visS w sel s) [.ref 0 0, I n, litP] (visS w sel (visL w sel f s n)) (.tup [])
def LUpL (w : Wd) (sel : List UInt8) (U : List Int) (f : Nat) : Prop := ∀ (s : StL) (o : Ob), o.sl.length <= 1000000 -> (∀ v ∈ parL o.sl, startF v ∈ U /\ valueC v = 0 /\ In64 v.n) -> unseenL U s.1 < f -> RoomL U s -> f <= 900000 -> SpecM Tryz.prog 46 2 (visS w sel s) [.ref 0 0, .agg o.pv, litP] (visS w sel (upL w sel f (parL o.sl) s)) (.tup [])
theorem lup_lit {w : Wd} {sel : List UInt8} {U : List Int} (hU : LkW w U) (f : Nat) (hv : LVisC w sel U f) : LUpL w sel U f := by
 intro s o hl hlU hf hr hkf
 refine SpecM.start (by kernel_rfl) Tryz.func46 rfl rfl (Nat.le_of_ble_eq_true rfl) fun w0 L hst => ?_
 refine M.loopL (ι := {i : Nat // i <= o.sl.length}) (fun i => [(0, .ref 0 0), (2, litP), (6, .bm 31 0), (14, row 5 Sl.pv o.sl), (15, I o.sl.length), (16, I i.1)]) (fun i => visS w sel (upL w sel f (parL (o.sl.take i.1)) s) ++ [o.pv]) (fun i => o.sl.length - i.1) ⟨0, Nat.zero_le _⟩ [] (by kernel_rfl) trivial (by kernel_rfl) (by kernel_rfl) fun ⟨i, hi⟩ L ih => ?_
 refine M.ts (decide ((i : Int) < (o.sl.length : Int))) (fun h1 => ?_) (fun h1 => ?_)
 ·have hlt : i < o.sl.length := by simpa using h1
  have htk := parL_take hlt
  refine M.clp [0 <= (i : Int) /\ (i : Int) < (o.sl.length : Int)] ⟨by omega, trivial⟩ (leads_spec (o.sl.getD (i : Int).toNat default)) ?_
  refine M.ts (isPar (o.sl.getD (i : Int).toNat default)) (fun h2 => ?_) (fun h2 => ?_)
  ·rw [h2, cond_true] at htk
   obtain ⟨b1, b2, b3⟩ := hlU (o.sl.getD (i : Int).toNat default).v (by
    unfold parL
    exact List.mem_map.2 ⟨_, List.mem_filter.2 ⟨getD_mem (by omega), h2⟩, rfl⟩)
   have hmem : ∀ v ∈ parL (o.sl.take i), startF v ∈ U := fun v h => (hlU v (by
    have e : parL o.sl = parL (o.sl.take i) ++ parL (o.sl.drop i) := by rw [<- parL_app, List.take_append_drop]
    rw [e]; exact List.mem_append_left _ h)).1
   have hless := upL_less (visL_less hU.clo (sel := sel) f) (parL (o.sl.take i)) s hmem
   refine M.cl (gstart_spec w hU.so (o.sl.getD (i : Int).toNat default).v b3) ?_
   rw [gstW_of b2]
   refine M.cm [] clone_lit ?_
   refine M.rn [1 = 1 /\ 0 < 1 /\ 1 + 1 <= 9223372036854775807 /\ (1 + 1) * 8 <= 140737488355328] [0, 1, 2, 3, 4, 7] hst ⟨⟨rfl, by omega, by omega, by omega⟩, trivial⟩ fun L' => ?_
   refine M.sigT [] (visS w sel (upL w sel f (parL (o.sl.take i)) s) ++ [o.pv, [.rws 1 (1 + 1) (fun j => (joinEl (fun _ => [.any]) 1 (fun j => (([I i] : List PV).drop (j * 1)).take 1) j).map (renP (invF [0, 1, 2, 3, 4, 7] 0) 7))]]) (visS w sel (upL w sel f (parL (o.sl.take i)) s) ++ [o.pv, pth (1 + 1)]) (by kernel_rfl) trivial (by kernel_rfl) (by kernel_rfl)
    (.cons (.refl _) (.cons (.refl _) (.cons (.refl _) (.cons (.refl _) (.cons (.refl _) (.cons (pth_app 1 (I i) _ rfl) .nil)))))) ?_
   refine M.cm [0, 1, 2, 3, 5] (hv (upL w sel f (parL (o.sl.take i)) s) (startF (o.sl.getD (i : Int).toNat default).v) (1 + 1) b1 (Nat.lt_of_le_of_lt hless.un hf) (hless.room hr) (Nat.succ_pos _) (by omega)) ?_
   have e : visL w sel f (upL w sel f (parL (o.sl.take i)) s) (startF (o.sl.getD (i : Int).toNat default).v) = upL w sel f (parL (o.sl.take (i + 1))) s := by rw [htk, upL_app]; rfl
   rw [e]
   refine M.rn [In64 ((i : Int) + 1)] [0, 1, 6, 7, 4] hst ⟨⟨by omega, by omega⟩, trivial⟩ fun L' => ?_
   exact M.bk [] (ih ⟨i + 1, hlt⟩ L' (by show o.sl.length - (i + 1) < o.sl.length - i; omega)) trivial
  ·rw [h2, cond_false, List.append_nil] at htk
   refine M.rn [In64 ((i : Int) + 1)] [0, 1, 2, 3, 4] hst ⟨⟨by omega, by omega⟩, trivial⟩ fun L' => ?_
   have kk := ih ⟨i + 1, hlt⟩ L' (by show o.sl.length - (i + 1) < o.sl.length - i; omega)
   simp only [htk] at kk
   exact M.bk [] kk trivial
 ·have : i = o.sl.length := by have := of_decide_eq_false h1; omega
  subst this
  have e : o.sl.take o.sl.length = o.sl := List.take_length
  simp only [e]
  exact M.retm [] [0, 1, 2, 3] hst rfl (by kernel_rfl) trivial rfl rfl
theorem lvis_lit {w : Wd} {sel : List UInt8} {U : List Int} (hU : LkW w U) (hsel : sel.length <= 1000000000) (f : Nat) (hup : LUpL w sel U f) : LVisL w sel U (f + 1) := by
 intro s n hn hf hr hkf
 obtain ⟨sf, D, O⟩ := s
 have hr1 := hr.met
 have hr2 := hr.out
 simp only at hr1 hr2 hf
 unfold visL
 cases hs : sf (.i n) with
 | true =>
  simp only [hs, cond_true]
  refine SpecM.start (by kernel_rfl) Tryz.func31 rfl rfl (Nat.le_of_ble_eq_true rfl) fun w0 L hst => ?_
  refine M.cm [1] (put_spec sf n) ?_
  refine M.ys (b := !!sf (.i n)) (by rw [hs]; rfl) ?_
  exact M.retm [] [0, 1, 2, 3] hst rfl (by kernel_rfl) trivial rfl rfl
 | false =>
  simp only [hs, cond_false]
  have hlt := unseenL_lt hn hs
  have hol := objT_len w hU.ok n
  refine SpecM.start (by kernel_rfl) Tryz.func31 rfl rfl (Nat.le_of_ble_eq_true rfl) fun w0 L hst => ?_
  refine M.cm [1] (put_spec sf n) ?_
  refine M.n (b := !!sf (.i n)) (by rw [hs]; rfl) ?_
  refine M.rn [D.length = D.length /\ 0 < 1 /\ D.length + 1 <= 9223372036854775807 /\ (D.length + 1) * 8 <= 140737488355328] [0, 1, 4, 3] hst ⟨⟨rfl, by omega, by omega, by omega⟩, trivial⟩ fun L' => ?_
  refine M.sigT [] [visV w sel (D.length + 1) O.length, [.mp (.int .i64) (.v (updL sf n))], [.rws 1 (D.length + 1) (fun j => (joinEl (fun j => [I (D.getD j default)]) D.length (fun j => (([I n] : List PV).drop (j * 1)).take 1) j).map (renP (invF [0, 1, 4, 3] 0) 7))], hitS O] (visS w sel (updL sf n, D ++ [n], O)) (by kernel_rfl) trivial (by kernel_rfl) (by kernel_rfl)
   (.cons (by rw [List.length_append]; exact .refl _) (.cons (.refl _) (.cons (app_snocT (k := 1) (f := fun x : Int => [I x]) D n (ds := [I n]) (g := renP (invF [0, 1, 4, 3] 0) 7) rfl (fun x => rfl) fun β L W us h => h) (.cons (.refl _) .nil)))) ?_
  refine M.cl (gobj_spec w hU.so n) ?_
  refine M.cl (lmatch_spec (objT w n).1 sel hol hsel) ?_
  have hm := mtL_eq (objT w n).1.sl sel
  refine M.ts (mtL (objT w n).1.sl sel).2.2 (fun h1 => ?_) (fun h1 => ?_)
  ·have hd : decide ((matchF (objT w n).1.sl sel).1 >= 0) = true := by
    cases hd : decide ((matchF (objT w n).1.sl sel).1 >= 0) with
    | true => rfl
    | false => rw [hd] at hm; rw [hm] at h1; cases h1
   rw [hd, cond_true] at hm ⊢
   refine M.rn [O.length = O.length /\ 0 < 1 /\ O.length + 1 <= 9223372036854775807 /\ (O.length + 1) * 48 <= 140737488355328] [0, 1, 2, 5] hst ⟨⟨rfl, by omega, by omega, by omega⟩, trivial⟩ fun L' => ?_
   refine M.sigT [] [visV w sel (D ++ [n]).length (O.length + 1), [.mp (.int .i64) (.v (updL sf n))], metS (D ++ [n]), [.rws 4 (O.length + 1) (fun j => (joinEl (fun j => htV (O.getD j default)) O.length (fun j => (([I n, I (mtL (objT w n).1.sl sel).1, .sb (mtL (objT w n).1.sl sel).2.1, litP] : List PV).drop (j * 4)).take 4) j).map (renP (invF [0, 1, 2, 5] 0) 7))]] (visS w sel (updL sf n, D ++ [n], O ++ [⟨n, (matchF (objT w n).1.sl sel).1, (matchF (objT w n).1.sl sel).2⟩])) (by kernel_rfl) trivial (by kernel_rfl) (by kernel_rfl)
    (.cons (by simp only [List.length_append, List.length_cons, List.length_nil]; exact .refl _) (.cons (.refl _) (.cons (.refl _) (.cons (app_snocT (k := 4) (f := htV) O ⟨n, (matchF (objT w n).1.sl sel).1, (matchF (objT w n).1.sl sel).2⟩ (ds := [I n, I (mtL (objT w n).1.sl sel).1, .sb (mtL (objT w n).1.sl sel).2.1, litP]) (g := renP (invF [0, 1, 2, 5] 0) 7) rfl (fun x => rfl) fun β L W us h => by
     rw [hm] at h
     obtain ⟨u0, us, rfl, h0, h⟩ := h.uncons
     obtain ⟨u1, us, rfl, h1, h⟩ := h.uncons
     obtain ⟨u2, us, rfl, h2, h⟩ := h.uncons
     obtain ⟨u3, us, rfl, h3, h⟩ := h.uncons
     exact .cons h0 (.cons h1 (.cons h2 (.cons (lit_o h3) h)))) .nil)))) ?_
   exact M.retm [] [0, 1, 2, 3] hst rfl (by kernel_rfl) trivial rfl rfl
  ·have hd : decide ((matchF (objT w n).1.sl sel).1 >= 0) = false := by
    cases hd : decide ((matchF (objT w n).1.sl sel).1 >= 0) with
    | true => rw [hd] at hm; rw [hm] at h1; cases h1
    | false => rfl
   rw [hd, cond_false]
   refine M.cm [0, 1, 2, 3] (hup (updL sf n, D ++ [n], O) (objT w n).1 hol (fun v hv => ⟨hU.clo.clo n hn v hv, hU.val n hn v hv⟩) (by show unseenL U (updL sf n) < f; omega) ⟨by simp only [List.length_append, List.length_cons, List.length_nil]; omega, by simp only; omega⟩ (by omega)) ?_
   exact M.retm [] [0, 1, 5, 6] hst rfl (by kernel_rfl) trivial rfl rfl
theorem lupL {w : Wd} {sel : List UInt8} {U : List Int} (hU : LkW w U) (hsel : sel.length <= 1000000000) (f : Nat) : LUpL w sel U f := lup_lit hU f (lvisC hU hsel f)
theorem lvisL {w : Wd} {sel : List UInt8} {U : List Int} (hU : LkW w U) (hsel : sel.length <= 1000000000) : ∀ f, LVisL w sel U f
 | 0 => fun s n hn hf => absurd hf (Nat.not_lt_zero _)
 | f + 1 => lvis_lit hU hsel f (fun s o h1 h2 h3 h4 h5 => lupL hU hsel f s o h1 h2 h3 h4 (by omega))
end Go.Proofs.YtplpnfjccemdnaaGreatDoor
