import Derived.Test.YtplpnfjccemdnaaGreatDoorJ19
set_option linter.unusedVariables false
set_option linter.unusedSimpArgs false
/- The texts E7 of the proof, laid one behind the other. -/
namespace Go.Proofs.YtplpnfjccemdnaaGreatDoor
open Go.RowKit
theorem getD_mem {α : Type} [Inhabited α] {l : List α} {p : Nat} (h : p < l.length) : l.getD p default ∈ l := by rw [List.getD_eq_getElem?_getD]; simp [h]
theorem selsL_drop {l : List Int} {p : Nat} {s : Int} (h : p < l.length) : selsL (l.drop p) s = bif decide (l.getD p default > s) then none else selsL (l.drop (p + 1)) (mx s (l.getD p default + 1)) := by
 rw [List.drop_eq_getElem_cons h, selsL]
 simp [List.getD_eq_getElem?_getD, h]
theorem mx_le (a b : Int) : a <= mx a b /\ b <= mx a b /\ (mx a b <= a \/ mx a b <= b) := by unfold mx; split <;> omega
theorem usedL_in {x : In} (ha : In64 x.a) (hc : In64 x.c) : ∀ v ∈ usedL x, In64 v := by
 unfold usedL
 intro v hv
 cases h1 : x.op == 3 <;> cases h2 : x.op == 4 <;> cases h3 : x.op == 6 <;> cases h4 : x.op == 5 <;> cases h5 : decide (x.c > 0) <;> rw [h1, h2, h3, h4, h5] at hv <;> simp at hv <;> (try (subst hv; exact ha))
 all_goals (try (rcases hv with rfl | rfl; exact ha; have := of_decide_eq_true h5; exact ⟨by omega, by have := hc.2; omega⟩))
theorem usedL_len (x : In) : (usedL x).length <= 2 := by
 unfold usedL
 cases x.op == 3 <;> cases x.op == 4 <;> cases x.op == 6 <;> cases x.op == 5 <;> cases decide (x.c > 0) <;> simp
set_option maxHeartbeats 1000000 in
theorem body_spec (j : Jd) (hins : ∀ x ∈ j.c.ins, In64 x.a /\ In64 x.b /\ In64 x.c) (hlits : j.c.lits.length <= 1000000000) (hsels : j.c.sels.length <= 1000000000) : Spec Tryz.prog 125 [.ptr j.pv] (.sb (bodyC j)) := by
 refine Spec.startRN (by kernel_rfl) Tryz.func125 rfl rfl fun w0 L hst hro hmk hown => ?_
 refine M.tq (r := bodyC j) rfl (fun h1 q1 => M.rq q1) (fun h1 q1 => ?_)
 refine M.tq q1 (fun h2 q2 => M.rq q2) (fun h2 q2 => ?_)
 have hlen : j.c.ins.length <= 400 := by have := of_decide_eq_false h2; omega
 clear h1 h2 q1
 refine M.cl crules_spec ?_
 refine M.frz [] 1 hown (by kernel_rfl) trivial (by kernel_rfl) (by kernel_rfl) ?_
 refine M.rn [] [0, 2] hst trivial fun L1 => ?_
 refine M.loopL (ι := {q : Nat × Int × Int × Int // q.1 <= j.c.ins.length /\ (0 <= q.2.1 /\ q.2.1 <= 100) /\ (0 <= q.2.2.1 /\ q.2.2.1 <= q.1) /\ (0 <= q.2.2.2 /\ q.2.2.2 <= 2 * q.1) /\ bodyL j (j.c.ins.drop q.1) q.1 q.2.1 q.2.2.1 q.2.2.2 = bodyC j})
  (fun q => [(0, .ptr j.pv), (2, .ref 0 0), (3, .ptr rulesL), (4, I q.1.2.1), (5, I q.1.2.2.1), (6, .ref 1 0), (32, row 4 In.pv j.c.ins), (33, I j.c.ins.length), (34, I q.1.1)]) (fun q => [[.v (.bool false)], [I q.1.2.2.2]]) (fun q => j.c.ins.length - q.1.1) ⟨(0, 0, 0, 0), by simp, by simp, by simp, by simp, q2⟩ [] (by kernel_rfl) trivial (by kernel_rfl) (by kernel_rfl) fun ⟨(i, h, lits, sels), hi, hh, hl, hs, hq⟩ L ih => ?_
 simp only at hi hh hl hs hq
 refine M.ts (decide ((i : Int) < (j.c.ins.length : Int))) (fun h1 => ?_) (fun h1 => ?_)
 case refine_2 =>
  rw [loop_nil (nlt_of_dec h1), bodyL] at hq
  refine M.tq hq (fun h2 q3 => ?_) (fun h2 q3 => M.rq q3)
  refine M.tq q3 (fun h3 q4 => ?_) (fun h3 q4 => M.rq q4)
  refine M.cl (distV_spec j.c.lits hlits) ?_
  refine M.tq q4 (fun h4 q5 => ?_) (fun h4 q5 => M.rq q5)
  refine M.cl (distS_spec j.c.sels hsels) ?_
  exact M.rq q5
 have hlt : i < j.c.ins.length := by simpa using h1
 rw [loop_cons hlt] at hq
 have hm : j.c.ins.getD (i : Int).toNat default ∈ j.c.ins := by rw [List.getD_eq_getElem?_getD]; simp [hlt]
 have hx64 := hins _ hm
 obtain ⟨x, hx⟩ : ∃ x, j.c.ins.getD (i : Int).toNat default = x := ⟨_, rfl⟩
 rw [hx] at hq hx64
 refine M.sigN 15 [0 <= (i : Int) /\ (i : Int) < (j.c.ins.length : Int)] [[.v (.bool false)], [I sels], In.pv (j.c.ins.getD (i : Int).toNat default)] [[.v (.bool false)], [I sels], In.pv x] (by kernel_rfl) ⟨by omega, trivial⟩ (by kernel_rfl) (by kernel_rfl) (SigEq.of (by rw [hx])) ?_
 clear hx hm h1 q2
 obtain ⟨op, a, b, c⟩ := x
 simp only at hx64
 by_cases e1 : op = 1
 ·subst e1
  have hu := usedL_in (x := ⟨1, a, b, c⟩) hx64.1 hx64.2.2
  refine M.cl (insRC_spec (fun j => (rulesL.drop (j * 3)).take 3) 1) ?_
  refine M.n (b := !insRC 1) rfl ?_
  refine M.n (b := (1 : Int) == 0) rfl ?_
  refine M.clp [0 <= (1 : Int) /\ (1 : Int) < 11] ⟨by decide, trivial⟩ (constC_spec j ⟨1, a, b, c⟩) ?_
  rw [bodyL] at hq
  replace hq : (bif !constC j ⟨1, a, b, c⟩ then false else bif false != lastC j.c.ins.length i then false else bif decide (a > lits) then false else match selsL (usedL ⟨1, a, b, c⟩) sels with | none => false | some sels' => bif decide (h - noneC ⟨1, a, b, c⟩ < 0) then false else bif decide (h - noneC ⟨1, a, b, c⟩ + 1 > 100) then false else bodyL j (j.c.ins.drop (i + 1)) (i + 1) (h - noneC ⟨1, a, b, c⟩ + 1) (mx lits (a + 1)) sels') = bodyC j := by
   rw [<- hq]
   cases hl0 : lastC j.c.ins.length i <;> rfl
  refine M.tq hq (fun h2 q2 => M.rq q2) (fun h2 q2 => ?_)
  clear hq
  have hr : constC j ⟨1, a, b, c⟩ = true := by simpa using h2
  have hb : 0 <= a /\ a < j.c.lits.length := constC_a hr
  clear h2
  refine M.testp [In64 ((j.c.ins.length : Int) - 1)] ((1 : Int) == 9) (by kernel_rfl) ⟨⟨by omega, by omega⟩, trivial⟩ (fun h3 => absurd h3 (by decide)) (fun h3 => ?_)
  clear h3
  refine M.tq q2 (fun h3 q3 => M.rq q3) (fun h3 q3 => ?_)
  have hlast : lastC j.c.ins.length i = false := by simpa using h3
  refine M.n (b := lastC j.c.ins.length i) hlast ?_
  clear q2
  refine M.ys (b := (1 : Int) == 1) rfl ?_
  replace q2 := q3
  clear q3
  refine M.tq q2 (fun h5 q3 => M.rq q3) (fun h5 q3 => ?_)
  have h5' := of_decide_eq_false h5
  clear q2
  refine M.clp [In64 (a + 1)] ⟨⟨by omega, by omega⟩, trivial⟩ (used_spec ⟨1, a, b, c⟩) ?_
  refine M.rangeF (ι := {q : Nat × Int // q.1 <= (usedL ⟨1, a, b, c⟩).length /\ (0 <= q.2 /\ q.2 <= 2 * i + q.1) /\ selsL (usedL ⟨1, a, b, c⟩) sels = selsL ((usedL ⟨1, a, b, c⟩).drop q.1) q.2}) (ζ := {s : Int // selsL (usedL ⟨1, a, b, c⟩) sels = none}) (fun q => [[.v (.bool false)], [I q.1.2], In.pv ⟨1, a, b, c⟩]) (fun q => q.1.1) ⟨(0, sels), Nat.zero_le _, ⟨hs.1, by simpa using hs.2⟩, rfl⟩
   (fun z => [[.v (.bool false)], [I z.1], In.pv ⟨1, a, b, c⟩]) (fun _ => .ret) [(0, .ptr j.pv), (2, .ref 0 0), (3, .ptr rulesL), (4, I h), (5, I (mx lits (a + 1))), (6, .ref 1 0), (8, .ref 2 0), (32, row 4 In.pv j.c.ins), (33, I j.c.ins.length), (34, I i)] 3 (used_iter ⟨1, a, b, c⟩ hx64.2.2.2) []
   (fun q => (10, I ((usedL ⟨1, a, b, c⟩).getD q.1.1 default)) :: (100, I ((usedL ⟨1, a, b, c⟩).getD q.1.1 default)) :: [(0, .ptr j.pv), (2, .ref 0 0), (3, .ptr rulesL), (4, I h), (5, I (mx lits (a + 1))), (6, .ref 1 0), (8, .ref 2 0), (32, row 4 In.pv j.c.ins), (33, I j.c.ins.length), (34, I i)])
   (fun q => [[.v (.bool false)], [I q.1.2], In.pv ⟨1, a, b, c⟩]) trivial rfl (by rw [hst]; exact Nat.zero_le _) hro hmk (fun x hx => nomatch hx)
   (by kernel_rfl) (by kernel_rfl) (by kernel_rfl) (by kernel_rfl) rfl (by kernel_rfl) (by kernel_rfl) (by kernel_rfl) (fun _ => rfl) (fun _ => by kernel_rfl) (by kernel_rfl) (fun _ => by kernel_rfl)
   (fun ⟨(p, s), hp, hsb, hsel⟩ w2 L2 hlt2 hst2 => ?_) (fun ⟨(p, s), hp, hsb, hsel⟩ L' _ hn => ?_) (fun _ v hf => nomatch hf) (fun ⟨z, hz⟩ L' => ?_)
  ·have hlt2' : p < (usedL ⟨1, a, b, c⟩).length := hlt2
   simp only at hsb hsel
   rw [selsL_drop hlt2'] at hsel
   have hv := hu _ (getD_mem hlt2')
   have hul := usedL_len ⟨1, a, b, c⟩
   refine M.ts (decide ((usedL ⟨1, a, b, c⟩).getD p default > s)) (fun h6 => ?_) (fun h6 => ?_)
   ·rw [h6] at hsel
    exact M.stoprF (ζ := {s : Int // selsL (usedL ⟨1, a, b, c⟩) sels = none}) ⟨s, hsel⟩ [] (by kernel_rfl) trivial (by kernel_rfl) (by kernel_rfl) (by kernel_rfl)
   ·rw [h6] at hsel
    have h6' := of_decide_eq_false h6
    have hm1 := mx_le s ((usedL ⟨1, a, b, c⟩).getD p default + 1)
    exact M.next (ι := {q : Nat × Int // q.1 <= (usedL ⟨1, a, b, c⟩).length /\ (0 <= q.2 /\ q.2 <= 2 * i + q.1) /\ selsL (usedL ⟨1, a, b, c⟩) sels = selsL ((usedL ⟨1, a, b, c⟩).drop q.1) q.2}) ⟨(p + 1, mx s ((usedL ⟨1, a, b, c⟩).getD p default + 1)), hlt2', ⟨by simp only; omega, by simp only; omega⟩, hsel⟩ rfl [In64 ((usedL ⟨1, a, b, c⟩).getD p default + 1)] (by kernel_rfl) ⟨⟨by have := hv.1; omega, by omega⟩, trivial⟩ (by kernel_rfl) (by kernel_rfl) (by kernel_rfl)
  ·have hn' : p = (usedL ⟨1, a, b, c⟩).length := hn
   simp only at hsb hsel
   rw [hn', List.drop_length] at hsel
   have hul := usedL_len ⟨1, a, b, c⟩
   rw [hsel] at q3
   simp only [selsL] at q3
   refine M.clp [0 <= (1 : Int) /\ (1 : Int) < 11] ⟨by decide, trivial⟩ (noneC_spec ⟨1, a, b, c⟩) ?_
   have ht : 0 <= noneC ⟨1, a, b, c⟩ /\ noneC ⟨1, a, b, c⟩ <= 20 := by rw [(show noneC ⟨1, a, b, c⟩ = 0 from rfl)]; omega
   refine M.tqp [In64 (h - noneC ⟨1, a, b, c⟩)] ⟨⟨by omega, by omega⟩, trivial⟩ q3 (fun h7 q4 => M.rq q4) (fun h7 q4 => ?_)
   have h7' := of_decide_eq_false h7
   refine M.n (b := (1 : Int) == 8) rfl ?_
   refine M.tqp [0 <= (1 : Int) /\ (1 : Int) < 11, In64 (h - noneC ⟨1, a, b, c⟩ + 1)] ⟨by decide, ⟨by omega, by omega⟩, trivial⟩ q4 (fun h8 q5 => M.rq q5) (fun h8 q5 => ?_)
   have h8' := of_decide_eq_false h8
   refine M.rn [In64 ((i : Int) + 1)] [0, 1] hst ⟨⟨by omega, by omega⟩, trivial⟩ fun L3 => ?_
   have hm2 := mx_le lits (a + 1)
   exact M.bk [] (ih ⟨(i + 1, h - noneC ⟨1, a, b, c⟩ + 1, mx lits (a + 1), s), hlt, ⟨by simp only; omega, by simp only; omega⟩, ⟨by simp only; omega, by simp only; omega⟩, ⟨by simp only; omega, by simp only; omega⟩, q5⟩ L3 (by show j.c.ins.length - (i + 1) < j.c.ins.length - i; omega)) trivial
  ·rw [hz] at q3
   exact M.rq q3
 by_cases e2 : op = 2
 ·subst e2
  have hu := usedL_in (x := ⟨2, a, b, c⟩) hx64.1 hx64.2.2
  refine M.cl (insRC_spec (fun j => (rulesL.drop (j * 3)).take 3) 2) ?_
  refine M.n (b := !insRC 2) rfl ?_
  refine M.n (b := (2 : Int) == 0) rfl ?_
  refine M.clp [0 <= (2 : Int) /\ (2 : Int) < 11] ⟨by decide, trivial⟩ (plainC_spec j ⟨2, a, b, c⟩) ?_
  rw [bodyL] at hq
  replace hq : (bif !plainC j ⟨2, a, b, c⟩ then false else bif false != lastC j.c.ins.length i then false else match selsL (usedL ⟨2, a, b, c⟩) sels with | none => false | some sels' => bif decide (h - noneC ⟨2, a, b, c⟩ < 0) then false else bif decide (h - noneC ⟨2, a, b, c⟩ + 1 > 100) then false else bodyL j (j.c.ins.drop (i + 1)) (i + 1) (h - noneC ⟨2, a, b, c⟩ + 1) (lits) sels') = bodyC j := by
   rw [<- hq]
   cases hl0 : lastC j.c.ins.length i <;> rfl
  refine M.tq hq (fun h2 q2 => M.rq q2) (fun h2 q2 => ?_)
  clear hq
  have hr : plainC j ⟨2, a, b, c⟩ = true := by simpa using h2
  clear h2
  refine M.testp [In64 ((j.c.ins.length : Int) - 1)] ((2 : Int) == 9) (by kernel_rfl) ⟨⟨by omega, by omega⟩, trivial⟩ (fun h3 => absurd h3 (by decide)) (fun h3 => ?_)
  clear h3
  refine M.tq q2 (fun h3 q3 => M.rq q3) (fun h3 q3 => ?_)
  have hlast : lastC j.c.ins.length i = false := by simpa using h3
  refine M.n (b := lastC j.c.ins.length i) hlast ?_
  clear q2
  refine M.n (b := (2 : Int) == 1) rfl ?_
  refine M.cl (used_spec ⟨2, a, b, c⟩) ?_
  refine M.rangeF (ι := {q : Nat × Int // q.1 <= (usedL ⟨2, a, b, c⟩).length /\ (0 <= q.2 /\ q.2 <= 2 * i + q.1) /\ selsL (usedL ⟨2, a, b, c⟩) sels = selsL ((usedL ⟨2, a, b, c⟩).drop q.1) q.2}) (ζ := {s : Int // selsL (usedL ⟨2, a, b, c⟩) sels = none}) (fun q => [[.v (.bool false)], [I q.1.2], In.pv ⟨2, a, b, c⟩]) (fun q => q.1.1) ⟨(0, sels), Nat.zero_le _, ⟨hs.1, by simpa using hs.2⟩, rfl⟩
   (fun z => [[.v (.bool false)], [I z.1], In.pv ⟨2, a, b, c⟩]) (fun _ => .ret) [(0, .ptr j.pv), (2, .ref 0 0), (3, .ptr rulesL), (4, I h), (5, I (lits)), (6, .ref 1 0), (8, .ref 2 0), (32, row 4 In.pv j.c.ins), (33, I j.c.ins.length), (34, I i)] 3 (used_iter ⟨2, a, b, c⟩ hx64.2.2.2) []
   (fun q => (10, I ((usedL ⟨2, a, b, c⟩).getD q.1.1 default)) :: (100, I ((usedL ⟨2, a, b, c⟩).getD q.1.1 default)) :: [(0, .ptr j.pv), (2, .ref 0 0), (3, .ptr rulesL), (4, I h), (5, I (lits)), (6, .ref 1 0), (8, .ref 2 0), (32, row 4 In.pv j.c.ins), (33, I j.c.ins.length), (34, I i)])
   (fun q => [[.v (.bool false)], [I q.1.2], In.pv ⟨2, a, b, c⟩]) trivial rfl (by rw [hst]; exact Nat.zero_le _) hro hmk (fun x hx => nomatch hx)
   (by kernel_rfl) (by kernel_rfl) (by kernel_rfl) (by kernel_rfl) rfl (by kernel_rfl) (by kernel_rfl) (by kernel_rfl) (fun _ => rfl) (fun _ => by kernel_rfl) (by kernel_rfl) (fun _ => by kernel_rfl)
   (fun ⟨(p, s), hp, hsb, hsel⟩ w2 L2 hlt2 hst2 => ?_) (fun ⟨(p, s), hp, hsb, hsel⟩ L' _ hn => ?_) (fun _ v hf => nomatch hf) (fun ⟨z, hz⟩ L' => ?_)
  ·have hlt2' : p < (usedL ⟨2, a, b, c⟩).length := hlt2
   simp only at hsb hsel
   rw [selsL_drop hlt2'] at hsel
   have hv := hu _ (getD_mem hlt2')
   have hul := usedL_len ⟨2, a, b, c⟩
   refine M.ts (decide ((usedL ⟨2, a, b, c⟩).getD p default > s)) (fun h6 => ?_) (fun h6 => ?_)
   ·rw [h6] at hsel
    exact M.stoprF (ζ := {s : Int // selsL (usedL ⟨2, a, b, c⟩) sels = none}) ⟨s, hsel⟩ [] (by kernel_rfl) trivial (by kernel_rfl) (by kernel_rfl) (by kernel_rfl)
   ·rw [h6] at hsel
    have h6' := of_decide_eq_false h6
    have hm1 := mx_le s ((usedL ⟨2, a, b, c⟩).getD p default + 1)
    exact M.next (ι := {q : Nat × Int // q.1 <= (usedL ⟨2, a, b, c⟩).length /\ (0 <= q.2 /\ q.2 <= 2 * i + q.1) /\ selsL (usedL ⟨2, a, b, c⟩) sels = selsL ((usedL ⟨2, a, b, c⟩).drop q.1) q.2}) ⟨(p + 1, mx s ((usedL ⟨2, a, b, c⟩).getD p default + 1)), hlt2', ⟨by simp only; omega, by simp only; omega⟩, hsel⟩ rfl [In64 ((usedL ⟨2, a, b, c⟩).getD p default + 1)] (by kernel_rfl) ⟨⟨by have := hv.1; omega, by omega⟩, trivial⟩ (by kernel_rfl) (by kernel_rfl) (by kernel_rfl)
  ·have hn' : p = (usedL ⟨2, a, b, c⟩).length := hn
   simp only at hsb hsel
   rw [hn', List.drop_length] at hsel
   have hul := usedL_len ⟨2, a, b, c⟩
   rw [hsel] at q3
   simp only [selsL] at q3
   refine M.clp [0 <= (2 : Int) /\ (2 : Int) < 11] ⟨by decide, trivial⟩ (noneC_spec ⟨2, a, b, c⟩) ?_
   have ht : 0 <= noneC ⟨2, a, b, c⟩ /\ noneC ⟨2, a, b, c⟩ <= 20 := by rw [(show noneC ⟨2, a, b, c⟩ = 0 from rfl)]; omega
   refine M.tqp [In64 (h - noneC ⟨2, a, b, c⟩)] ⟨⟨by omega, by omega⟩, trivial⟩ q3 (fun h7 q4 => M.rq q4) (fun h7 q4 => ?_)
   have h7' := of_decide_eq_false h7
   refine M.n (b := (2 : Int) == 8) rfl ?_
   refine M.tqp [0 <= (2 : Int) /\ (2 : Int) < 11, In64 (h - noneC ⟨2, a, b, c⟩ + 1)] ⟨by decide, ⟨by omega, by omega⟩, trivial⟩ q4 (fun h8 q5 => M.rq q5) (fun h8 q5 => ?_)
   have h8' := of_decide_eq_false h8
   refine M.rn [In64 ((i : Int) + 1)] [0, 1] hst ⟨⟨by omega, by omega⟩, trivial⟩ fun L3 => ?_
   exact M.bk [] (ih ⟨(i + 1, h - noneC ⟨2, a, b, c⟩ + 1, lits, s), hlt, ⟨by simp only; omega, by simp only; omega⟩, ⟨by simp only; omega, by simp only; omega⟩, ⟨by simp only; omega, by simp only; omega⟩, q5⟩ L3 (by show j.c.ins.length - (i + 1) < j.c.ins.length - i; omega)) trivial
  ·rw [hz] at q3
   exact M.rq q3
 by_cases e3 : op = 3
 ·subst e3
  have hu := usedL_in (x := ⟨3, a, b, c⟩) hx64.1 hx64.2.2
  refine M.cl (insRC_spec (fun j => (rulesL.drop (j * 3)).take 3) 3) ?_
  refine M.n (b := !insRC 3) rfl ?_
  refine M.n (b := (3 : Int) == 0) rfl ?_
  refine M.clp [0 <= (3 : Int) /\ (3 : Int) < 11] ⟨by decide, trivial⟩ (sendrC_spec j ⟨3, a, b, c⟩) ?_
  rw [bodyL] at hq
  replace hq : (bif !sendrC j ⟨3, a, b, c⟩ then false else bif false != lastC j.c.ins.length i then false else match selsL (usedL ⟨3, a, b, c⟩) sels with | none => false | some sels' => bif decide (h - sendtC ⟨3, a, b, c⟩ < 0) then false else bif decide (h - sendtC ⟨3, a, b, c⟩ + 1 > 100) then false else bodyL j (j.c.ins.drop (i + 1)) (i + 1) (h - sendtC ⟨3, a, b, c⟩ + 1) (lits) sels') = bodyC j := by
   rw [<- hq]
   cases hl0 : lastC j.c.ins.length i <;> rfl
  refine M.tq hq (fun h2 q2 => M.rq q2) (fun h2 q2 => ?_)
  clear hq
  have hr : sendrC j ⟨3, a, b, c⟩ = true := by simpa using h2
  have hb : 0 <= b /\ b <= 8 := sendrC_b hr
  clear h2
  refine M.testp [In64 ((j.c.ins.length : Int) - 1)] ((3 : Int) == 9) (by kernel_rfl) ⟨⟨by omega, by omega⟩, trivial⟩ (fun h3 => absurd h3 (by decide)) (fun h3 => ?_)
  clear h3
  refine M.tq q2 (fun h3 q3 => M.rq q3) (fun h3 q3 => ?_)
  have hlast : lastC j.c.ins.length i = false := by simpa using h3
  refine M.n (b := lastC j.c.ins.length i) hlast ?_
  clear q2
  refine M.n (b := (3 : Int) == 1) rfl ?_
  refine M.cl (used_spec ⟨3, a, b, c⟩) ?_
  refine M.rangeF (ι := {q : Nat × Int // q.1 <= (usedL ⟨3, a, b, c⟩).length /\ (0 <= q.2 /\ q.2 <= 2 * i + q.1) /\ selsL (usedL ⟨3, a, b, c⟩) sels = selsL ((usedL ⟨3, a, b, c⟩).drop q.1) q.2}) (ζ := {s : Int // selsL (usedL ⟨3, a, b, c⟩) sels = none}) (fun q => [[.v (.bool false)], [I q.1.2], In.pv ⟨3, a, b, c⟩]) (fun q => q.1.1) ⟨(0, sels), Nat.zero_le _, ⟨hs.1, by simpa using hs.2⟩, rfl⟩
   (fun z => [[.v (.bool false)], [I z.1], In.pv ⟨3, a, b, c⟩]) (fun _ => .ret) [(0, .ptr j.pv), (2, .ref 0 0), (3, .ptr rulesL), (4, I h), (5, I (lits)), (6, .ref 1 0), (8, .ref 2 0), (32, row 4 In.pv j.c.ins), (33, I j.c.ins.length), (34, I i)] 3 (used_iter ⟨3, a, b, c⟩ hx64.2.2.2) []
   (fun q => (10, I ((usedL ⟨3, a, b, c⟩).getD q.1.1 default)) :: (100, I ((usedL ⟨3, a, b, c⟩).getD q.1.1 default)) :: [(0, .ptr j.pv), (2, .ref 0 0), (3, .ptr rulesL), (4, I h), (5, I (lits)), (6, .ref 1 0), (8, .ref 2 0), (32, row 4 In.pv j.c.ins), (33, I j.c.ins.length), (34, I i)])
   (fun q => [[.v (.bool false)], [I q.1.2], In.pv ⟨3, a, b, c⟩]) trivial rfl (by rw [hst]; exact Nat.zero_le _) hro hmk (fun x hx => nomatch hx)
   (by kernel_rfl) (by kernel_rfl) (by kernel_rfl) (by kernel_rfl) rfl (by kernel_rfl) (by kernel_rfl) (by kernel_rfl) (fun _ => rfl) (fun _ => by kernel_rfl) (by kernel_rfl) (fun _ => by kernel_rfl)
   (fun ⟨(p, s), hp, hsb, hsel⟩ w2 L2 hlt2 hst2 => ?_) (fun ⟨(p, s), hp, hsb, hsel⟩ L' _ hn => ?_) (fun _ v hf => nomatch hf) (fun ⟨z, hz⟩ L' => ?_)
  ·have hlt2' : p < (usedL ⟨3, a, b, c⟩).length := hlt2
   simp only at hsb hsel
   rw [selsL_drop hlt2'] at hsel
   have hv := hu _ (getD_mem hlt2')
   have hul := usedL_len ⟨3, a, b, c⟩
   refine M.ts (decide ((usedL ⟨3, a, b, c⟩).getD p default > s)) (fun h6 => ?_) (fun h6 => ?_)
   ·rw [h6] at hsel
    exact M.stoprF (ζ := {s : Int // selsL (usedL ⟨3, a, b, c⟩) sels = none}) ⟨s, hsel⟩ [] (by kernel_rfl) trivial (by kernel_rfl) (by kernel_rfl) (by kernel_rfl)
   ·rw [h6] at hsel
    have h6' := of_decide_eq_false h6
    have hm1 := mx_le s ((usedL ⟨3, a, b, c⟩).getD p default + 1)
    exact M.next (ι := {q : Nat × Int // q.1 <= (usedL ⟨3, a, b, c⟩).length /\ (0 <= q.2 /\ q.2 <= 2 * i + q.1) /\ selsL (usedL ⟨3, a, b, c⟩) sels = selsL ((usedL ⟨3, a, b, c⟩).drop q.1) q.2}) ⟨(p + 1, mx s ((usedL ⟨3, a, b, c⟩).getD p default + 1)), hlt2', ⟨by simp only; omega, by simp only; omega⟩, hsel⟩ rfl [In64 ((usedL ⟨3, a, b, c⟩).getD p default + 1)] (by kernel_rfl) ⟨⟨by have := hv.1; omega, by omega⟩, trivial⟩ (by kernel_rfl) (by kernel_rfl) (by kernel_rfl)
  ·have hn' : p = (usedL ⟨3, a, b, c⟩).length := hn
   simp only at hsb hsel
   rw [hn', List.drop_length] at hsel
   have hul := usedL_len ⟨3, a, b, c⟩
   rw [hsel] at q3
   simp only [selsL] at q3
   refine M.clp [0 <= (3 : Int) /\ (3 : Int) < 11] ⟨by decide, trivial⟩ (sendtC_spec ⟨3, a, b, c⟩ ⟨by show -1000000000 <= b; omega, by show b <= 1000000000; omega⟩) ?_
   have ht : 0 <= sendtC ⟨3, a, b, c⟩ /\ sendtC ⟨3, a, b, c⟩ <= 20 := by rw [(show sendtC ⟨3, a, b, c⟩ = b + 1 from rfl)]; omega
   refine M.tqp [In64 (h - sendtC ⟨3, a, b, c⟩)] ⟨⟨by omega, by omega⟩, trivial⟩ q3 (fun h7 q4 => M.rq q4) (fun h7 q4 => ?_)
   have h7' := of_decide_eq_false h7
   refine M.n (b := (3 : Int) == 8) rfl ?_
   refine M.tqp [0 <= (3 : Int) /\ (3 : Int) < 11, In64 (h - sendtC ⟨3, a, b, c⟩ + 1)] ⟨by decide, ⟨by omega, by omega⟩, trivial⟩ q4 (fun h8 q5 => M.rq q5) (fun h8 q5 => ?_)
   have h8' := of_decide_eq_false h8
   refine M.rn [In64 ((i : Int) + 1)] [0, 1] hst ⟨⟨by omega, by omega⟩, trivial⟩ fun L3 => ?_
   exact M.bk [] (ih ⟨(i + 1, h - sendtC ⟨3, a, b, c⟩ + 1, lits, s), hlt, ⟨by simp only; omega, by simp only; omega⟩, ⟨by simp only; omega, by simp only; omega⟩, ⟨by simp only; omega, by simp only; omega⟩, q5⟩ L3 (by show j.c.ins.length - (i + 1) < j.c.ins.length - i; omega)) trivial
  ·rw [hz] at q3
   exact M.rq q3
 by_cases e4 : op = 4
 ·subst e4
  have hu := usedL_in (x := ⟨4, a, b, c⟩) hx64.1 hx64.2.2
  refine M.cl (insRC_spec (fun j => (rulesL.drop (j * 3)).take 3) 4) ?_
  refine M.n (b := !insRC 4) rfl ?_
  refine M.n (b := (4 : Int) == 0) rfl ?_
  refine M.clp [0 <= (4 : Int) /\ (4 : Int) < 11] ⟨by decide, trivial⟩ (imprC_spec j ⟨4, a, b, c⟩) ?_
  rw [bodyL] at hq
  replace hq : (bif !imprC j ⟨4, a, b, c⟩ then false else bif false != lastC j.c.ins.length i then false else match selsL (usedL ⟨4, a, b, c⟩) sels with | none => false | some sels' => bif decide (h - argsC ⟨4, a, b, c⟩ < 0) then false else bif decide (h - argsC ⟨4, a, b, c⟩ + 1 > 100) then false else bodyL j (j.c.ins.drop (i + 1)) (i + 1) (h - argsC ⟨4, a, b, c⟩ + 1) (lits) sels') = bodyC j := by
   rw [<- hq]
   cases hl0 : lastC j.c.ins.length i <;> rfl
  refine M.tq hq (fun h2 q2 => M.rq q2) (fun h2 q2 => ?_)
  clear hq
  have hr : imprC j ⟨4, a, b, c⟩ = true := by simpa using h2
  have hb : 0 <= b /\ b <= 8 := imprC_b hr
  clear h2
  refine M.testp [In64 ((j.c.ins.length : Int) - 1)] ((4 : Int) == 9) (by kernel_rfl) ⟨⟨by omega, by omega⟩, trivial⟩ (fun h3 => absurd h3 (by decide)) (fun h3 => ?_)
  clear h3
  refine M.tq q2 (fun h3 q3 => M.rq q3) (fun h3 q3 => ?_)
  have hlast : lastC j.c.ins.length i = false := by simpa using h3
  refine M.n (b := lastC j.c.ins.length i) hlast ?_
  clear q2
  refine M.n (b := (4 : Int) == 1) rfl ?_
  refine M.cl (used_spec ⟨4, a, b, c⟩) ?_
  refine M.rangeF (ι := {q : Nat × Int // q.1 <= (usedL ⟨4, a, b, c⟩).length /\ (0 <= q.2 /\ q.2 <= 2 * i + q.1) /\ selsL (usedL ⟨4, a, b, c⟩) sels = selsL ((usedL ⟨4, a, b, c⟩).drop q.1) q.2}) (ζ := {s : Int // selsL (usedL ⟨4, a, b, c⟩) sels = none}) (fun q => [[.v (.bool false)], [I q.1.2], In.pv ⟨4, a, b, c⟩]) (fun q => q.1.1) ⟨(0, sels), Nat.zero_le _, ⟨hs.1, by simpa using hs.2⟩, rfl⟩
   (fun z => [[.v (.bool false)], [I z.1], In.pv ⟨4, a, b, c⟩]) (fun _ => .ret) [(0, .ptr j.pv), (2, .ref 0 0), (3, .ptr rulesL), (4, I h), (5, I (lits)), (6, .ref 1 0), (8, .ref 2 0), (32, row 4 In.pv j.c.ins), (33, I j.c.ins.length), (34, I i)] 3 (used_iter ⟨4, a, b, c⟩ hx64.2.2.2) []
   (fun q => (10, I ((usedL ⟨4, a, b, c⟩).getD q.1.1 default)) :: (100, I ((usedL ⟨4, a, b, c⟩).getD q.1.1 default)) :: [(0, .ptr j.pv), (2, .ref 0 0), (3, .ptr rulesL), (4, I h), (5, I (lits)), (6, .ref 1 0), (8, .ref 2 0), (32, row 4 In.pv j.c.ins), (33, I j.c.ins.length), (34, I i)])
   (fun q => [[.v (.bool false)], [I q.1.2], In.pv ⟨4, a, b, c⟩]) trivial rfl (by rw [hst]; exact Nat.zero_le _) hro hmk (fun x hx => nomatch hx)
   (by kernel_rfl) (by kernel_rfl) (by kernel_rfl) (by kernel_rfl) rfl (by kernel_rfl) (by kernel_rfl) (by kernel_rfl) (fun _ => rfl) (fun _ => by kernel_rfl) (by kernel_rfl) (fun _ => by kernel_rfl)
   (fun ⟨(p, s), hp, hsb, hsel⟩ w2 L2 hlt2 hst2 => ?_) (fun ⟨(p, s), hp, hsb, hsel⟩ L' _ hn => ?_) (fun _ v hf => nomatch hf) (fun ⟨z, hz⟩ L' => ?_)
  ·have hlt2' : p < (usedL ⟨4, a, b, c⟩).length := hlt2
   simp only at hsb hsel
   rw [selsL_drop hlt2'] at hsel
   have hv := hu _ (getD_mem hlt2')
   have hul := usedL_len ⟨4, a, b, c⟩
   refine M.ts (decide ((usedL ⟨4, a, b, c⟩).getD p default > s)) (fun h6 => ?_) (fun h6 => ?_)
   ·rw [h6] at hsel
    exact M.stoprF (ζ := {s : Int // selsL (usedL ⟨4, a, b, c⟩) sels = none}) ⟨s, hsel⟩ [] (by kernel_rfl) trivial (by kernel_rfl) (by kernel_rfl) (by kernel_rfl)
   ·rw [h6] at hsel
    have h6' := of_decide_eq_false h6
    have hm1 := mx_le s ((usedL ⟨4, a, b, c⟩).getD p default + 1)
    exact M.next (ι := {q : Nat × Int // q.1 <= (usedL ⟨4, a, b, c⟩).length /\ (0 <= q.2 /\ q.2 <= 2 * i + q.1) /\ selsL (usedL ⟨4, a, b, c⟩) sels = selsL ((usedL ⟨4, a, b, c⟩).drop q.1) q.2}) ⟨(p + 1, mx s ((usedL ⟨4, a, b, c⟩).getD p default + 1)), hlt2', ⟨by simp only; omega, by simp only; omega⟩, hsel⟩ rfl [In64 ((usedL ⟨4, a, b, c⟩).getD p default + 1)] (by kernel_rfl) ⟨⟨by have := hv.1; omega, by omega⟩, trivial⟩ (by kernel_rfl) (by kernel_rfl) (by kernel_rfl)
  ·have hn' : p = (usedL ⟨4, a, b, c⟩).length := hn
   simp only at hsb hsel
   rw [hn', List.drop_length] at hsel
   have hul := usedL_len ⟨4, a, b, c⟩
   rw [hsel] at q3
   simp only [selsL] at q3
   refine M.clp [0 <= (4 : Int) /\ (4 : Int) < 11] ⟨by decide, trivial⟩ (argsC_spec ⟨4, a, b, c⟩) ?_
   have ht : 0 <= argsC ⟨4, a, b, c⟩ /\ argsC ⟨4, a, b, c⟩ <= 20 := by rw [(show argsC ⟨4, a, b, c⟩ = b from rfl)]; omega
   refine M.tqp [In64 (h - argsC ⟨4, a, b, c⟩)] ⟨⟨by omega, by omega⟩, trivial⟩ q3 (fun h7 q4 => M.rq q4) (fun h7 q4 => ?_)
   have h7' := of_decide_eq_false h7
   refine M.n (b := (4 : Int) == 8) rfl ?_
   refine M.tqp [0 <= (4 : Int) /\ (4 : Int) < 11, In64 (h - argsC ⟨4, a, b, c⟩ + 1)] ⟨by decide, ⟨by omega, by omega⟩, trivial⟩ q4 (fun h8 q5 => M.rq q5) (fun h8 q5 => ?_)
   have h8' := of_decide_eq_false h8
   refine M.rn [In64 ((i : Int) + 1)] [0, 1] hst ⟨⟨by omega, by omega⟩, trivial⟩ fun L3 => ?_
   exact M.bk [] (ih ⟨(i + 1, h - argsC ⟨4, a, b, c⟩ + 1, lits, s), hlt, ⟨by simp only; omega, by simp only; omega⟩, ⟨by simp only; omega, by simp only; omega⟩, ⟨by simp only; omega, by simp only; omega⟩, q5⟩ L3 (by show j.c.ins.length - (i + 1) < j.c.ins.length - i; omega)) trivial
  ·rw [hz] at q3
   exact M.rq q3
 by_cases e5 : op = 5
 ·subst e5
  have hu := usedL_in (x := ⟨5, a, b, c⟩) hx64.1 hx64.2.2
  refine M.cl (insRC_spec (fun j => (rulesL.drop (j * 3)).take 3) 5) ?_
  refine M.n (b := !insRC 5) rfl ?_
  refine M.n (b := (5 : Int) == 0) rfl ?_
  refine M.clp [0 <= (5 : Int) /\ (5 : Int) < 11] ⟨by decide, trivial⟩ (resendsC_spec j ⟨5, a, b, c⟩ hx64.2.2 hsels) ?_
  rw [bodyL] at hq
  replace hq : (bif !resendsC j ⟨5, a, b, c⟩ then false else bif false != lastC j.c.ins.length i then false else match selsL (usedL ⟨5, a, b, c⟩) sels with | none => false | some sels' => bif decide (h - argsC ⟨5, a, b, c⟩ < 0) then false else bif decide (h - argsC ⟨5, a, b, c⟩ + 1 > 100) then false else bodyL j (j.c.ins.drop (i + 1)) (i + 1) (h - argsC ⟨5, a, b, c⟩ + 1) (lits) sels') = bodyC j := by
   rw [<- hq]
   cases hl0 : lastC j.c.ins.length i <;> rfl
  refine M.tq hq (fun h2 q2 => M.rq q2) (fun h2 q2 => ?_)
  clear hq
  have hr : resendsC j ⟨5, a, b, c⟩ = true := by simpa using h2
  have hb : 0 <= b /\ b <= 8 := resendsC_b hr
  clear h2
  refine M.testp [In64 ((j.c.ins.length : Int) - 1)] ((5 : Int) == 9) (by kernel_rfl) ⟨⟨by omega, by omega⟩, trivial⟩ (fun h3 => absurd h3 (by decide)) (fun h3 => ?_)
  clear h3
  refine M.tq q2 (fun h3 q3 => M.rq q3) (fun h3 q3 => ?_)
  have hlast : lastC j.c.ins.length i = false := by simpa using h3
  refine M.n (b := lastC j.c.ins.length i) hlast ?_
  clear q2
  refine M.n (b := (5 : Int) == 1) rfl ?_
  refine M.cl (used_spec ⟨5, a, b, c⟩) ?_
  refine M.rangeF (ι := {q : Nat × Int // q.1 <= (usedL ⟨5, a, b, c⟩).length /\ (0 <= q.2 /\ q.2 <= 2 * i + q.1) /\ selsL (usedL ⟨5, a, b, c⟩) sels = selsL ((usedL ⟨5, a, b, c⟩).drop q.1) q.2}) (ζ := {s : Int // selsL (usedL ⟨5, a, b, c⟩) sels = none}) (fun q => [[.v (.bool false)], [I q.1.2], In.pv ⟨5, a, b, c⟩]) (fun q => q.1.1) ⟨(0, sels), Nat.zero_le _, ⟨hs.1, by simpa using hs.2⟩, rfl⟩
   (fun z => [[.v (.bool false)], [I z.1], In.pv ⟨5, a, b, c⟩]) (fun _ => .ret) [(0, .ptr j.pv), (2, .ref 0 0), (3, .ptr rulesL), (4, I h), (5, I (lits)), (6, .ref 1 0), (8, .ref 2 0), (32, row 4 In.pv j.c.ins), (33, I j.c.ins.length), (34, I i)] 3 (used_iter ⟨5, a, b, c⟩ hx64.2.2.2) []
   (fun q => (10, I ((usedL ⟨5, a, b, c⟩).getD q.1.1 default)) :: (100, I ((usedL ⟨5, a, b, c⟩).getD q.1.1 default)) :: [(0, .ptr j.pv), (2, .ref 0 0), (3, .ptr rulesL), (4, I h), (5, I (lits)), (6, .ref 1 0), (8, .ref 2 0), (32, row 4 In.pv j.c.ins), (33, I j.c.ins.length), (34, I i)])
   (fun q => [[.v (.bool false)], [I q.1.2], In.pv ⟨5, a, b, c⟩]) trivial rfl (by rw [hst]; exact Nat.zero_le _) hro hmk (fun x hx => nomatch hx)
   (by kernel_rfl) (by kernel_rfl) (by kernel_rfl) (by kernel_rfl) rfl (by kernel_rfl) (by kernel_rfl) (by kernel_rfl) (fun _ => rfl) (fun _ => by kernel_rfl) (by kernel_rfl) (fun _ => by kernel_rfl)
   (fun ⟨(p, s), hp, hsb, hsel⟩ w2 L2 hlt2 hst2 => ?_) (fun ⟨(p, s), hp, hsb, hsel⟩ L' _ hn => ?_) (fun _ v hf => nomatch hf) (fun ⟨z, hz⟩ L' => ?_)
  ·have hlt2' : p < (usedL ⟨5, a, b, c⟩).length := hlt2
   simp only at hsb hsel
   rw [selsL_drop hlt2'] at hsel
   have hv := hu _ (getD_mem hlt2')
   have hul := usedL_len ⟨5, a, b, c⟩
   refine M.ts (decide ((usedL ⟨5, a, b, c⟩).getD p default > s)) (fun h6 => ?_) (fun h6 => ?_)
   ·rw [h6] at hsel
    exact M.stoprF (ζ := {s : Int // selsL (usedL ⟨5, a, b, c⟩) sels = none}) ⟨s, hsel⟩ [] (by kernel_rfl) trivial (by kernel_rfl) (by kernel_rfl) (by kernel_rfl)
   ·rw [h6] at hsel
    have h6' := of_decide_eq_false h6
    have hm1 := mx_le s ((usedL ⟨5, a, b, c⟩).getD p default + 1)
    exact M.next (ι := {q : Nat × Int // q.1 <= (usedL ⟨5, a, b, c⟩).length /\ (0 <= q.2 /\ q.2 <= 2 * i + q.1) /\ selsL (usedL ⟨5, a, b, c⟩) sels = selsL ((usedL ⟨5, a, b, c⟩).drop q.1) q.2}) ⟨(p + 1, mx s ((usedL ⟨5, a, b, c⟩).getD p default + 1)), hlt2', ⟨by simp only; omega, by simp only; omega⟩, hsel⟩ rfl [In64 ((usedL ⟨5, a, b, c⟩).getD p default + 1)] (by kernel_rfl) ⟨⟨by have := hv.1; omega, by omega⟩, trivial⟩ (by kernel_rfl) (by kernel_rfl) (by kernel_rfl)
  ·have hn' : p = (usedL ⟨5, a, b, c⟩).length := hn
   simp only at hsb hsel
   rw [hn', List.drop_length] at hsel
   have hul := usedL_len ⟨5, a, b, c⟩
   rw [hsel] at q3
   simp only [selsL] at q3
   refine M.clp [0 <= (5 : Int) /\ (5 : Int) < 11] ⟨by decide, trivial⟩ (argsC_spec ⟨5, a, b, c⟩) ?_
   have ht : 0 <= argsC ⟨5, a, b, c⟩ /\ argsC ⟨5, a, b, c⟩ <= 20 := by rw [(show argsC ⟨5, a, b, c⟩ = b from rfl)]; omega
   refine M.tqp [In64 (h - argsC ⟨5, a, b, c⟩)] ⟨⟨by omega, by omega⟩, trivial⟩ q3 (fun h7 q4 => M.rq q4) (fun h7 q4 => ?_)
   have h7' := of_decide_eq_false h7
   refine M.n (b := (5 : Int) == 8) rfl ?_
   refine M.tqp [0 <= (5 : Int) /\ (5 : Int) < 11, In64 (h - argsC ⟨5, a, b, c⟩ + 1)] ⟨by decide, ⟨by omega, by omega⟩, trivial⟩ q4 (fun h8 q5 => M.rq q5) (fun h8 q5 => ?_)
   have h8' := of_decide_eq_false h8
   refine M.rn [In64 ((i : Int) + 1)] [0, 1] hst ⟨⟨by omega, by omega⟩, trivial⟩ fun L3 => ?_
   exact M.bk [] (ih ⟨(i + 1, h - argsC ⟨5, a, b, c⟩ + 1, lits, s), hlt, ⟨by simp only; omega, by simp only; omega⟩, ⟨by simp only; omega, by simp only; omega⟩, ⟨by simp only; omega, by simp only; omega⟩, q5⟩ L3 (by show j.c.ins.length - (i + 1) < j.c.ins.length - i; omega)) trivial
  ·rw [hz] at q3
   exact M.rq q3
 by_cases e6 : op = 6
 ·subst e6
  have hu := usedL_in (x := ⟨6, a, b, c⟩) hx64.1 hx64.2.2
  refine M.cl (insRC_spec (fun j => (rulesL.drop (j * 3)).take 3) 6) ?_
  refine M.n (b := !insRC 6) rfl ?_
  refine M.n (b := (6 : Int) == 0) rfl ?_
  refine M.clp [0 <= (6 : Int) /\ (6 : Int) < 11] ⟨by decide, trivial⟩ (primrC_spec j ⟨6, a, b, c⟩) ?_
  rw [bodyL] at hq
  replace hq : (bif !primrC j ⟨6, a, b, c⟩ then false else bif false != lastC j.c.ins.length i then false else match selsL (usedL ⟨6, a, b, c⟩) sels with | none => false | some sels' => bif decide (h - primtC ⟨6, a, b, c⟩ < 0) then false else bif decide (h - primtC ⟨6, a, b, c⟩ + 1 > 100) then false else bodyL j (j.c.ins.drop (i + 1)) (i + 1) (h - primtC ⟨6, a, b, c⟩ + 1) (lits) sels') = bodyC j := by
   rw [<- hq]
   cases hl0 : lastC j.c.ins.length i <;> rfl
  refine M.tq hq (fun h2 q2 => M.rq q2) (fun h2 q2 => ?_)
  clear hq
  have hr : primrC j ⟨6, a, b, c⟩ = true := by simpa using h2
  have hb : (0 <= b /\ b <= 8) /\ 0 <= c /\ c <= 1 := primrC_b hr
  clear h2
  refine M.testp [In64 ((j.c.ins.length : Int) - 1)] ((6 : Int) == 9) (by kernel_rfl) ⟨⟨by omega, by omega⟩, trivial⟩ (fun h3 => absurd h3 (by decide)) (fun h3 => ?_)
  clear h3
  refine M.tq q2 (fun h3 q3 => M.rq q3) (fun h3 q3 => ?_)
  have hlast : lastC j.c.ins.length i = false := by simpa using h3
  refine M.n (b := lastC j.c.ins.length i) hlast ?_
  clear q2
  refine M.n (b := (6 : Int) == 1) rfl ?_
  refine M.cl (used_spec ⟨6, a, b, c⟩) ?_
  refine M.rangeF (ι := {q : Nat × Int // q.1 <= (usedL ⟨6, a, b, c⟩).length /\ (0 <= q.2 /\ q.2 <= 2 * i + q.1) /\ selsL (usedL ⟨6, a, b, c⟩) sels = selsL ((usedL ⟨6, a, b, c⟩).drop q.1) q.2}) (ζ := {s : Int // selsL (usedL ⟨6, a, b, c⟩) sels = none}) (fun q => [[.v (.bool false)], [I q.1.2], In.pv ⟨6, a, b, c⟩]) (fun q => q.1.1) ⟨(0, sels), Nat.zero_le _, ⟨hs.1, by simpa using hs.2⟩, rfl⟩
   (fun z => [[.v (.bool false)], [I z.1], In.pv ⟨6, a, b, c⟩]) (fun _ => .ret) [(0, .ptr j.pv), (2, .ref 0 0), (3, .ptr rulesL), (4, I h), (5, I (lits)), (6, .ref 1 0), (8, .ref 2 0), (32, row 4 In.pv j.c.ins), (33, I j.c.ins.length), (34, I i)] 3 (used_iter ⟨6, a, b, c⟩ hx64.2.2.2) []
   (fun q => (10, I ((usedL ⟨6, a, b, c⟩).getD q.1.1 default)) :: (100, I ((usedL ⟨6, a, b, c⟩).getD q.1.1 default)) :: [(0, .ptr j.pv), (2, .ref 0 0), (3, .ptr rulesL), (4, I h), (5, I (lits)), (6, .ref 1 0), (8, .ref 2 0), (32, row 4 In.pv j.c.ins), (33, I j.c.ins.length), (34, I i)])
   (fun q => [[.v (.bool false)], [I q.1.2], In.pv ⟨6, a, b, c⟩]) trivial rfl (by rw [hst]; exact Nat.zero_le _) hro hmk (fun x hx => nomatch hx)
   (by kernel_rfl) (by kernel_rfl) (by kernel_rfl) (by kernel_rfl) rfl (by kernel_rfl) (by kernel_rfl) (by kernel_rfl) (fun _ => rfl) (fun _ => by kernel_rfl) (by kernel_rfl) (fun _ => by kernel_rfl)
   (fun ⟨(p, s), hp, hsb, hsel⟩ w2 L2 hlt2 hst2 => ?_) (fun ⟨(p, s), hp, hsb, hsel⟩ L' _ hn => ?_) (fun _ v hf => nomatch hf) (fun ⟨z, hz⟩ L' => ?_)
  ·have hlt2' : p < (usedL ⟨6, a, b, c⟩).length := hlt2
   simp only at hsb hsel
   rw [selsL_drop hlt2'] at hsel
   have hv := hu _ (getD_mem hlt2')
   have hul := usedL_len ⟨6, a, b, c⟩
   refine M.ts (decide ((usedL ⟨6, a, b, c⟩).getD p default > s)) (fun h6 => ?_) (fun h6 => ?_)
   ·rw [h6] at hsel
    exact M.stoprF (ζ := {s : Int // selsL (usedL ⟨6, a, b, c⟩) sels = none}) ⟨s, hsel⟩ [] (by kernel_rfl) trivial (by kernel_rfl) (by kernel_rfl) (by kernel_rfl)
   ·rw [h6] at hsel
    have h6' := of_decide_eq_false h6
    have hm1 := mx_le s ((usedL ⟨6, a, b, c⟩).getD p default + 1)
    exact M.next (ι := {q : Nat × Int // q.1 <= (usedL ⟨6, a, b, c⟩).length /\ (0 <= q.2 /\ q.2 <= 2 * i + q.1) /\ selsL (usedL ⟨6, a, b, c⟩) sels = selsL ((usedL ⟨6, a, b, c⟩).drop q.1) q.2}) ⟨(p + 1, mx s ((usedL ⟨6, a, b, c⟩).getD p default + 1)), hlt2', ⟨by simp only; omega, by simp only; omega⟩, hsel⟩ rfl [In64 ((usedL ⟨6, a, b, c⟩).getD p default + 1)] (by kernel_rfl) ⟨⟨by have := hv.1; omega, by omega⟩, trivial⟩ (by kernel_rfl) (by kernel_rfl) (by kernel_rfl)
  ·have hn' : p = (usedL ⟨6, a, b, c⟩).length := hn
   simp only at hsb hsel
   rw [hn', List.drop_length] at hsel
   have hul := usedL_len ⟨6, a, b, c⟩
   rw [hsel] at q3
   simp only [selsL] at q3
   refine M.clp [0 <= (6 : Int) /\ (6 : Int) < 11] ⟨by decide, trivial⟩ (primtC_spec ⟨6, a, b, c⟩ ⟨⟨by show -1000000000 <= b; omega, by show b <= 1000000000; omega⟩, ⟨by show -1000000000 <= c; omega, by show c <= 1000000000; omega⟩⟩) ?_
   have ht : 0 <= primtC ⟨6, a, b, c⟩ /\ primtC ⟨6, a, b, c⟩ <= 20 := by rw [(show primtC ⟨6, a, b, c⟩ = b + c + 1 from rfl)]; omega
   refine M.tqp [In64 (h - primtC ⟨6, a, b, c⟩)] ⟨⟨by omega, by omega⟩, trivial⟩ q3 (fun h7 q4 => M.rq q4) (fun h7 q4 => ?_)
   have h7' := of_decide_eq_false h7
   refine M.n (b := (6 : Int) == 8) rfl ?_
   refine M.tqp [0 <= (6 : Int) /\ (6 : Int) < 11, In64 (h - primtC ⟨6, a, b, c⟩ + 1)] ⟨by decide, ⟨by omega, by omega⟩, trivial⟩ q4 (fun h8 q5 => M.rq q5) (fun h8 q5 => ?_)
   have h8' := of_decide_eq_false h8
   refine M.rn [In64 ((i : Int) + 1)] [0, 1] hst ⟨⟨by omega, by omega⟩, trivial⟩ fun L3 => ?_
   exact M.bk [] (ih ⟨(i + 1, h - primtC ⟨6, a, b, c⟩ + 1, lits, s), hlt, ⟨by simp only; omega, by simp only; omega⟩, ⟨by simp only; omega, by simp only; omega⟩, ⟨by simp only; omega, by simp only; omega⟩, q5⟩ L3 (by show j.c.ins.length - (i + 1) < j.c.ins.length - i; omega)) trivial
  ·rw [hz] at q3
   exact M.rq q3
 by_cases e7 : op = 7
 ·subst e7
  have hu := usedL_in (x := ⟨7, a, b, c⟩) hx64.1 hx64.2.2
  refine M.cl (insRC_spec (fun j => (rulesL.drop (j * 3)).take 3) 7) ?_
  refine M.n (b := !insRC 7) rfl ?_
  refine M.n (b := (7 : Int) == 0) rfl ?_
  refine M.clp [0 <= (7 : Int) /\ (7 : Int) < 11] ⟨by decide, trivial⟩ (blocksC_spec j ⟨7, a, b, c⟩) ?_
  rw [bodyL] at hq
  replace hq : (bif !blocksC j ⟨7, a, b, c⟩ then false else bif false != lastC j.c.ins.length i then false else match selsL (usedL ⟨7, a, b, c⟩) sels with | none => false | some sels' => bif decide (h - noneC ⟨7, a, b, c⟩ < 0) then false else bif decide (h - noneC ⟨7, a, b, c⟩ + 1 > 100) then false else bodyL j (j.c.ins.drop (i + 1)) (i + 1) (h - noneC ⟨7, a, b, c⟩ + 1) (lits) sels') = bodyC j := by
   rw [<- hq]
   cases hl0 : lastC j.c.ins.length i <;> rfl
  refine M.tq hq (fun h2 q2 => M.rq q2) (fun h2 q2 => ?_)
  clear hq
  have hr : blocksC j ⟨7, a, b, c⟩ = true := by simpa using h2
  clear h2
  refine M.testp [In64 ((j.c.ins.length : Int) - 1)] ((7 : Int) == 9) (by kernel_rfl) ⟨⟨by omega, by omega⟩, trivial⟩ (fun h3 => absurd h3 (by decide)) (fun h3 => ?_)
  clear h3
  refine M.tq q2 (fun h3 q3 => M.rq q3) (fun h3 q3 => ?_)
  have hlast : lastC j.c.ins.length i = false := by simpa using h3
  refine M.n (b := lastC j.c.ins.length i) hlast ?_
  clear q2
  refine M.n (b := (7 : Int) == 1) rfl ?_
  refine M.cl (used_spec ⟨7, a, b, c⟩) ?_
  refine M.rangeF (ι := {q : Nat × Int // q.1 <= (usedL ⟨7, a, b, c⟩).length /\ (0 <= q.2 /\ q.2 <= 2 * i + q.1) /\ selsL (usedL ⟨7, a, b, c⟩) sels = selsL ((usedL ⟨7, a, b, c⟩).drop q.1) q.2}) (ζ := {s : Int // selsL (usedL ⟨7, a, b, c⟩) sels = none}) (fun q => [[.v (.bool false)], [I q.1.2], In.pv ⟨7, a, b, c⟩]) (fun q => q.1.1) ⟨(0, sels), Nat.zero_le _, ⟨hs.1, by simpa using hs.2⟩, rfl⟩
   (fun z => [[.v (.bool false)], [I z.1], In.pv ⟨7, a, b, c⟩]) (fun _ => .ret) [(0, .ptr j.pv), (2, .ref 0 0), (3, .ptr rulesL), (4, I h), (5, I (lits)), (6, .ref 1 0), (8, .ref 2 0), (32, row 4 In.pv j.c.ins), (33, I j.c.ins.length), (34, I i)] 3 (used_iter ⟨7, a, b, c⟩ hx64.2.2.2) []
   (fun q => (10, I ((usedL ⟨7, a, b, c⟩).getD q.1.1 default)) :: (100, I ((usedL ⟨7, a, b, c⟩).getD q.1.1 default)) :: [(0, .ptr j.pv), (2, .ref 0 0), (3, .ptr rulesL), (4, I h), (5, I (lits)), (6, .ref 1 0), (8, .ref 2 0), (32, row 4 In.pv j.c.ins), (33, I j.c.ins.length), (34, I i)])
   (fun q => [[.v (.bool false)], [I q.1.2], In.pv ⟨7, a, b, c⟩]) trivial rfl (by rw [hst]; exact Nat.zero_le _) hro hmk (fun x hx => nomatch hx)
   (by kernel_rfl) (by kernel_rfl) (by kernel_rfl) (by kernel_rfl) rfl (by kernel_rfl) (by kernel_rfl) (by kernel_rfl) (fun _ => rfl) (fun _ => by kernel_rfl) (by kernel_rfl) (fun _ => by kernel_rfl)
   (fun ⟨(p, s), hp, hsb, hsel⟩ w2 L2 hlt2 hst2 => ?_) (fun ⟨(p, s), hp, hsb, hsel⟩ L' _ hn => ?_) (fun _ v hf => nomatch hf) (fun ⟨z, hz⟩ L' => ?_)
  ·have hlt2' : p < (usedL ⟨7, a, b, c⟩).length := hlt2
   simp only at hsb hsel
   rw [selsL_drop hlt2'] at hsel
   have hv := hu _ (getD_mem hlt2')
   have hul := usedL_len ⟨7, a, b, c⟩
   refine M.ts (decide ((usedL ⟨7, a, b, c⟩).getD p default > s)) (fun h6 => ?_) (fun h6 => ?_)
   ·rw [h6] at hsel
    exact M.stoprF (ζ := {s : Int // selsL (usedL ⟨7, a, b, c⟩) sels = none}) ⟨s, hsel⟩ [] (by kernel_rfl) trivial (by kernel_rfl) (by kernel_rfl) (by kernel_rfl)
   ·rw [h6] at hsel
    have h6' := of_decide_eq_false h6
    have hm1 := mx_le s ((usedL ⟨7, a, b, c⟩).getD p default + 1)
    exact M.next (ι := {q : Nat × Int // q.1 <= (usedL ⟨7, a, b, c⟩).length /\ (0 <= q.2 /\ q.2 <= 2 * i + q.1) /\ selsL (usedL ⟨7, a, b, c⟩) sels = selsL ((usedL ⟨7, a, b, c⟩).drop q.1) q.2}) ⟨(p + 1, mx s ((usedL ⟨7, a, b, c⟩).getD p default + 1)), hlt2', ⟨by simp only; omega, by simp only; omega⟩, hsel⟩ rfl [In64 ((usedL ⟨7, a, b, c⟩).getD p default + 1)] (by kernel_rfl) ⟨⟨by have := hv.1; omega, by omega⟩, trivial⟩ (by kernel_rfl) (by kernel_rfl) (by kernel_rfl)
  ·have hn' : p = (usedL ⟨7, a, b, c⟩).length := hn
   simp only at hsb hsel
   rw [hn', List.drop_length] at hsel
   have hul := usedL_len ⟨7, a, b, c⟩
   rw [hsel] at q3
   simp only [selsL] at q3
   refine M.clp [0 <= (7 : Int) /\ (7 : Int) < 11] ⟨by decide, trivial⟩ (noneC_spec ⟨7, a, b, c⟩) ?_
   have ht : 0 <= noneC ⟨7, a, b, c⟩ /\ noneC ⟨7, a, b, c⟩ <= 20 := by rw [(show noneC ⟨7, a, b, c⟩ = 0 from rfl)]; omega
   refine M.tqp [In64 (h - noneC ⟨7, a, b, c⟩)] ⟨⟨by omega, by omega⟩, trivial⟩ q3 (fun h7 q4 => M.rq q4) (fun h7 q4 => ?_)
   have h7' := of_decide_eq_false h7
   refine M.n (b := (7 : Int) == 8) rfl ?_
   refine M.tqp [0 <= (7 : Int) /\ (7 : Int) < 11, In64 (h - noneC ⟨7, a, b, c⟩ + 1)] ⟨by decide, ⟨by omega, by omega⟩, trivial⟩ q4 (fun h8 q5 => M.rq q5) (fun h8 q5 => ?_)
   have h8' := of_decide_eq_false h8
   refine M.rn [In64 ((i : Int) + 1)] [0, 1] hst ⟨⟨by omega, by omega⟩, trivial⟩ fun L3 => ?_
   exact M.bk [] (ih ⟨(i + 1, h - noneC ⟨7, a, b, c⟩ + 1, lits, s), hlt, ⟨by simp only; omega, by simp only; omega⟩, ⟨by simp only; omega, by simp only; omega⟩, ⟨by simp only; omega, by simp only; omega⟩, q5⟩ L3 (by show j.c.ins.length - (i + 1) < j.c.ins.length - i; omega)) trivial
  ·rw [hz] at q3
   exact M.rq q3
 by_cases e8 : op = 8
 ·subst e8
  have hu := usedL_in (x := ⟨8, a, b, c⟩) hx64.1 hx64.2.2
  refine M.cl (insRC_spec (fun j => (rulesL.drop (j * 3)).take 3) 8) ?_
  refine M.n (b := !insRC 8) rfl ?_
  refine M.n (b := (8 : Int) == 0) rfl ?_
  refine M.clp [0 <= (8 : Int) /\ (8 : Int) < 11] ⟨by decide, trivial⟩ (plainC_spec j ⟨8, a, b, c⟩) ?_
  rw [bodyL] at hq
  replace hq : (bif !plainC j ⟨8, a, b, c⟩ then false else bif false != lastC j.c.ins.length i then false else match selsL (usedL ⟨8, a, b, c⟩) sels with | none => false | some sels' => bif decide (h - oneC ⟨8, a, b, c⟩ < 0) then false else bif h - oneC ⟨8, a, b, c⟩ != 0 then false else bif decide (h - oneC ⟨8, a, b, c⟩ + 0 > 100) then false else bodyL j (j.c.ins.drop (i + 1)) (i + 1) (h - oneC ⟨8, a, b, c⟩ + 0) (lits) sels') = bodyC j := by
   rw [<- hq]
   cases hl0 : lastC j.c.ins.length i <;> rfl
  refine M.tq hq (fun h2 q2 => M.rq q2) (fun h2 q2 => ?_)
  clear hq
  have hr : plainC j ⟨8, a, b, c⟩ = true := by simpa using h2
  clear h2
  refine M.testp [In64 ((j.c.ins.length : Int) - 1)] ((8 : Int) == 9) (by kernel_rfl) ⟨⟨by omega, by omega⟩, trivial⟩ (fun h3 => absurd h3 (by decide)) (fun h3 => ?_)
  clear h3
  refine M.tq q2 (fun h3 q3 => M.rq q3) (fun h3 q3 => ?_)
  have hlast : lastC j.c.ins.length i = false := by simpa using h3
  refine M.n (b := lastC j.c.ins.length i) hlast ?_
  clear q2
  refine M.n (b := (8 : Int) == 1) rfl ?_
  refine M.cl (used_spec ⟨8, a, b, c⟩) ?_
  refine M.rangeF (ι := {q : Nat × Int // q.1 <= (usedL ⟨8, a, b, c⟩).length /\ (0 <= q.2 /\ q.2 <= 2 * i + q.1) /\ selsL (usedL ⟨8, a, b, c⟩) sels = selsL ((usedL ⟨8, a, b, c⟩).drop q.1) q.2}) (ζ := {s : Int // selsL (usedL ⟨8, a, b, c⟩) sels = none}) (fun q => [[.v (.bool false)], [I q.1.2], In.pv ⟨8, a, b, c⟩]) (fun q => q.1.1) ⟨(0, sels), Nat.zero_le _, ⟨hs.1, by simpa using hs.2⟩, rfl⟩
   (fun z => [[.v (.bool false)], [I z.1], In.pv ⟨8, a, b, c⟩]) (fun _ => .ret) [(0, .ptr j.pv), (2, .ref 0 0), (3, .ptr rulesL), (4, I h), (5, I (lits)), (6, .ref 1 0), (8, .ref 2 0), (32, row 4 In.pv j.c.ins), (33, I j.c.ins.length), (34, I i)] 3 (used_iter ⟨8, a, b, c⟩ hx64.2.2.2) []
   (fun q => (10, I ((usedL ⟨8, a, b, c⟩).getD q.1.1 default)) :: (100, I ((usedL ⟨8, a, b, c⟩).getD q.1.1 default)) :: [(0, .ptr j.pv), (2, .ref 0 0), (3, .ptr rulesL), (4, I h), (5, I (lits)), (6, .ref 1 0), (8, .ref 2 0), (32, row 4 In.pv j.c.ins), (33, I j.c.ins.length), (34, I i)])
   (fun q => [[.v (.bool false)], [I q.1.2], In.pv ⟨8, a, b, c⟩]) trivial rfl (by rw [hst]; exact Nat.zero_le _) hro hmk (fun x hx => nomatch hx)
   (by kernel_rfl) (by kernel_rfl) (by kernel_rfl) (by kernel_rfl) rfl (by kernel_rfl) (by kernel_rfl) (by kernel_rfl) (fun _ => rfl) (fun _ => by kernel_rfl) (by kernel_rfl) (fun _ => by kernel_rfl)
   (fun ⟨(p, s), hp, hsb, hsel⟩ w2 L2 hlt2 hst2 => ?_) (fun ⟨(p, s), hp, hsb, hsel⟩ L' _ hn => ?_) (fun _ v hf => nomatch hf) (fun ⟨z, hz⟩ L' => ?_)
  ·have hlt2' : p < (usedL ⟨8, a, b, c⟩).length := hlt2
   simp only at hsb hsel
   rw [selsL_drop hlt2'] at hsel
   have hv := hu _ (getD_mem hlt2')
   have hul := usedL_len ⟨8, a, b, c⟩
   refine M.ts (decide ((usedL ⟨8, a, b, c⟩).getD p default > s)) (fun h6 => ?_) (fun h6 => ?_)
   ·rw [h6] at hsel
    exact M.stoprF (ζ := {s : Int // selsL (usedL ⟨8, a, b, c⟩) sels = none}) ⟨s, hsel⟩ [] (by kernel_rfl) trivial (by kernel_rfl) (by kernel_rfl) (by kernel_rfl)
   ·rw [h6] at hsel
    have h6' := of_decide_eq_false h6
    have hm1 := mx_le s ((usedL ⟨8, a, b, c⟩).getD p default + 1)
    exact M.next (ι := {q : Nat × Int // q.1 <= (usedL ⟨8, a, b, c⟩).length /\ (0 <= q.2 /\ q.2 <= 2 * i + q.1) /\ selsL (usedL ⟨8, a, b, c⟩) sels = selsL ((usedL ⟨8, a, b, c⟩).drop q.1) q.2}) ⟨(p + 1, mx s ((usedL ⟨8, a, b, c⟩).getD p default + 1)), hlt2', ⟨by simp only; omega, by simp only; omega⟩, hsel⟩ rfl [In64 ((usedL ⟨8, a, b, c⟩).getD p default + 1)] (by kernel_rfl) ⟨⟨by have := hv.1; omega, by omega⟩, trivial⟩ (by kernel_rfl) (by kernel_rfl) (by kernel_rfl)
  ·have hn' : p = (usedL ⟨8, a, b, c⟩).length := hn
   simp only at hsb hsel
   rw [hn', List.drop_length] at hsel
   have hul := usedL_len ⟨8, a, b, c⟩
   rw [hsel] at q3
   simp only [selsL] at q3
   refine M.clp [0 <= (8 : Int) /\ (8 : Int) < 11] ⟨by decide, trivial⟩ (oneC_spec ⟨8, a, b, c⟩) ?_
   have ht : 0 <= oneC ⟨8, a, b, c⟩ /\ oneC ⟨8, a, b, c⟩ <= 20 := by rw [(show oneC ⟨8, a, b, c⟩ = 1 from rfl)]; omega
   refine M.tqp [In64 (h - oneC ⟨8, a, b, c⟩)] ⟨⟨by omega, by omega⟩, trivial⟩ q3 (fun h7 q4 => M.rq q4) (fun h7 q4 => ?_)
   have h7' := of_decide_eq_false h7
   refine M.ys (b := (8 : Int) == 8) rfl ?_
   replace q3 := q4
   clear q4
   refine M.tq q3 (fun h8 q4 => M.rq q4) (fun h8 q4 => ?_)
   refine M.tqp [0 <= (8 : Int) /\ (8 : Int) < 11, In64 (h - oneC ⟨8, a, b, c⟩ + 0)] ⟨by decide, ⟨by omega, by omega⟩, trivial⟩ q4 (fun h8 q5 => M.rq q5) (fun h8 q5 => ?_)
   have h8' := of_decide_eq_false h8
   refine M.rn [In64 ((i : Int) + 1)] [0, 1] hst ⟨⟨by omega, by omega⟩, trivial⟩ fun L3 => ?_
   exact M.bk [] (ih ⟨(i + 1, h - oneC ⟨8, a, b, c⟩ + 0, lits, s), hlt, ⟨by simp only; omega, by simp only; omega⟩, ⟨by simp only; omega, by simp only; omega⟩, ⟨by simp only; omega, by simp only; omega⟩, q5⟩ L3 (by show j.c.ins.length - (i + 1) < j.c.ins.length - i; omega)) trivial
  ·rw [hz] at q3
   exact M.rq q3
 by_cases e9 : op = 9
 ·subst e9
  have hu := usedL_in (x := ⟨9, a, b, c⟩) hx64.1 hx64.2.2
  refine M.cl (insRC_spec (fun j => (rulesL.drop (j * 3)).take 3) 9) ?_
  refine M.n (b := !insRC 9) rfl ?_
  refine M.n (b := (9 : Int) == 0) rfl ?_
  refine M.clp [0 <= (9 : Int) /\ (9 : Int) < 11] ⟨by decide, trivial⟩ (plainC_spec j ⟨9, a, b, c⟩) ?_
  rw [bodyL] at hq
  replace hq : (bif !plainC j ⟨9, a, b, c⟩ then false else bif true != lastC j.c.ins.length i then false else bif h != 1 then false else match selsL (usedL ⟨9, a, b, c⟩) sels with | none => false | some sels' => bif decide (h - oneC ⟨9, a, b, c⟩ < 0) then false else bif decide (h - oneC ⟨9, a, b, c⟩ + 0 > 100) then false else bodyL j (j.c.ins.drop (i + 1)) (i + 1) (h - oneC ⟨9, a, b, c⟩ + 0) (lits) sels') = bodyC j := by
   rw [<- hq]
   cases hl0 : lastC j.c.ins.length i <;> rfl
  refine M.tq hq (fun h2 q2 => M.rq q2) (fun h2 q2 => ?_)
  clear hq
  have hr : plainC j ⟨9, a, b, c⟩ = true := by simpa using h2
  clear h2
  refine M.testp [In64 ((j.c.ins.length : Int) - 1)] ((9 : Int) == 9) (by kernel_rfl) ⟨⟨by omega, by omega⟩, trivial⟩ (fun h3 => ?_) (fun h3 => absurd h3 (by decide))
  clear h3
  refine M.tq q2 (fun h3 q3 => M.rq q3) (fun h3 q3 => ?_)
  have hlast : lastC j.c.ins.length i = true := by simpa using h3
  refine M.ys (b := lastC j.c.ins.length i) hlast ?_
  replace q2 := q3
  clear q3
  refine M.tq q2 (fun h4 q3 => M.rq q3) (fun h4 q3 => ?_)
  clear q2
  refine M.n (b := (9 : Int) == 1) rfl ?_
  refine M.cl (used_spec ⟨9, a, b, c⟩) ?_
  refine M.rangeF (ι := {q : Nat × Int // q.1 <= (usedL ⟨9, a, b, c⟩).length /\ (0 <= q.2 /\ q.2 <= 2 * i + q.1) /\ selsL (usedL ⟨9, a, b, c⟩) sels = selsL ((usedL ⟨9, a, b, c⟩).drop q.1) q.2}) (ζ := {s : Int // selsL (usedL ⟨9, a, b, c⟩) sels = none}) (fun q => [[.v (.bool false)], [I q.1.2], In.pv ⟨9, a, b, c⟩]) (fun q => q.1.1) ⟨(0, sels), Nat.zero_le _, ⟨hs.1, by simpa using hs.2⟩, rfl⟩
   (fun z => [[.v (.bool false)], [I z.1], In.pv ⟨9, a, b, c⟩]) (fun _ => .ret) [(0, .ptr j.pv), (2, .ref 0 0), (3, .ptr rulesL), (4, I h), (5, I (lits)), (6, .ref 1 0), (8, .ref 2 0), (32, row 4 In.pv j.c.ins), (33, I j.c.ins.length), (34, I i)] 3 (used_iter ⟨9, a, b, c⟩ hx64.2.2.2) []
   (fun q => (10, I ((usedL ⟨9, a, b, c⟩).getD q.1.1 default)) :: (100, I ((usedL ⟨9, a, b, c⟩).getD q.1.1 default)) :: [(0, .ptr j.pv), (2, .ref 0 0), (3, .ptr rulesL), (4, I h), (5, I (lits)), (6, .ref 1 0), (8, .ref 2 0), (32, row 4 In.pv j.c.ins), (33, I j.c.ins.length), (34, I i)])
   (fun q => [[.v (.bool false)], [I q.1.2], In.pv ⟨9, a, b, c⟩]) trivial rfl (by rw [hst]; exact Nat.zero_le _) hro hmk (fun x hx => nomatch hx)
   (by kernel_rfl) (by kernel_rfl) (by kernel_rfl) (by kernel_rfl) rfl (by kernel_rfl) (by kernel_rfl) (by kernel_rfl) (fun _ => rfl) (fun _ => by kernel_rfl) (by kernel_rfl) (fun _ => by kernel_rfl)
   (fun ⟨(p, s), hp, hsb, hsel⟩ w2 L2 hlt2 hst2 => ?_) (fun ⟨(p, s), hp, hsb, hsel⟩ L' _ hn => ?_) (fun _ v hf => nomatch hf) (fun ⟨z, hz⟩ L' => ?_)
  ·have hlt2' : p < (usedL ⟨9, a, b, c⟩).length := hlt2
   simp only at hsb hsel
   rw [selsL_drop hlt2'] at hsel
   have hv := hu _ (getD_mem hlt2')
   have hul := usedL_len ⟨9, a, b, c⟩
   refine M.ts (decide ((usedL ⟨9, a, b, c⟩).getD p default > s)) (fun h6 => ?_) (fun h6 => ?_)
   ·rw [h6] at hsel
    exact M.stoprF (ζ := {s : Int // selsL (usedL ⟨9, a, b, c⟩) sels = none}) ⟨s, hsel⟩ [] (by kernel_rfl) trivial (by kernel_rfl) (by kernel_rfl) (by kernel_rfl)
   ·rw [h6] at hsel
    have h6' := of_decide_eq_false h6
    have hm1 := mx_le s ((usedL ⟨9, a, b, c⟩).getD p default + 1)
    exact M.next (ι := {q : Nat × Int // q.1 <= (usedL ⟨9, a, b, c⟩).length /\ (0 <= q.2 /\ q.2 <= 2 * i + q.1) /\ selsL (usedL ⟨9, a, b, c⟩) sels = selsL ((usedL ⟨9, a, b, c⟩).drop q.1) q.2}) ⟨(p + 1, mx s ((usedL ⟨9, a, b, c⟩).getD p default + 1)), hlt2', ⟨by simp only; omega, by simp only; omega⟩, hsel⟩ rfl [In64 ((usedL ⟨9, a, b, c⟩).getD p default + 1)] (by kernel_rfl) ⟨⟨by have := hv.1; omega, by omega⟩, trivial⟩ (by kernel_rfl) (by kernel_rfl) (by kernel_rfl)
  ·have hn' : p = (usedL ⟨9, a, b, c⟩).length := hn
   simp only at hsb hsel
   rw [hn', List.drop_length] at hsel
   have hul := usedL_len ⟨9, a, b, c⟩
   rw [hsel] at q3
   simp only [selsL] at q3
   refine M.clp [0 <= (9 : Int) /\ (9 : Int) < 11] ⟨by decide, trivial⟩ (oneC_spec ⟨9, a, b, c⟩) ?_
   have ht : 0 <= oneC ⟨9, a, b, c⟩ /\ oneC ⟨9, a, b, c⟩ <= 20 := by rw [(show oneC ⟨9, a, b, c⟩ = 1 from rfl)]; omega
   refine M.tqp [In64 (h - oneC ⟨9, a, b, c⟩)] ⟨⟨by omega, by omega⟩, trivial⟩ q3 (fun h7 q4 => M.rq q4) (fun h7 q4 => ?_)
   have h7' := of_decide_eq_false h7
   refine M.n (b := (9 : Int) == 8) rfl ?_
   refine M.tqp [0 <= (9 : Int) /\ (9 : Int) < 11, In64 (h - oneC ⟨9, a, b, c⟩ + 0)] ⟨by decide, ⟨by omega, by omega⟩, trivial⟩ q4 (fun h8 q5 => M.rq q5) (fun h8 q5 => ?_)
   have h8' := of_decide_eq_false h8
   refine M.rn [In64 ((i : Int) + 1)] [0, 1] hst ⟨⟨by omega, by omega⟩, trivial⟩ fun L3 => ?_
   exact M.bk [] (ih ⟨(i + 1, h - oneC ⟨9, a, b, c⟩ + 0, lits, s), hlt, ⟨by simp only; omega, by simp only; omega⟩, ⟨by simp only; omega, by simp only; omega⟩, ⟨by simp only; omega, by simp only; omega⟩, q5⟩ L3 (by show j.c.ins.length - (i + 1) < j.c.ins.length - i; omega)) trivial
  ·rw [hz] at q3
   exact M.rq q3
 by_cases e10 : op = 10
 ·subst e10
  have hu := usedL_in (x := ⟨10, a, b, c⟩) hx64.1 hx64.2.2
  refine M.cl (insRC_spec (fun j => (rulesL.drop (j * 3)).take 3) 10) ?_
  refine M.n (b := !insRC 10) rfl ?_
  refine M.n (b := (10 : Int) == 0) rfl ?_
  refine M.clp [0 <= (10 : Int) /\ (10 : Int) < 11] ⟨by decide, trivial⟩ (leaveC_spec j ⟨10, a, b, c⟩) ?_
  rw [bodyL] at hq
  replace hq : (bif !leaveC j ⟨10, a, b, c⟩ then false else bif true != lastC j.c.ins.length i then false else bif h != 1 then false else match selsL (usedL ⟨10, a, b, c⟩) sels with | none => false | some sels' => bif decide (h - oneC ⟨10, a, b, c⟩ < 0) then false else bif decide (h - oneC ⟨10, a, b, c⟩ + 0 > 100) then false else bodyL j (j.c.ins.drop (i + 1)) (i + 1) (h - oneC ⟨10, a, b, c⟩ + 0) (lits) sels') = bodyC j := by
   rw [<- hq]
   cases hl0 : lastC j.c.ins.length i <;> rfl
  refine M.tq hq (fun h2 q2 => M.rq q2) (fun h2 q2 => ?_)
  clear hq
  have hr : leaveC j ⟨10, a, b, c⟩ = true := by simpa using h2
  clear h2
  refine M.testp [In64 ((j.c.ins.length : Int) - 1)] ((10 : Int) == 9) (by kernel_rfl) ⟨⟨by omega, by omega⟩, trivial⟩ (fun h3 => absurd h3 (by decide)) (fun h3 => ?_)
  clear h3
  refine M.tq q2 (fun h3 q3 => M.rq q3) (fun h3 q3 => ?_)
  have hlast : lastC j.c.ins.length i = true := by simpa using h3
  refine M.ys (b := lastC j.c.ins.length i) hlast ?_
  replace q2 := q3
  clear q3
  refine M.tq q2 (fun h4 q3 => M.rq q3) (fun h4 q3 => ?_)
  clear q2
  refine M.n (b := (10 : Int) == 1) rfl ?_
  refine M.cl (used_spec ⟨10, a, b, c⟩) ?_
  refine M.rangeF (ι := {q : Nat × Int // q.1 <= (usedL ⟨10, a, b, c⟩).length /\ (0 <= q.2 /\ q.2 <= 2 * i + q.1) /\ selsL (usedL ⟨10, a, b, c⟩) sels = selsL ((usedL ⟨10, a, b, c⟩).drop q.1) q.2}) (ζ := {s : Int // selsL (usedL ⟨10, a, b, c⟩) sels = none}) (fun q => [[.v (.bool false)], [I q.1.2], In.pv ⟨10, a, b, c⟩]) (fun q => q.1.1) ⟨(0, sels), Nat.zero_le _, ⟨hs.1, by simpa using hs.2⟩, rfl⟩
   (fun z => [[.v (.bool false)], [I z.1], In.pv ⟨10, a, b, c⟩]) (fun _ => .ret) [(0, .ptr j.pv), (2, .ref 0 0), (3, .ptr rulesL), (4, I h), (5, I (lits)), (6, .ref 1 0), (8, .ref 2 0), (32, row 4 In.pv j.c.ins), (33, I j.c.ins.length), (34, I i)] 3 (used_iter ⟨10, a, b, c⟩ hx64.2.2.2) []
   (fun q => (10, I ((usedL ⟨10, a, b, c⟩).getD q.1.1 default)) :: (100, I ((usedL ⟨10, a, b, c⟩).getD q.1.1 default)) :: [(0, .ptr j.pv), (2, .ref 0 0), (3, .ptr rulesL), (4, I h), (5, I (lits)), (6, .ref 1 0), (8, .ref 2 0), (32, row 4 In.pv j.c.ins), (33, I j.c.ins.length), (34, I i)])
   (fun q => [[.v (.bool false)], [I q.1.2], In.pv ⟨10, a, b, c⟩]) trivial rfl (by rw [hst]; exact Nat.zero_le _) hro hmk (fun x hx => nomatch hx)
   (by kernel_rfl) (by kernel_rfl) (by kernel_rfl) (by kernel_rfl) rfl (by kernel_rfl) (by kernel_rfl) (by kernel_rfl) (fun _ => rfl) (fun _ => by kernel_rfl) (by kernel_rfl) (fun _ => by kernel_rfl)
   (fun ⟨(p, s), hp, hsb, hsel⟩ w2 L2 hlt2 hst2 => ?_) (fun ⟨(p, s), hp, hsb, hsel⟩ L' _ hn => ?_) (fun _ v hf => nomatch hf) (fun ⟨z, hz⟩ L' => ?_)
  ·have hlt2' : p < (usedL ⟨10, a, b, c⟩).length := hlt2
   simp only at hsb hsel
   rw [selsL_drop hlt2'] at hsel
   have hv := hu _ (getD_mem hlt2')
   have hul := usedL_len ⟨10, a, b, c⟩
   refine M.ts (decide ((usedL ⟨10, a, b, c⟩).getD p default > s)) (fun h6 => ?_) (fun h6 => ?_)
   ·rw [h6] at hsel
    exact M.stoprF (ζ := {s : Int // selsL (usedL ⟨10, a, b, c⟩) sels = none}) ⟨s, hsel⟩ [] (by kernel_rfl) trivial (by kernel_rfl) (by kernel_rfl) (by kernel_rfl)
   ·rw [h6] at hsel
    have h6' := of_decide_eq_false h6
    have hm1 := mx_le s ((usedL ⟨10, a, b, c⟩).getD p default + 1)
    exact M.next (ι := {q : Nat × Int // q.1 <= (usedL ⟨10, a, b, c⟩).length /\ (0 <= q.2 /\ q.2 <= 2 * i + q.1) /\ selsL (usedL ⟨10, a, b, c⟩) sels = selsL ((usedL ⟨10, a, b, c⟩).drop q.1) q.2}) ⟨(p + 1, mx s ((usedL ⟨10, a, b, c⟩).getD p default + 1)), hlt2', ⟨by simp only; omega, by simp only; omega⟩, hsel⟩ rfl [In64 ((usedL ⟨10, a, b, c⟩).getD p default + 1)] (by kernel_rfl) ⟨⟨by have := hv.1; omega, by omega⟩, trivial⟩ (by kernel_rfl) (by kernel_rfl) (by kernel_rfl)
  ·have hn' : p = (usedL ⟨10, a, b, c⟩).length := hn
   simp only at hsb hsel
   rw [hn', List.drop_length] at hsel
   have hul := usedL_len ⟨10, a, b, c⟩
   rw [hsel] at q3
   simp only [selsL] at q3
   refine M.clp [0 <= (10 : Int) /\ (10 : Int) < 11] ⟨by decide, trivial⟩ (oneC_spec ⟨10, a, b, c⟩) ?_
   have ht : 0 <= oneC ⟨10, a, b, c⟩ /\ oneC ⟨10, a, b, c⟩ <= 20 := by rw [(show oneC ⟨10, a, b, c⟩ = 1 from rfl)]; omega
   refine M.tqp [In64 (h - oneC ⟨10, a, b, c⟩)] ⟨⟨by omega, by omega⟩, trivial⟩ q3 (fun h7 q4 => M.rq q4) (fun h7 q4 => ?_)
   have h7' := of_decide_eq_false h7
   refine M.n (b := (10 : Int) == 8) rfl ?_
   refine M.tqp [0 <= (10 : Int) /\ (10 : Int) < 11, In64 (h - oneC ⟨10, a, b, c⟩ + 0)] ⟨by decide, ⟨by omega, by omega⟩, trivial⟩ q4 (fun h8 q5 => M.rq q5) (fun h8 q5 => ?_)
   have h8' := of_decide_eq_false h8
   refine M.rn [In64 ((i : Int) + 1)] [0, 1] hst ⟨⟨by omega, by omega⟩, trivial⟩ fun L3 => ?_
   exact M.bk [] (ih ⟨(i + 1, h - oneC ⟨10, a, b, c⟩ + 0, lits, s), hlt, ⟨by simp only; omega, by simp only; omega⟩, ⟨by simp only; omega, by simp only; omega⟩, ⟨by simp only; omega, by simp only; omega⟩, q5⟩ L3 (by show j.c.ins.length - (i + 1) < j.c.ins.length - i; omega)) trivial
  ·rw [hz] at q3
   exact M.rq q3
 rw [bodyL] at hq
 refine M.cl (insRC_spec (fun j => (rulesL.drop (j * 3)).take 3) op) ?_
 refine M.tq hq (fun h2 q2 => M.rq q2) (fun h2 q2 => ?_)
 refine M.tq q2 (fun h3 q3 => M.rq q3) (fun h3 q3 => ?_)
 have h4 := cif (by simpa using h2 : insRC op = true)
 have h5 := of_decide_eq_true h4.1
 have h6 := of_decide_eq_true h4.2
 have h7 : ¬ op = 0 := by simpa using h3
 omega
end Go.Proofs.YtplpnfjccemdnaaGreatDoor
