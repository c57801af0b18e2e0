import Derived.Test.YtcknpohghmkbmaaGreatDoorK16
set_option linter.unusedVariables false
set_option linter.unusedSimpArgs false
/- The texts C3 C4 L16 of the proof, laid one behind the other. -/
namespace Go.Proofs.YtcknpohghmkbmaaGreatDoor
open Go.RowKit
def seenN (l : List (List UInt8)) : Nat -> Atom -> Option Bool
 | 0, _ => none
 | i + 1, x => if x = .s (l.getD (i : Int).toNat default) then some true else seenN l i x
theorem seenN_mem (l : List (List UInt8)) (x : List UInt8) : ∀ i, i <= l.length -> (seenN l i (.s x)).getD false = decide (x ∈ l.take i)
 | 0, _ => by simp [seenN]
 | i + 1, h => by
  have hg : l.getD (i : Int).toNat default = l[i] := by simp [List.getD_eq_getElem?_getD, show i < l.length by omega]
  unfold seenN
  rw [hg, List.take_succ_eq_append_getElem (by omega)]
  have key : (x ∈ l.take i ++ [l[i]]) = (x ∈ l.take i \/ x = l[i]) := by rw [List.mem_append, List.mem_singleton]
  simp only [key]
  by_cases e : x = l[i]
  ·subst e; rw [if_pos rfl]; simp only [or_true, decide_true, Option.getD_some]
  ·rw [if_neg (by simpa using e), seenN_mem l x i (by omega)]
   simp only [e, or_false]
theorem distS_spec (l : List (List UInt8)) (hb : l.length <= 1000000000) : Spec Tryz.prog 174 [row 1 (fun s => [S s]) l] (.sb (decide l.Nodup)) := by
 refine Spec.startL (by kernel_rfl) Tryz.func174 rfl rfl fun w0 L hst => ?_
 refine M.loop (ι := {i : Nat // i <= l.length /\ (l.take i).Nodup}) (fun i => [(3, .mr 0), (7, row 1 (fun s => [S s]) l), (8, I l.length), (9, I i.1)]) (fun i => [[.mp .str (.b (seenN l i.1))]]) (fun i => l.length - i.1) ⟨0, Nat.zero_le _, by simp⟩ [] (by kernel_rfl) trivial (by kernel_rfl) (by kernel_rfl) fun ⟨i, hi, hn⟩ ih => ?_
 refine M.test (decide ((i : Int) < (l.length : Int))) (by kernel_rfl) (fun h1 => ?_) (fun h1 => ?_)
 ·have hlt : i < l.length := by simpa using h1
  have hg : l.getD (i : Int).toNat default = l[i] := by simp [List.getD_eq_getElem?_getD, hlt]
  have hs := seenN_mem l (l.getD (i : Int).toNat default) i hi
  have htk : l.take (i + 1) = l.take i ++ [l[i]] := List.take_succ_eq_append_getElem hlt
  refine M.testp [0 <= (i : Int) /\ (i : Int) < (l.length : Int)] ((seenN l i (.s (l.getD (i : Int).toNat default))).getD false) (by kernel_rfl) ⟨by omega, trivial⟩ (fun h2 => ?_) (fun h2 => ?_)
  ·refine M.ret (.sb false) (by kernel_rfl) ?_
   rw [hs, hg] at h2
   have hm : l[i] ∈ l.take i := of_decide_eq_true h2
   rw [decide_eq_false]
   intro hd
   have h3 := hd.sublist (List.take_sublist (i + 1) l)
   rw [htk, List.nodup_append] at h3
   exact h3.2.2 l[i] hm l[i] (by simp) rfl
  ·rw [hs, hg] at h2
   have hm : ¬ l[i] ∈ l.take i := of_decide_eq_false h2
   refine M.back [In64 ((i : Int) + 1)] (ih ⟨i + 1, hlt, ?_⟩ (by show l.length - (i + 1) < l.length - i; omega)) (by kernel_rfl) ⟨⟨by omega, by omega⟩, trivial⟩ (by kernel_rfl) (by kernel_rfl) (by kernel_rfl) (by kernel_rfl)
   rw [htk, List.nodup_append]
   exact ⟨hn, by simp, fun a ha b hb => by simp at hb; subst hb; intro e; subst e; exact hm ha⟩
 ·have : i = l.length := by have := of_decide_eq_false h1; omega
  subst this
  rw [List.take_length] at hn
  exact M.ret (.sb true) (by kernel_rfl) (by rw [decide_eq_true hn])
theorem repeat_spec (l : List UInt8) (c : Nat) (hc : c <= 1000) (hl : l.length <= 1000000) : Spec Tryz.prog 198 [S l, I c] (S (Lib.repeatL l c)) := by
 refine ⟨by kernel_rfl, fun L W vs hL hG hR => ?_⟩
 obtain ⟨u, us, rfl, h1, hR1⟩ := hR.uncons
 obtain ⟨u2, us, rfl, h2, hR2⟩ := hR1.uncons
 rw [Rs] at hR2
 rw [R] at h1 h2
 subst h1; subst h2; subst hR2
 have hm : l.length * c <= 1000000 * 1000 := Nat.mul_le_mul hl hc
 refine (Tryz.strings_Repeat ⟨l.toArray⟩ c W (by omega) (by show l.length * c <= _; omega)).mono fun e w' ⟨he, hw⟩ => ?_
 exact ⟨_, he, by rw [R], hw⟩
def bnL (n : Int) : List UInt8 × Int := bif decide (n < 0) then ([], 1) else (bif decide (n > 8) then ([], 1) else (bif n == 0 then ([118, 97, 108, 117, 101], 0) else ([118, 97, 108, 117, 101, 58] ++ Lib.repeatL [87, 105, 116, 104, 58] (n - 1).toNat, 0)))
theorem blockName_spec (n : Int) : Spec Tryz.prog 171 [I n] (.tup [S (bnL n).1, I (bnL n).2]) := by
 refine Spec.startL (by kernel_rfl) Tryz.func171 rfl rfl fun w0 L hst => ?_
 refine M.tq (r := bnL n) rfl (fun h1 q1 => ?_) (fun h1 q1 => ?_)
 ·exact M.rq (enc := fun p : List UInt8 × Int => .tup [S p.1, I p.2]) q1
 refine M.tq q1 (fun h2 q2 => ?_) (fun h2 q2 => ?_)
 ·exact M.rq (enc := fun p : List UInt8 × Int => .tup [S p.1, I p.2]) q2
 refine M.tq q2 (fun h3 q3 => ?_) (fun h3 q3 => ?_)
 ·exact M.rq (enc := fun p : List UInt8 × Int => .tup [S p.1, I p.2]) q3
 have h1' := of_decide_eq_false h1
 have h2' := of_decide_eq_false h2
 have h3' : ¬ n = 0 := by simpa using h3
 obtain ⟨k, hk⟩ := Int.eq_ofNat_of_zero_le (show 0 <= n - 1 by omega)
 have hr := repeat_spec [87, 105, 116, 104, 58] k (by omega) (by decide)
 have e : (n - 1).toNat = k := by omega
 rw [<- hk] at hr
 rw [e] at q3
 have hlen : (Lib.repeatL [87, 105, 116, 104, 58] k).length <= 1000 := by rw [Lib.repeatL_length]; simp only [List.length_cons, List.length_nil]; omega
 refine M.clp [In64 (n - 1)] ⟨⟨by omega, by omega⟩, trivial⟩ hr ?_
 exact M.rqp (enc := fun p : List UInt8 × Int => .tup [S p.1, I p.2]) [(([118, 97, 108, 117, 101, 58].length + (Lib.repeatL [87, 105, 116, 104, 58] k).length : Nat) : Int) <= 9223372036854775807] ⟨by simp only [List.length_cons, List.length_nil]; omega, trivial⟩ q3
end Go.Proofs.YtcknpohghmkbmaaGreatDoor
namespace Go.Proofs.YtcknpohghmkbmaaGreatDoor
open Go.RowKit Go.Sort
theorem gl_tab {L : List Nat} {W : World} (h : Gl L W) : Lib.TabIs Tryz.prog W "internal/strconv.uint64pow10" .u64 Lib.pow10Tab := by
 obtain ⟨t, fr, hh⟩ := h.pow
 have e : Tryz.prog.globalNamed "internal/strconv.uint64pow10" = some gPow := by kernel_rfl
 unfold Lib.TabIs World.var?
 rw [e]
 simp only [Option.bind_some, hh]
theorem below_grow (w : World) (q : Nat) (os : Array Obj) : Below w.heap.size w (grow (w.drewN q) os) := by
 refine ⟨rfl, rfl, rfl, ?_, fun k hk => ?_⟩
 ·show w.heap.size <= (w.heap ++ os).size
  simp
 ·show (w.heap ++ os)[k]? = w.heap[k]?
  rw [Array.getElem?_append, if_pos hk]
theorem trimPrefix_spec (l p : List UInt8) : Spec Tryz.prog 218 [S l, S p] (S (Lib.trimPrefix l p)) := by
 refine ⟨by kernel_rfl, fun L W vs hL hG hR => ?_⟩
 obtain ⟨u, us, rfl, h1, hR1⟩ := hR.uncons
 obtain ⟨u2, us, rfl, h2, hR2⟩ := hR1.uncons
 rw [Rs] at hR2
 rw [R] at h1 h2
 subst h1; subst h2; subst hR2
 refine (Tryz.strings_TrimPrefix ⟨l.toArray⟩ ⟨p.toArray⟩ W).mono fun e w' ⟨he, hw⟩ => ?_
 subst hw
 exact ⟨_, he, by rw [R], Below.refl _ _⟩
end Go.Proofs.YtcknpohghmkbmaaGreatDoor
