import Derived.Test.YtplpnfjccemdnaaGreatDoorJ14
set_option linter.unusedVariables false
set_option linter.unusedSimpArgs false
/- The texts L7 L8 L9 L10 L11 L12 L13 L14 of the proof, laid one behind the other. -/
namespace Go.Proofs.YtplpnfjccemdnaaGreatDoor
open Go.RowKit
theorem ix_lt : ∀ (l : List UInt8) (c : UInt8), Lib.indexByte l c < l.length /\ -1 <= Lib.indexByte l c
 | [], c => by unfold Lib.indexByte; simp
 | b :: l, c => by
  unfold Lib.indexByte
  have := ix_lt l c
  simp only [List.length_cons]
  split
  ·omega
  ·split
   ·omega
   ·omega
theorem forward_int {t : List UInt8} {r : Rd} (h : r.Ok t) (m : Int) (h0 : 0 <= m) (hn : r.pos + m.toNat <= t.length) : SpecM Tryz.prog 290 1 [rd t r] [.ref 0 0, I m] [rd t (r.fwd t m.toNat)] (S ((t.drop r.pos).take m.toNat)) := by
 obtain ⟨k, rfl⟩ := Int.eq_ofNat_of_zero_le h0
 exact forward_spec h k hn
def passL (t : List UInt8) : Nat -> Rd -> Rd × Bool
 | 0, r => (r, false)
 | f + 1, r =>
  bif ((nxt (t.drop (r.fwd t (runF blankL (t.drop r.pos))).pos) 0).toNat : Int) != 34 then (r.fwd t (runF blankL (t.drop r.pos)), true)
  else (bif decide (Lib.indexByte (sub t (((r.fwd t (runF blankL (t.drop r.pos))).pos : Int) + 1) t.length) 34 >= 0) then
    passL t f ((r.fwd t (runF blankL (t.drop r.pos))).fwd t (Lib.indexByte (sub t (((r.fwd t (runF blankL (t.drop r.pos))).pos : Int) + 1) t.length) 34 + 2).toNat)
   else (r.fwd t (runF blankL (t.drop r.pos)), false))
theorem pass_ok {t : List UInt8} {r r' : Rd} (h : r.Ok t) (hq : passL t (t.length + 1) r = (r', true)) : SpecM Tryz.prog 256 1 [rd t r] [.ref 0 0] [rd t r'] (.tup []) := by
 refine SpecM.start (by kernel_rfl) Tryz.func256 rfl rfl (Nat.le_refl _) fun w0 L hst => ?_
 refine M.loopL (ι := {q : Nat × Rd // q.2.Ok t /\ passL t q.1 q.2 = (r', true) /\ t.length < q.1 + q.2.pos}) (fun q => [(0, .ref 0 0)]) (fun q => [rd t q.1.2]) (fun q => q.1.1) ⟨(t.length + 1, r), h, hq, by show t.length < t.length + 1 + _; omega⟩ [] (by kernel_rfl) trivial (by kernel_rfl) (by kernel_rfl) fun ⟨(f, s), hs, hf, hfu⟩ L ih => ?_
 simp only at hs hf hfu
 have hsp := hs.pos
 cases f with
 | zero => omega
 | succ f =>
 have hw := hs.run blankL
 have hs1 := hs.fwd hw.1
 have hlen := hs.len
 unfold passL at hf
 refine M.cm [0] (rest_spec hs) ?_
 refine M.cl (run_spec (t.drop s.pos) 293 blankL hs.rest blankL_spec) ?_
 refine M.cm [0] (forward_spec hs (runF blankL (t.drop s.pos)) hw.1) ?_
 refine M.cl (next_spec hs1 0 (by omega)) ?_
 refine M.ts (((nxt (t.drop (s.fwd t (runF blankL (t.drop s.pos))).pos) 0).toNat : Int) != 34) (fun h5 => ?_) (fun h5 => ?_)
 ·rw [h5] at hf
  cases hf
  exact M.retm [] [0] hst rfl (by kernel_rfl) trivial rfl rfl
 ·rw [h5] at hf
  have hp : (s.fwd t (runF blankL (t.drop s.pos))).pos + 1 <= t.length := nxt_pos (k := 34) (by omega) (by simpa using h5)
  have e1 : (s.fwd t (runF blankL (t.drop s.pos))).pos = s.pos + runF blankL (t.drop s.pos) := rfl
  refine M.clp [In64 (((s.fwd t (runF blankL (t.drop s.pos))).pos : Int) + 1), 0 <= ((s.fwd t (runF blankL (t.drop s.pos))).pos : Int) + 1 /\ ((s.fwd t (runF blankL (t.drop s.pos))).pos : Int) + 1 <= t.length /\ (t.length : Int) <= t.length] ⟨⟨by omega, by omega⟩, by omega, trivial⟩ (ixByte_spec (sub t (((s.fwd t (runF blankL (t.drop s.pos))).pos : Int) + 1) t.length) 34) ?_
  cases hb : decide (Lib.indexByte (sub t (((s.fwd t (runF blankL (t.drop s.pos))).pos : Int) + 1) t.length) 34 >= 0) with
  | false =>
   rw [hb] at hf
   cases hf
  | true =>
   rw [hb] at hf
   refine M.cl (need_s hb 11 (s.fwd t (runF blankL (t.drop s.pos))).pos) ?_
   have hix := ix_lt (sub t (((s.fwd t (runF blankL (t.drop s.pos))).pos : Int) + 1) t.length) 34
   have hge := of_decide_eq_true hb
   have hsub : (sub t (((s.fwd t (runF blankL (t.drop s.pos))).pos : Int) + 1) t.length).length = t.length - (s.fwd t (runF blankL (t.drop s.pos))).pos - 1 := by
    unfold sub; rw [List.length_take, List.length_drop]; omega
   rw [hsub] at hix
   have hp2 : (s.fwd t (runF blankL (t.drop s.pos))).pos + (Lib.indexByte (sub t (((s.fwd t (runF blankL (t.drop s.pos))).pos : Int) + 1) t.length) 34 + 2).toNat <= t.length := by omega
   refine M.callmp [In64 (Lib.indexByte (sub t (((s.fwd t (runF blankL (t.drop s.pos))).pos : Int) + 1) t.length) 34 + 2)] [0] (forward_int hs1 (Lib.indexByte (sub t (((s.fwd t (runF blankL (t.drop s.pos))).pos : Int) + 1) t.length) 34 + 2) (by omega) hp2) (by kernel_rfl) ⟨⟨by omega, by omega⟩, trivial⟩ ?_
   exact M.bk [] (ih ⟨(f, (s.fwd t (runF blankL (t.drop s.pos))).fwd t (Lib.indexByte (sub t (((s.fwd t (runF blankL (t.drop s.pos))).pos : Int) + 1) t.length) 34 + 2).toNat), hs1.fwd hp2, hf, by show t.length < f + ((s.fwd t (runF blankL (t.drop s.pos))).pos + _); omega⟩ L (Nat.lt_succ_self f)) trivial
theorem pass_no {t : List UInt8} {r r' : Rd} (h : r.Ok t) (hq : passL t (t.length + 1) r = (r', false)) : SpecP Tryz.prog 256 1 [rd t r] [.ref 0 0] [rd t r'] (stopV 11 r'.pos) := by
 refine SpecP.start (by kernel_rfl) Tryz.func256 rfl rfl (Nat.le_refl _) fun w0 L hst => ?_
 refine M.loopL (ι := {q : Nat × Rd // q.2.Ok t /\ passL t q.1 q.2 = (r', false) /\ t.length < q.1 + q.2.pos}) (fun q => [(0, .ref 0 0)]) (fun q => [rd t q.1.2]) (fun q => q.1.1) ⟨(t.length + 1, r), h, hq, by show t.length < t.length + 1 + _; omega⟩ [] (by kernel_rfl) trivial (by kernel_rfl) (by kernel_rfl) fun ⟨(f, s), hs, hf, hfu⟩ L ih => ?_
 simp only at hs hf hfu
 have hsp := hs.pos
 cases f with
 | zero => omega
 | succ f =>
 have hw := hs.run blankL
 have hs1 := hs.fwd hw.1
 have hlen := hs.len
 unfold passL at hf
 refine M.cm [0] (rest_spec hs) ?_
 refine M.cl (run_spec (t.drop s.pos) 293 blankL hs.rest blankL_spec) ?_
 refine M.cm [0] (forward_spec hs (runF blankL (t.drop s.pos)) hw.1) ?_
 refine M.cl (next_spec hs1 0 (by omega)) ?_
 refine M.ts (((nxt (t.drop (s.fwd t (runF blankL (t.drop s.pos))).pos) 0).toNat : Int) != 34) (fun h5 => ?_) (fun h5 => ?_)
 ·rw [h5] at hf
  cases hf
 ·rw [h5] at hf
  have hp : (s.fwd t (runF blankL (t.drop s.pos))).pos + 1 <= t.length := nxt_pos (k := 34) (by omega) (by simpa using h5)
  have e1 : (s.fwd t (runF blankL (t.drop s.pos))).pos = s.pos + runF blankL (t.drop s.pos) := rfl
  refine M.clp [In64 (((s.fwd t (runF blankL (t.drop s.pos))).pos : Int) + 1), 0 <= ((s.fwd t (runF blankL (t.drop s.pos))).pos : Int) + 1 /\ ((s.fwd t (runF blankL (t.drop s.pos))).pos : Int) + 1 <= t.length /\ (t.length : Int) <= t.length] ⟨⟨by omega, by omega⟩, by omega, trivial⟩ (ixByte_spec (sub t (((s.fwd t (runF blankL (t.drop s.pos))).pos : Int) + 1) t.length) 34) ?_
  cases hb : decide (Lib.indexByte (sub t (((s.fwd t (runF blankL (t.drop s.pos))).pos : Int) + 1) t.length) 34 >= 0) with
  | false =>
   rw [hb] at hf
   cases hf
   exact M.callP [] [] (needP_s hb 11 (s.fwd t (runF blankL (t.drop s.pos))).pos) (by kernel_rfl) trivial (by kernel_rfl) (OkP.done [0] hst rfl (by kernel_rfl) (by kernel_rfl) (by kernel_rfl))
  | true =>
   rw [hb] at hf
   refine M.cl (need_s hb 11 (s.fwd t (runF blankL (t.drop s.pos))).pos) ?_
   have hix := ix_lt (sub t (((s.fwd t (runF blankL (t.drop s.pos))).pos : Int) + 1) t.length) 34
   have hge := of_decide_eq_true hb
   have hsub : (sub t (((s.fwd t (runF blankL (t.drop s.pos))).pos : Int) + 1) t.length).length = t.length - (s.fwd t (runF blankL (t.drop s.pos))).pos - 1 := by
    unfold sub; rw [List.length_take, List.length_drop]; omega
   rw [hsub] at hix
   have hp2 : (s.fwd t (runF blankL (t.drop s.pos))).pos + (Lib.indexByte (sub t (((s.fwd t (runF blankL (t.drop s.pos))).pos : Int) + 1) t.length) 34 + 2).toNat <= t.length := by omega
   refine M.callmp [In64 (Lib.indexByte (sub t (((s.fwd t (runF blankL (t.drop s.pos))).pos : Int) + 1) t.length) 34 + 2)] [0] (forward_int hs1 (Lib.indexByte (sub t (((s.fwd t (runF blankL (t.drop s.pos))).pos : Int) + 1) t.length) 34 + 2) (by omega) hp2) (by kernel_rfl) ⟨⟨by omega, by omega⟩, trivial⟩ ?_
   exact M.bk [] (ih ⟨(f, (s.fwd t (runF blankL (t.drop s.pos))).fwd t (Lib.indexByte (sub t (((s.fwd t (runF blankL (t.drop s.pos))).pos : Int) + 1) t.length) 34 + 2).toNat), hs1.fwd hp2, hf, by show t.length < f + ((s.fwd t (runF blankL (t.drop s.pos))).pos + _); omega⟩ L (Nat.lt_succ_self f)) trivial
structure Cls where
 g : Nat
 h : Nat
 deriving DecidableEq, Inhabited
abbrev Cls.pv (x : Cls) : List PV := [.fn x.g [], .fn x.h []]
abbrev clsL : List Cls := [⟨278, 279⟩, ⟨280, 281⟩, ⟨282, 283⟩, ⟨284, 285⟩, ⟨286, 287⟩, ⟨288, 289⟩]
theorem classes_spec : Spec Tryz.prog 255 [] (row 2 Cls.pv clsL) := by
 refine Spec.start (by kernel_rfl) Tryz.func255 rfl rfl fun w0 L => ?_
 refine M.retw [] (.sl 2 6 (fun j => (((clsL.map Cls.pv).flatten).drop (j * 2)).take 2)) (by kernel_rfl) trivial fun L W u h => ?_
 refine sl_eq (n' := 6) rfl (fun j hj => ?_) h
 match j, hj with
 | 0, _ => rfl
 | 1, _ => rfl
 | 2, _ => rfl
 | 3, _ => rfl
 | 4, _ => rfl
 | 5, _ => rfl
def clsP (b : UInt8) (x : Cls) : Bool :=
 if x.g = 278 then letterL b else if x.g = 280 then underL b else if x.g = 282 then digitL b else if x.g = 284 then quoteL b else if x.g = 286 then opL b else signL b
theorem begins_spec {t : List UInt8} {r : Rd} (h : r.Ok t) (g k : Nat) (p : UInt8 -> Bool) (hg : ∀ b, Spec Tryz.prog g [B b] (.sb (p b))) : Spec Tryz.prog 258 [.agg [.fn g [], .fn k []], .ptr [.ptr (rd t r)]] (.sb (p (nxt (t.drop r.pos) 0))) := by
 refine Spec.startL (by kernel_rfl) Tryz.func258 rfl rfl fun w0 L hst => ?_
 refine M.cl (next_spec h 0 (by omega)) ?_
 refine M.cl (hg (nxt (t.drop r.pos) 0)) ?_
 exact M.rq (enc := PV.sb) rfl
theorem idx_Cls_1 (l : List Cls) (g : Nat) (q0 : PV) (p : Cls -> Bool) (hg : ∀ x ∈ l, Spec Tryz.prog g [.agg x.pv, .o q0] (.sb (p x))) :
  Spec Tryz.prog 257 [row 2 Cls.pv l, .fn g [.o q0]] (I (fstI p l)) := by
 refine Spec.fact (by kernel_rfl) 0 rfl fun hf => ?_
 have hl : l.length <= 9223372036854775807 := hf.1
 refine Spec.start (by kernel_rfl) Tryz.func257 rfl rfl fun w0 L => ?_
 refine M.loop (ι := {i : Nat // i <= l.length /\ noneB p l i}) (fun i => [(0, row 2 Cls.pv l), (1, .fn g [.o q0]), (7, I l.length), (8, I i.1)]) (fun _ => []) (fun i => l.length - i.1) ⟨0, Nat.zero_le _, noneB_zero p l⟩ [] (by kernel_rfl) trivial (by kernel_rfl) (by kernel_rfl) fun ⟨i, hi, hb⟩ ih => ?_
 refine M.ts (decide ((i : Int) < (l.length : Int))) (fun h1 => ?_) (fun h1 => ?_)
 ·have hlt : i < l.length := by simpa using h1
  have hs := hg _ (List.getElem_mem hlt)
  rw [<- getD_nat hlt] at hs
  refine M.callp [0 <= (i : Int) /\ (i : Int) < (l.length : Int)] hs (by kernel_rfl) ⟨by omega, trivial⟩ (by kernel_rfl) ?_
  refine M.ts (p (l.getD (i : Int).toNat default)) (fun h2 => ?_) (fun h2 => ?_)
  ·rw [getD_nat hlt] at h2
   exact M.ret (I i) (by kernel_rfl) (by rw [fstI_at hlt hb h2])
  ·rw [getD_nat hlt] at h2
   exact M.bk [In64 ((i : Int) + 1)] (ih ⟨i + 1, hlt, noneB_step hlt hb h2⟩ (by show l.length - (i + 1) < l.length - i; omega)) ⟨⟨by omega, by omega⟩, trivial⟩
 ·exact M.ret (I (-1)) (by kernel_rfl) (by rw [fstI_no (by simpa using h1) hb])
theorem idx_Cls_1' (l : List Cls) (g : Nat) (q0 : PV) (p : Cls -> Bool) (h0 : oneP q0 = true) (hg : ∀ x ∈ l, Spec Tryz.prog g [.agg x.pv, q0] (.sb (p x))) :
  Spec Tryz.prog 257 [row 2 Cls.pv l, .fn g [q0]] (I (fstI p l)) :=
 Spec.capO (ax := [row 2 Cls.pv l]) (qs := [q0]) (bs := []) (by simp [h0]) (idx_Cls_1 l g q0 p fun x hx => Spec.unO (ax := [.agg x.pv]) (qs := [q0]) (hg x hx))
theorem which_spec {t : List UInt8} {r : Rd} (h : r.Ok t) : Spec Tryz.prog 257 [row 2 Cls.pv clsL, .fn 258 [.ptr [.ptr (rd t r)]]] (I (fstI (clsP (nxt (t.drop r.pos) 0)) clsL)) := by
 refine idx_Cls_1' clsL 258 (.ptr [.ptr (rd t r)]) (clsP (nxt (t.drop r.pos) 0)) rfl fun x hx => ?_
 simp only [clsL, List.mem_cons, List.not_mem_nil, or_false] at hx
 rcases hx with rfl | rfl | rfl | rfl | rfl | rfl
 ·exact begins_spec h _ _ letterL letterL_spec
 ·exact begins_spec h _ _ underL underL_spec
 ·exact begins_spec h _ _ digitL digitL_spec
 ·exact begins_spec h _ _ quoteL quoteL_spec
 ·exact begins_spec h _ _ opL opL_spec
 ·exact begins_spec h _ _ signL signL_spec
def clsI (b : UInt8) : Int := bif letterL b then 0 else (bif underL b then 1 else (bif digitL b then 2 else (bif quoteL b then 3 else (bif opL b then 4 else (bif signL b then 5 else -1)))))
theorem clsI_eq (b : UInt8) : fstI (clsP b) clsL = clsI b := by
 unfold fstI clsI clsP
 cases letterL b <;> cases underL b <;> cases digitL b <;> cases quoteL b <;> cases opL b <;> cases signL b <;> rfl
theorem passL_ok {t : List UInt8} : ∀ (f : Nat) (r : Rd), r.Ok t -> (passL t f r).1.Ok t
 | 0, r, h => h
 | f + 1, r, h => by
  have hw := h.run blankL
  have h1 := h.fwd hw.1
  have hlen := h.len
  unfold passL
  cases h5 : ((nxt (t.drop (r.fwd t (runF blankL (t.drop r.pos))).pos) 0).toNat : Int) != 34 with
  | true => exact h1
  | false =>
   have hp : (r.fwd t (runF blankL (t.drop r.pos))).pos + 1 <= t.length := nxt_pos (k := 34) (by omega) (by simpa using h5)
   cases hb : decide (Lib.indexByte (sub t (((r.fwd t (runF blankL (t.drop r.pos))).pos : Int) + 1) t.length) 34 >= 0) with
   | false => exact h1
   | true =>
    have hix := ix_lt (sub t (((r.fwd t (runF blankL (t.drop r.pos))).pos : Int) + 1) t.length) 34
    have hge := of_decide_eq_true hb
    have hsub : (sub t (((r.fwd t (runF blankL (t.drop r.pos))).pos : Int) + 1) t.length).length = t.length - (r.fwd t (runF blankL (t.drop r.pos))).pos - 1 := by
     unfold sub; rw [List.length_take, List.length_drop]; omega
    rw [hsub] at hix
    exact passL_ok f _ (h1.fwd (by omega))
theorem strL_ok {t : List UInt8} : ∀ (f : Nat) (r : Rd) (x : List UInt8), r.Ok t -> (strL t f r x).1.Ok t
 | 0, r, x, h => h
 | f + 1, r, x, h => by
  have hw := h.run insideL
  have h1 := h.fwd hw.1
  unfold strL
  cases hb : ((nxt (t.drop (r.fwd t (runF insideL (t.drop r.pos))).pos) 0).toNat : Int) == 39 with
  | false => exact h1
  | true =>
   have hp : (r.fwd t (runF insideL (t.drop r.pos))).pos + 1 <= t.length := nxt_pos (k := 39) (by omega) (by simpa using hb)
   have h2 := h1.fwd hp
   cases h5 : ((nxt (t.drop ((r.fwd t (runF insideL (t.drop r.pos))).fwd t 1).pos) 0).toNat : Int) != 39 with
   | true => exact h2
   | false =>
    have hp2 : ((r.fwd t (runF insideL (t.drop r.pos))).fwd t 1).pos + 1 <= t.length := nxt_pos (k := 39) (by omega) (by simpa using h5)
    exact strL_ok f _ _ (h2.fwd hp2)
theorem wordR_ok {t : List UInt8} {r : Rd} (h : r.Ok t) : (wordR t r).Ok t := by
 have hw := h.run wordL
 have hc : r.pos + (wordN (t.drop r.pos) + wordC (t.drop r.pos)) <= t.length /\ wordC (t.drop r.pos) <= 1 := h.colOk hw.1
 have h1 := h.fwd hc.1
 unfold wordR
 cases wordK (t.drop r.pos) == 1
 ·exact h1
 ·exact ⟨h1.pos, h1.line, h1.col, h1.len⟩
inductive Rt where
 | ok (r : Rd) (k : Int) (x : List UInt8)
 | no (r : Rd) (e : Int) (p : Nat)
def strT (t : List UInt8) (r : Rd) : Rt :=
 match strL t (t.length + 1) (r.fwd t 1) [] with
 | (r', some x) => .ok r' 6 x
 | (r', none) => .no r' 11 r.pos
def readT (t : List UInt8) (r : Rd) (c : Int) : Rt :=
 let l := t.drop r.pos
 if c = 0 then (bif wordOk l then .ok (wordR t r) (wordK l) (l.take (wordN l + wordC l)) else .no r 12 r.pos)
 else if c = 1 then (bif primOk l then .ok (r.fwd t (1 + primN l + primC l)) 4 (l.take (1 + primN l + primC l)) else .no r 12 r.pos)
 else if c = 2 then (bif numOk l then .ok (r.fwd t (numN l)) 5 (l.take (numN l)) else .no r 12 r.pos)
 else if c = 3 then strT t r
 else if c = 4 then (bif oprOk l then .ok (r.fwd t (oprN l)) 7 (l.take (oprN l)) else .no r 12 r.pos)
 else .ok (r.fwd t 1) (signK t r) (l.take 1)
def clsF (c : Int) : Nat := (clsL.getD c.toNat default).h
theorem read_ok {t : List UInt8} {r r' : Rd} {c k : Int} {x : List UInt8} (h : r.Ok t) (hne : r.pos < t.length) (hc : 0 <= c /\ c < 6) (hq : readT t r c = .ok r' k x) : r'.Ok t /\ SpecM Tryz.prog (clsF c) 1 [rd t r] [.ref 0 0] [rd t r'] (.tup [I k, S x]) := by
 have hcs : c = 0 \/ c = 1 \/ c = 2 \/ c = 3 \/ c = 4 \/ c = 5 := by omega
 rcases hcs with rfl | rfl | rfl | rfl | rfl | rfl
 ·unfold readT at hq
  cases ho : wordOk (t.drop r.pos) with
  | false => simp [ho] at hq
  | true => simp only [ho, if_true, cond_true, Rt.ok.injEq] at hq; obtain ⟨rfl, rfl, rfl⟩ := hq; exact ⟨wordR_ok h, word_ok h ho⟩
 ·unfold readT at hq
  cases ho : primOk (t.drop r.pos) with
  | false => simp [ho] at hq
  | true =>
   have e : ¬ ((1 : Int) = 0) := by decide
   simp only [ho, if_true, if_neg e, cond_true, Rt.ok.injEq] at hq; obtain ⟨rfl, rfl, rfl⟩ := hq
   exact ⟨h.fwd (h.colOk (h.prim hne).1).1, prim_ok h hne ho⟩
 ·unfold readT at hq
  cases ho : numOk (t.drop r.pos) with
  | false => simp [ho] at hq
  | true =>
   have e0 : ¬ ((2 : Int) = 0) := by decide
   have e1 : ¬ ((2 : Int) = 1) := by decide
   simp only [ho, if_true, if_neg e0, if_neg e1, cond_true, Rt.ok.injEq] at hq; obtain ⟨rfl, rfl, rfl⟩ := hq
   exact ⟨h.fwd (h.run digitL).1, num_ok h ho⟩
 ·unfold readT at hq
  have e0 : ¬ ((3 : Int) = 0) := by decide
  have e1 : ¬ ((3 : Int) = 1) := by decide
  have e2 : ¬ ((3 : Int) = 2) := by decide
  simp only [if_true, if_neg e0, if_neg e1, if_neg e2] at hq
  unfold strT at hq
  have hk := strL_ok (t.length + 1) (r.fwd t 1) [] (h.fwd hne)
  split at hq
  ·rename_i r2 x2 e
   simp only [Rt.ok.injEq] at hq
   obtain ⟨rfl, rfl, rfl⟩ := hq
   rw [e] at hk
   exact ⟨hk, str_ok h hne e⟩
  ·cases hq
 ·unfold readT at hq
  cases ho : oprOk (t.drop r.pos) with
  | false => simp [ho] at hq
  | true =>
   have e0 : ¬ ((4 : Int) = 0) := by decide
   have e1 : ¬ ((4 : Int) = 1) := by decide
   have e2 : ¬ ((4 : Int) = 2) := by decide
   have e3 : ¬ ((4 : Int) = 3) := by decide
   simp only [ho, if_true, if_neg e0, if_neg e1, if_neg e2, if_neg e3, cond_true, Rt.ok.injEq] at hq; obtain ⟨rfl, rfl, rfl⟩ := hq
   exact ⟨h.fwd (h.run opL).1, opr_ok h ho⟩
 ·unfold readT at hq
  have e0 : ¬ ((5 : Int) = 0) := by decide
  have e1 : ¬ ((5 : Int) = 1) := by decide
  have e2 : ¬ ((5 : Int) = 2) := by decide
  have e3 : ¬ ((5 : Int) = 3) := by decide
  have e4 : ¬ ((5 : Int) = 4) := by decide
  simp only [if_neg e0, if_neg e1, if_neg e2, if_neg e3, if_neg e4, Rt.ok.injEq] at hq; obtain ⟨rfl, rfl, rfl⟩ := hq
  exact ⟨h.fwd hne, sign_ok h hne⟩
theorem read_no {t : List UInt8} {r r' : Rd} {c e : Int} {p : Nat} (h : r.Ok t) (hne : r.pos < t.length) (hc : 0 <= c /\ c < 6) (hq : readT t r c = .no r' e p) : SpecP Tryz.prog (clsF c) 1 [rd t r] [.ref 0 0] [rd t r'] (stopV e p) := by
 have hcs : c = 0 \/ c = 1 \/ c = 2 \/ c = 3 \/ c = 4 \/ c = 5 := by omega
 rcases hcs with rfl | rfl | rfl | rfl | rfl | rfl
 ·unfold readT at hq
  cases ho : wordOk (t.drop r.pos) with
  | true => simp [ho] at hq
  | false => simp only [ho, if_true, cond_false, Rt.no.injEq] at hq; obtain ⟨rfl, rfl, rfl⟩ := hq; exact word_no h ho
 ·unfold readT at hq
  cases ho : primOk (t.drop r.pos) with
  | true => simp [ho] at hq
  | false =>
   have e : ¬ ((1 : Int) = 0) := by decide
   simp only [ho, if_true, if_neg e, cond_false, Rt.no.injEq] at hq; obtain ⟨rfl, rfl, rfl⟩ := hq
   exact prim_no h hne ho
 ·unfold readT at hq
  cases ho : numOk (t.drop r.pos) with
  | true => simp [ho] at hq
  | false =>
   have e0 : ¬ ((2 : Int) = 0) := by decide
   have e1 : ¬ ((2 : Int) = 1) := by decide
   simp only [ho, if_true, if_neg e0, if_neg e1, cond_false, Rt.no.injEq] at hq; obtain ⟨rfl, rfl, rfl⟩ := hq
   exact num_no h ho
 ·unfold readT at hq
  have e0 : ¬ ((3 : Int) = 0) := by decide
  have e1 : ¬ ((3 : Int) = 1) := by decide
  have e2 : ¬ ((3 : Int) = 2) := by decide
  simp only [if_true, if_neg e0, if_neg e1, if_neg e2] at hq
  unfold strT at hq
  split at hq
  ·cases hq
  ·rename_i r2 e
   simp only [Rt.no.injEq] at hq
   obtain ⟨rfl, rfl, rfl⟩ := hq
   exact str_no h hne e
 ·unfold readT at hq
  cases ho : oprOk (t.drop r.pos) with
  | true => simp [ho] at hq
  | false =>
   have e0 : ¬ ((4 : Int) = 0) := by decide
   have e1 : ¬ ((4 : Int) = 1) := by decide
   have e2 : ¬ ((4 : Int) = 2) := by decide
   have e3 : ¬ ((4 : Int) = 3) := by decide
   simp only [ho, if_true, if_neg e0, if_neg e1, if_neg e2, if_neg e3, cond_false, Rt.no.injEq] at hq; obtain ⟨rfl, rfl, rfl⟩ := hq
   exact opr_no h ho
 ·unfold readT at hq
  have e0 : ¬ ((5 : Int) = 0) := by decide
  have e1 : ¬ ((5 : Int) = 1) := by decide
  have e2 : ¬ ((5 : Int) = 2) := by decide
  have e3 : ¬ ((5 : Int) = 3) := by decide
  have e4 : ¬ ((5 : Int) = 4) := by decide
  simp only [if_neg e0, if_neg e1, if_neg e2, if_neg e3, if_neg e4] at hq
  cases hq
structure Pc where
 kind : Int
 text : List UInt8
 line : Int
 col : Int
 frm : Int
 til : Int
 deriving DecidableEq, Inhabited
abbrev Pc.pv (x : Pc) : List PV := [I x.kind, S x.text, I x.line, I x.col, I x.frm, I x.til]
def lexL (t : List UInt8) : Nat -> Nat -> Rd -> List Pc × Option (Int × Nat)
 | 0, _, _ => ([], none)
 | f + 1, many, r =>
  match passL t (t.length + 1) r with
  | (r1, false) => ([], some (11, r1.pos))
  | (r1, true) =>
   if r1.pos = t.length then ([], none)
   else if clsI (nxt (t.drop r1.pos) 0) < 0 then ([], some (10, r1.pos))
   else match readT t r1 (clsI (nxt (t.drop r1.pos) 0)) with
    | .no _ e p => ([], some (e, p))
    | .ok r2 k x => if many < 6000 then (⟨k, x, r1.line, r1.col, r1.pos, r2.pos⟩ :: (lexL t f (many + 1) r2).1, (lexL t f (many + 1) r2).2) else ([], some (2, r1.pos))
def piecesL (t : List UInt8) : List Pc × Option (Int × Nat) := if t.length <= 20000 then lexL t 6001 0 ⟨0, 1, 1, 0⟩ else ([], some (2, 0))
abbrev finV (e : Option (Int × Nat)) : Option PV := e.map fun q => stopV q.1 q.2
theorem pieces_iter (t : List UInt8) : Iter Tryz.prog 253 [.ptr [S t]] (piecesL t).1.length (fun i => [.agg ((piecesL t).1.getD i default).pv]) (finV (piecesL t).2) := by
 obtain ⟨lst, fin, hlf⟩ : ∃ lst fin, piecesL t = (lst, fin) := ⟨_, _, rfl⟩
 rw [hlf]
 show Iter Tryz.prog 253 [.ptr [S t]] lst.length (fun i => [.agg (lst.getD i default).pv]) (finV fin)
 refine Iter.start (by kernel_rfl) Tryz.func253 rfl rfl fun l J X w0 L hY hJ => ?_
 cases hlen : decide ((t.length : Int) <= 20000) with
 | false =>
  have hlen' := of_decide_eq_false hlen
  unfold piecesL at hlf
  rw [if_neg (by omega)] at hlf
  cases hlf
  exact M.callP [] [] (needP_s hlen 2 0) (by kernel_rfl) trivial (by kernel_rfl) (OkP.iter hY hJ rfl)
 | true =>
  have hlen' := of_decide_eq_true hlen
  unfold piecesL at hlf
  rw [if_pos (by omega)] at hlf
  refine M.cl (need_s hlen 2 0) ?_
  refine M.cl classes_spec ?_
  refine M.loopW (ι := {q : Nat × Rd // q.1 <= 6000 /\ q.2.Ok t /\ lst.drop q.1 = (lexL t (6001 - q.1) q.1 q.2).1 /\ fin = (lexL t (6001 - q.1) q.1 q.2).2 /\ q.1 <= lst.length}) (fun q => [(0, yV l), (1, .ptr [S t]), (3, .ref 1 0), (4, row 2 Cls.pv clsL), (5, I q.1.1)]) (fun q => [rd t q.1.2, [.ref 0 0]]) (fun q => 6001 - q.1.1) (fun q w0 L => Itb (J q.1.1) w0)
   ⟨(0, ⟨0, 1, 1, 0⟩), by omega, ⟨Nat.zero_le _, Nat.le_refl _, Nat.le_refl _, by omega⟩, by show lst = (lexL t 6001 0 ⟨0, 1, 1, 0⟩).1; rw [hlf], by show fin = (lexL t 6001 0 ⟨0, 1, 1, 0⟩).2; rw [hlf], Nat.zero_le _⟩ hJ [] (by kernel_rfl) trivial (by kernel_rfl) (by kernel_rfl) fun ⟨(many, r), hm, hr, hd, hfin, hml⟩ w0 L hJ ih => ?_
  simp only at hm hr hd hfin hml hJ
  rw [show 6001 - many = (6000 - many) + 1 by omega] at hd hfin
  unfold lexL at hd hfin
  have hr1 := passL_ok (t.length + 1) r hr
  cases hps : passL t (t.length + 1) r with
  | mk r1 b =>
  rw [hps] at hd hfin hr1
  cases b with
  | false =>
   simp only at hd hfin
   have hn : lst.length = many := by have := List.drop_eq_nil_iff.1 hd; omega
   have hJ' : Itb (J lst.length) w0 := by rw [hn]; exact hJ
   subst hfin
   exact M.callP [] [0] (pass_no hr hps) (by kernel_rfl) trivial (by kernel_rfl) (OkP.iter hY hJ' rfl)
  | true =>
   simp only at hd hfin hr1
   refine M.cm [0] (pass_ok hr hps) ?_
   refine M.ts ((r1.pos : Int) == t.length) (fun h1 => ?_) (fun h1 => ?_)
   ·have h2 : (r1.pos : Int) = t.length := by simpa using h1
    rw [if_pos (by omega)] at hd hfin
    have hn : lst.length = many := by have := List.drop_eq_nil_iff.1 hd; omega
    have hJ' : Itb (J lst.length) w0 := by rw [hn]; exact hJ
    subst hfin
    exact M.retJ (r := .tup []) [] hY hJ' (by kernel_rfl) trivial
   ·have h2 : ¬ (r1.pos : Int) = t.length := by simpa using h1
    have hrp := hr1.pos
    have hne : r1.pos < t.length := by omega
    rw [if_neg (by omega)] at hd hfin
    have hw := which_spec hr1
    rw [clsI_eq] at hw
    refine M.cl hw ?_
    generalize hc : clsI (nxt (t.drop r1.pos) 0) = c at hd hfin
    cases hi : decide (c >= 0) with
    | false =>
     have hi' := of_decide_eq_false hi
     rw [if_pos (by omega)] at hd hfin
     have hn : lst.length = many := by have := List.drop_eq_nil_iff.1 hd; omega
     have hJ' : Itb (J lst.length) w0 := by rw [hn]; exact hJ
     subst hfin
     exact M.callP [] [] (needP_s hi 10 r1.pos) (by kernel_rfl) trivial (by kernel_rfl) (OkP.iter hY hJ' rfl)
    | true =>
     have hi' := of_decide_eq_true hi
     have hc6 : c < 6 := by
      rw [<- hc]; unfold clsI
      cases letterL (nxt (t.drop r1.pos) 0) <;> cases underL (nxt (t.drop r1.pos) 0) <;> cases digitL (nxt (t.drop r1.pos) 0) <;> cases quoteL (nxt (t.drop r1.pos) 0) <;> cases opL (nxt (t.drop r1.pos) 0) <;> cases signL (nxt (t.drop r1.pos) 0) <;> decide
     rw [if_neg (by omega)] at hd hfin
     refine M.cl (need_s hi 10 r1.pos) ?_
     cases hrd : readT t r1 c with
     | no r2 e p =>
      rw [hrd] at hd hfin
      simp only at hd hfin
      have hn : lst.length = many := by have := List.drop_eq_nil_iff.1 hd; omega
      have hJ' : Itb (J lst.length) w0 := by rw [hn]; exact hJ
      subst hfin
      exact M.callP [0 <= c /\ c < (6 : Nat)] [0] (read_no hr1 hne ⟨hi', hc6⟩ hrd) (by kernel_rfl) ⟨by omega, trivial⟩ (by kernel_rfl) (OkP.iter hY hJ' rfl)
     | ok r2 k x =>
      rw [hrd] at hd hfin
      simp only at hd hfin
      obtain ⟨hr2, hs⟩ := read_ok hr1 hne ⟨hi', hc6⟩ hrd
      refine M.callmp [0 <= c /\ c < (6 : Nat)] [0] hs (by kernel_rfl) ⟨by omega, trivial⟩ ?_
      cases hmany : decide ((many : Int) < 6000) with
      | false =>
       have hmany' := of_decide_eq_false hmany
       rw [if_neg (by omega)] at hd hfin
       have hn : lst.length = many := by have := List.drop_eq_nil_iff.1 hd; omega
       have hJ' : Itb (J lst.length) w0 := by rw [hn]; exact hJ
       subst hfin
       exact M.callP [] [] (needP_s hmany 2 r1.pos) (by kernel_rfl) trivial (by kernel_rfl) (OkP.iter hY hJ' rfl)
      | true =>
       have hmany' := of_decide_eq_true hmany
       rw [if_pos (by omega)] at hd hfin
       refine M.cl (need_s hmany 2 r1.pos) ?_
       refine M.undraw ?_
       have hg : lst.getD many default = ⟨k, x, r1.line, r1.col, r1.pos, r2.pos⟩ := by
        have := congrArg (fun l => l[0]?) hd
        simp only [List.getElem?_drop, Nat.add_zero, List.getElem?_cons_zero] at this
        rw [List.getD_eq_getElem?_getD, this]
        rfl
       have hlt : many < lst.length := by
        rcases Nat.lt_or_ge many lst.length with h | h
        ·exact h
        ·rw [List.drop_eq_nil_of_le h] at hd; cases hd
       have htl : lst.drop (many + 1) = (lexL t (6000 - many) (many + 1) r2).1 := by
        have := congrArg List.tail hd
        rw [List.tail_drop] at this
        exact this
       refine M.yield (i := many) [] hY hlt hJ (Eq.trans (b := some (l, [], [.agg (Pc.pv ⟨k, x, r1.line, r1.col, r1.pos, r2.pos⟩)])) (by kernel_rfl) (by rw [hg])) trivial rfl (fun w1 L1 hJ1 => ?_) (fun w1 L1 hJ1 => ?_)
       ·refine M.rn [In64 ((many : Int) + 1)] [0, 1] hJ1.stay ⟨⟨by omega, by omega⟩, trivial⟩ fun L' => ?_
        have e2 : 6001 - (many + 1) = 6000 - many := by omega
        exact M.bk [] (ih ⟨(many + 1, r2), by omega, hr2, by rw [e2]; exact htl, by rw [e2]; exact hfin, hlt⟩ w1 L' (by show 6001 - (many + 1) < 6001 - many; omega) hJ1) trivial
       ·exact M.retX (r := .tup []) [] hY hJ1 (by kernel_rfl) trivial
theorem pieces_spec (t : List UInt8) : Spec Tryz.prog 234 [S t] (.fn 253 [.ptr [S t]]) := by
 refine Spec.start (by kernel_rfl) Tryz.func234 rfl rfl fun w0 L => ?_
 exact M.ret (.fn 253 [.ptr [S t]]) (by kernel_rfl) rfl
abbrev divS (lst : List Pc) (i : Nat) : Sig := [[.os 284 3 6 i], [I 0], [I 0], [.rws 6 i (fun j => Pc.pv (lst.getD j default))]]
theorem saved_none (lst : List Pc) (i : Nat) : SpecD Tryz.prog 233 (divS lst i) [.ref 0 0, .ref 1 0, .ref 2 0] none (divS lst i) := by
 refine SpecD.start (by kernel_rfl) rfl Tryz.func233 rfl rfl rfl rfl rfl rfl fun w0 L hst => ?_
 exact M.dend [] (by kernel_rfl) trivial (by kernel_rfl) (by kernel_rfl) [0, 1, 2, 3] (n := 4) hst rfl (by kernel_rfl) (by kernel_rfl) rfl
theorem saved_some (lst : List Pc) (i : Nat) (e : Int) (p : Nat) : SpecD Tryz.prog 233 (divS lst i) [.ref 0 0, .ref 1 0, .ref 2 0] (some (stopV e p)) [[.v (.slice none 0 0)], [I e], [I p], [.rws 6 i (fun j => Pc.pv (lst.getD j default))]] := by
 refine SpecD.start (by kernel_rfl) rfl Tryz.func233 rfl rfl rfl rfl rfl rfl fun w0 L hst => ?_
 exact M.dend [] (by kernel_rfl) trivial (by kernel_rfl) (by kernel_rfl) [0, 1, 2, 3] (n := 4) hst rfl (by kernel_rfl) (by kernel_rfl) rfl
theorem lexL_len (t : List UInt8) : ∀ (f many : Nat) (r : Rd), (lexL t f many r).1.length <= f
 | 0, _, _ => Nat.le_refl _
 | f + 1, many, r => by
  unfold lexL
  split
  ·simp
  ·split
   ·simp
   ·split
    ·simp
    ·split
     ·simp
     ·split
      ·simp only [List.length_cons]; exact Nat.succ_le_succ (lexL_len t f _ _)
      ·simp
theorem piecesL_len (t : List UInt8) : (piecesL t).1.length <= 6001 := by
 unfold piecesL; split
 ·exact lexL_len t _ _ _
 ·simp
def divL (t : List UInt8) : List Pc × Int × Nat := match (piecesL t).2 with | none => ((piecesL t).1, 0, 0) | some (e, p) => ([], e, p)
theorem divided_spec (t : List UInt8) : Spec Tryz.prog 200 [S t] (.tup [row 6 Pc.pv (divL t).1, I (divL t).2.1, I (divL t).2.2]) := by
 have hit := pieces_iter t
 have hl6 := piecesL_len t
 unfold divL
 generalize (piecesL t).1 = lst at hit hl6 ⊢
 generalize hfin : (piecesL t).2 = fin at hit ⊢
 clear hfin
 refine Spec.startD (by kernel_rfl) Tryz.func200 rfl rfl fun w0 L hst hd0 hro hmk hgh => ?_
 refine M.defer (g := 233) (caps := [.ref 0 0, .ref 1 0, .ref 2 0]) 3 [] (by kernel_rfl) trivial hst (Nat.le_of_ble_eq_true (by kernel_rfl)) (by kernel_rfl) hd0 hro hmk hgh fun w1 L1 hD => ?_
 refine M.cl (pieces_spec t) ?_
 refine M.nilC [] 284 6 (fun j => Pc.pv (lst.getD j default)) 0 0 (by kernel_rfl) trivial (by kernel_rfl) (by kernel_rfl) ?_
 refine M.rangeF (ι := {i : Nat // i <= lst.length}) (ζ := Empty) (fun i => divS lst i.1) (fun i => i.1) ⟨0, Nat.zero_le _⟩ (fun z => nomatch z) (fun z => nomatch z) [(0, S t), (2, .ref 0 0), (3, .ref 1 0), (4, .ref 2 0)] 3 hit []
  (fun i => (5, .ref 4 0) :: (9, .agg (Pc.pv (lst.getD i.1 default))) :: [(0, S t), (2, .ref 0 0), (3, .ref 1 0), (4, .ref 2 0)]) (fun i => divS lst i.1 ++ [Pc.pv (lst.getD i.1 default)])
  trivial rfl (by rw [hD.stay]; exact Nat.le_refl _) hD.ro hD.mrk (fun x hx => ?_)
  (by kernel_rfl) (by kernel_rfl) (by kernel_rfl) (by kernel_rfl) rfl (by kernel_rfl) (by kernel_rfl) (by kernel_rfl) (fun _ => rfl) (fun _ => by kernel_rfl) (by kernel_rfl) (fun _ => by kernel_rfl)
  (fun ⟨i, hi⟩ w2 L2 hlt hst2 => ?_) (fun ⟨i, hi⟩ L' hf hn => ?_) (fun ⟨i, hi⟩ v hf hn => ?_) (fun z => nomatch z)
 ·cases fin with
  | none => cases hx
  | some q => cases hx; rfl
 ·have hlt' : i < lst.length := hlt
  refine M.rn [i = i /\ 0 < 1 /\ i + 1 <= 9223372036854775807 /\ (i + 1) * 56 <= 140737488355328] [0, 1, 2, 5] hst2 ⟨⟨rfl, by omega, by omega, by omega⟩, trivial⟩ fun L' => ?_
  refine M.sig [] [[.os 284 3 6 (i + 1)], [I 0], [I 0], [.rws 6 (i + 1) (fun j => (joinEl (fun j => Pc.pv (lst.getD j default)) i (fun j => ((Pc.pv (lst.getD i default)).drop (j * 6)).take 6) j).map (renP (invF [0, 1, 2, 5] 0) 7))]]
   (divS lst (i + 1)) (by kernel_rfl) trivial (by kernel_rfl) (by kernel_rfl) (.cons (.refl _) (.cons (.refl _) (.cons (.refl _) (.cons (app_cells rfl rfl fun j => rfl) .nil)))) ?_
  exact M.next (ι := {i : Nat // i <= lst.length}) ⟨i + 1, hlt'⟩ rfl [] (by kernel_rfl) trivial (by kernel_rfl) (by kernel_rfl) (by kernel_rfl)
 ·cases fin with
  | some q => cases hf
  | none =>
   have hn' : i = lst.length := hn
   subst hn'
   exact M.leave hD [0, 1, 2, 3] (saved_none lst lst.length) [] [lst.length <= lst.length] (.tup [.sl 6 lst.length (fun j => Pc.pv (lst.getD j default)), I 0, I 0]) (by kernel_rfl) trivial (by kernel_rfl) (by kernel_rfl) (by kernel_rfl) rfl (by kernel_rfl) (by kernel_rfl) (by kernel_rfl) (by kernel_rfl) ⟨Nat.le_refl _, trivial⟩ fun L W u h => h
 ·cases fin with
  | none => cases hf
  | some q =>
   obtain ⟨e, p⟩ := q
   cases hf
   refine OkP.leave (x' := stopV e p) hD [0, 1, 2, 3] (saved_some lst i e p) [] (.tup [.v (.slice none 0 0), I e, I p]) (by kernel_rfl) rfl (by kernel_rfl) (by kernel_rfl) (by kernel_rfl) (by kernel_rfl) (by kernel_rfl) trivial fun L W u h => ?_
   show R [] L W (.tup [row 6 Pc.pv [], I e, I p]) u
   rw [R] at h
   rw [R]
   obtain ⟨us, rfl, h⟩ := h
   obtain ⟨u0, us', rfl, h1, h2⟩ := h.uncons
   refine ⟨_, rfl, Rs.cons ?_ h2⟩
   rw [R] at h1
   rw [R]
   exact ⟨none, 0, h1, Nat.le_refl _, by omega, fun h => absurd h (Nat.lt_irrefl _)⟩
def kindL (t : List UInt8) : Int :=
 bif (divL t).2.1 != 0 then 0 else (bif ((divL t).1.length : Int) != 1 then 0 else (bif ((divL t).1.getD 0 default).frm != 0 then 0 else (bif ((divL t).1.getD 0 default).til != (t.length : Int) then 0 else ((divL t).1.getD 0 default).kind)))
theorem kind_spec (t : List UInt8) : Spec Tryz.prog 151 [S t] (I (kindL t)) := by
 refine Spec.startL (by kernel_rfl) Tryz.func151 rfl rfl fun w0 L hst => ?_
 refine M.cl (divided_spec t) ?_
 refine M.tq (r := kindL t) rfl (fun h1 q1 => ?_) (fun h1 q1 => ?_)
 ·exact M.rq q1
 ·refine M.tq q1 (fun h2 q2 => ?_) (fun h2 q2 => ?_)
  ·exact M.rq q2
  ·have h2' : ((divL t).1.length : Int) = 1 := by simpa using h2
   refine M.tqp [(0 : Int) <= 0 /\ (0 : Int) < ((divL t).1.length : Int)] ⟨by omega, trivial⟩ q2 (fun h3 q3 => ?_) (fun h3 q3 => ?_)
   ·exact M.rq q3
   ·refine M.tqp [(0 : Int) <= 0 /\ (0 : Int) < ((divL t).1.length : Int)] ⟨by omega, trivial⟩ q3 (fun h4 q4 => ?_) (fun h4 q4 => ?_)
    ·exact M.rq q4
    ·exact M.rqp [(0 : Int) <= 0 /\ (0 : Int) < ((divL t).1.length : Int)] ⟨by omega, trivial⟩ q4
theorem ix1_spec (l : List UInt8) (c : UInt8) : Spec Tryz.prog 297 [S l, S [c]] (I (Lib.indexByte l c)) := by
 refine ⟨by kernel_rfl, fun L W vs hL hG hR => ?_⟩
 obtain ⟨u, us, rfl, h1, hR1⟩ := hR.uncons
 obtain ⟨u2, us, rfl, h2, hR2⟩ := hR1.uncons
 rw [Rs] at hR2
 rw [R] at h1 h2
 subst h1; subst h2; subst hR2
 refine (Tryz.strings_Index_one ⟨l.toArray⟩ c W).mono fun e w' ⟨he, hw⟩ => ?_
 subst hw
 exact ⟨_, he, by rw [R], Below.refl _ _⟩
theorem cnt1_spec (l : List UInt8) (c : UInt8) : Spec Tryz.prog 296 [S l, S [c]] (I (l.count c)) := by
 refine ⟨by kernel_rfl, fun L W vs hL hG hR => ?_⟩
 obtain ⟨u, us, rfl, h1, hR1⟩ := hR.uncons
 obtain ⟨u2, us, rfl, h2, hR2⟩ := hR1.uncons
 rw [Rs] at hR2
 rw [R] at h1 h2
 subst h1; subst h2; subst hR2
 refine (Tryz.strings_Count_one ⟨l.toArray⟩ c W).mono fun e w' ⟨he, hw⟩ => ?_
 subst hw
 exact ⟨_, he, by rw [R]; rfl, Below.refl _ _⟩
def cutN (c : UInt8) : Nat -> List UInt8 -> List (List UInt8)
 | 0, s => [s]
 | n + 1, s => s.take ((Lib.indexByte s c).toNat + 1) :: cutN c n (s.drop ((Lib.indexByte s c).toNat + 1))
theorem cutN_len (c : UInt8) : ∀ (n : Nat) (s : List UInt8), (cutN c n s).length = n + 1
 | 0, _ => rfl
 | n + 1, s => by unfold cutN; rw [List.length_cons, cutN_len c n]
theorem ix_count (c : UInt8) : ∀ (s : List UInt8), 0 < s.count c -> 0 <= Lib.indexByte s c /\ (s.drop ((Lib.indexByte s c).toNat + 1)).count c + 1 = s.count c
 | [], h => by simp at h
 | b :: s, h => by
  unfold Lib.indexByte
  cases hb : b == c with
  | true =>
   have e : b = c := by simpa using hb
   subst e
   simp
  | false =>
   have hc : (b :: s).count c = s.count c := by rw [List.count_cons, hb]; simp
   rw [hc] at h ⊢
   have ih := ix_count c s h
   have hne : ¬ (Lib.indexByte s c == -1) = true := by simp; omega
   rw [if_neg (by simp), if_neg hne]
   refine ⟨by omega, ?_⟩
   rw [show (Lib.indexByte s c + 1).toNat + 1 = ((Lib.indexByte s c).toNat + 1) + 1 by omega]
   exact ih.2
abbrev mn (s : List UInt8) : Int := if (s.length : Int) + 1 < (s.count 58 : Int) + 1 then (s.length : Int) + 1 else (s.count 58 : Int) + 1
theorem mn_eq (s : List UInt8) : mn s = s.count 58 + 1 := by
 have := List.count_le_length (a := (58 : UInt8)) (l := s)
 unfold mn; rw [if_neg (by omega)]
def cutS (s : List UInt8) : List (List UInt8) := cutN 58 (s.count 58) s
abbrev elS (s : List UInt8) (i : Nat) : Nat -> List PV := fun j => if j < i then [S ((cutS s).getD j [])] else [S []]
theorem elS_next (s x : List UInt8) (i : Nat) (h : (cutS s).getD i [] = x) (j : Nat) : setEl (elS s i) (i : Int).toNat 0 [S x] j = elS s (i + 1) j := by
 unfold setEl elS
 rw [show (i : Int).toNat = i by simp]
 by_cases e : j = i
 ·subst e
  rw [if_pos rfl, if_neg (Nat.lt_irrefl j), if_pos (Nat.lt_succ_self j), h]
  rfl
 ·rw [if_neg e]
  by_cases h2 : j < i
  ·rw [if_pos h2, if_pos (by omega)]
  ·rw [if_neg h2, if_neg (by omega)]
theorem ix_len {c : UInt8} {s : List UInt8} (h : 0 <= Lib.indexByte s c) : (Lib.indexByte s c).toNat + 1 <= s.length := by
 have := ix_lt s c; omega
theorem genSplit_spec (s : List UInt8) (hs : s.length <= 1000000) : Spec Tryz.prog 260 [S s, S [58], I 1, I (-1)] (row 1 (fun x => [S x]) (cutS s)) := by
 refine Spec.startL (by kernel_rfl) Tryz.func260 rfl rfl fun w0 L hst => ?_
 have hcl := List.count_le_length (a := (58 : UInt8)) (l := s)
 have hmn := mn_eq s
 refine M.n (b := (-1 : Int) == 0) rfl ?_
 refine M.n (b := ([58] : List UInt8) == []) rfl ?_
 refine M.ys (b := decide ((-1 : Int) < 0)) rfl ?_
 refine M.cl (cnt1_spec s 58) ?_
 refine M.loopL (ι := {q : Nat × List UInt8 // q.1 <= s.count 58 /\ cutN 58 (s.count 58 - q.1) q.2 = (cutS s).drop q.1 /\ q.2.count 58 = s.count 58 - q.1 /\ q.2.length <= s.length}) (fun q => [(0, S q.1.2), (1, S [58]), (2, I 1), (3, I (mn s - 1)), (9, .os 9 0 1 (mn s).toNat), (10, I q.1.1)])
  (fun q => [[.rws 1 (mn s).toNat (elS s q.1.1)]]) (fun q => s.count 58 - q.1.1) ⟨(0, s), Nat.zero_le _, rfl, rfl, Nat.le_refl _⟩
  [In64 ((s.count 58 : Int) + 1), In64 ((s.length : Int) + 1), 0 <= mn s /\ mn s <= mn s /\ (16 : Int) * mn s <= 281474976710656 /\ mn s <= 9223372036854775807, In64 (mn s - 1)] (by kernel_rfl) ⟨⟨by omega, by omega⟩, ⟨by omega, by omega⟩, by omega, ⟨by omega, by omega⟩, trivial⟩ (by kernel_rfl) (by kernel_rfl) fun ⟨(i, y), hi, hd, hc, hy⟩ L ih => ?_
 simp only at hi hd hc hy
 refine M.ts (decide ((i : Int) < mn s - 1)) (fun h1 => ?_) (fun h1 => ?_)
 ·have h1' := of_decide_eq_true h1
  have hlt : i < s.count 58 := by omega
  obtain ⟨hge, hc2⟩ := ix_count 58 y (by omega)
  have hle := ix_len hge
  refine M.cl (ix1_spec y 58) ?_
  refine M.n (b := decide (Lib.indexByte y 58 < 0)) (decide_eq_false (by omega)) ?_
  have e1 : sub y 0 (Lib.indexByte y 58 + 1) = y.take ((Lib.indexByte y 58).toNat + 1) := by
   unfold sub
   rw [show (Lib.indexByte y 58 + 1).toNat = (Lib.indexByte y 58).toNat + 1 by omega]
   rfl
  have e2 : sub y (Lib.indexByte y 58 + 1) y.length = y.drop ((Lib.indexByte y 58).toNat + 1) := by
   unfold sub
   rw [show (Lib.indexByte y 58 + 1).toNat = (Lib.indexByte y 58).toNat + 1 by omega, List.take_of_length_le]
   rw [List.length_drop]; omega
  have hcut : cutN 58 (s.count 58 - i) y = y.take ((Lib.indexByte y 58).toNat + 1) :: cutN 58 (s.count 58 - (i + 1)) (y.drop ((Lib.indexByte y 58).toNat + 1)) := by
   rw [show s.count 58 - i = (s.count 58 - (i + 1)) + 1 by omega]; rfl
  have hg : (cutS s).getD i [] = sub y 0 (Lib.indexByte y 58 + 1) := by
   have := congrArg (fun l => l[0]?) (hd.symm.trans hcut)
   simp only [List.getElem?_drop, Nat.add_zero, List.getElem?_cons_zero] at this
   rw [List.getD_eq_getElem?_getD, this, e1]
   rfl
  have htl : cutN 58 (s.count 58 - (i + 1)) (sub y (Lib.indexByte y 58 + 1) y.length) = (cutS s).drop (i + 1) := by
   have := congrArg List.tail (hd.symm.trans hcut)
   rw [List.tail_drop] at this
   rw [e2]
   exact this.symm
  refine M.sig [In64 (Lib.indexByte y 58 + 1), (0 : Int) <= 0 /\ 0 <= Lib.indexByte y 58 + 1 /\ Lib.indexByte y 58 + 1 <= y.length, 0 <= (i : Int) /\ (i : Int) < ((mn s).toNat : Int), (i : Int).toNat < (mn s).toNat, In64 (Lib.indexByte y 58 + 1), 0 <= Lib.indexByte y 58 + 1 /\ Lib.indexByte y 58 + 1 <= y.length /\ (y.length : Int) <= y.length, In64 ((i : Int) + 1)]
   [[.rws 1 (mn s).toNat (setEl (elS s i) (i : Int).toNat 0 [S (sub y 0 (Lib.indexByte y 58 + 1))])]] [[.rws 1 (mn s).toNat (elS s (i + 1))]] (by kernel_rfl) ⟨⟨by omega, by omega⟩, by omega, by omega, by omega, ⟨by omega, by omega⟩, by omega, ⟨by omega, by omega⟩, trivial⟩ (by kernel_rfl) (by kernel_rfl)
   (.cons (.rws rfl fun j _ => elS_next s _ i hg j) .nil) ?_
  exact M.bk [] (ih ⟨(i + 1, sub y (Lib.indexByte y 58 + 1) y.length), hlt, htl, by show (sub y (Lib.indexByte y 58 + 1) y.length).count 58 = s.count 58 - (i + 1); rw [e2]; omega, by show (sub y (Lib.indexByte y 58 + 1) y.length).length <= s.length; rw [e2, List.length_drop]; omega⟩ L (by show s.count 58 - (i + 1) < s.count 58 - i; omega)) trivial
 ·have h1' := of_decide_eq_false h1
  have hi' : i = s.count 58 := by omega
  have hlen : (cutS s).length = s.count 58 + 1 := cutN_len _ _ _
  have hg : (cutS s).getD i [] = y := by
   rw [hi', Nat.sub_self] at hd
   have := congrArg (fun l => l[0]?) hd
   simp only [List.getElem?_drop, Nat.add_zero] at this
   rw [List.getD_eq_getElem?_getD, hi', <- this]
   rfl
  refine M.retw [0 <= (i : Int) /\ (i : Int) < ((mn s).toNat : Int), (i : Int).toNat < (mn s).toNat, In64 ((i : Int) + 1), (0 : Int) <= 0 /\ 0 <= (i : Int) + 1 /\ (i : Int) + 1 <= ((mn s).toNat : Int), ((i : Int) + 1).toNat <= (mn s).toNat]
   (.sl 1 ((i : Int) + 1).toNat (fun j => (setEl (elS s i) (i : Int).toNat 0 [S y] j).map unr)) (by kernel_rfl) ⟨by omega, by omega, ⟨by omega, by omega⟩, by omega, by omega, trivial⟩ fun L W u h => ?_
  refine sl_eq (by omega) (fun j hj => ?_) h
  show List.map unr (setEl (elS s i) (i : Int).toNat 0 [S y] j) = _
  rw [elS_next s y i hg j]
  unfold elS
  rw [if_pos (by omega)]
  rfl
theorem splitAfter_spec (s : List UInt8) (hs : s.length <= 1000000) : Spec Tryz.prog 235 [S s, S [58]] (row 1 (fun x => [S x]) (cutS s)) := by
 refine Spec.startL (by kernel_rfl) Tryz.func235 rfl rfl fun w0 L hst => ?_
 refine M.cl (genSplit_spec s hs) ?_
 exact M.ret (row 1 (fun x => [S x]) (cutS s)) (by kernel_rfl) rfl
def isWordP (k : Int) (x : List UInt8) (l : Int) (c : Int) : Bool := (bif k == 1 then (bif !x == [115, 101, 108, 102] then !x == [114, 101, 115, 101, 110, 100] else false) else false)
theorem isWordP_spec' (k : Int) (x : List UInt8) (l c : Int) (r : Bool) (hq : isWordP k x l c = r) : Spec Tryz.prog 199 [.agg [I k, S x, I l, I c]] (.sb r) := by
 unfold isWordP at hq
 refine Spec.startL (by kernel_rfl) Tryz.func199 rfl rfl fun w0 L hst => ?_
 refine M.tq hq (fun h1 q2 => ?_) (fun h1 q2 => ?_)
 ·refine M.tq q2 (fun h3 q4 => ?_) (fun h3 q4 => ?_)
  ·exact M.rq q4
  ·exact M.rq q4
 ·exact M.rq q2
theorem isWordP_spec (k : Int) (x : List UInt8) (l c : Int) : Spec Tryz.prog 199 [.agg [I k, S x, I l, I c]] (.sb (isWordP k x l c)) := isWordP_spec' k x l c _ rfl
def isOpP (k : Int) (x : List UInt8) (l : Int) (c : Int) : Bool := (bif k == 7 then (bif !x == [61] then !x == [60, 45] else false) else false)
theorem isOpP_spec' (k : Int) (x : List UInt8) (l c : Int) (r : Bool) (hq : isOpP k x l c = r) : Spec Tryz.prog 150 [.agg [I k, S x, I l, I c]] (.sb r) := by
 unfold isOpP at hq
 refine Spec.startL (by kernel_rfl) Tryz.func150 rfl rfl fun w0 L hst => ?_
 refine M.tq hq (fun h1 q2 => ?_) (fun h1 q2 => ?_)
 ·refine M.tq q2 (fun h3 q4 => ?_) (fun h3 q4 => ?_)
  ·exact M.rq q4
  ·exact M.rq q4
 ·exact M.rq q2
theorem isOpP_spec (k : Int) (x : List UInt8) (l c : Int) : Spec Tryz.prog 150 [.agg [I k, S x, I l, I c]] (.sb (isOpP k x l c)) := isOpP_spec' k x l c _ rfl
def kwoneP (x : List UInt8) : Bool := (bif kindL x != 3 then true else x == [73, 102, 70, 97, 105, 108, 58])
theorem kwoneP_spec' (x : List UInt8) (r : Bool) (hq : kwoneP x = r) : Spec Tryz.prog 202 [S x] (.sb r) := by
 unfold kwoneP at hq
 refine Spec.startL (by kernel_rfl) Tryz.func202 rfl rfl fun w0 L hst => ?_
 refine M.cl (kind_spec x) ?_
 refine M.tq hq (fun h1 q2 => ?_) (fun h1 q2 => ?_)
 ·exact M.rq q2
 ·exact M.rq q2
theorem kwoneP_spec (x : List UInt8) : Spec Tryz.prog 202 [S x] (.sb (kwoneP x)) := kwoneP_spec' x _ rfl
end Go.Proofs.YtplpnfjccemdnaaGreatDoor
