import Derived.Test.YtcknpohghmkbmaaGreatDoorK14
set_option linter.unusedVariables false
set_option linter.unusedSimpArgs false
/- The texts L5 L6 L7 L8 L9 L10 of the proof, laid one behind the other. -/
namespace Go.Proofs.YtcknpohghmkbmaaGreatDoor
open Go.RowKit
theorem row_drop {α : Type} [Inhabited α] (k : Nat) (f : α -> List PV) (l : List α) (n : Nat) : PV.sl k (l.length - n) (fun j => f (l.getD (n + j) default)) = row k f (l.drop n) := by
 have : (fun j => f (l.getD (n + j) default)) = fun j => f ((l.drop n).getD j default) := by
  funext j
  rw [List.getD_eq_getElem?_getD, List.getD_eq_getElem?_getD, List.getElem?_drop]
 rw [this, <- List.length_drop]
def primN (l : List UInt8) : Nat := runF wordL (l.drop 1)
def primC (l : List UInt8) : Nat := colL l (1 + primN l)
def primOk (l : List UInt8) : Bool := bif decide ((primN l : Int) >= 1) then (bif decide ((primN l : Int) <= 24) then largeL (nxt l 1) else false) else false
theorem run1_spec (l : List UInt8) (h : l.length <= 9223372036854775807) : Spec Tryz.prog 267 [.sl 1 (l.length - 1) (fun j => [B (l.getD (1 + j) default)]), .fn 293 []] (I (primN l)) := by
 have := run_spec (l.drop 1) 293 wordL (by rw [List.length_drop]; omega) wordL_spec
 have e : PV.sl 1 (l.length - 1) (fun j => [B (l.getD (1 + j) default)]) = brow (l.drop 1) := row_drop 1 (fun b => [B b]) l 1
 rw [e]
 exact this
theorem Rd.Ok.prim {t : List UInt8} {r : Rd} (h : r.Ok t) (hne : r.pos < t.length) : r.pos + (1 + primN (t.drop r.pos)) <= t.length /\ primN (t.drop r.pos) <= 1000000 := by
 have h1 := h.len; have h2 := runF_le wordL ((t.drop r.pos).drop 1); rw [List.length_drop, List.length_drop] at h2
 have h3 : primN (t.drop r.pos) = runF wordL ((t.drop r.pos).drop 1) := rfl
 omega
theorem prim_no {t : List UInt8} {r : Rd} (h : r.Ok t) (hne : r.pos < t.length) (hq : primOk (t.drop r.pos) = false) : SpecP Tryz.prog 257 1 [rd t r] [.ref 0 0] [rd t r] (stopV 12 r.pos) := by
 refine SpecP.start (by kernel_rfl) Tryz.func257 rfl rfl (Nat.le_refl _) fun w0 L hst => ?_
 have hl : 1 <= (t.drop r.pos).length := by rw [List.length_drop]; omega
 refine M.callm [0] (rest_spec h) (by kernel_rfl) ?_
 refine M.clp [(0 : Int) <= 1 /\ (1 : Int) <= (t.drop r.pos).length /\ ((t.drop r.pos).length : Int) <= (t.drop r.pos).length] ⟨by omega, trivial⟩ (run1_spec (t.drop r.pos) h.rest) ?_
 refine M.tq hq (fun h1 q2 => ?_) (fun h1 q2 => ?_)
 ·refine M.tq q2 (fun h3 q4 => ?_) (fun h3 q4 => ?_)
  ·refine M.cl (next_spec h 1 (by omega)) ?_
   refine M.cl (largeL_spec (nxt (t.drop r.pos) 1)) ?_
   exact M.callP [] [] (needP_s q4 12 r.pos) (by kernel_rfl) trivial (by kernel_rfl) (OkP.done [0] hst rfl (by kernel_rfl) (by kernel_rfl) (by kernel_rfl))
  ·exact M.callP [] [] (needP_f 12 r.pos) (by kernel_rfl) trivial (by kernel_rfl) (OkP.done [0] hst rfl (by kernel_rfl) (by kernel_rfl) (by kernel_rfl))
 ·exact M.callP [] [] (needP_f 12 r.pos) (by kernel_rfl) trivial (by kernel_rfl) (OkP.done [0] hst rfl (by kernel_rfl) (by kernel_rfl) (by kernel_rfl))
theorem prim_ok {t : List UInt8} {r : Rd} (h : r.Ok t) (hne : r.pos < t.length) (hq : primOk (t.drop r.pos) = true) : SpecM Tryz.prog 257 1 [rd t r] [.ref 0 0] [rd t (r.fwd t (1 + primN (t.drop r.pos) + primC (t.drop r.pos)))] (.tup [I 4, S ((t.drop r.pos).take (1 + primN (t.drop r.pos) + primC (t.drop r.pos)))]) := by
 refine SpecM.start (by kernel_rfl) Tryz.func257 rfl rfl (Nat.le_refl _) fun w0 L hst => ?_
 have hl : 1 <= (t.drop r.pos).length := by rw [List.length_drop]; omega
 have hw := h.prim hne
 have hc : r.pos + (1 + primN (t.drop r.pos) + primC (t.drop r.pos)) <= t.length /\ primC (t.drop r.pos) <= 1 := h.colOk hw.1
 refine M.callm [0] (rest_spec h) (by kernel_rfl) ?_
 refine M.clp [(0 : Int) <= 1 /\ (1 : Int) <= (t.drop r.pos).length /\ ((t.drop r.pos).length : Int) <= (t.drop r.pos).length] ⟨by omega, trivial⟩ (run1_spec (t.drop r.pos) h.rest) ?_
 refine M.tq hq (fun h1 q2 => ?_) (fun h1 q2 => by cases q2)
 refine M.tq q2 (fun h3 q4 => ?_) (fun h3 q4 => by cases q4)
 refine M.cl (next_spec h 1 (by omega)) ?_
 refine M.cl (largeL_spec (nxt (t.drop r.pos) 1)) ?_
 refine M.cl (need_s q4 12 r.pos) ?_
 refine M.clp [In64 (1 + (primN (t.drop r.pos) : Int)), In64 (1 + (primN (t.drop r.pos) : Int))] ⟨⟨by omega, by omega⟩, ⟨by omega, by omega⟩, trivial⟩ (colon_spec h (1 + primN (t.drop r.pos)) (by have := of_decide_eq_true h3; omega)) ?_ (by kernel_rfl)
 refine M.callmp [In64 (1 + (primN (t.drop r.pos) : Int) + primC (t.drop r.pos))] [0] (forward_spec h (1 + primN (t.drop r.pos) + primC (t.drop r.pos)) hc.1) (by kernel_rfl) ⟨⟨by omega, by omega⟩, trivial⟩ ?_
 exact M.retm [] [0] hst rfl (by kernel_rfl) trivial rfl rfl
def numN (l : List UInt8) : Nat := runF digitL l
def numOk (l : List UInt8) : Bool := bif decide ((numN l : Int) <= 400) then (bif (numN l : Int) == 1 then true else ((nxt l 0).toNat : Int) != 48) else false
theorem num_no {t : List UInt8} {r : Rd} (h : r.Ok t) (hq : numOk (t.drop r.pos) = false) : SpecP Tryz.prog 259 1 [rd t r] [.ref 0 0] [rd t r] (stopV 12 r.pos) := by
 refine SpecP.start (by kernel_rfl) Tryz.func259 rfl rfl (Nat.le_refl _) fun w0 L hst => ?_
 refine M.callm [0] (rest_spec h) (by kernel_rfl) ?_
 refine M.cl (run_spec (t.drop r.pos) 258 digitL h.rest digitL_spec) ?_
 refine M.tq hq (fun h1 q2 => ?_) (fun h1 q2 => ?_)
 ·refine M.tq q2 (fun h3 q4 => by cases q4) (fun h3 q4 => ?_)
  refine M.cl (next_spec h 0 (by omega)) ?_
  exact M.callP [] [] (needP_s q4 12 r.pos) (by kernel_rfl) trivial (by kernel_rfl) (OkP.done [0] hst rfl (by kernel_rfl) (by kernel_rfl) (by kernel_rfl))
 ·exact M.callP [] [] (needP_f 12 r.pos) (by kernel_rfl) trivial (by kernel_rfl) (OkP.done [0] hst rfl (by kernel_rfl) (by kernel_rfl) (by kernel_rfl))
theorem num_ok {t : List UInt8} {r : Rd} (h : r.Ok t) (hq : numOk (t.drop r.pos) = true) : SpecM Tryz.prog 259 1 [rd t r] [.ref 0 0] [rd t (r.fwd t (numN (t.drop r.pos)))] (.tup [I 5, S ((t.drop r.pos).take (numN (t.drop r.pos)))]) := by
 refine SpecM.start (by kernel_rfl) Tryz.func259 rfl rfl (Nat.le_refl _) fun w0 L hst => ?_
 have hw := h.run digitL
 refine M.callm [0] (rest_spec h) (by kernel_rfl) ?_
 refine M.cl (run_spec (t.drop r.pos) 258 digitL h.rest digitL_spec) ?_
 refine M.tq hq (fun h1 q2 => ?_) (fun h1 q2 => by cases q2)
 refine M.tq q2 (fun h3 q4 => M.cl (need_t 12 r.pos) ?_) (fun h3 q4 => M.cl (next_spec h 0 (by omega)) (M.cl (need_s q4 12 r.pos) ?_))
 all_goals refine M.callm [0] (forward_spec h (numN (t.drop r.pos)) hw.1) (by kernel_rfl) ?_
 all_goals exact M.retm [] [0] hst rfl (by kernel_rfl) trivial rfl rfl
def oprN (l : List UInt8) : Nat := runF opL l
def oprOk (l : List UInt8) : Bool := decide ((oprN l : Int) <= 3)
theorem opr_no {t : List UInt8} {r : Rd} (h : r.Ok t) (hq : oprOk (t.drop r.pos) = false) : SpecP Tryz.prog 263 1 [rd t r] [.ref 0 0] [rd t r] (stopV 12 r.pos) := by
 refine SpecP.start (by kernel_rfl) Tryz.func263 rfl rfl (Nat.le_refl _) fun w0 L hst => ?_
 refine M.callm [0] (rest_spec h) (by kernel_rfl) ?_
 refine M.cl (run_spec (t.drop r.pos) 262 opL h.rest opL_spec) ?_
 exact M.callP [] [] (needP_s hq 12 r.pos) (by kernel_rfl) trivial (by kernel_rfl) (OkP.done [0] hst rfl (by kernel_rfl) (by kernel_rfl) (by kernel_rfl))
theorem opr_ok {t : List UInt8} {r : Rd} (h : r.Ok t) (hq : oprOk (t.drop r.pos) = true) : SpecM Tryz.prog 263 1 [rd t r] [.ref 0 0] [rd t (r.fwd t (oprN (t.drop r.pos)))] (.tup [I 7, S ((t.drop r.pos).take (oprN (t.drop r.pos)))]) := by
 refine SpecM.start (by kernel_rfl) Tryz.func263 rfl rfl (Nat.le_refl _) fun w0 L hst => ?_
 have hw := h.run opL
 refine M.callm [0] (rest_spec h) (by kernel_rfl) ?_
 refine M.cl (run_spec (t.drop r.pos) 262 opL h.rest opL_spec) ?_
 refine M.cl (need_s hq 12 r.pos) ?_
 refine M.callm [0] (forward_spec h (oprN (t.drop r.pos)) hw.1) (by kernel_rfl) ?_
 exact M.retm [] [0] hst rfl (by kernel_rfl) trivial rfl rfl
def signK (t : List UInt8) (r : Rd) : Int :=
 bif ((nxt (t.drop r.pos) 0).toNat : Int) == 46 then (bif decide ((r.pos : Int) > 0) then (bif (r.name : Int) == r.pos then (bif letterL (nxt (t.drop r.pos) 1) then 9 else (bif opL (nxt (t.drop r.pos) 1) then 9 else 8)) else 8) else 8) else 8
theorem sign_ok {t : List UInt8} {r : Rd} (h : r.Ok t) (hne : r.pos < t.length) : SpecM Tryz.prog 265 1 [rd t r] [.ref 0 0] [rd t (r.fwd t 1)] (.tup [I (signK t r), S ((t.drop r.pos).take 1)]) := by
 refine SpecM.start (by kernel_rfl) Tryz.func265 rfl rfl (Nat.le_refl _) fun w0 L hst => ?_
 refine M.cl (next_spec h 1 (by omega)) ?_
 refine M.cl (next_spec h 0 (by omega)) ?_
 refine M.tq (r := signK t r) rfl (fun h1 q1 => ?_) (fun h1 q1 => ?_)
 ·refine M.tq q1 (fun h2 q2 => ?_) (fun h2 q2 => ?_)
  ·refine M.tq q2 (fun h3 q3 => ?_) (fun h3 q3 => ?_)
   ·refine M.cl (letterL_spec (nxt (t.drop r.pos) 1)) ?_
    refine M.tq q3 (fun h4 q4 => ?_) (fun h4 q4 => ?_)
    ·refine M.callm [0] (forward_spec h 1 hne) (by kernel_rfl) ?_
     rw [<- q4]
     exact M.retm [] [0] hst rfl (by kernel_rfl) trivial rfl rfl
    ·refine M.cl (opL_spec (nxt (t.drop r.pos) 1)) ?_
     refine M.tq q4 (fun h5 q5 => ?_) (fun h5 q5 => ?_)
     all_goals refine M.callm [0] (forward_spec h 1 hne) (by kernel_rfl) ?_
     all_goals rw [<- q5]
     all_goals exact M.retm [] [0] hst rfl (by kernel_rfl) trivial rfl rfl
   ·refine M.callm [0] (forward_spec h 1 hne) (by kernel_rfl) ?_
    rw [<- q3]
    exact M.retm [] [0] hst rfl (by kernel_rfl) trivial rfl rfl
  ·refine M.callm [0] (forward_spec h 1 hne) (by kernel_rfl) ?_
   rw [<- q2]
   exact M.retm [] [0] hst rfl (by kernel_rfl) trivial rfl rfl
 ·refine M.callm [0] (forward_spec h 1 hne) (by kernel_rfl) ?_
  rw [<- q1]
  exact M.retm [] [0] hst rfl (by kernel_rfl) trivial rfl rfl
theorem nxt_lt {l : List UInt8} {n : Nat} {k : Int} (hk : k ≠ 0) (h : ((nxt l n).toNat : Int) = k) : n < l.length := by
 rcases Nat.lt_or_ge n l.length with h1 | h1
 ·exact h1
 ·unfold nxt at h; rw [List.getD_eq_getElem?_getD, List.getElem?_eq_none h1] at h; exact absurd h.symm (by simpa using hk)
def strL (t : List UInt8) : Nat -> Rd -> List UInt8 -> Rd × Option (List UInt8)
 | 0, r, _ => (r, none)
 | f + 1, r, x =>
  bif ((nxt (t.drop (r.fwd t (runF insideL (t.drop r.pos))).pos) 0).toNat : Int) == 39 then
   (bif ((nxt (t.drop ((r.fwd t (runF insideL (t.drop r.pos))).fwd t 1).pos) 0).toNat : Int) != 39 then
    ((r.fwd t (runF insideL (t.drop r.pos))).fwd t 1, some (x ++ (t.drop r.pos).take (runF insideL (t.drop r.pos))))
   else strL t f (((r.fwd t (runF insideL (t.drop r.pos))).fwd t 1).fwd t 1) ((x ++ (t.drop r.pos).take (runF insideL (t.drop r.pos))) ++ (t.drop ((r.fwd t (runF insideL (t.drop r.pos))).fwd t 1).pos).take 1))
  else (r.fwd t (runF insideL (t.drop r.pos)), none)
theorem nxt_pos {t : List UInt8} {p : Nat} {k : Int} (hk : k ≠ 0) (h : ((nxt (t.drop p) 0).toNat : Int) = k) : p + 1 <= t.length := by
 have := nxt_lt hk h
 rw [List.length_drop] at this
 omega
abbrev StrI (t : List UInt8) (res : Rd × Option (List UInt8)) := {q : Nat × Rd × List UInt8 // q.2.1.Ok t /\ strL t q.1 q.2.1 q.2.2 = res /\ q.2.2.length <= q.2.1.pos /\ t.length < q.1 + q.2.1.pos}
theorem str_ok {t : List UInt8} {r r' : Rd} {x : List UInt8} (h : r.Ok t) (hne : r.pos < t.length) (hq : strL t (t.length + 1) (r.fwd t 1) [] = (r', some x)) : SpecM Tryz.prog 261 1 [rd t r] [.ref 0 0] [rd t r'] (.tup [I 6, S x]) := by
 refine SpecM.start (by kernel_rfl) Tryz.func261 rfl rfl (Nat.le_refl _) fun w0 L hst => ?_
 refine M.callm [0] (forward_spec h 1 hne) (by kernel_rfl) ?_
 refine M.loopL (ι := StrI t (r', some x)) (fun q => [(0, .ref 0 0), (4, I r.pos), (5, S q.1.2.2)]) (fun q => [rd t q.1.2.1]) (fun q => q.1.1) ⟨(t.length + 1, r.fwd t 1, []), h.fwd hne, hq, Nat.zero_le _, by show t.length < t.length + 1 + _; omega⟩ [] (by kernel_rfl) trivial (by kernel_rfl) (by kernel_rfl) fun ⟨(f, s, y), hs, hf, hy, hfu⟩ L ih => ?_
 simp only at hs hf hy hfu
 have hsp := hs.pos
 cases f with
 | zero => omega
 | succ f =>
 have hw := hs.run insideL
 have hs1 := hs.fwd hw.1
 have hlen := hs.len
 unfold strL at hf
 refine M.callm [0] (rest_spec hs) (by kernel_rfl) ?_
 refine M.cl (run_spec (t.drop s.pos) 295 insideL hs.rest insideL_spec) ?_
 refine M.callm [0] (forward_spec hs (runF insideL (t.drop s.pos)) hw.1) (by kernel_rfl) ?_
 have hyl : (y ++ (t.drop s.pos).take (runF insideL (t.drop s.pos))).length <= s.pos + runF insideL (t.drop s.pos) := by rw [List.length_append, List.length_take]; omega
 refine M.clp [((y.length + ((t.drop s.pos).take (runF insideL (t.drop s.pos))).length : Nat) : Int) <= 9223372036854775807] ⟨by rw [List.length_take]; omega, trivial⟩ (next_spec hs1 0 (by omega)) ?_
 cases hb : ((nxt (t.drop (s.fwd t (runF insideL (t.drop s.pos))).pos) 0).toNat : Int) == 39 with
 | false => rw [hb] at hf; cases hf
 | true =>
 rw [hb] at hf
 refine M.cl (need_s hb 11 r.pos) ?_
 have hp : (s.fwd t (runF insideL (t.drop s.pos))).pos + 1 <= t.length := nxt_pos (k := 39) (by omega) (by simpa using hb)
 have hs2 := hs1.fwd hp
 refine M.callm [0] (forward_spec hs1 1 hp) (by kernel_rfl) ?_
 refine M.cl (next_spec hs2 0 (by omega)) ?_
 refine M.test (((nxt (t.drop ((s.fwd t (runF insideL (t.drop s.pos))).fwd t 1).pos) 0).toNat : Int) != 39) (by kernel_rfl) (fun h5 => ?_) (fun h5 => ?_)
 ·rw [h5] at hf
  cases hf
  exact M.retm [] [0] hst rfl (by kernel_rfl) trivial rfl rfl
 ·rw [h5] at hf
  have hp2 : ((s.fwd t (runF insideL (t.drop s.pos))).fwd t 1).pos + 1 <= t.length := nxt_pos (k := 39) (by omega) (by simpa using h5)
  refine M.callm [0] (forward_spec hs2 1 hp2) (by kernel_rfl) ?_
  have e1 : ((s.fwd t (runF insideL (t.drop s.pos))).fwd t 1).pos = s.pos + runF insideL (t.drop s.pos) + 1 := rfl
  have e2 : (((s.fwd t (runF insideL (t.drop s.pos))).fwd t 1).fwd t 1).pos = s.pos + runF insideL (t.drop s.pos) + 1 + 1 := rfl
  refine M.back [(((y ++ (t.drop s.pos).take (runF insideL (t.drop s.pos))).length + ((t.drop ((s.fwd t (runF insideL (t.drop s.pos))).fwd t 1).pos).take 1).length : Nat) : Int) <= 9223372036854775807]
   (ih ⟨(f, ((s.fwd t (runF insideL (t.drop s.pos))).fwd t 1).fwd t 1, (y ++ (t.drop s.pos).take (runF insideL (t.drop s.pos))) ++ (t.drop ((s.fwd t (runF insideL (t.drop s.pos))).fwd t 1).pos).take 1), hs2.fwd hp2, hf, by simp only [List.length_append, List.length_take] at hyl ⊢; omega, by simp only; omega⟩ L (Nat.lt_succ_self f)) (by kernel_rfl) ⟨by rw [List.length_take]; omega, trivial⟩ (by kernel_rfl) (by kernel_rfl) (by kernel_rfl) (by kernel_rfl)
theorem str_no {t : List UInt8} {r r' : Rd} (h : r.Ok t) (hne : r.pos < t.length) (hq : strL t (t.length + 1) (r.fwd t 1) [] = (r', none)) : SpecP Tryz.prog 261 1 [rd t r] [.ref 0 0] [rd t r'] (stopV 11 r.pos) := by
 refine SpecP.start (by kernel_rfl) Tryz.func261 rfl rfl (Nat.le_refl _) fun w0 L hst => ?_
 refine M.callm [0] (forward_spec h 1 hne) (by kernel_rfl) ?_
 refine M.loopL (ι := StrI t (r', none)) (fun q => [(0, .ref 0 0), (4, I r.pos), (5, S q.1.2.2)]) (fun q => [rd t q.1.2.1]) (fun q => q.1.1) ⟨(t.length + 1, r.fwd t 1, []), h.fwd hne, hq, Nat.zero_le _, by show t.length < t.length + 1 + _; omega⟩ [] (by kernel_rfl) trivial (by kernel_rfl) (by kernel_rfl) fun ⟨(f, s, y), hs, hf, hy, hfu⟩ L ih => ?_
 simp only at hs hf hy hfu
 have hsp := hs.pos
 cases f with
 | zero => omega
 | succ f =>
 have hw := hs.run insideL
 have hs1 := hs.fwd hw.1
 have hlen := hs.len
 unfold strL at hf
 refine M.callm [0] (rest_spec hs) (by kernel_rfl) ?_
 refine M.cl (run_spec (t.drop s.pos) 295 insideL hs.rest insideL_spec) ?_
 refine M.callm [0] (forward_spec hs (runF insideL (t.drop s.pos)) hw.1) (by kernel_rfl) ?_
 have hyl : (y ++ (t.drop s.pos).take (runF insideL (t.drop s.pos))).length <= s.pos + runF insideL (t.drop s.pos) := by rw [List.length_append, List.length_take]; omega
 refine M.clp [((y.length + ((t.drop s.pos).take (runF insideL (t.drop s.pos))).length : Nat) : Int) <= 9223372036854775807] ⟨by rw [List.length_take]; omega, trivial⟩ (next_spec hs1 0 (by omega)) ?_
 cases hb : ((nxt (t.drop (s.fwd t (runF insideL (t.drop s.pos))).pos) 0).toNat : Int) == 39 with
 | false =>
  rw [hb] at hf
  cases hf
  exact M.callP [] [] (needP_s hb 11 r.pos) (by kernel_rfl) trivial (by kernel_rfl) (OkP.done [0] hst rfl (by kernel_rfl) (by kernel_rfl) (by kernel_rfl))
 | true =>
 rw [hb] at hf
 refine M.cl (need_s hb 11 r.pos) ?_
 have hp : (s.fwd t (runF insideL (t.drop s.pos))).pos + 1 <= t.length := nxt_pos (k := 39) (by omega) (by simpa using hb)
 have hs2 := hs1.fwd hp
 refine M.callm [0] (forward_spec hs1 1 hp) (by kernel_rfl) ?_
 refine M.cl (next_spec hs2 0 (by omega)) ?_
 refine M.test (((nxt (t.drop ((s.fwd t (runF insideL (t.drop s.pos))).fwd t 1).pos) 0).toNat : Int) != 39) (by kernel_rfl) (fun h5 => ?_) (fun h5 => ?_)
 ·rw [h5] at hf
  cases hf
 ·rw [h5] at hf
  have hp2 : ((s.fwd t (runF insideL (t.drop s.pos))).fwd t 1).pos + 1 <= t.length := nxt_pos (k := 39) (by omega) (by simpa using h5)
  refine M.callm [0] (forward_spec hs2 1 hp2) (by kernel_rfl) ?_
  have e1 : ((s.fwd t (runF insideL (t.drop s.pos))).fwd t 1).pos = s.pos + runF insideL (t.drop s.pos) + 1 := rfl
  have e2 : (((s.fwd t (runF insideL (t.drop s.pos))).fwd t 1).fwd t 1).pos = s.pos + runF insideL (t.drop s.pos) + 1 + 1 := rfl
  refine M.back [(((y ++ (t.drop s.pos).take (runF insideL (t.drop s.pos))).length + ((t.drop ((s.fwd t (runF insideL (t.drop s.pos))).fwd t 1).pos).take 1).length : Nat) : Int) <= 9223372036854775807]
   (ih ⟨(f, ((s.fwd t (runF insideL (t.drop s.pos))).fwd t 1).fwd t 1, (y ++ (t.drop s.pos).take (runF insideL (t.drop s.pos))) ++ (t.drop ((s.fwd t (runF insideL (t.drop s.pos))).fwd t 1).pos).take 1), hs2.fwd hp2, hf, by simp only [List.length_append, List.length_take] at hyl ⊢; omega, by simp only; omega⟩ L (Nat.lt_succ_self f)) (by kernel_rfl) ⟨by rw [List.length_take]; omega, trivial⟩ (by kernel_rfl) (by kernel_rfl) (by kernel_rfl) (by kernel_rfl)
theorem ix_lt : ∀ (l : List UInt8) (c : UInt8), Lib.indexByte l c < l.length /\ -1 <= Lib.indexByte l c
 | [], c => by unfold Lib.indexByte; simp
 | b :: l, c => by
  unfold Lib.indexByte
  have := ix_lt l c
  simp only [List.length_cons]
  split
  ·omega
  ·split
   ·omega
   ·omega
theorem forward_int {t : List UInt8} {r : Rd} (h : r.Ok t) (m : Int) (h0 : 0 <= m) (hn : r.pos + m.toNat <= t.length) : SpecM Tryz.prog 266 1 [rd t r] [.ref 0 0, I m] [rd t (r.fwd t m.toNat)] (S ((t.drop r.pos).take m.toNat)) := by
 obtain ⟨k, rfl⟩ := Int.eq_ofNat_of_zero_le h0
 exact forward_spec h k hn
def passL (t : List UInt8) : Nat -> Rd -> Rd × Bool
 | 0, r => (r, false)
 | f + 1, r =>
  bif ((nxt (t.drop (r.fwd t (runF blankL (t.drop r.pos))).pos) 0).toNat : Int) != 34 then (r.fwd t (runF blankL (t.drop r.pos)), true)
  else (bif decide (Lib.indexByte (sub t (((r.fwd t (runF blankL (t.drop r.pos))).pos : Int) + 1) t.length) 34 >= 0) then
    passL t f ((r.fwd t (runF blankL (t.drop r.pos))).fwd t (Lib.indexByte (sub t (((r.fwd t (runF blankL (t.drop r.pos))).pos : Int) + 1) t.length) 34 + 2).toNat)
   else (r.fwd t (runF blankL (t.drop r.pos)), false))
theorem pass_ok {t : List UInt8} {r r' : Rd} (h : r.Ok t) (hq : passL t (t.length + 1) r = (r', true)) : SpecM Tryz.prog 229 1 [rd t r] [.ref 0 0] [rd t r'] (.tup []) := by
 refine SpecM.start (by kernel_rfl) Tryz.func229 rfl rfl (Nat.le_refl _) fun w0 L hst => ?_
 refine M.loopL (ι := {q : Nat × Rd // q.2.Ok t /\ passL t q.1 q.2 = (r', true) /\ t.length < q.1 + q.2.pos}) (fun q => [(0, .ref 0 0)]) (fun q => [rd t q.1.2]) (fun q => q.1.1) ⟨(t.length + 1, r), h, hq, by show t.length < t.length + 1 + _; omega⟩ [] (by kernel_rfl) trivial (by kernel_rfl) (by kernel_rfl) fun ⟨(f, s), hs, hf, hfu⟩ L ih => ?_
 simp only at hs hf hfu
 have hsp := hs.pos
 cases f with
 | zero => omega
 | succ f =>
 have hw := hs.run blankL
 have hs1 := hs.fwd hw.1
 have hlen := hs.len
 unfold passL at hf
 refine M.callm [0] (rest_spec hs) (by kernel_rfl) ?_
 refine M.cl (run_spec (t.drop s.pos) 269 blankL hs.rest blankL_spec) ?_
 refine M.callm [0] (forward_spec hs (runF blankL (t.drop s.pos)) hw.1) (by kernel_rfl) ?_
 refine M.cl (next_spec hs1 0 (by omega)) ?_
 refine M.test (((nxt (t.drop (s.fwd t (runF blankL (t.drop s.pos))).pos) 0).toNat : Int) != 34) (by kernel_rfl) (fun h5 => ?_) (fun h5 => ?_)
 ·rw [h5] at hf
  cases hf
  exact M.retm [] [0] hst rfl (by kernel_rfl) trivial rfl rfl
 ·rw [h5] at hf
  have hp : (s.fwd t (runF blankL (t.drop s.pos))).pos + 1 <= t.length := nxt_pos (k := 34) (by omega) (by simpa using h5)
  have e1 : (s.fwd t (runF blankL (t.drop s.pos))).pos = s.pos + runF blankL (t.drop s.pos) := rfl
  refine M.clp [In64 (((s.fwd t (runF blankL (t.drop s.pos))).pos : Int) + 1), 0 <= ((s.fwd t (runF blankL (t.drop s.pos))).pos : Int) + 1 /\ ((s.fwd t (runF blankL (t.drop s.pos))).pos : Int) + 1 <= t.length /\ (t.length : Int) <= t.length] ⟨⟨by omega, by omega⟩, by omega, trivial⟩ (ixByte_spec (sub t (((s.fwd t (runF blankL (t.drop s.pos))).pos : Int) + 1) t.length) 34) ?_
  cases hb : decide (Lib.indexByte (sub t (((s.fwd t (runF blankL (t.drop s.pos))).pos : Int) + 1) t.length) 34 >= 0) with
  | false =>
   rw [hb] at hf
   cases hf
  | true =>
   rw [hb] at hf
   refine M.cl (need_s hb 11 (s.fwd t (runF blankL (t.drop s.pos))).pos) ?_
   have hix := ix_lt (sub t (((s.fwd t (runF blankL (t.drop s.pos))).pos : Int) + 1) t.length) 34
   have hge := of_decide_eq_true hb
   have hsub : (sub t (((s.fwd t (runF blankL (t.drop s.pos))).pos : Int) + 1) t.length).length = t.length - (s.fwd t (runF blankL (t.drop s.pos))).pos - 1 := by
    unfold sub; rw [List.length_take, List.length_drop]; omega
   rw [hsub] at hix
   have hp2 : (s.fwd t (runF blankL (t.drop s.pos))).pos + (Lib.indexByte (sub t (((s.fwd t (runF blankL (t.drop s.pos))).pos : Int) + 1) t.length) 34 + 2).toNat <= t.length := by omega
   refine M.callmp [In64 (Lib.indexByte (sub t (((s.fwd t (runF blankL (t.drop s.pos))).pos : Int) + 1) t.length) 34 + 2)] [0] (forward_int hs1 (Lib.indexByte (sub t (((s.fwd t (runF blankL (t.drop s.pos))).pos : Int) + 1) t.length) 34 + 2) (by omega) hp2) (by kernel_rfl) ⟨⟨by omega, by omega⟩, trivial⟩ ?_
   exact M.back [] (ih ⟨(f, (s.fwd t (runF blankL (t.drop s.pos))).fwd t (Lib.indexByte (sub t (((s.fwd t (runF blankL (t.drop s.pos))).pos : Int) + 1) t.length) 34 + 2).toNat), hs1.fwd hp2, hf, by show t.length < f + ((s.fwd t (runF blankL (t.drop s.pos))).pos + _); omega⟩ L (Nat.lt_succ_self f)) (by kernel_rfl) trivial (by kernel_rfl) (by kernel_rfl) (by kernel_rfl) (by kernel_rfl)
theorem pass_no {t : List UInt8} {r r' : Rd} (h : r.Ok t) (hq : passL t (t.length + 1) r = (r', false)) : SpecP Tryz.prog 229 1 [rd t r] [.ref 0 0] [rd t r'] (stopV 11 r'.pos) := by
 refine SpecP.start (by kernel_rfl) Tryz.func229 rfl rfl (Nat.le_refl _) fun w0 L hst => ?_
 refine M.loopL (ι := {q : Nat × Rd // q.2.Ok t /\ passL t q.1 q.2 = (r', false) /\ t.length < q.1 + q.2.pos}) (fun q => [(0, .ref 0 0)]) (fun q => [rd t q.1.2]) (fun q => q.1.1) ⟨(t.length + 1, r), h, hq, by show t.length < t.length + 1 + _; omega⟩ [] (by kernel_rfl) trivial (by kernel_rfl) (by kernel_rfl) fun ⟨(f, s), hs, hf, hfu⟩ L ih => ?_
 simp only at hs hf hfu
 have hsp := hs.pos
 cases f with
 | zero => omega
 | succ f =>
 have hw := hs.run blankL
 have hs1 := hs.fwd hw.1
 have hlen := hs.len
 unfold passL at hf
 refine M.callm [0] (rest_spec hs) (by kernel_rfl) ?_
 refine M.cl (run_spec (t.drop s.pos) 269 blankL hs.rest blankL_spec) ?_
 refine M.callm [0] (forward_spec hs (runF blankL (t.drop s.pos)) hw.1) (by kernel_rfl) ?_
 refine M.cl (next_spec hs1 0 (by omega)) ?_
 refine M.test (((nxt (t.drop (s.fwd t (runF blankL (t.drop s.pos))).pos) 0).toNat : Int) != 34) (by kernel_rfl) (fun h5 => ?_) (fun h5 => ?_)
 ·rw [h5] at hf
  cases hf
 ·rw [h5] at hf
  have hp : (s.fwd t (runF blankL (t.drop s.pos))).pos + 1 <= t.length := nxt_pos (k := 34) (by omega) (by simpa using h5)
  have e1 : (s.fwd t (runF blankL (t.drop s.pos))).pos = s.pos + runF blankL (t.drop s.pos) := rfl
  refine M.clp [In64 (((s.fwd t (runF blankL (t.drop s.pos))).pos : Int) + 1), 0 <= ((s.fwd t (runF blankL (t.drop s.pos))).pos : Int) + 1 /\ ((s.fwd t (runF blankL (t.drop s.pos))).pos : Int) + 1 <= t.length /\ (t.length : Int) <= t.length] ⟨⟨by omega, by omega⟩, by omega, trivial⟩ (ixByte_spec (sub t (((s.fwd t (runF blankL (t.drop s.pos))).pos : Int) + 1) t.length) 34) ?_
  cases hb : decide (Lib.indexByte (sub t (((s.fwd t (runF blankL (t.drop s.pos))).pos : Int) + 1) t.length) 34 >= 0) with
  | false =>
   rw [hb] at hf
   cases hf
   exact M.callP [] [] (needP_s hb 11 (s.fwd t (runF blankL (t.drop s.pos))).pos) (by kernel_rfl) trivial (by kernel_rfl) (OkP.done [0] hst rfl (by kernel_rfl) (by kernel_rfl) (by kernel_rfl))
  | true =>
   rw [hb] at hf
   refine M.cl (need_s hb 11 (s.fwd t (runF blankL (t.drop s.pos))).pos) ?_
   have hix := ix_lt (sub t (((s.fwd t (runF blankL (t.drop s.pos))).pos : Int) + 1) t.length) 34
   have hge := of_decide_eq_true hb
   have hsub : (sub t (((s.fwd t (runF blankL (t.drop s.pos))).pos : Int) + 1) t.length).length = t.length - (s.fwd t (runF blankL (t.drop s.pos))).pos - 1 := by
    unfold sub; rw [List.length_take, List.length_drop]; omega
   rw [hsub] at hix
   have hp2 : (s.fwd t (runF blankL (t.drop s.pos))).pos + (Lib.indexByte (sub t (((s.fwd t (runF blankL (t.drop s.pos))).pos : Int) + 1) t.length) 34 + 2).toNat <= t.length := by omega
   refine M.callmp [In64 (Lib.indexByte (sub t (((s.fwd t (runF blankL (t.drop s.pos))).pos : Int) + 1) t.length) 34 + 2)] [0] (forward_int hs1 (Lib.indexByte (sub t (((s.fwd t (runF blankL (t.drop s.pos))).pos : Int) + 1) t.length) 34 + 2) (by omega) hp2) (by kernel_rfl) ⟨⟨by omega, by omega⟩, trivial⟩ ?_
   exact M.back [] (ih ⟨(f, (s.fwd t (runF blankL (t.drop s.pos))).fwd t (Lib.indexByte (sub t (((s.fwd t (runF blankL (t.drop s.pos))).pos : Int) + 1) t.length) 34 + 2).toNat), hs1.fwd hp2, hf, by show t.length < f + ((s.fwd t (runF blankL (t.drop s.pos))).pos + _); omega⟩ L (Nat.lt_succ_self f)) (by kernel_rfl) trivial (by kernel_rfl) (by kernel_rfl) (by kernel_rfl) (by kernel_rfl)
structure Cls where
 g : Nat
 h : Nat
 deriving DecidableEq, Inhabited
abbrev Cls.pv (x : Cls) : List PV := [.fn x.g [], .fn x.h []]
abbrev clsL : List Cls := [⟨254, 255⟩, ⟨256, 257⟩, ⟨258, 259⟩, ⟨260, 261⟩, ⟨262, 263⟩, ⟨264, 265⟩]
theorem classes_spec : Spec Tryz.prog 228 [] (row 2 Cls.pv clsL) := by
 refine Spec.start (by kernel_rfl) Tryz.func228 rfl rfl fun w0 L => ?_
 refine M.retw [] (.sl 2 6 (fun j => (((clsL.map Cls.pv).flatten).drop (j * 2)).take 2)) (by kernel_rfl) trivial fun L W u h => ?_
 refine sl_eq (n' := 6) rfl (fun j hj => ?_) h
 match j, hj with
 | 0, _ => rfl
 | 1, _ => rfl
 | 2, _ => rfl
 | 3, _ => rfl
 | 4, _ => rfl
 | 5, _ => rfl
def clsP (b : UInt8) (x : Cls) : Bool :=
 if x.g = 254 then letterL b else if x.g = 256 then underL b else if x.g = 258 then digitL b else if x.g = 260 then quoteL b else if x.g = 262 then opL b else signL b
theorem begins_spec {t : List UInt8} {r : Rd} (h : r.Ok t) (g k : Nat) (p : UInt8 -> Bool) (hg : ∀ b, Spec Tryz.prog g [B b] (.sb (p b))) : Spec Tryz.prog 231 [.agg [.fn g [], .fn k []], .ptr [.ptr (rd t r)]] (.sb (p (nxt (t.drop r.pos) 0))) := by
 refine Spec.startL (by kernel_rfl) Tryz.func231 rfl rfl fun w0 L hst => ?_
 refine M.cl (next_spec h 0 (by omega)) ?_
 refine M.cl (hg (nxt (t.drop r.pos) 0)) ?_
 exact M.rq (enc := PV.sb) rfl
theorem idx_Cls_1 (l : List Cls) (g : Nat) (q0 : PV) (p : Cls -> Bool) (hg : ∀ x ∈ l, Spec Tryz.prog g [.agg x.pv, .o q0] (.sb (p x))) :
  Spec Tryz.prog 230 [row 2 Cls.pv l, .fn g [.o q0]] (I (fstI p l)) := by
 refine Spec.fact (by kernel_rfl) 0 rfl fun hf => ?_
 have hl : l.length <= 9223372036854775807 := hf.1
 refine Spec.start (by kernel_rfl) Tryz.func230 rfl rfl fun w0 L => ?_
 refine M.loop (ι := {i : Nat // i <= l.length /\ noneB p l i}) (fun i => [(0, row 2 Cls.pv l), (1, .fn g [.o q0]), (7, I l.length), (8, I i.1)]) (fun _ => []) (fun i => l.length - i.1) ⟨0, Nat.zero_le _, noneB_zero p l⟩ [] (by kernel_rfl) trivial (by kernel_rfl) (by kernel_rfl) fun ⟨i, hi, hb⟩ ih => ?_
 refine M.test (decide ((i : Int) < (l.length : Int))) (by kernel_rfl) (fun h1 => ?_) (fun h1 => ?_)
 ·have hlt : i < l.length := by simpa using h1
  have hs := hg _ (List.getElem_mem hlt)
  rw [<- getD_nat hlt] at hs
  refine M.callp [0 <= (i : Int) /\ (i : Int) < (l.length : Int)] hs (by kernel_rfl) ⟨by omega, trivial⟩ (by kernel_rfl) ?_
  refine M.test (p (l.getD (i : Int).toNat default)) (by kernel_rfl) (fun h2 => ?_) (fun h2 => ?_)
  ·rw [getD_nat hlt] at h2
   exact M.ret (I i) (by kernel_rfl) (by rw [fstI_at hlt hb h2])
  ·rw [getD_nat hlt] at h2
   exact M.back [In64 ((i : Int) + 1)] (ih ⟨i + 1, hlt, noneB_step hlt hb h2⟩ (by show l.length - (i + 1) < l.length - i; omega)) (by kernel_rfl) ⟨⟨by omega, by omega⟩, trivial⟩ (by kernel_rfl) (by kernel_rfl) (by kernel_rfl) (by kernel_rfl)
 ·exact M.ret (I (-1)) (by kernel_rfl) (by rw [fstI_no (by simpa using h1) hb])
theorem idx_Cls_1' (l : List Cls) (g : Nat) (q0 : PV) (p : Cls -> Bool) (h0 : oneP q0 = true) (hg : ∀ x ∈ l, Spec Tryz.prog g [.agg x.pv, q0] (.sb (p x))) :
  Spec Tryz.prog 230 [row 2 Cls.pv l, .fn g [q0]] (I (fstI p l)) :=
 Spec.capO (ax := [row 2 Cls.pv l]) (qs := [q0]) (bs := []) (by simp [h0]) (idx_Cls_1 l g q0 p fun x hx => Spec.unO (ax := [.agg x.pv]) (qs := [q0]) (hg x hx))
theorem which_spec {t : List UInt8} {r : Rd} (h : r.Ok t) : Spec Tryz.prog 230 [row 2 Cls.pv clsL, .fn 231 [.ptr [.ptr (rd t r)]]] (I (fstI (clsP (nxt (t.drop r.pos) 0)) clsL)) := by
 refine idx_Cls_1' clsL 231 (.ptr [.ptr (rd t r)]) (clsP (nxt (t.drop r.pos) 0)) rfl fun x hx => ?_
 simp only [clsL, List.mem_cons, List.not_mem_nil, or_false] at hx
 rcases hx with rfl | rfl | rfl | rfl | rfl | rfl
 ·exact begins_spec h _ _ letterL letterL_spec
 ·exact begins_spec h _ _ underL underL_spec
 ·exact begins_spec h _ _ digitL digitL_spec
 ·exact begins_spec h _ _ quoteL quoteL_spec
 ·exact begins_spec h _ _ opL opL_spec
 ·exact begins_spec h _ _ signL signL_spec
def clsI (b : UInt8) : Int := bif letterL b then 0 else (bif underL b then 1 else (bif digitL b then 2 else (bif quoteL b then 3 else (bif opL b then 4 else (bif signL b then 5 else -1)))))
theorem clsI_eq (b : UInt8) : fstI (clsP b) clsL = clsI b := by
 unfold fstI clsI clsP
 cases letterL b <;> cases underL b <;> cases digitL b <;> cases quoteL b <;> cases opL b <;> cases signL b <;> rfl
theorem passL_ok {t : List UInt8} : ∀ (f : Nat) (r : Rd), r.Ok t -> (passL t f r).1.Ok t
 | 0, r, h => h
 | f + 1, r, h => by
  have hw := h.run blankL
  have h1 := h.fwd hw.1
  have hlen := h.len
  unfold passL
  cases h5 : ((nxt (t.drop (r.fwd t (runF blankL (t.drop r.pos))).pos) 0).toNat : Int) != 34 with
  | true => exact h1
  | false =>
   have hp : (r.fwd t (runF blankL (t.drop r.pos))).pos + 1 <= t.length := nxt_pos (k := 34) (by omega) (by simpa using h5)
   cases hb : decide (Lib.indexByte (sub t (((r.fwd t (runF blankL (t.drop r.pos))).pos : Int) + 1) t.length) 34 >= 0) with
   | false => exact h1
   | true =>
    have hix := ix_lt (sub t (((r.fwd t (runF blankL (t.drop r.pos))).pos : Int) + 1) t.length) 34
    have hge := of_decide_eq_true hb
    have hsub : (sub t (((r.fwd t (runF blankL (t.drop r.pos))).pos : Int) + 1) t.length).length = t.length - (r.fwd t (runF blankL (t.drop r.pos))).pos - 1 := by
     unfold sub; rw [List.length_take, List.length_drop]; omega
    rw [hsub] at hix
    exact passL_ok f _ (h1.fwd (by omega))
theorem strL_ok {t : List UInt8} : ∀ (f : Nat) (r : Rd) (x : List UInt8), r.Ok t -> (strL t f r x).1.Ok t
 | 0, r, x, h => h
 | f + 1, r, x, h => by
  have hw := h.run insideL
  have h1 := h.fwd hw.1
  unfold strL
  cases hb : ((nxt (t.drop (r.fwd t (runF insideL (t.drop r.pos))).pos) 0).toNat : Int) == 39 with
  | false => exact h1
  | true =>
   have hp : (r.fwd t (runF insideL (t.drop r.pos))).pos + 1 <= t.length := nxt_pos (k := 39) (by omega) (by simpa using hb)
   have h2 := h1.fwd hp
   cases h5 : ((nxt (t.drop ((r.fwd t (runF insideL (t.drop r.pos))).fwd t 1).pos) 0).toNat : Int) != 39 with
   | true => exact h2
   | false =>
    have hp2 : ((r.fwd t (runF insideL (t.drop r.pos))).fwd t 1).pos + 1 <= t.length := nxt_pos (k := 39) (by omega) (by simpa using h5)
    exact strL_ok f _ _ (h2.fwd hp2)
theorem wordR_ok {t : List UInt8} {r : Rd} (h : r.Ok t) : (wordR t r).Ok t := by
 have hw := h.run wordL
 have hc : r.pos + (wordN (t.drop r.pos) + wordC (t.drop r.pos)) <= t.length /\ wordC (t.drop r.pos) <= 1 := h.colOk hw.1
 have h1 := h.fwd hc.1
 unfold wordR
 cases wordK (t.drop r.pos) == 1
 ·exact h1
 ·exact ⟨h1.pos, h1.line, h1.col, h1.len⟩
inductive Rt where
 | ok (r : Rd) (k : Int) (x : List UInt8)
 | no (r : Rd) (e : Int) (p : Nat)
def strT (t : List UInt8) (r : Rd) : Rt :=
 match strL t (t.length + 1) (r.fwd t 1) [] with
 | (r', some x) => .ok r' 6 x
 | (r', none) => .no r' 11 r.pos
def readT (t : List UInt8) (r : Rd) (c : Int) : Rt :=
 let l := t.drop r.pos
 if c = 0 then (bif wordOk l then .ok (wordR t r) (wordK l) (l.take (wordN l + wordC l)) else .no r 12 r.pos)
 else if c = 1 then (bif primOk l then .ok (r.fwd t (1 + primN l + primC l)) 4 (l.take (1 + primN l + primC l)) else .no r 12 r.pos)
 else if c = 2 then (bif numOk l then .ok (r.fwd t (numN l)) 5 (l.take (numN l)) else .no r 12 r.pos)
 else if c = 3 then strT t r
 else if c = 4 then (bif oprOk l then .ok (r.fwd t (oprN l)) 7 (l.take (oprN l)) else .no r 12 r.pos)
 else .ok (r.fwd t 1) (signK t r) (l.take 1)
def clsF (c : Int) : Nat := (clsL.getD c.toNat default).h
theorem read_ok {t : List UInt8} {r r' : Rd} {c k : Int} {x : List UInt8} (h : r.Ok t) (hne : r.pos < t.length) (hc : 0 <= c /\ c < 6) (hq : readT t r c = .ok r' k x) : r'.Ok t /\ SpecM Tryz.prog (clsF c) 1 [rd t r] [.ref 0 0] [rd t r'] (.tup [I k, S x]) := by
 have hcs : c = 0 \/ c = 1 \/ c = 2 \/ c = 3 \/ c = 4 \/ c = 5 := by omega
 rcases hcs with rfl | rfl | rfl | rfl | rfl | rfl
 ·unfold readT at hq
  cases ho : wordOk (t.drop r.pos) with
  | false => simp [ho] at hq
  | true => simp only [ho, if_true, cond_true, Rt.ok.injEq] at hq; obtain ⟨rfl, rfl, rfl⟩ := hq; exact ⟨wordR_ok h, word_ok h ho⟩
 ·unfold readT at hq
  cases ho : primOk (t.drop r.pos) with
  | false => simp [ho] at hq
  | true =>
   have e : ¬ ((1 : Int) = 0) := by decide
   simp only [ho, if_true, if_neg e, cond_true, Rt.ok.injEq] at hq; obtain ⟨rfl, rfl, rfl⟩ := hq
   exact ⟨h.fwd (h.colOk (h.prim hne).1).1, prim_ok h hne ho⟩
 ·unfold readT at hq
  cases ho : numOk (t.drop r.pos) with
  | false => simp [ho] at hq
  | true =>
   have e0 : ¬ ((2 : Int) = 0) := by decide
   have e1 : ¬ ((2 : Int) = 1) := by decide
   simp only [ho, if_true, if_neg e0, if_neg e1, cond_true, Rt.ok.injEq] at hq; obtain ⟨rfl, rfl, rfl⟩ := hq
   exact ⟨h.fwd (h.run digitL).1, num_ok h ho⟩
 ·unfold readT at hq
  have e0 : ¬ ((3 : Int) = 0) := by decide
  have e1 : ¬ ((3 : Int) = 1) := by decide
  have e2 : ¬ ((3 : Int) = 2) := by decide
  simp only [if_true, if_neg e0, if_neg e1, if_neg e2] at hq
  unfold strT at hq
  have hk := strL_ok (t.length + 1) (r.fwd t 1) [] (h.fwd hne)
  split at hq
  ·rename_i r2 x2 e
   simp only [Rt.ok.injEq] at hq
   obtain ⟨rfl, rfl, rfl⟩ := hq
   rw [e] at hk
   exact ⟨hk, str_ok h hne e⟩
  ·cases hq
 ·unfold readT at hq
  cases ho : oprOk (t.drop r.pos) with
  | false => simp [ho] at hq
  | true =>
   have e0 : ¬ ((4 : Int) = 0) := by decide
   have e1 : ¬ ((4 : Int) = 1) := by decide
   have e2 : ¬ ((4 : Int) = 2) := by decide
   have e3 : ¬ ((4 : Int) = 3) := by decide
   simp only [ho, if_true, if_neg e0, if_neg e1, if_neg e2, if_neg e3, cond_true, Rt.ok.injEq] at hq; obtain ⟨rfl, rfl, rfl⟩ := hq
   exact ⟨h.fwd (h.run opL).1, opr_ok h ho⟩
 ·unfold readT at hq
  have e0 : ¬ ((5 : Int) = 0) := by decide
  have e1 : ¬ ((5 : Int) = 1) := by decide
  have e2 : ¬ ((5 : Int) = 2) := by decide
  have e3 : ¬ ((5 : Int) = 3) := by decide
  have e4 : ¬ ((5 : Int) = 4) := by decide
  simp only [if_neg e0, if_neg e1, if_neg e2, if_neg e3, if_neg e4, Rt.ok.injEq] at hq; obtain ⟨rfl, rfl, rfl⟩ := hq
  exact ⟨h.fwd hne, sign_ok h hne⟩
theorem read_no {t : List UInt8} {r r' : Rd} {c e : Int} {p : Nat} (h : r.Ok t) (hne : r.pos < t.length) (hc : 0 <= c /\ c < 6) (hq : readT t r c = .no r' e p) : SpecP Tryz.prog (clsF c) 1 [rd t r] [.ref 0 0] [rd t r'] (stopV e p) := by
 have hcs : c = 0 \/ c = 1 \/ c = 2 \/ c = 3 \/ c = 4 \/ c = 5 := by omega
 rcases hcs with rfl | rfl | rfl | rfl | rfl | rfl
 ·unfold readT at hq
  cases ho : wordOk (t.drop r.pos) with
  | true => simp [ho] at hq
  | false => simp only [ho, if_true, cond_false, Rt.no.injEq] at hq; obtain ⟨rfl, rfl, rfl⟩ := hq; exact word_no h ho
 ·unfold readT at hq
  cases ho : primOk (t.drop r.pos) with
  | true => simp [ho] at hq
  | false =>
   have e : ¬ ((1 : Int) = 0) := by decide
   simp only [ho, if_true, if_neg e, cond_false, Rt.no.injEq] at hq; obtain ⟨rfl, rfl, rfl⟩ := hq
   exact prim_no h hne ho
 ·unfold readT at hq
  cases ho : numOk (t.drop r.pos) with
  | true => simp [ho] at hq
  | false =>
   have e0 : ¬ ((2 : Int) = 0) := by decide
   have e1 : ¬ ((2 : Int) = 1) := by decide
   simp only [ho, if_true, if_neg e0, if_neg e1, cond_false, Rt.no.injEq] at hq; obtain ⟨rfl, rfl, rfl⟩ := hq
   exact num_no h ho
 ·unfold readT at hq
  have e0 : ¬ ((3 : Int) = 0) := by decide
  have e1 : ¬ ((3 : Int) = 1) := by decide
  have e2 : ¬ ((3 : Int) = 2) := by decide
  simp only [if_true, if_neg e0, if_neg e1, if_neg e2] at hq
  unfold strT at hq
  split at hq
  ·cases hq
  ·rename_i r2 e
   simp only [Rt.no.injEq] at hq
   obtain ⟨rfl, rfl, rfl⟩ := hq
   exact str_no h hne e
 ·unfold readT at hq
  cases ho : oprOk (t.drop r.pos) with
  | true => simp [ho] at hq
  | false =>
   have e0 : ¬ ((4 : Int) = 0) := by decide
   have e1 : ¬ ((4 : Int) = 1) := by decide
   have e2 : ¬ ((4 : Int) = 2) := by decide
   have e3 : ¬ ((4 : Int) = 3) := by decide
   simp only [ho, if_true, if_neg e0, if_neg e1, if_neg e2, if_neg e3, cond_false, Rt.no.injEq] at hq; obtain ⟨rfl, rfl, rfl⟩ := hq
   exact opr_no h ho
 ·unfold readT at hq
  have e0 : ¬ ((5 : Int) = 0) := by decide
  have e1 : ¬ ((5 : Int) = 1) := by decide
  have e2 : ¬ ((5 : Int) = 2) := by decide
  have e3 : ¬ ((5 : Int) = 3) := by decide
  have e4 : ¬ ((5 : Int) = 4) := by decide
  simp only [if_neg e0, if_neg e1, if_neg e2, if_neg e3, if_neg e4] at hq
  cases hq
structure Pc where
 kind : Int
 text : List UInt8
 line : Int
 col : Int
 frm : Int
 til : Int
 deriving DecidableEq, Inhabited
abbrev Pc.pv (x : Pc) : List PV := [I x.kind, S x.text, I x.line, I x.col, I x.frm, I x.til]
def lexL (t : List UInt8) : Nat -> Nat -> Rd -> List Pc × Option (Int × Nat)
 | 0, _, _ => ([], none)
 | f + 1, many, r =>
  match passL t (t.length + 1) r with
  | (r1, false) => ([], some (11, r1.pos))
  | (r1, true) =>
   if r1.pos = t.length then ([], none)
   else if clsI (nxt (t.drop r1.pos) 0) < 0 then ([], some (10, r1.pos))
   else match readT t r1 (clsI (nxt (t.drop r1.pos) 0)) with
    | .no _ e p => ([], some (e, p))
    | .ok r2 k x => if many < 6000 then (⟨k, x, r1.line, r1.col, r1.pos, r2.pos⟩ :: (lexL t f (many + 1) r2).1, (lexL t f (many + 1) r2).2) else ([], some (2, r1.pos))
def piecesL (t : List UInt8) : List Pc × Option (Int × Nat) := if t.length <= 20000 then lexL t 6001 0 ⟨0, 1, 1, 0⟩ else ([], some (2, 0))
abbrev finV (e : Option (Int × Nat)) : Option PV := e.map fun q => stopV q.1 q.2
theorem pieces_iter (t : List UInt8) : Iter Tryz.prog 226 [.ptr [S t]] (piecesL t).1.length (fun i => [.agg ((piecesL t).1.getD i default).pv]) (finV (piecesL t).2) := by
 obtain ⟨lst, fin, hlf⟩ : ∃ lst fin, piecesL t = (lst, fin) := ⟨_, _, rfl⟩
 rw [hlf]
 show Iter Tryz.prog 226 [.ptr [S t]] lst.length (fun i => [.agg (lst.getD i default).pv]) (finV fin)
 refine Iter.start (by kernel_rfl) Tryz.func226 rfl rfl fun l J X w0 L hY hJ => ?_
 cases hlen : decide ((t.length : Int) <= 20000) with
 | false =>
  have hlen' := of_decide_eq_false hlen
  unfold piecesL at hlf
  rw [if_neg (by omega)] at hlf
  cases hlf
  exact M.callP [] [] (needP_s hlen 2 0) (by kernel_rfl) trivial (by kernel_rfl) (OkP.iter hY hJ rfl)
 | true =>
  have hlen' := of_decide_eq_true hlen
  unfold piecesL at hlf
  rw [if_pos (by omega)] at hlf
  refine M.cl (need_s hlen 2 0) ?_
  refine M.cl classes_spec ?_
  refine M.loopW (ι := {q : Nat × Rd // q.1 <= 6000 /\ q.2.Ok t /\ lst.drop q.1 = (lexL t (6001 - q.1) q.1 q.2).1 /\ fin = (lexL t (6001 - q.1) q.1 q.2).2 /\ q.1 <= lst.length}) (fun q => [(0, yV l), (1, .ptr [S t]), (3, .ref 1 0), (4, row 2 Cls.pv clsL), (5, I q.1.1)]) (fun q => [rd t q.1.2, [.ref 0 0]]) (fun q => 6001 - q.1.1) (fun q w0 L => Itb (J q.1.1) w0)
   ⟨(0, ⟨0, 1, 1, 0⟩), by omega, ⟨Nat.zero_le _, Nat.le_refl _, Nat.le_refl _, by omega⟩, by show lst = (lexL t 6001 0 ⟨0, 1, 1, 0⟩).1; rw [hlf], by show fin = (lexL t 6001 0 ⟨0, 1, 1, 0⟩).2; rw [hlf], Nat.zero_le _⟩ hJ [] (by kernel_rfl) trivial (by kernel_rfl) (by kernel_rfl) fun ⟨(many, r), hm, hr, hd, hfin, hml⟩ w0 L hJ ih => ?_
  simp only at hm hr hd hfin hml hJ
  rw [show 6001 - many = (6000 - many) + 1 by omega] at hd hfin
  unfold lexL at hd hfin
  have hr1 := passL_ok (t.length + 1) r hr
  cases hps : passL t (t.length + 1) r with
  | mk r1 b =>
  rw [hps] at hd hfin hr1
  cases b with
  | false =>
   simp only at hd hfin
   have hn : lst.length = many := by have := List.drop_eq_nil_iff.1 hd; omega
   have hJ' : Itb (J lst.length) w0 := by rw [hn]; exact hJ
   subst hfin
   exact M.callP [] [0] (pass_no hr hps) (by kernel_rfl) trivial (by kernel_rfl) (OkP.iter hY hJ' rfl)
  | true =>
   simp only at hd hfin hr1
   refine M.callm [0] (pass_ok hr hps) (by kernel_rfl) ?_
   refine M.test ((r1.pos : Int) == t.length) (by kernel_rfl) (fun h1 => ?_) (fun h1 => ?_)
   ·have h2 : (r1.pos : Int) = t.length := by simpa using h1
    rw [if_pos (by omega)] at hd hfin
    have hn : lst.length = many := by have := List.drop_eq_nil_iff.1 hd; omega
    have hJ' : Itb (J lst.length) w0 := by rw [hn]; exact hJ
    subst hfin
    exact M.retJ (r := .tup []) [] hY hJ' (by kernel_rfl) trivial
   ·have h2 : ¬ (r1.pos : Int) = t.length := by simpa using h1
    have hrp := hr1.pos
    have hne : r1.pos < t.length := by omega
    rw [if_neg (by omega)] at hd hfin
    have hw := which_spec hr1
    rw [clsI_eq] at hw
    refine M.cl hw ?_
    generalize hc : clsI (nxt (t.drop r1.pos) 0) = c at hd hfin
    cases hi : decide (c >= 0) with
    | false =>
     have hi' := of_decide_eq_false hi
     rw [if_pos (by omega)] at hd hfin
     have hn : lst.length = many := by have := List.drop_eq_nil_iff.1 hd; omega
     have hJ' : Itb (J lst.length) w0 := by rw [hn]; exact hJ
     subst hfin
     exact M.callP [] [] (needP_s hi 10 r1.pos) (by kernel_rfl) trivial (by kernel_rfl) (OkP.iter hY hJ' rfl)
    | true =>
     have hi' := of_decide_eq_true hi
     have hc6 : c < 6 := by
      rw [<- hc]; unfold clsI
      cases letterL (nxt (t.drop r1.pos) 0) <;> cases underL (nxt (t.drop r1.pos) 0) <;> cases digitL (nxt (t.drop r1.pos) 0) <;> cases quoteL (nxt (t.drop r1.pos) 0) <;> cases opL (nxt (t.drop r1.pos) 0) <;> cases signL (nxt (t.drop r1.pos) 0) <;> decide
     rw [if_neg (by omega)] at hd hfin
     refine M.cl (need_s hi 10 r1.pos) ?_
     cases hrd : readT t r1 c with
     | no r2 e p =>
      rw [hrd] at hd hfin
      simp only at hd hfin
      have hn : lst.length = many := by have := List.drop_eq_nil_iff.1 hd; omega
      have hJ' : Itb (J lst.length) w0 := by rw [hn]; exact hJ
      subst hfin
      exact M.callP [0 <= c /\ c < (6 : Nat)] [0] (read_no hr1 hne ⟨hi', hc6⟩ hrd) (by kernel_rfl) ⟨by omega, trivial⟩ (by kernel_rfl) (OkP.iter hY hJ' rfl)
     | ok r2 k x =>
      rw [hrd] at hd hfin
      simp only at hd hfin
      obtain ⟨hr2, hs⟩ := read_ok hr1 hne ⟨hi', hc6⟩ hrd
      refine M.callmp [0 <= c /\ c < (6 : Nat)] [0] hs (by kernel_rfl) ⟨by omega, trivial⟩ ?_
      cases hmany : decide ((many : Int) < 6000) with
      | false =>
       have hmany' := of_decide_eq_false hmany
       rw [if_neg (by omega)] at hd hfin
       have hn : lst.length = many := by have := List.drop_eq_nil_iff.1 hd; omega
       have hJ' : Itb (J lst.length) w0 := by rw [hn]; exact hJ
       subst hfin
       exact M.callP [] [] (needP_s hmany 2 r1.pos) (by kernel_rfl) trivial (by kernel_rfl) (OkP.iter hY hJ' rfl)
      | true =>
       have hmany' := of_decide_eq_true hmany
       rw [if_pos (by omega)] at hd hfin
       refine M.cl (need_s hmany 2 r1.pos) ?_
       refine M.undraw ?_
       have hg : lst.getD many default = ⟨k, x, r1.line, r1.col, r1.pos, r2.pos⟩ := by
        have := congrArg (fun l => l[0]?) hd
        simp only [List.getElem?_drop, Nat.add_zero, List.getElem?_cons_zero] at this
        rw [List.getD_eq_getElem?_getD, this]
        rfl
       have hlt : many < lst.length := by
        rcases Nat.lt_or_ge many lst.length with h | h
        ·exact h
        ·rw [List.drop_eq_nil_of_le h] at hd; cases hd
       have htl : lst.drop (many + 1) = (lexL t (6000 - many) (many + 1) r2).1 := by
        have := congrArg List.tail hd
        rw [List.tail_drop] at this
        exact this
       refine M.yield (i := many) [] hY hlt hJ (Eq.trans (b := some (l, [], [.agg (Pc.pv ⟨k, x, r1.line, r1.col, r1.pos, r2.pos⟩)])) (by kernel_rfl) (by rw [hg])) trivial rfl (fun w1 L1 hJ1 => ?_) (fun w1 L1 hJ1 => ?_)
       ·refine M.ren [In64 ((many : Int) + 1)] [0, 1] hJ1.stay (by kernel_rfl) ⟨⟨by omega, by omega⟩, trivial⟩ (by kernel_rfl) (by kernel_rfl) rfl fun L' => ?_
        have e2 : 6001 - (many + 1) = 6000 - many := by omega
        exact M.back [] (ih ⟨(many + 1, r2), by omega, hr2, by rw [e2]; exact htl, by rw [e2]; exact hfin, hlt⟩ w1 L' (by show 6001 - (many + 1) < 6001 - many; omega) hJ1) (by kernel_rfl) trivial (by kernel_rfl) (by kernel_rfl) (by kernel_rfl) (by kernel_rfl)
       ·exact M.retX (r := .tup []) [] hY hJ1 (by kernel_rfl) trivial
end Go.Proofs.YtcknpohghmkbmaaGreatDoor
