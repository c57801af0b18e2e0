import Derived.Test.YtcknpohghmkbmaaGreatDoorK28
set_option linter.unusedVariables false
set_option linter.unusedSimpArgs false
/- The texts V38 D29 D30 D31 D32 of the proof, laid one behind the other. -/
namespace Go.Proofs.YtcknpohghmkbmaaGreatDoor
open Go.RowKit
def clrAt (P : Program) (N : Nat) (d : Cfg) : Option (List Prop × Cfg) :=
 match d.dr, d.todo with
 | none, .ops all (o1 :: o2 :: l) :: k =>
  match o1.op, o2.op, o1.dst with
  | .slice t x (some lo) none none, .call { callee := .builtin .clear, args, argTypes }, some d1 =>
   match args.toList, argTypes.toList with
   | [.tmp d2], [t2] =>
    match rowInfo P t, evA d.E x, optInt d.E (some lo), guardP all d.E o1, guardP all ((d1, .any) :: d.E) o2 with
    | some (_, kk, _, _), .os _ r k2 n, some (some i), some true, some true =>
     match d.σ[r]? with
     | some [.rws k3 m el] =>
      if d1 = d2 /\ t = t2 /\ kk = k2 /\ k2 = k3 /\ fitsD N (some d1) = true /\ fitsD N o2.dst = true then
       some ([0 <= i /\ i <= (n : Int) /\ n <= m /\ 0 < n], ⟨putE ((d1, .any) :: d.E) o2.dst .any, d.σ.set r [.rws k2 i.toNat el], .ops all l :: k, none⟩)
      else none
     | _ => none
    | _, _, _, _, _ => none
   | _, _ => none
  | _, _, _ => none
 | _, _ => none
section
variable {w0 : W0} {W : World} {L : List Nat} {β : List (Option Nat)} {N : Nat} {P : Program} {E : Env} {σ : Sig} {Q : Exit -> Act -> World -> Prop} {a : Act} {fn : Func} {c : Cfg}
theorem clear_run {t e : TypeId} {k bytes r n m i : Nat} {zs : List Value} {el : Nat -> List PV} {c g : Nat} {ty : TypeId} (hI : Inv w0 L β σ N E a W) (hri : rowInfo P t = some (e, k, bytes, zs)) (hσ : σ[r]? = some [.rws k m el]) (hg : β[r]? = some (some g)) (hin : i <= n) (hnm : n <= m) (hnc : n <= c) :
  ∃ v W', (Builtin.clear_ #[t] ty #[.slice (if c = i then some ⟨g, 0, none⟩ else (some (⟨g, 0, none⟩ : Addr)).map (·.add (i * k))) (n - i) (c - i)]).run P W = .ok v W' /\ Inv w0 L β (σ.set r [.rws k i el]) N E a W' := by
 obtain ⟨hu, hk0, hzl, hz1, inf, z, hi, hz, hsz, hbb, hzc⟩ := rowInfo_at hri
 obtain ⟨ty2, us, hheap, u1, ul, uw⟩ := rws_out (hI.bx.hold hσ hg)
 have hst : ∀ W0, W0 = W -> Inv w0 L β (σ.set r [.rws k i el]) N E a W := fun _ _ => by
  refine { hI with bx := ⟨by simp [hI.bx.1], fun i1 j1 g1 c1 d1 h1 h2 h3 h4 l1 l2 => ?_, hI.bx.2.2.1, fun i1 cs h1 => ?_⟩ }
  ·have key : ∀ (x : Nat) (y : List PV), (σ.set r [.rws k i el])[x]? = some y -> isDd y = false -> ∃ y', σ[x]? = some y' /\ isDd y' = false := fun x y hx hy => by
    rw [List.getElem?_set] at hx
    split at hx
    ·rename_i e; subst e; exact ⟨_, hσ, rfl⟩
    ·exact ⟨y, hx, hy⟩
   obtain ⟨c2, q1, q2⟩ := key _ _ h3 l1
   obtain ⟨d2, q3, q4⟩ := key _ _ h4 l2
   exact hI.bx.2.1 i1 j1 g1 c2 d2 h1 h2 q1 q3 q2 q4
  ·rw [List.getElem?_set] at h1
   split at h1
   ·rename_i e
    subst e
    split at h1
    ·cases h1
     exact ⟨some g, hg, .rws _ _ _ ty2 us hheap u1 (by have := Nat.mul_le_mul_right k (show i <= m by omega); omega) fun j hj => uw j (by omega)⟩
    ·cases h1
   ·exact hI.bx.2.2.2 i1 cs h1
 by_cases hz0 : n - i = 0
 ·refine ⟨.tuple #[], W, ?_, hst W rfl⟩
  ·rw [hz0]
   split <;> simp [Builtin.clear_, run_underlying hu, Sem.run_bind, Sem.run_pure]
 ·have hci : ¬ c = i := by omega
  rw [if_neg hci]
  have hlen : (Builtin.zeroCells z.cells (n - i)).toList.length = (n - i) * k := by
   unfold Builtin.zeroCells
   rw [hzc]
   simp [hzl, Nat.mul_comm]
  have hmul : i * k + (n - i) * k = n * k := by rw [<- Nat.add_mul]; congr 1; omega
  have hmul2 := Nat.mul_le_mul_right k hnm
  obtain ⟨W', hrun', hs, ho, hn, o1, o2, o3⟩ := storeCells_run (P := P) (g := g) (off := i * k) (Builtin.zeroCells z.cells (n - i)).toList 0 us W hheap (by rw [hlen]; omega) (grown_one hzc hz1)
  simp only [Nat.add_zero] at hn
  refine ⟨.tuple #[], W', ?_, hI.write (W' := W') (cs := [.rws k i el]) hσ rfl hg hs ho (by simp only [World.shape?, hn, hheap]; simp; rw [<- Array.length_toList, hlen]; omega) o1 o2 o3 fun mv => .rws _ _ _ ty2 _ hn (fun x hx => ?_) (by simp only [List.length_append, List.length_take]; omega) fun j hj => ?_⟩
  ·obtain ⟨q, hq⟩ : ∃ q, n - i = q + 1 := ⟨n - i - 1, by omega⟩
   simp only [Option.map_some, add_addr, Nat.zero_add]
   unfold Builtin.clear_
   simp only [List.getElem?_toArray, List.getElem?_cons_zero, Sem.run_bind, run_underlying hu, Result.andThen_ok]
   rw [hq] at hrun' ⊢
   have hzv : (zeroValue e).run P W = .ok z W := by
    unfold zeroValue typeInfo
    simp [hi, hz, program, Sem.run_bind, Sem.run_pure, Sem.run]
   simp only [Sem.run_bind, hzv, Result.andThen_ok, hrun', Sem.run_pure]
  ·simp only [List.mem_append] at hx
   rcases hx with hx | hx | hx
   ·exact u1 x (List.mem_of_mem_take hx)
   ·exact grown_one hzc hz1 x hx
   ·exact u1 x (List.mem_of_mem_drop hx)
  ·refine mv _ _ ?_
   have hw := uw j (by omega)
   have hjk : j * k + k <= i * k := by rw [<- Nat.succ_mul]; exact Nat.mul_le_mul_right _ hj
   have : ((us.take (i * k) ++ ((Builtin.zeroCells z.cells (n - i)).toList ++ us.drop (i * k + (Builtin.zeroCells z.cells (n - i)).toList.length))).drop (j * k)).take k = (us.drop (j * k)).take k := by
    apply List.ext_getElem?
    intro q
    simp only [List.getElem?_take, List.getElem?_drop]
    by_cases hq : q < k
    ·rw [if_pos hq, if_pos hq, List.getElem?_append_left (by rw [List.length_take]; omega), List.getElem?_take, if_pos (by omega)]
    ·rw [if_neg hq, if_neg hq]
   rw [this]
   exact hw
def clrC (P : Program) (fn : Func) (c : Cfg) : Cfg := match clrAt P fn.ntmps (stop P fn.ntmps c).2 with | some q => q.2 | none => c
theorem M.clear (ps qs : List Prop) (h : (stop P fn.ntmps c).1 = ps) (hp : All ps) (h3 : (clrAt P fn.ntmps (stop P fn.ntmps c).2).map (·.1) = some qs) (hq : All qs) (k : M P fn w0 L Q (clrC P fn c)) : M P fn w0 L Q c := by
 refine ⟨run_ok 3000 c (by rw [show (runC P fn.ntmps 3000 c).1 = ps from h]; exact hp) ?_⟩
 show OkF P fn w0 L Q (stop P fn.ntmps c).2
 have k := k.out
 unfold clrC at k
 obtain ⟨d, h2, k⟩ : ∃ d, clrAt P fn.ntmps (stop P fn.ntmps c).2 = some (qs, d) /\ OkF P fn w0 L Q d := by
  cases h4 : clrAt P fn.ntmps (stop P fn.ntmps c).2 with
  | none => rw [h4] at h3; cases h3
  | some q =>
   rw [h4] at h3 k
   simp only [Option.map_some, Option.some.injEq] at h3
   exact ⟨q.2, by rw [<- h3], k⟩
 clear h3
 generalize (stop P fn.ntmps c).2 = b at h2
 obtain ⟨E, σ, todo, dr⟩ := b
 unfold clrAt at h2
 simp only at h2
 split at h2
 case h_2 => cases h2
 rename_i all o1 o2 l kk
 split at h2
 case h_2 => cases h2
 rename_i t x lo args argTypes d1 e1 e2 ed1
 split at h2
 case h_2 => cases h2
 rename_i d2 t2 ha ht
 split at h2
 case h_2 => cases h2
 rename_i e kk2 bytes zs e' r k2 n i hri hx hlo hg1 hg2
 split at h2
 case h_2 => cases h2
 rename_i k3 m el hσ
 split at h2
 case isFalse => cases h2
 rename_i hc
 obtain ⟨rfl, rfl, rfl, rfl, hf1, hf2⟩ := hc
 simp only [Option.some.injEq, Prod.mk.injEq] at h2
 obtain ⟨rfl, rfl⟩ := h2
 obtain ⟨⟨h0, hin, hnm, hn0⟩, -⟩ := hq
 obtain rfl : args = #[.tmp d1] := by apply Array.ext'; simpa using ha
 obtain rfl : argTypes = #[t] := by apply Array.ext'; simpa using ht
 intro β a W hI
 show wpListIn (Fr w0.ro) 0 P all _ (o1 :: o2 :: l) a W
 have hxr := evA_R hI.ev x
 rw [hx, R] at hxr
 rcases hxr with ⟨g, cc, hb, ex, c1, c2, c3⟩ | ⟨_, hz, _⟩
 case inr => omega
 obtain ⟨hu, hk0, hzl, hz1, inf, z, hi, hz, hsz, hbb, hzc⟩ := rowInfo_at hri
 have hsize : szP P e = some kk2 := by unfold szP; rw [hi]; simp [hsz]
 have hbr := bounds_run (P := P) (isS := true) (optInt_R hI.ev hlo) (show OptV none none from rfl) c1 (by simp only [Option.getD_some, Option.getD_none]; omega) W
 simp only [Option.getD_some, Option.getD_none, Int.toNat_natCast] at hbr
 have hrun1 : (execOp a.eval o1).run P W = .ok (.value (.slice (if cc = i.toNat then some ⟨g, 0, none⟩ else (some (⟨g, 0, none⟩ : Addr)).map (·.add (i.toNat * kk2))) (n - i.toNat) (cc - i.toNat))) W := by
  unfold execOp
  rw [e1]
  simp only [Option.map_some, Option.map_none, ex]
  simp only [Option.map_some] at hbr
  unfold Instr.sliceAt
  simp only [Sem.run_bind, underlying_run hu, Result.andThen_ok]
  unfold Instr.slice
  simp only [Sem.run_bind, underlying_run hu, Result.andThen_ok, hbr, sizeOf_run' hsize, Sem.run_pure]
  rfl
 refine list_wp (by rw [e1]; rfl) (guard_wanted hI.ev hg1) ?_
 unfold Oper.wp
 rw [hrun1]
 show wpListIn (Fr w0.ro) 0 P all _ (o2 :: l) (a.put o1.dst _) W
 rw [ed1]
 have hI1 : Inv w0 L β σ fn.ntmps (putE E (some d1) .any) (a.put (some d1) (.slice (if cc = i.toNat then some ⟨g, 0, none⟩ else (some (⟨g, 0, none⟩ : Addr)).map (·.add (i.toNat * kk2))) (n - i.toNat) (cc - i.toNat))) W := { hI with ev := hI.ev.put (by rw [R]; trivial) hf1, nod := hI.nod.put _ _ }
 refine list_wp (by rw [e2]; rfl) (guard_wanted hI1.ev hg2) ?_
 have hd1 : d1 < a.tmps.size := by
  have h1 : a.tmps.size = fn.ntmps := hI.ev.1
  have h2 : d1 < fn.ntmps := by simpa [fitsD] using hf1
  rw [h1]; exact h2
 have hev : ∀ v, (a.put (some d1) v).eval (.tmp d1) = v := fun v => by
  simp [Act.put, Act.eval, hd1]
 obtain ⟨v, W', hrun2, hI2⟩ := clear_run (ty := o2.type) (c := cc) hI1 hri hσ hb (show i.toNat <= n by omega) hnm c1
 have hrun : (execOp (a.put (some d1) (.slice (if cc = i.toNat then some ⟨g, 0, none⟩ else (some (⟨g, 0, none⟩ : Addr)).map (·.add (i.toNat * kk2))) (n - i.toNat) (cc - i.toNat))).eval o2).run P W = .ok (.value v) W' := by
  unfold execOp
  simp only [e2, resolve, invoke, builtin, Sem.run_bind, Sem.run_pure, Result.andThen_ok, List.map_toArray, List.map_cons, List.map_nil, hev, hrun2]
 unfold Oper.wp
 rw [hrun]
 exact k β _ W' { hI2 with ev := hI2.ev.put (by rw [R]; trivial) hf2, nod := hI2.nod.put _ _ }
end
theorem put_none (w : Wd) (hw : w.Ok) (ch : Ch) (hf : objF w ch.oid = false) : SpecP Tryz.prog 109 4 (edS w) [.ref 0 0, .agg ch.pv] (edS w) (unfV 3) := by
 refine SpecP.start (by kernel_rfl) Tryz.func109 rfl rfl (Nat.le_of_ble_eq_true rfl) fun w0 L hst => ?_
 exact M.callPd [] [0, 1, 2, 3] (slot_none w hw ch hf) (by kernel_rfl) trivial (OkP.done [0, 1, 2, 3] hst rfl (by kernel_rfl) (by kernel_rfl) (by kernel_rfl))
theorem put_no (w : Wd) (hw : w.Ok) (ch : Ch) (hf : objF w ch.oid = true) (ha : decide (atF (chO w ch).sl ch.name >= 0) = false) :
  SpecP Tryz.prog 109 5 (edG w (chI w ch) (chO w ch)) [.ref 0 0, .agg ch.pv] (edG w (chI w ch) (chO w ch)) (unfV 3) := by
 refine SpecP.start (by kernel_rfl) Tryz.func109 rfl rfl (Nat.le_of_ble_eq_true rfl) fun w0 L hst => ?_
 exact M.callPd [] [0, 1, 2, 3, 4] (slot_no w hw ch (chI w ch) hf rfl ha) (by kernel_rfl) trivial (OkP.done [0, 1, 2, 3, 4] hst rfl (by kernel_rfl) (by kernel_rfl) (by kernel_rfl))
theorem turn_none (w : Wd) (hw : w.Ok) (ch : Ch) (hf : objF w ch.oid = false) : SpecP Tryz.prog 112 4 (edS w) [.ref 0 0, .agg ch.pv] (edS w) (unfV 3) := by
 refine SpecP.start (by kernel_rfl) Tryz.func112 rfl rfl (Nat.le_of_ble_eq_true rfl) fun w0 L hst => ?_
 exact M.callPd [] [0, 1, 2, 3] (slot_none w hw ch hf) (by kernel_rfl) trivial (OkP.done [0, 1, 2, 3] hst rfl (by kernel_rfl) (by kernel_rfl) (by kernel_rfl))
theorem turn_no (w : Wd) (hw : w.Ok) (ch : Ch) (hf : objF w ch.oid = true) (ha : decide (atF (chO w ch).sl ch.name >= 0) = false) :
  SpecP Tryz.prog 112 5 (edG w (chI w ch) (chO w ch)) [.ref 0 0, .agg ch.pv] (edG w (chI w ch) (chO w ch)) (unfV 3) := by
 refine SpecP.start (by kernel_rfl) Tryz.func112 rfl rfl (Nat.le_of_ble_eq_true rfl) fun w0 L hst => ?_
 exact M.callPd [] [0, 1, 2, 3, 4] (slot_no w hw ch (chI w ch) hf rfl ha) (by kernel_rfl) trivial (OkP.done [0, 1, 2, 3, 4] hst rfl (by kernel_rfl) (by kernel_rfl) (by kernel_rfl))
theorem remove_none (w : Wd) (hw : w.Ok) (ch : Ch) (hf : objF w ch.oid = false) : SpecP Tryz.prog 107 4 (edS w) [.ref 0 0, .agg ch.pv] (edS w) (unfV 3) := by
 refine SpecP.start (by kernel_rfl) Tryz.func107 rfl rfl (Nat.le_of_ble_eq_true rfl) fun w0 L hst => ?_
 exact M.callP [] [0, 1, 2, 3] (slot_none w hw ch hf) (by kernel_rfl) trivial (by kernel_rfl) (OkP.done [0, 1, 2, 3] hst rfl (by kernel_rfl) (by kernel_rfl) (by kernel_rfl))
theorem remove_no (w : Wd) (hw : w.Ok) (ch : Ch) (hf : objF w ch.oid = true) (ha : decide (atF (chO w ch).sl ch.name >= 0) = false) :
  SpecP Tryz.prog 107 5 (edG w (chI w ch) (chO w ch)) [.ref 0 0, .agg ch.pv] (edG w (chI w ch) (chO w ch)) (unfV 3) := by
 refine SpecP.start (by kernel_rfl) Tryz.func107 rfl rfl (Nat.le_of_ble_eq_true rfl) fun w0 L hst => ?_
 exact M.callP [] [0, 1, 2, 3, 4] (slot_no w hw ch (chI w ch) hf rfl ha) (by kernel_rfl) trivial (by kernel_rfl) (OkP.done [0, 1, 2, 3, 4] hst rfl (by kernel_rfl) (by kernel_rfl) (by kernel_rfl))
theorem del1_spec (ch : Ch) (s : Sl) : Spec Tryz.prog 161 [.agg s.pv, .ptr ch.pv] (.sb (nmEq ch.name s)) := by
 refine Spec.startL (by kernel_rfl) Tryz.func161 rfl rfl fun w0 L hst => ?_
 exact M.ret (.sb (nmEq ch.name s)) (by kernel_rfl) rfl
def delF (n : List UInt8) (l : List Sl) : List Sl := l.filter fun s => !nmEq n s
theorem fst_split {p : Sl -> Bool} {l : List Sl} {i : Nat} (h : fstI p l = (i : Int)) : i < l.length /\ (l.take (i + 1)).filter (fun s => !p s) = l.take i := by
 unfold fstI at h
 cases hf : l.findIdx? p with
 | none => rw [hf] at h; simp only at h; omega
 | some k =>
  rw [hf] at h
  simp only at h
  obtain rfl : k = i := by omega
  obtain ⟨hk, h1, h2⟩ := List.findIdx?_eq_some_iff_getElem.1 hf
  refine ⟨hk, ?_⟩
  rw [List.take_succ_eq_append_getElem hk, List.filter_append, List.filter_eq_self.2 fun x hx => ?_]
  ·simp [h1]
  ·obtain ⟨j, hj, he⟩ := List.mem_iff_getElem.1 hx
   rw [List.getElem_take] at he
   rw [List.length_take] at hj
   have := h2 j (by omega)
   rw [<- he]; simpa using this
structure DelS (d : Sl -> Bool) (l : List Sl) (i j : Nat) (r : List Sl) : Prop where
 ij : i < j
 jn : j <= l.length
 len : r.length = l.length
 pre : r.take i = (l.take j).filter fun s => !d s
 post : r.drop j = l.drop j
theorem DelS.at {d : Sl -> Bool} {l r : List Sl} {i j : Nat} (h : DelS d l i j r) (hlt : j < l.length) : r.getD j default = l.getD j default := by
 have h1 := congrArg (fun x => x.getD 0 default) h.post
 simp only [List.getD_eq_getElem?_getD, List.getElem?_drop, Nat.add_zero] at h1
 simp only [List.getD_eq_getElem?_getD]; exact h1
theorem DelS.filt {d : Sl -> Bool} {l r : List Sl} {i j : Nat} (h : DelS d l i j r) (hlt : j < l.length) : (l.take (j + 1)).filter (fun s => !d s) = r.take i ++ (if d (l.getD j default) then [] else [l.getD j default]) := by
 rw [List.take_succ_eq_append_getElem hlt, List.filter_append, <- h.pre]
 congr 1
 have e : l.getD j default = l[j] := by rw [List.getD_eq_getElem?_getD, List.getElem?_eq_getElem hlt]; rfl
 rw [e]
 cases hd : d l[j] <;> simp [hd]
theorem DelS.drop1 {l r : List Sl} {j : Nat} (h : r.drop j = l.drop j) : r.drop (j + 1) = l.drop (j + 1) := by
 rw [<- List.drop_drop, <- List.drop_drop, h]
theorem DelS.keep {d : Sl -> Bool} {l r : List Sl} {i j : Nat} (h : DelS d l i j r) (hlt : j < l.length) (hd : d (r.getD j default) = false) : DelS d l (i + 1) (j + 1) (r.set i (r.getD j default)) where
 ij := by have := h.ij; omega
 jn := hlt
 len := by rw [List.length_set]; exact h.len
 pre := by
  have hi : i < r.length := by have := h.len; have := h.ij; omega
  have e := h.at hlt
  rw [e] at hd ⊢
  rw [h.filt hlt, hd, List.take_succ_eq_append_getElem (by rw [List.length_set]; exact hi), List.take_set, List.getElem_set_self]
  rw [List.set_eq_of_length_le (by rw [List.length_take]; omega)]
  rfl
 post := by
  rw [List.drop_set_of_lt (by have := h.ij; omega)]
  exact DelS.drop1 h.post
theorem DelS.skip {d : Sl -> Bool} {l r : List Sl} {i j : Nat} (h : DelS d l i j r) (hlt : j < l.length) (hd : d (r.getD j default) = true) : DelS d l i (j + 1) r where
 ij := by have := h.ij; omega
 jn := hlt
 len := h.len
 pre := by
  have e := h.at hlt
  rw [e] at hd
  rw [h.filt hlt, hd]; simp
 post := DelS.drop1 h.post
theorem delF_spec (l : List Sl) (ch : Ch) (hl : l.length <= 1000000000) (i0 : Nat) (hi0 : fstI (nmEq ch.name) l = (i0 : Int)) :
  SpecM Tryz.prog 160 2 [slotR l, ch.pv] [.os 30 0 5 l.length, .fn 161 [.ref 1 0]] [slotR (delF ch.name l), ch.pv] (.os 30 0 5 (delF ch.name l).length) := by
 obtain ⟨hi0l, hf0⟩ := fst_split hi0
 refine SpecM.start (by kernel_rfl) Tryz.func160 rfl rfl (Nat.le_of_ble_eq_true rfl) fun w0 L hst => ?_
 have hidx := idx_Slot_1' l 161 (.ptr ch.pv) (nmEq ch.name) rfl fun x _ => del1_spec ch x
 rw [hi0] at hidx
 refine M.clp [l.length <= l.length] ⟨Nat.le_refl _, trivial⟩ hidx ?_
 refine M.no (b := (i0 : Int) == -1) (by rw [beq_eq_false_iff_ne]; omega) (by kernel_rfl) ?_
 refine M.loopL (ι := {q : Nat × Nat × List Sl // DelS (nmEq ch.name) l q.1 q.2.1 q.2.2}) (fun q => [(0, .os 30 0 5 l.length), (1, .fn 161 [.ref 1 0]), (5, I q.1.1), (6, I q.1.2.1)])
  (fun q => [[.rws 5 l.length (fun x => Sl.pv (q.1.2.2.getD x default))], ch.pv]) (fun q => l.length - q.1.2.1) ⟨(i0, i0 + 1, l), Nat.lt_succ_self _, hi0l, rfl, hf0.symm, rfl⟩ [In64 ((i0 : Int) + 1)] (by kernel_rfl) ⟨⟨by omega, by omega⟩, trivial⟩ (by kernel_rfl) (by kernel_rfl) fun ⟨(i, j, r), hD⟩ L ih => ?_
 simp only at hD
 refine M.test (decide ((j : Int) < (l.length : Int))) (by kernel_rfl) (fun h1 => ?_) (fun h1 => ?_)
 ·have hlt : j < l.length := by simpa using h1
  have hij := hD.ij
  refine M.clp [0 <= (j : Int) /\ (j : Int) < (l.length : Int), j < l.length] ⟨by omega, hlt, trivial⟩ (del1_spec ch (r.getD j default)) ?_
  refine M.test (!nmEq ch.name (r.getD j default)) (by kernel_rfl) (fun h2 => ?_) (fun h2 => ?_)
  ·have hd : nmEq ch.name (r.getD j default) = false := by simpa using h2
   have hK := hD.keep hlt hd
   have hir : i < r.length := by have := hD.len; omega
   refine M.ren [0 <= (i : Int) /\ (i : Int) < (l.length : Int), i < l.length, In64 ((i : Int) + 1), In64 ((j : Int) + 1)] [0, 1] hst (by kernel_rfl) ⟨by omega, by omega, ⟨by omega, by omega⟩, ⟨by omega, by omega⟩, trivial⟩ (by kernel_rfl) (by kernel_rfl) rfl fun L' => ?_
   refine M.sigT [] [[.rws 5 l.length (fun x => (setEl (fun x => Sl.pv (r.getD x default)) i 0 (Sl.pv (r.getD j default)) x).map (renP (invF [0, 1] 0) 7))], ch.pv] [[.rws 5 l.length (fun x => Sl.pv ((r.set i (r.getD j default)).getD x default))], ch.pv] (by kernel_rfl) trivial (by kernel_rfl) (by kernel_rfl) (.cons (.rws rfl fun x hx β L W us h => ?_) (.cons (.refl _) .nil)) ?_
   ·unfold setEl at h
    by_cases e : x = i
    ·rw [if_pos e] at h
     subst e
     have e2 : (r.set x (r.getD j default)).getD x default = r.getD j default := by
      rw [List.getD_eq_getElem?_getD, List.getElem?_set_self hir]; rfl
     rw [e2]
     exact h
    ·rw [if_neg e] at h
     have e2 : (r.set i (r.getD j default)).getD x default = r.getD x default := by
      simp only [List.getD_eq_getElem?_getD]; rw [List.getElem?_set_ne (fun h => e h.symm)]
     rw [e2]
     exact h
   ·exact M.back [] (ih ⟨(i + 1, j + 1, r.set i (r.getD j default)), hK⟩ L' (by show l.length - (j + 1) < l.length - j; omega)) (by kernel_rfl) trivial (by kernel_rfl) (by kernel_rfl) (by kernel_rfl) (by kernel_rfl)
  ·have hd : nmEq ch.name (r.getD j default) = true := by simpa using h2
   have hK := hD.skip hlt hd
   refine M.ren [In64 ((j : Int) + 1)] [0, 1] hst (by kernel_rfl) ⟨⟨by omega, by omega⟩, trivial⟩ (by kernel_rfl) (by kernel_rfl) rfl fun L' => ?_
   exact M.back [] (ih ⟨(i, j + 1, r), hK⟩ L' (by show l.length - (j + 1) < l.length - j; omega)) (by kernel_rfl) trivial (by kernel_rfl) (by kernel_rfl) (by kernel_rfl) (by kernel_rfl)
 ·have hj : j = l.length := by have := of_decide_eq_false h1; have := hD.jn; omega
  subst hj
  have hij := hD.ij
  have hpre : r.take i = delF ch.name l := by have := hD.pre; rwa [List.take_length] at this
  have hlen : (delF ch.name l).length = i := by rw [<- hpre, List.length_take, hD.len]; omega
  refine M.clear [] [0 <= (i : Int) /\ (i : Int) <= (l.length : Int) /\ l.length <= l.length /\ 0 < l.length] (by kernel_rfl) trivial (by kernel_rfl) ⟨⟨by omega, by omega, by omega, by omega⟩, trivial⟩ ?_
  generalize delF ch.name l = d at hpre hlen ⊢
  subst hlen
  refine M.sigT [(0 : Int) <= 0 /\ 0 <= (d.length : Int) /\ (d.length : Int) <= (l.length : Int)] [[.rws 5 d.length (fun x => Sl.pv (r.getD x default))], ch.pv] [slotR d, ch.pv] (by kernel_rfl) ⟨by omega, trivial⟩ (by kernel_rfl) (by kernel_rfl) (.cons (.rws rfl fun x hx β L W us h => ?_) (.cons (.refl _) .nil)) ?_
  ·have e : r.getD x default = d.getD x default := by
    rw [<- hpre]
    simp only [List.getD_eq_getElem?_getD, List.getElem?_take]
    rw [if_pos hx]
   rw [<- e]; exact h
  ·exact M.retm [] [0, 1] hst rfl (by kernel_rfl) trivial rfl rfl
theorem remove_ok (w : Wd) (hw : w.Ok) (ch : Ch) (hf : objF w ch.oid = true) (ha : decide (atF (chO w ch).sl ch.name >= 0) = true) :
  SpecM Tryz.prog 107 4 (edG w (chI w ch) (chO w ch)) [.ref 0 0, .agg ch.pv] (edG w (chI w ch) { chO w ch with sl := delF ch.name (chO w ch).sl }) (.tup []) := by
 have hil := chI_lt hw hf
 have hat := of_decide_eq_true ha
 obtain ⟨i0, hi0⟩ : ∃ i0 : Nat, fstI (nmEq ch.name) (chO w ch).sl = (i0 : Int) := ⟨(fstI (nmEq ch.name) (chO w ch).sl).toNat, by unfold atF at hat; omega⟩
 have hnl : (chO w ch).sl.length <= 1000000000 := by have := (hw.objs _ (getD_mem (p := chI w ch) hil)).nsl; unfold chO; omega
 refine SpecM.start (by kernel_rfl) Tryz.func107 rfl rfl (Nat.le_of_ble_eq_true rfl) fun w0 L hst => ?_
 refine M.callm [0, 1, 2, 3, 4] (slot_ok w hw ch (chI w ch) hf rfl ha) (by kernel_rfl) ?_
 refine M.callm [0, 1, 2, 3, 4] (edobj_ok w hw ch.oid (chI w ch) hf rfl) (by kernel_rfl) ?_
 refine M.callmp [chI w ch < w.objs.length /\ chI w ch = chI w ch] [4, 5] (delF_spec (chO w ch).sl ch hnl i0 hi0) (by kernel_rfl) ⟨⟨hil, rfl⟩, trivial⟩ ?_
 exact M.retm [chI w ch < w.objs.length /\ chI w ch = chI w ch] [0, 1, 2, 3, 4] hst rfl (by kernel_rfl) ⟨⟨hil, rfl⟩, trivial⟩ rfl rfl
def newO (n : Int) : Ob := ⟨n, 1, [], [], 0, 0⟩
abbrev zObS (n : Int) : List PV := [I n, I 1, .v (.slice none 0 0), .v (.slice none 0 0), I 0, I 0]
theorem create_ok (w : Wd) (hw : w.Ok) (hn : In64 w.nO) (ch : Ch) (h1 : (bif decide ((w.objs.length : Int) < 3000) then decide (w.nO < 1099511627776) else false) = true) (h2 : (ch.oid == w.nO) = true) :
  SpecM Tryz.prog 114 1 (edS w) [.ref 0 0, .agg ch.pv] (edS { w with objs := w.objs ++ [newO ch.oid], nO := w.nO + 1 }) (.tup []) := by
 have ha : decide ((w.objs.length : Int) < 3000) = true := by
  cases h : decide ((w.objs.length : Int) < 3000) with
  | true => rfl
  | false => rw [h] at h1; cases h1
 rw [ha, cond_true] at h1
 have ha' := of_decide_eq_true ha
 have hb' := of_decide_eq_true h1
 refine SpecM.start (by kernel_rfl) Tryz.func114 rfl rfl (Nat.le_of_ble_eq_true rfl) fun w0 L hst => ?_
 refine M.yes (b := decide ((w.objs.length : Int) < 3000)) ha (by kernel_rfl) ?_
 refine M.cl (must_s h1 2) ?_
 refine M.cl (must_s h2 110) ?_
 refine M.ren [w.objs.length = w.objs.length /\ 0 < 1 /\ w.objs.length + 1 <= 9223372036854775807 /\ (w.objs.length + 1) * 80 <= 140737488355328, In64 (w.nO + 1)] [0, 5, 2, 3] hst (by kernel_rfl) ⟨⟨rfl, by omega, by omega, by omega⟩, ⟨by have := hn.1; omega, by omega⟩, trivial⟩ (by kernel_rfl) (by kernel_rfl) rfl fun L' => ?_
 refine M.sigT [] [[.os 76 1 6 (w.objs.length + 1), .os 78 2 9 w.acts.length, .os 82 3 9 w.cds.length, I (w.nO + 1), I w.nA], [.rws 6 (w.objs.length + 1) (fun j => (joinEl (fun j => Ob.pv (w.objs.getD j default)) w.objs.length (fun j => ((zObS ch.oid).drop (j * 6)).take 6) j).map (renP (invF [0, 5, 2, 3] 0) 7))], actR w, cdR w]
  (edS { w with objs := w.objs ++ [newO ch.oid], nO := w.nO + 1 }) (by kernel_rfl) trivial (by kernel_rfl) (by kernel_rfl) (.cons ?_ (.cons (app_snocT (k := 6) (f := Ob.pv) w.objs (newO ch.oid) (ds := zObS ch.oid) (g := renP (invF [0, 5, 2, 3] 0) 7) rfl (fun x => rfl) fun β L W us h => (CellsTo.cons (fun _ h => h) (.cons (fun _ h => h) (.cons (fun _ h => nil_rowB 5 Sl.pv h) (.cons (fun _ h => nil_rowB 3 Vl.pv h) (.cons (fun _ h => h) (.cons (fun _ h => h) .nil)))))).rs h) (.cons (.refl _) (.cons (.refl _) .nil)))) ?_
 ·simp only [edC, List.length_append, List.length_cons, List.length_nil, Nat.zero_add]; exact .refl _
 ·exact M.retm [] [0, 1, 2, 3] hst rfl (by kernel_rfl) trivial rfl rfl
theorem mustPv_s (e : Int) : SpecP Tryz.prog 63 0 [] [.v (.bool false), I e] [] (unfV e) := by
 refine SpecP.start (by kernel_rfl) Tryz.func63 rfl rfl (Nat.le_refl _) fun w0 L hst => ?_
 exact M.pan (x := unfV e) [] (by kernel_rfl) trivial (OkP.done [] hst rfl (by kernel_rfl) (by kernel_rfl) (by kernel_rfl))
theorem create_full (w : Wd) (ch : Ch) (h1 : (bif decide ((w.objs.length : Int) < 3000) then decide (w.nO < 1099511627776) else false) = false) :
  SpecP Tryz.prog 114 4 (edS w) [.ref 0 0, .agg ch.pv] (edS w) (unfV 2) := by
 refine SpecP.start (by kernel_rfl) Tryz.func114 rfl rfl (Nat.le_of_ble_eq_true rfl) fun w0 L hst => ?_
 refine M.test (decide ((w.objs.length : Int) < 3000)) (by kernel_rfl) (fun h => ?_) (fun h => ?_)
 ·rw [h, cond_true] at h1
  exact M.callP [] [] (mustP_s h1 2) (by kernel_rfl) trivial (by kernel_rfl) (OkP.done [0, 1, 2, 3] hst rfl (by kernel_rfl) (by kernel_rfl) (by kernel_rfl))
 ·exact M.callP [] [] (mustPv_s 2) (by kernel_rfl) trivial (by kernel_rfl) (OkP.done [0, 1, 2, 3] hst rfl (by kernel_rfl) (by kernel_rfl) (by kernel_rfl))
theorem create_other (w : Wd) (ch : Ch) (h1 : (bif decide ((w.objs.length : Int) < 3000) then decide (w.nO < 1099511627776) else false) = true) (h2 : (ch.oid == w.nO) = false) :
  SpecP Tryz.prog 114 4 (edS w) [.ref 0 0, .agg ch.pv] (edS w) (unfV 110) := by
 have ha : decide ((w.objs.length : Int) < 3000) = true := by
  cases h : decide ((w.objs.length : Int) < 3000) with
  | true => rfl
  | false => rw [h] at h1; cases h1
 rw [ha, cond_true] at h1
 refine SpecP.start (by kernel_rfl) Tryz.func114 rfl rfl (Nat.le_of_ble_eq_true rfl) fun w0 L hst => ?_
 refine M.yes (b := decide ((w.objs.length : Int) < 3000)) ha (by kernel_rfl) ?_
 refine M.cl (must_s h1 2) ?_
 exact M.callP [] [] (mustP_s h2 110) (by kernel_rfl) trivial (by kernel_rfl) (OkP.done [0, 1, 2, 3] hst rfl (by kernel_rfl) (by kernel_rfl) (by kernel_rfl))
def app2 (w : Wd) (ch : Ch) : Wd × Int := bif form2 ch then (bif objF w ch.oid then (bif decide (atF (chO w ch).sl ch.name >= 0) then finT (setW w (chI w ch) { chO w ch with sl := delF ch.name (chO w ch).sl }) else (wZ, 3)) else (wZ, 3)) else (wZ, 110)
theorem applied2 (w : Wd) (hw : w.Ok) (ch : Ch) (hk : ch.kind = 2) (hch : In64 ch.slot.v.n) : Spec Tryz.prog 32 [.agg w.pv, .agg ch.pv] (.tup [.agg (app2 w ch).1.pv, I (app2 w ch).2]) := by
 unfold app2
 obtain ⟨kd, oid, nm, sl⟩ := ch
 simp only at hk
 subst hk
 refine Spec.startD (by kernel_rfl) Tryz.func32 rfl rfl fun w0 L hst hd0 hro hmk hgh => ?_
 refine M.cl kinds_spec ?_
 refine M.look (.tup [.agg [.fn 106 [.ptr zSlot], .fn 107 []], .sb true]) kindsRel (I 2) 130 true [] (by kernel_rfl) trivial (by kernel_rfl) (fun β L W u v h hv => kinds_look (k := 2) h hv (zs := [.nilFunc, .nilFunc]) (by kernel_rfl)) ?_
 refine M.no (b := !true) rfl (by kernel_rfl) ?_
 refine M.cl (form2_spec ⟨2, oid, nm, sl⟩) ?_
 cases hfm : form2 ⟨2, oid, nm, sl⟩ with
 | false =>
  refine M.yes (b := !false) rfl (by kernel_rfl) ?_
  exact M.retw [] (.tup [.agg nilW, I 110]) (by kernel_rfl) trivial fun L W u h => wz_nil h
 | true =>
 refine M.no (b := !true) rfl (by kernel_rfl) ?_
 refine M.defer (g := 61) (caps := [.ref 2 0, .ref 3 0]) 4 [] (by kernel_rfl) trivial hst (Nat.le_of_ble_eq_true (by kernel_rfl)) (by kernel_rfl) hd0 hro hmk hgh fun w1 L1 hD => ?_
 cases hf : objF w oid with
 | false =>
  refine M.callm [] (copied_spec w hw) (by kernel_rfl) ?_
  exact M.callP [] [5, 6, 7, 8] (remove_none w hw ⟨2, oid, nm, sl⟩ hf) (by kernel_rfl) trivial (by kernel_rfl) (OkP.leave (x' := unfV 3) hD [2, 3] (appl_some 3) [] (.tup [.agg nilW, I 3]) (by kernel_rfl) rfl (by kernel_rfl) (by kernel_rfl) (by kernel_rfl) (by kernel_rfl) (by kernel_rfl) trivial fun L W u h => wz_nil h)
 | true =>
 have hil := chI_lt hw (ch := ⟨2, oid, nm, sl⟩) hf
 have hok := hw.objs _ (getD_mem (p := chI w ⟨2, oid, nm, sl⟩) hil)
 refine M.callm [] (copiedF_spec w hw (chI w ⟨2, oid, nm, sl⟩) hil) (by kernel_rfl) ?_
 cases ha : decide (atF (chO w ⟨2, oid, nm, sl⟩).sl nm >= 0) with
 | false =>
  exact M.callP [] [5, 6, 7, 8, 9] (remove_no w hw ⟨2, oid, nm, sl⟩ hf ha) (by kernel_rfl) trivial (by kernel_rfl) (OkP.leave (x' := unfV 3) hD [2, 3] (appl_some 3) [] (.tup [.agg nilW, I 3]) (by kernel_rfl) rfl (by kernel_rfl) (by kernel_rfl) (by kernel_rfl) (by kernel_rfl) (by kernel_rfl) trivial fun L W u h => wz_nil h)
 | true =>
 have ho' : ({ chO w ⟨2, oid, nm, sl⟩ with sl := delF nm (chO w ⟨2, oid, nm, sl⟩).sl } : Ob).Ok := ⟨fun s hs => hok.sl s (List.mem_filter.1 hs).1, hok.el, Nat.le_trans (List.length_filter_le _ _) hok.nsl, hok.nel⟩
 refine M.callmp [] [5, 6, 7, 8, 9] (remove_ok w hw ⟨2, oid, nm, sl⟩ hf ha) (by kernel_rfl) trivial ?_
 refine M.clp [w.objs.length <= w.objs.length, (delF nm (chO w ⟨2, oid, nm, sl⟩).sl).length <= (delF nm (chO w ⟨2, oid, nm, sl⟩).sl).length, w.acts.length <= w.acts.length, w.cds.length <= w.cds.length] ⟨Nat.le_refl _, Nat.le_refl _, Nat.le_refl _, Nat.le_refl _, trivial⟩ (checkG hil (setW_ok hw _ ho')) ?_
 unfold finT
 cases hc : wcheckW (setW w (chI w ⟨2, oid, nm, sl⟩) { chO w ⟨2, oid, nm, sl⟩ with sl := delF nm (chO w ⟨2, oid, nm, sl⟩).sl }) == 0 with
 | true =>
  refine M.cl (must_s hc 110) ?_
  exact M.leave hD [2, 3, 6, 7, 8, 10] (appl_none w (chI w ⟨2, oid, nm, sl⟩) { chO w ⟨2, oid, nm, sl⟩ with sl := delF nm (chO w ⟨2, oid, nm, sl⟩).sl }) [] [w.objs.length <= w.objs.length, (delF nm (chO w ⟨2, oid, nm, sl⟩).sl).length <= (delF nm (chO w ⟨2, oid, nm, sl⟩).sl).length, w.acts.length <= w.acts.length, w.cds.length <= w.cds.length] (.tup [.agg (focW w (chI w ⟨2, oid, nm, sl⟩) { chO w ⟨2, oid, nm, sl⟩ with sl := delF nm (chO w ⟨2, oid, nm, sl⟩).sl }), I 0]) (by kernel_rfl) trivial (by kernel_rfl) (by kernel_rfl) (by kernel_rfl) rfl (by kernel_rfl) (by kernel_rfl) (by kernel_rfl) (by kernel_rfl) ⟨Nat.le_refl _, Nat.le_refl _, Nat.le_refl _, Nat.le_refl _, trivial⟩ fun L W u h => tup_to h fun us h => by
   obtain ⟨u0, us, rfl, h0, h⟩ := h.uncons
   exact Rs.cons (focW_R hil h0) h
 | false =>
  exact M.callP [] [] (mustP_s hc 110) (by kernel_rfl) trivial (by kernel_rfl) (OkP.leave (x' := unfV 110) hD [2, 3] (appl_some 110) [] (.tup [.agg nilW, I 110]) (by kernel_rfl) rfl (by kernel_rfl) (by kernel_rfl) (by kernel_rfl) (by kernel_rfl) (by kernel_rfl) trivial fun L W u h => wz_nil h)
def app3 (w : Wd) (ch : Ch) : Wd × Int := bif form3 ch then (bif objF w ch.oid then (bif decide (atF (chO w ch).sl ch.name >= 0) then finT (setW w (chI w ch) { chO w ch with sl := (chO w ch).sl.set (atF (chO w ch).sl ch.name).toNat { (chO w ch).sl.getD (atF (chO w ch).sl ch.name).toNat default with v := ch.slot.v } }) else (wZ, 3)) else (wZ, 3)) else (wZ, 110)
theorem applied3 (w : Wd) (hw : w.Ok) (ch : Ch) (hk : ch.kind = 3) (hch : In64 ch.slot.v.n) : Spec Tryz.prog 32 [.agg w.pv, .agg ch.pv] (.tup [.agg (app3 w ch).1.pv, I (app3 w ch).2]) := by
 unfold app3
 obtain ⟨kd, oid, nm, sl⟩ := ch
 simp only at hk
 subst hk
 refine Spec.startD (by kernel_rfl) Tryz.func32 rfl rfl fun w0 L hst hd0 hro hmk hgh => ?_
 refine M.cl kinds_spec ?_
 refine M.look (.tup [.agg [.fn 108 [], .fn 109 []], .sb true]) kindsRel (I 3) 130 true [] (by kernel_rfl) trivial (by kernel_rfl) (fun β L W u v h hv => kinds_look (k := 3) h hv (zs := [.nilFunc, .nilFunc]) (by kernel_rfl)) ?_
 refine M.no (b := !true) rfl (by kernel_rfl) ?_
 refine M.cl (form3_spec ⟨3, oid, nm, sl⟩) ?_
 cases hfm : form3 ⟨3, oid, nm, sl⟩ with
 | false =>
  refine M.yes (b := !false) rfl (by kernel_rfl) ?_
  exact M.retw [] (.tup [.agg nilW, I 110]) (by kernel_rfl) trivial fun L W u h => wz_nil h
 | true =>
 refine M.no (b := !true) rfl (by kernel_rfl) ?_
 refine M.defer (g := 61) (caps := [.ref 2 0, .ref 3 0]) 4 [] (by kernel_rfl) trivial hst (Nat.le_of_ble_eq_true (by kernel_rfl)) (by kernel_rfl) hd0 hro hmk hgh fun w1 L1 hD => ?_
 cases hf : objF w oid with
 | false =>
  refine M.callm [] (copied_spec w hw) (by kernel_rfl) ?_
  exact M.callP [] [5, 6, 7, 8] (put_none w hw ⟨3, oid, nm, sl⟩ hf) (by kernel_rfl) trivial (by kernel_rfl) (OkP.leave (x' := unfV 3) hD [2, 3] (appl_some 3) [] (.tup [.agg nilW, I 3]) (by kernel_rfl) rfl (by kernel_rfl) (by kernel_rfl) (by kernel_rfl) (by kernel_rfl) (by kernel_rfl) trivial fun L W u h => wz_nil h)
 | true =>
 have hil := chI_lt hw (ch := ⟨3, oid, nm, sl⟩) hf
 have hok := hw.objs _ (getD_mem (p := chI w ⟨3, oid, nm, sl⟩) hil)
 refine M.callm [] (copiedF_spec w hw (chI w ⟨3, oid, nm, sl⟩) hil) (by kernel_rfl) ?_
 cases ha : decide (atF (chO w ⟨3, oid, nm, sl⟩).sl nm >= 0) with
 | false =>
  exact M.callP [] [5, 6, 7, 8, 9] (put_no w hw ⟨3, oid, nm, sl⟩ hf ha) (by kernel_rfl) trivial (by kernel_rfl) (OkP.leave (x' := unfV 3) hD [2, 3] (appl_some 3) [] (.tup [.agg nilW, I 3]) (by kernel_rfl) rfl (by kernel_rfl) (by kernel_rfl) (by kernel_rfl) (by kernel_rfl) (by kernel_rfl) trivial fun L W u h => wz_nil h)
 | true =>
 have ho' : ({ chO w ⟨3, oid, nm, sl⟩ with sl := (chO w ⟨3, oid, nm, sl⟩).sl.set (atF (chO w ⟨3, oid, nm, sl⟩).sl nm).toNat { (chO w ⟨3, oid, nm, sl⟩).sl.getD (atF (chO w ⟨3, oid, nm, sl⟩).sl nm).toNat default with v := sl.v } } : Ob).Ok := ⟨fun s hs => by
  rcases List.mem_or_eq_of_mem_set hs with h | h
  ·exact hok.sl s h
  ·rw [h]; exact hch, hok.el, by rw [List.length_set]; exact hok.nsl, hok.nel⟩
 refine M.callmp [] [5, 6, 7, 8, 9] (put_ok w hw ⟨3, oid, nm, sl⟩ hf ha) (by kernel_rfl) trivial ?_
 refine M.clp [w.objs.length <= w.objs.length, ((chO w ⟨3, oid, nm, sl⟩).sl.set (atF (chO w ⟨3, oid, nm, sl⟩).sl nm).toNat { (chO w ⟨3, oid, nm, sl⟩).sl.getD (atF (chO w ⟨3, oid, nm, sl⟩).sl nm).toNat default with v := sl.v }).length <= ((chO w ⟨3, oid, nm, sl⟩).sl.set (atF (chO w ⟨3, oid, nm, sl⟩).sl nm).toNat { (chO w ⟨3, oid, nm, sl⟩).sl.getD (atF (chO w ⟨3, oid, nm, sl⟩).sl nm).toNat default with v := sl.v }).length, w.acts.length <= w.acts.length, w.cds.length <= w.cds.length] ⟨Nat.le_refl _, Nat.le_refl _, Nat.le_refl _, Nat.le_refl _, trivial⟩ (checkG hil (setW_ok hw _ ho')) ?_
 unfold finT
 cases hc : wcheckW (setW w (chI w ⟨3, oid, nm, sl⟩) { chO w ⟨3, oid, nm, sl⟩ with sl := (chO w ⟨3, oid, nm, sl⟩).sl.set (atF (chO w ⟨3, oid, nm, sl⟩).sl nm).toNat { (chO w ⟨3, oid, nm, sl⟩).sl.getD (atF (chO w ⟨3, oid, nm, sl⟩).sl nm).toNat default with v := sl.v } }) == 0 with
 | true =>
  refine M.cl (must_s hc 110) ?_
  exact M.leave hD [2, 3, 6, 7, 8, 10] (appl_none w (chI w ⟨3, oid, nm, sl⟩) { chO w ⟨3, oid, nm, sl⟩ with sl := (chO w ⟨3, oid, nm, sl⟩).sl.set (atF (chO w ⟨3, oid, nm, sl⟩).sl nm).toNat { (chO w ⟨3, oid, nm, sl⟩).sl.getD (atF (chO w ⟨3, oid, nm, sl⟩).sl nm).toNat default with v := sl.v } }) [] [w.objs.length <= w.objs.length, ((chO w ⟨3, oid, nm, sl⟩).sl.set (atF (chO w ⟨3, oid, nm, sl⟩).sl nm).toNat { (chO w ⟨3, oid, nm, sl⟩).sl.getD (atF (chO w ⟨3, oid, nm, sl⟩).sl nm).toNat default with v := sl.v }).length <= ((chO w ⟨3, oid, nm, sl⟩).sl.set (atF (chO w ⟨3, oid, nm, sl⟩).sl nm).toNat { (chO w ⟨3, oid, nm, sl⟩).sl.getD (atF (chO w ⟨3, oid, nm, sl⟩).sl nm).toNat default with v := sl.v }).length, w.acts.length <= w.acts.length, w.cds.length <= w.cds.length] (.tup [.agg (focW w (chI w ⟨3, oid, nm, sl⟩) { chO w ⟨3, oid, nm, sl⟩ with sl := (chO w ⟨3, oid, nm, sl⟩).sl.set (atF (chO w ⟨3, oid, nm, sl⟩).sl nm).toNat { (chO w ⟨3, oid, nm, sl⟩).sl.getD (atF (chO w ⟨3, oid, nm, sl⟩).sl nm).toNat default with v := sl.v } }), I 0]) (by kernel_rfl) trivial (by kernel_rfl) (by kernel_rfl) (by kernel_rfl) rfl (by kernel_rfl) (by kernel_rfl) (by kernel_rfl) (by kernel_rfl) ⟨Nat.le_refl _, Nat.le_refl _, Nat.le_refl _, Nat.le_refl _, trivial⟩ fun L W u h => tup_to h fun us h => by
   obtain ⟨u0, us, rfl, h0, h⟩ := h.uncons
   exact Rs.cons (focW_R hil h0) h
 | false =>
  exact M.callP [] [] (mustP_s hc 110) (by kernel_rfl) trivial (by kernel_rfl) (OkP.leave (x' := unfV 110) hD [2, 3] (appl_some 110) [] (.tup [.agg nilW, I 110]) (by kernel_rfl) rfl (by kernel_rfl) (by kernel_rfl) (by kernel_rfl) (by kernel_rfl) (by kernel_rfl) trivial fun L W u h => wz_nil h)
def app4 (w : Wd) (ch : Ch) : Wd × Int := bif form4 ch then (bif objF w ch.oid then (bif decide (atF (chO w ch).sl ch.name >= 0) then finT (setW w (chI w ch) { chO w ch with sl := (chO w ch).sl.set (atF (chO w ch).sl ch.name).toNat { (chO w ch).sl.getD (atF (chO w ch).sl ch.name).toNat default with kd := ch.slot.kd } }) else (wZ, 3)) else (wZ, 3)) else (wZ, 110)
theorem applied4 (w : Wd) (hw : w.Ok) (ch : Ch) (hk : ch.kind = 4) (hch : In64 ch.slot.v.n) : Spec Tryz.prog 32 [.agg w.pv, .agg ch.pv] (.tup [.agg (app4 w ch).1.pv, I (app4 w ch).2]) := by
 unfold app4
 obtain ⟨kd, oid, nm, sl⟩ := ch
 simp only at hk
 subst hk
 refine Spec.startD (by kernel_rfl) Tryz.func32 rfl rfl fun w0 L hst hd0 hro hmk hgh => ?_
 refine M.cl kinds_spec ?_
 refine M.look (.tup [.agg [.fn 111 [.ptr zSlot], .fn 112 []], .sb true]) kindsRel (I 4) 130 true [] (by kernel_rfl) trivial (by kernel_rfl) (fun β L W u v h hv => kinds_look (k := 4) h hv (zs := [.nilFunc, .nilFunc]) (by kernel_rfl)) ?_
 refine M.no (b := !true) rfl (by kernel_rfl) ?_
 refine M.cl (form4_spec ⟨4, oid, nm, sl⟩) ?_
 cases hfm : form4 ⟨4, oid, nm, sl⟩ with
 | false =>
  refine M.yes (b := !false) rfl (by kernel_rfl) ?_
  exact M.retw [] (.tup [.agg nilW, I 110]) (by kernel_rfl) trivial fun L W u h => wz_nil h
 | true =>
 refine M.no (b := !true) rfl (by kernel_rfl) ?_
 refine M.defer (g := 61) (caps := [.ref 2 0, .ref 3 0]) 4 [] (by kernel_rfl) trivial hst (Nat.le_of_ble_eq_true (by kernel_rfl)) (by kernel_rfl) hd0 hro hmk hgh fun w1 L1 hD => ?_
 cases hf : objF w oid with
 | false =>
  refine M.callm [] (copied_spec w hw) (by kernel_rfl) ?_
  exact M.callP [] [5, 6, 7, 8] (turn_none w hw ⟨4, oid, nm, sl⟩ hf) (by kernel_rfl) trivial (by kernel_rfl) (OkP.leave (x' := unfV 3) hD [2, 3] (appl_some 3) [] (.tup [.agg nilW, I 3]) (by kernel_rfl) rfl (by kernel_rfl) (by kernel_rfl) (by kernel_rfl) (by kernel_rfl) (by kernel_rfl) trivial fun L W u h => wz_nil h)
 | true =>
 have hil := chI_lt hw (ch := ⟨4, oid, nm, sl⟩) hf
 have hok := hw.objs _ (getD_mem (p := chI w ⟨4, oid, nm, sl⟩) hil)
 refine M.callm [] (copiedF_spec w hw (chI w ⟨4, oid, nm, sl⟩) hil) (by kernel_rfl) ?_
 cases ha : decide (atF (chO w ⟨4, oid, nm, sl⟩).sl nm >= 0) with
 | false =>
  exact M.callP [] [5, 6, 7, 8, 9] (turn_no w hw ⟨4, oid, nm, sl⟩ hf ha) (by kernel_rfl) trivial (by kernel_rfl) (OkP.leave (x' := unfV 3) hD [2, 3] (appl_some 3) [] (.tup [.agg nilW, I 3]) (by kernel_rfl) rfl (by kernel_rfl) (by kernel_rfl) (by kernel_rfl) (by kernel_rfl) (by kernel_rfl) trivial fun L W u h => wz_nil h)
 | true =>
 have ho' : ({ chO w ⟨4, oid, nm, sl⟩ with sl := (chO w ⟨4, oid, nm, sl⟩).sl.set (atF (chO w ⟨4, oid, nm, sl⟩).sl nm).toNat { (chO w ⟨4, oid, nm, sl⟩).sl.getD (atF (chO w ⟨4, oid, nm, sl⟩).sl nm).toNat default with kd := sl.kd } } : Ob).Ok := ⟨fun s hs => by
  rcases List.mem_or_eq_of_mem_set hs with h | h
  ·exact hok.sl s h
  ·rw [h]
   have hat := of_decide_eq_true ha
   have hlt := fstI_lt (nmEq nm) (chO w ⟨4, oid, nm, sl⟩).sl
   have hq : (atF (chO w ⟨4, oid, nm, sl⟩).sl nm).toNat < (chO w ⟨4, oid, nm, sl⟩).sl.length := by unfold atF at hat ⊢; omega
   exact hok.sl ((chO w ⟨4, oid, nm, sl⟩).sl.getD (atF (chO w ⟨4, oid, nm, sl⟩).sl nm).toNat default) (getD_mem hq), hok.el, by rw [List.length_set]; exact hok.nsl, hok.nel⟩
 refine M.callmp [] [5, 6, 7, 8, 9] (turn_ok w hw ⟨4, oid, nm, sl⟩ hf ha) (by kernel_rfl) trivial ?_
 refine M.clp [w.objs.length <= w.objs.length, ((chO w ⟨4, oid, nm, sl⟩).sl.set (atF (chO w ⟨4, oid, nm, sl⟩).sl nm).toNat { (chO w ⟨4, oid, nm, sl⟩).sl.getD (atF (chO w ⟨4, oid, nm, sl⟩).sl nm).toNat default with kd := sl.kd }).length <= ((chO w ⟨4, oid, nm, sl⟩).sl.set (atF (chO w ⟨4, oid, nm, sl⟩).sl nm).toNat { (chO w ⟨4, oid, nm, sl⟩).sl.getD (atF (chO w ⟨4, oid, nm, sl⟩).sl nm).toNat default with kd := sl.kd }).length, w.acts.length <= w.acts.length, w.cds.length <= w.cds.length] ⟨Nat.le_refl _, Nat.le_refl _, Nat.le_refl _, Nat.le_refl _, trivial⟩ (checkG hil (setW_ok hw _ ho')) ?_
 unfold finT
 cases hc : wcheckW (setW w (chI w ⟨4, oid, nm, sl⟩) { chO w ⟨4, oid, nm, sl⟩ with sl := (chO w ⟨4, oid, nm, sl⟩).sl.set (atF (chO w ⟨4, oid, nm, sl⟩).sl nm).toNat { (chO w ⟨4, oid, nm, sl⟩).sl.getD (atF (chO w ⟨4, oid, nm, sl⟩).sl nm).toNat default with kd := sl.kd } }) == 0 with
 | true =>
  refine M.cl (must_s hc 110) ?_
  exact M.leave hD [2, 3, 6, 7, 8, 10] (appl_none w (chI w ⟨4, oid, nm, sl⟩) { chO w ⟨4, oid, nm, sl⟩ with sl := (chO w ⟨4, oid, nm, sl⟩).sl.set (atF (chO w ⟨4, oid, nm, sl⟩).sl nm).toNat { (chO w ⟨4, oid, nm, sl⟩).sl.getD (atF (chO w ⟨4, oid, nm, sl⟩).sl nm).toNat default with kd := sl.kd } }) [] [w.objs.length <= w.objs.length, ((chO w ⟨4, oid, nm, sl⟩).sl.set (atF (chO w ⟨4, oid, nm, sl⟩).sl nm).toNat { (chO w ⟨4, oid, nm, sl⟩).sl.getD (atF (chO w ⟨4, oid, nm, sl⟩).sl nm).toNat default with kd := sl.kd }).length <= ((chO w ⟨4, oid, nm, sl⟩).sl.set (atF (chO w ⟨4, oid, nm, sl⟩).sl nm).toNat { (chO w ⟨4, oid, nm, sl⟩).sl.getD (atF (chO w ⟨4, oid, nm, sl⟩).sl nm).toNat default with kd := sl.kd }).length, w.acts.length <= w.acts.length, w.cds.length <= w.cds.length] (.tup [.agg (focW w (chI w ⟨4, oid, nm, sl⟩) { chO w ⟨4, oid, nm, sl⟩ with sl := (chO w ⟨4, oid, nm, sl⟩).sl.set (atF (chO w ⟨4, oid, nm, sl⟩).sl nm).toNat { (chO w ⟨4, oid, nm, sl⟩).sl.getD (atF (chO w ⟨4, oid, nm, sl⟩).sl nm).toNat default with kd := sl.kd } }), I 0]) (by kernel_rfl) trivial (by kernel_rfl) (by kernel_rfl) (by kernel_rfl) rfl (by kernel_rfl) (by kernel_rfl) (by kernel_rfl) (by kernel_rfl) ⟨Nat.le_refl _, Nat.le_refl _, Nat.le_refl _, Nat.le_refl _, trivial⟩ fun L W u h => tup_to h fun us h => by
   obtain ⟨u0, us, rfl, h0, h⟩ := h.uncons
   exact Rs.cons (focW_R hil h0) h
 | false =>
  exact M.callP [] [] (mustP_s hc 110) (by kernel_rfl) trivial (by kernel_rfl) (OkP.leave (x' := unfV 110) hD [2, 3] (appl_some 110) [] (.tup [.agg nilW, I 110]) (by kernel_rfl) rfl (by kernel_rfl) (by kernel_rfl) (by kernel_rfl) (by kernel_rfl) (by kernel_rfl) trivial fun L W u h => wz_nil h)
abbrev mkW (w : Wd) (n : Int) : Wd := { w with objs := w.objs ++ [newO n], nO := w.nO + 1 }
theorem mkW_ok {w : Wd} (hw : w.Ok) (n : Int) (hl : w.objs.length < 3000) : (mkW w n).Ok := ⟨fun x hx => by
 rcases List.mem_append.1 hx with h | h
 ·exact hw.objs x h
 ·rw [List.mem_singleton.1 h]
  exact ⟨(fun s hs => by cases hs), (fun s hs => by cases hs), Nat.zero_le _, Nat.zero_le _⟩, hw.acts, hw.cds, hw.nacts, by show (w.objs ++ [newO n]).length <= _; rw [List.length_append]; simp only [List.length_cons, List.length_nil]; omega, hw.ncds⟩
abbrev doneM (w : Wd) : Sig := [[.os 76 2 6 w.objs.length, .os 78 3 9 w.acts.length, .os 82 4 9 w.cds.length, I w.nO, I w.nA], [I 0], objR w, actR w, cdR w]
theorem appl_made (w : Wd) : SpecD Tryz.prog 61 (doneM w) [.ref 0 0, .ref 1 0] none (doneM w) := by
 refine SpecD.start (by kernel_rfl) rfl Tryz.func61 rfl rfl rfl rfl rfl rfl fun w0 L hst => ?_
 exact M.dend [] (by kernel_rfl) trivial (by kernel_rfl) (by kernel_rfl) [0, 1, 2, 3, 4] (n := 5) hst rfl (by kernel_rfl) (by kernel_rfl) rfl
def app5 (w : Wd) (ch : Ch) : Wd × Int := bif form5 ch then (bif (bif decide ((w.objs.length : Int) < 3000) then decide (w.nO < 1099511627776) else false) then (bif ch.oid == w.nO then finT (mkW w ch.oid) else (wZ, 110)) else (wZ, 2)) else (wZ, 110)
theorem applied5 (w : Wd) (hw : w.Ok) (hn : In64 w.nO) (ch : Ch) (hk : ch.kind = 5) (hch : In64 ch.slot.v.n) : Spec Tryz.prog 32 [.agg w.pv, .agg ch.pv] (.tup [.agg (app5 w ch).1.pv, I (app5 w ch).2]) := by
 unfold app5
 obtain ⟨kd, oid, nm, sl⟩ := ch
 simp only at hk
 subst hk
 refine Spec.startD (by kernel_rfl) Tryz.func32 rfl rfl fun w0 L hst hd0 hro hmk hgh => ?_
 refine M.cl kinds_spec ?_
 refine M.look (.tup [.agg [.fn 113 [.ptr zSlot], .fn 114 []], .sb true]) kindsRel (I 5) 130 true [] (by kernel_rfl) trivial (by kernel_rfl) (fun β L W u v h hv => kinds_look (k := 5) h hv (zs := [.nilFunc, .nilFunc]) (by kernel_rfl)) ?_
 refine M.no (b := !true) rfl (by kernel_rfl) ?_
 refine M.cl (form5_spec ⟨5, oid, nm, sl⟩) ?_
 cases hfm : form5 ⟨5, oid, nm, sl⟩ with
 | false =>
  refine M.yes (b := !false) rfl (by kernel_rfl) ?_
  exact M.retw [] (.tup [.agg nilW, I 110]) (by kernel_rfl) trivial fun L W u h => wz_nil h
 | true =>
 refine M.no (b := !true) rfl (by kernel_rfl) ?_
 refine M.defer (g := 61) (caps := [.ref 2 0, .ref 3 0]) 4 [] (by kernel_rfl) trivial hst (Nat.le_of_ble_eq_true (by kernel_rfl)) (by kernel_rfl) hd0 hro hmk hgh fun w1 L1 hD => ?_
 cases h1 : (bif decide ((w.objs.length : Int) < 3000) then decide (w.nO < 1099511627776) else false) with
 | false =>
  refine M.callm [] (copied_spec w hw) (by kernel_rfl) ?_
  exact M.callP [] [5, 6, 7, 8] (create_full w ⟨5, oid, nm, sl⟩ h1) (by kernel_rfl) trivial (by kernel_rfl) (OkP.leave (x' := unfV 2) hD [2, 3] (appl_some 2) [] (.tup [.agg nilW, I 2]) (by kernel_rfl) rfl (by kernel_rfl) (by kernel_rfl) (by kernel_rfl) (by kernel_rfl) (by kernel_rfl) trivial fun L W u h => wz_nil h)
 | true =>
 cases h2 : oid == w.nO with
 | false =>
  refine M.callm [] (copied_spec w hw) (by kernel_rfl) ?_
  exact M.callP [] [5, 6, 7, 8] (create_other w ⟨5, oid, nm, sl⟩ h1 h2) (by kernel_rfl) trivial (by kernel_rfl) (OkP.leave (x' := unfV 110) hD [2, 3] (appl_some 110) [] (.tup [.agg nilW, I 110]) (by kernel_rfl) rfl (by kernel_rfl) (by kernel_rfl) (by kernel_rfl) (by kernel_rfl) (by kernel_rfl) trivial fun L W u h => wz_nil h)
 | true =>
 have hl : w.objs.length < 3000 := by
  cases h : decide ((w.objs.length : Int) < 3000) with
  | true => have := of_decide_eq_true h; omega
  | false => rw [h] at h1; cases h1
 refine M.callm [] (copied_spec w hw) (by kernel_rfl) ?_
 refine M.callmp [] [5, 6, 7, 8] (create_ok w hw hn ⟨5, oid, nm, sl⟩ h1 h2) (by kernel_rfl) trivial ?_
 refine M.clp [(w.objs ++ [newO oid]).length <= (w.objs ++ [newO oid]).length, w.acts.length <= w.acts.length, w.cds.length <= w.cds.length] ⟨Nat.le_refl _, Nat.le_refl _, Nat.le_refl _, trivial⟩ (wcheck_spec (mkW w oid) (mkW_ok hw oid hl)) ?_
 unfold finT
 cases hc : wcheckW (mkW w oid) == 0 with
 | true =>
  refine M.cl (must_s hc 110) ?_
  exact M.leave hD [2, 3, 9, 10, 11] (appl_made (mkW w oid)) [] [(w.objs ++ [newO oid]).length <= (w.objs ++ [newO oid]).length, w.acts.length <= w.acts.length, w.cds.length <= w.cds.length] (.tup [.agg (mkW w oid).pv, I 0]) (by kernel_rfl) trivial (by kernel_rfl) (by kernel_rfl) (by kernel_rfl) rfl (by kernel_rfl) (by kernel_rfl) (by kernel_rfl) (by kernel_rfl) ⟨Nat.le_refl _, Nat.le_refl _, Nat.le_refl _, trivial⟩ fun L W u h => h
 | false =>
  exact M.callP [] [] (mustP_s hc 110) (by kernel_rfl) trivial (by kernel_rfl) (OkP.leave (x' := unfV 110) hD [2, 3] (appl_some 110) [] (.tup [.agg nilW, I 110]) (by kernel_rfl) rfl (by kernel_rfl) (by kernel_rfl) (by kernel_rfl) (by kernel_rfl) (by kernel_rfl) trivial fun L W u h => wz_nil h)
end Go.Proofs.YtcknpohghmkbmaaGreatDoor
