import Derived.Test.YtcknpohghmkbmaaGreatDoorK15
set_option linter.unusedVariables false
set_option linter.unusedSimpArgs false
/- The texts L11 L12 L13 L14 L15 C1 C2 of the proof, laid one behind the other. -/
namespace Go.Proofs.YtcknpohghmkbmaaGreatDoor
open Go.RowKit
theorem pieces_spec (t : List UInt8) : Spec Tryz.prog 195 [S t] (.fn 226 [.ptr [S t]]) := by
 refine Spec.start (by kernel_rfl) Tryz.func195 rfl rfl fun w0 L => ?_
 exact M.ret (.fn 226 [.ptr [S t]]) (by kernel_rfl) rfl
abbrev divS (lst : List Pc) (i : Nat) : Sig := [[.os 227 3 6 i], [I 0], [I 0], [.rws 6 i (fun j => Pc.pv (lst.getD j default))]]
theorem saved_none (lst : List Pc) (i : Nat) : SpecD Tryz.prog 194 (divS lst i) [.ref 0 0, .ref 1 0, .ref 2 0] none (divS lst i) := by
 refine SpecD.start (by kernel_rfl) rfl Tryz.func194 rfl rfl rfl rfl rfl rfl fun w0 L hst => ?_
 exact M.dend [] (by kernel_rfl) trivial (by kernel_rfl) (by kernel_rfl) [0, 1, 2, 3] (n := 4) hst rfl (by kernel_rfl) (by kernel_rfl) rfl
theorem saved_some (lst : List Pc) (i : Nat) (e : Int) (p : Nat) : SpecD Tryz.prog 194 (divS lst i) [.ref 0 0, .ref 1 0, .ref 2 0] (some (stopV e p)) [[.v (.slice none 0 0)], [I e], [I p], [.rws 6 i (fun j => Pc.pv (lst.getD j default))]] := by
 refine SpecD.start (by kernel_rfl) rfl Tryz.func194 rfl rfl rfl rfl rfl rfl fun w0 L hst => ?_
 exact M.dend [] (by kernel_rfl) trivial (by kernel_rfl) (by kernel_rfl) [0, 1, 2, 3] (n := 4) hst rfl (by kernel_rfl) (by kernel_rfl) rfl
theorem lexL_len (t : List UInt8) : ∀ (f many : Nat) (r : Rd), (lexL t f many r).1.length <= f
 | 0, _, _ => Nat.le_refl _
 | f + 1, many, r => by
  unfold lexL
  split
  ·simp
  ·split
   ·simp
   ·split
    ·simp
    ·split
     ·simp
     ·split
      ·simp only [List.length_cons]; exact Nat.succ_le_succ (lexL_len t f _ _)
      ·simp
theorem piecesL_len (t : List UInt8) : (piecesL t).1.length <= 6001 := by
 unfold piecesL; split
 ·exact lexL_len t _ _ _
 ·simp
def divL (t : List UInt8) : List Pc × Int × Nat := match (piecesL t).2 with | none => ((piecesL t).1, 0, 0) | some (e, p) => ([], e, p)
theorem divided_spec (t : List UInt8) : Spec Tryz.prog 165 [S t] (.tup [row 6 Pc.pv (divL t).1, I (divL t).2.1, I (divL t).2.2]) := by
 have hit := pieces_iter t
 have hl6 := piecesL_len t
 unfold divL
 generalize (piecesL t).1 = lst at hit hl6 ⊢
 generalize hfin : (piecesL t).2 = fin at hit ⊢
 clear hfin
 refine Spec.startD (by kernel_rfl) Tryz.func165 rfl rfl fun w0 L hst hd0 hro hmk hgh => ?_
 refine M.defer (g := 194) (caps := [.ref 0 0, .ref 1 0, .ref 2 0]) 3 [] (by kernel_rfl) trivial hst (Nat.le_of_ble_eq_true (by kernel_rfl)) (by kernel_rfl) hd0 hro hmk hgh fun w1 L1 hD => ?_
 refine M.cl (pieces_spec t) ?_
 refine M.nilC [] 227 6 (fun j => Pc.pv (lst.getD j default)) 0 0 (by kernel_rfl) trivial (by kernel_rfl) (by kernel_rfl) ?_
 refine M.rangeF (ι := {i : Nat // i <= lst.length}) (ζ := Empty) (fun i => divS lst i.1) (fun i => i.1) ⟨0, Nat.zero_le _⟩ (fun z => nomatch z) (fun z => nomatch z) [(0, S t), (2, .ref 0 0), (3, .ref 1 0), (4, .ref 2 0)] 3 hit []
  (fun i => (5, .ref 4 0) :: (9, .agg (Pc.pv (lst.getD i.1 default))) :: [(0, S t), (2, .ref 0 0), (3, .ref 1 0), (4, .ref 2 0)]) (fun i => divS lst i.1 ++ [Pc.pv (lst.getD i.1 default)])
  trivial rfl (by rw [hD.stay]; exact Nat.le_refl _) hD.ro hD.mrk (fun x hx => ?_)
  (by kernel_rfl) (by kernel_rfl) (by kernel_rfl) (by kernel_rfl) rfl (by kernel_rfl) (by kernel_rfl) (by kernel_rfl) (fun _ => rfl) (fun _ => by kernel_rfl) (by kernel_rfl) (fun _ => by kernel_rfl)
  (fun ⟨i, hi⟩ w2 L2 hlt hst2 => ?_) (fun ⟨i, hi⟩ L' hf hn => ?_) (fun ⟨i, hi⟩ v hf hn => ?_) (fun z => nomatch z)
 ·cases fin with
  | none => cases hx
  | some q => cases hx; rfl
 ·have hlt' : i < lst.length := hlt
  refine M.ren [i = i /\ 0 < 1 /\ i + 1 <= 9223372036854775807 /\ (i + 1) * 56 <= 140737488355328] [0, 1, 2, 5] hst2 (by kernel_rfl) ⟨⟨rfl, by omega, by omega, by omega⟩, trivial⟩ (by kernel_rfl) (by kernel_rfl) rfl fun L' => ?_
  refine M.sig [] [[.os 227 3 6 (i + 1)], [I 0], [I 0], [.rws 6 (i + 1) (fun j => (joinEl (fun j => Pc.pv (lst.getD j default)) i (fun j => ((Pc.pv (lst.getD i default)).drop (j * 6)).take 6) j).map (renP (invF [0, 1, 2, 5] 0) 7))]]
   (divS lst (i + 1)) (by kernel_rfl) trivial (by kernel_rfl) (by kernel_rfl) (.cons (.refl _) (.cons (.refl _) (.cons (.refl _) (.cons (app_cells rfl rfl fun j => rfl) .nil)))) ?_
  exact M.next (ι := {i : Nat // i <= lst.length}) ⟨i + 1, hlt'⟩ rfl [] (by kernel_rfl) trivial (by kernel_rfl) (by kernel_rfl) (by kernel_rfl)
 ·cases fin with
  | some q => cases hf
  | none =>
   have hn' : i = lst.length := hn
   subst hn'
   exact M.leave hD [0, 1, 2, 3] (saved_none lst lst.length) [] [lst.length <= lst.length] (.tup [.sl 6 lst.length (fun j => Pc.pv (lst.getD j default)), I 0, I 0]) (by kernel_rfl) trivial (by kernel_rfl) (by kernel_rfl) (by kernel_rfl) rfl (by kernel_rfl) (by kernel_rfl) (by kernel_rfl) (by kernel_rfl) ⟨Nat.le_refl _, trivial⟩ fun L W u h => h
 ·cases fin with
  | none => cases hf
  | some q =>
   obtain ⟨e, p⟩ := q
   cases hf
   refine OkP.leave (x' := stopV e p) hD [0, 1, 2, 3] (saved_some lst i e p) [] (.tup [.v (.slice none 0 0), I e, I p]) (by kernel_rfl) rfl (by kernel_rfl) (by kernel_rfl) (by kernel_rfl) (by kernel_rfl) (by kernel_rfl) trivial fun L W u h => ?_
   show R [] L W (.tup [row 6 Pc.pv [], I e, I p]) u
   rw [R] at h
   rw [R]
   obtain ⟨us, rfl, h⟩ := h
   obtain ⟨u0, us', rfl, h1, h2⟩ := h.uncons
   refine ⟨_, rfl, Rs.cons ?_ h2⟩
   rw [R] at h1
   rw [R]
   exact ⟨none, 0, h1, Nat.le_refl _, by omega, fun h => absurd h (Nat.lt_irrefl _)⟩
def kindL (t : List UInt8) : Int :=
 bif (divL t).2.1 != 0 then 0 else (bif ((divL t).1.length : Int) != 1 then 0 else (bif ((divL t).1.getD 0 default).frm != 0 then 0 else (bif ((divL t).1.getD 0 default).til != (t.length : Int) then 0 else ((divL t).1.getD 0 default).kind)))
theorem kind_spec (t : List UInt8) : Spec Tryz.prog 142 [S t] (I (kindL t)) := by
 refine Spec.startL (by kernel_rfl) Tryz.func142 rfl rfl fun w0 L hst => ?_
 refine M.cl (divided_spec t) ?_
 refine M.tq (r := kindL t) rfl (fun h1 q1 => ?_) (fun h1 q1 => ?_)
 ·exact M.rq q1
 ·refine M.tq q1 (fun h2 q2 => ?_) (fun h2 q2 => ?_)
  ·exact M.rq q2
  ·have h2' : ((divL t).1.length : Int) = 1 := by simpa using h2
   refine M.tqp [(0 : Int) <= 0 /\ (0 : Int) < ((divL t).1.length : Int)] ⟨by omega, trivial⟩ q2 (fun h3 q3 => ?_) (fun h3 q3 => ?_)
   ·exact M.rq q3
   ·refine M.tqp [(0 : Int) <= 0 /\ (0 : Int) < ((divL t).1.length : Int)] ⟨by omega, trivial⟩ q3 (fun h4 q4 => ?_) (fun h4 q4 => ?_)
    ·exact M.rq q4
    ·exact M.rqp [(0 : Int) <= 0 /\ (0 : Int) < ((divL t).1.length : Int)] ⟨by omega, trivial⟩ q4
theorem ix1_spec (l : List UInt8) (c : UInt8) : Spec Tryz.prog 273 [S l, S [c]] (I (Lib.indexByte l c)) := by
 refine ⟨by kernel_rfl, fun L W vs hL hG hR => ?_⟩
 obtain ⟨u, us, rfl, h1, hR1⟩ := hR.uncons
 obtain ⟨u2, us, rfl, h2, hR2⟩ := hR1.uncons
 rw [Rs] at hR2
 rw [R] at h1 h2
 subst h1; subst h2; subst hR2
 refine (Tryz.strings_Index_one ⟨l.toArray⟩ c W).mono fun e w' ⟨he, hw⟩ => ?_
 subst hw
 exact ⟨_, he, by rw [R], Below.refl _ _⟩
theorem cnt1_spec (l : List UInt8) (c : UInt8) : Spec Tryz.prog 272 [S l, S [c]] (I (l.count c)) := by
 refine ⟨by kernel_rfl, fun L W vs hL hG hR => ?_⟩
 obtain ⟨u, us, rfl, h1, hR1⟩ := hR.uncons
 obtain ⟨u2, us, rfl, h2, hR2⟩ := hR1.uncons
 rw [Rs] at hR2
 rw [R] at h1 h2
 subst h1; subst h2; subst hR2
 refine (Tryz.strings_Count_one ⟨l.toArray⟩ c W).mono fun e w' ⟨he, hw⟩ => ?_
 subst hw
 exact ⟨_, he, by rw [R]; rfl, Below.refl _ _⟩
def cutN (c : UInt8) : Nat -> List UInt8 -> List (List UInt8)
 | 0, s => [s]
 | n + 1, s => s.take ((Lib.indexByte s c).toNat + 1) :: cutN c n (s.drop ((Lib.indexByte s c).toNat + 1))
theorem cutN_len (c : UInt8) : ∀ (n : Nat) (s : List UInt8), (cutN c n s).length = n + 1
 | 0, _ => rfl
 | n + 1, s => by unfold cutN; rw [List.length_cons, cutN_len c n]
theorem ix_count (c : UInt8) : ∀ (s : List UInt8), 0 < s.count c -> 0 <= Lib.indexByte s c /\ (s.drop ((Lib.indexByte s c).toNat + 1)).count c + 1 = s.count c
 | [], h => by simp at h
 | b :: s, h => by
  unfold Lib.indexByte
  cases hb : b == c with
  | true =>
   have e : b = c := by simpa using hb
   subst e
   simp
  | false =>
   have hc : (b :: s).count c = s.count c := by rw [List.count_cons, hb]; simp
   rw [hc] at h ⊢
   have ih := ix_count c s h
   have hne : ¬ (Lib.indexByte s c == -1) = true := by simp; omega
   rw [if_neg (by simp), if_neg hne]
   refine ⟨by omega, ?_⟩
   rw [show (Lib.indexByte s c + 1).toNat + 1 = ((Lib.indexByte s c).toNat + 1) + 1 by omega]
   exact ih.2
abbrev mn (s : List UInt8) : Int := if (s.length : Int) + 1 < (s.count 58 : Int) + 1 then (s.length : Int) + 1 else (s.count 58 : Int) + 1
theorem mn_eq (s : List UInt8) : mn s = s.count 58 + 1 := by
 have := List.count_le_length (a := (58 : UInt8)) (l := s)
 unfold mn; rw [if_neg (by omega)]
def cutS (s : List UInt8) : List (List UInt8) := cutN 58 (s.count 58) s
abbrev elS (s : List UInt8) (i : Nat) : Nat -> List PV := fun j => if j < i then [S ((cutS s).getD j [])] else [S []]
theorem elS_next (s x : List UInt8) (i : Nat) (h : (cutS s).getD i [] = x) (j : Nat) : setEl (elS s i) (i : Int).toNat 0 [S x] j = elS s (i + 1) j := by
 unfold setEl elS
 rw [show (i : Int).toNat = i by simp]
 by_cases e : j = i
 ·subst e
  rw [if_pos rfl, if_neg (Nat.lt_irrefl j), if_pos (Nat.lt_succ_self j), h]
  rfl
 ·rw [if_neg e]
  by_cases h2 : j < i
  ·rw [if_pos h2, if_pos (by omega)]
  ·rw [if_neg h2, if_neg (by omega)]
theorem ix_len {c : UInt8} {s : List UInt8} (h : 0 <= Lib.indexByte s c) : (Lib.indexByte s c).toNat + 1 <= s.length := by
 have := ix_lt s c; omega
theorem genSplit_spec (s : List UInt8) (hs : s.length <= 1000000) : Spec Tryz.prog 233 [S s, S [58], I 1, I (-1)] (row 1 (fun x => [S x]) (cutS s)) := by
 refine Spec.startL (by kernel_rfl) Tryz.func233 rfl rfl fun w0 L hst => ?_
 have hcl := List.count_le_length (a := (58 : UInt8)) (l := s)
 have hmn := mn_eq s
 refine M.no (b := (-1 : Int) == 0) rfl (by kernel_rfl) ?_
 refine M.no (b := ([58] : List UInt8) == []) rfl (by kernel_rfl) ?_
 refine M.yes (b := decide ((-1 : Int) < 0)) rfl (by kernel_rfl) ?_
 refine M.cl (cnt1_spec s 58) ?_
 refine M.loopL (ι := {q : Nat × List UInt8 // q.1 <= s.count 58 /\ cutN 58 (s.count 58 - q.1) q.2 = (cutS s).drop q.1 /\ q.2.count 58 = s.count 58 - q.1 /\ q.2.length <= s.length}) (fun q => [(0, S q.1.2), (1, S [58]), (2, I 1), (3, I (mn s - 1)), (9, .os 9 0 1 (mn s).toNat), (10, I q.1.1)])
  (fun q => [[.rws 1 (mn s).toNat (elS s q.1.1)]]) (fun q => s.count 58 - q.1.1) ⟨(0, s), Nat.zero_le _, rfl, rfl, Nat.le_refl _⟩
  [In64 ((s.count 58 : Int) + 1), In64 ((s.length : Int) + 1), 0 <= mn s /\ mn s <= mn s /\ (16 : Int) * mn s <= 281474976710656 /\ mn s <= 9223372036854775807, In64 (mn s - 1)] (by kernel_rfl) ⟨⟨by omega, by omega⟩, ⟨by omega, by omega⟩, by omega, ⟨by omega, by omega⟩, trivial⟩ (by kernel_rfl) (by kernel_rfl) fun ⟨(i, y), hi, hd, hc, hy⟩ L ih => ?_
 simp only at hi hd hc hy
 refine M.test (decide ((i : Int) < mn s - 1)) (by kernel_rfl) (fun h1 => ?_) (fun h1 => ?_)
 ·have h1' := of_decide_eq_true h1
  have hlt : i < s.count 58 := by omega
  obtain ⟨hge, hc2⟩ := ix_count 58 y (by omega)
  have hle := ix_len hge
  refine M.cl (ix1_spec y 58) ?_
  refine M.no (b := decide (Lib.indexByte y 58 < 0)) (decide_eq_false (by omega)) (by kernel_rfl) ?_
  have e1 : sub y 0 (Lib.indexByte y 58 + 1) = y.take ((Lib.indexByte y 58).toNat + 1) := by
   unfold sub
   rw [show (Lib.indexByte y 58 + 1).toNat = (Lib.indexByte y 58).toNat + 1 by omega]
   rfl
  have e2 : sub y (Lib.indexByte y 58 + 1) y.length = y.drop ((Lib.indexByte y 58).toNat + 1) := by
   unfold sub
   rw [show (Lib.indexByte y 58 + 1).toNat = (Lib.indexByte y 58).toNat + 1 by omega, List.take_of_length_le]
   rw [List.length_drop]; omega
  have hcut : cutN 58 (s.count 58 - i) y = y.take ((Lib.indexByte y 58).toNat + 1) :: cutN 58 (s.count 58 - (i + 1)) (y.drop ((Lib.indexByte y 58).toNat + 1)) := by
   rw [show s.count 58 - i = (s.count 58 - (i + 1)) + 1 by omega]; rfl
  have hg : (cutS s).getD i [] = sub y 0 (Lib.indexByte y 58 + 1) := by
   have := congrArg (fun l => l[0]?) (hd.symm.trans hcut)
   simp only [List.getElem?_drop, Nat.add_zero, List.getElem?_cons_zero] at this
   rw [List.getD_eq_getElem?_getD, this, e1]
   rfl
  have htl : cutN 58 (s.count 58 - (i + 1)) (sub y (Lib.indexByte y 58 + 1) y.length) = (cutS s).drop (i + 1) := by
   have := congrArg List.tail (hd.symm.trans hcut)
   rw [List.tail_drop] at this
   rw [e2]
   exact this.symm
  refine M.sig [In64 (Lib.indexByte y 58 + 1), (0 : Int) <= 0 /\ 0 <= Lib.indexByte y 58 + 1 /\ Lib.indexByte y 58 + 1 <= y.length, 0 <= (i : Int) /\ (i : Int) < ((mn s).toNat : Int), (i : Int).toNat < (mn s).toNat, In64 (Lib.indexByte y 58 + 1), 0 <= Lib.indexByte y 58 + 1 /\ Lib.indexByte y 58 + 1 <= y.length /\ (y.length : Int) <= y.length, In64 ((i : Int) + 1)]
   [[.rws 1 (mn s).toNat (setEl (elS s i) (i : Int).toNat 0 [S (sub y 0 (Lib.indexByte y 58 + 1))])]] [[.rws 1 (mn s).toNat (elS s (i + 1))]] (by kernel_rfl) ⟨⟨by omega, by omega⟩, by omega, by omega, by omega, ⟨by omega, by omega⟩, by omega, ⟨by omega, by omega⟩, trivial⟩ (by kernel_rfl) (by kernel_rfl)
   (.cons (.rws rfl fun j _ => elS_next s _ i hg j) .nil) ?_
  exact M.back [] (ih ⟨(i + 1, sub y (Lib.indexByte y 58 + 1) y.length), hlt, htl, by show (sub y (Lib.indexByte y 58 + 1) y.length).count 58 = s.count 58 - (i + 1); rw [e2]; omega, by show (sub y (Lib.indexByte y 58 + 1) y.length).length <= s.length; rw [e2, List.length_drop]; omega⟩ L (by show s.count 58 - (i + 1) < s.count 58 - i; omega)) (by kernel_rfl) trivial (by kernel_rfl) (by kernel_rfl) (by kernel_rfl) (by kernel_rfl)
 ·have h1' := of_decide_eq_false h1
  have hi' : i = s.count 58 := by omega
  have hlen : (cutS s).length = s.count 58 + 1 := cutN_len _ _ _
  have hg : (cutS s).getD i [] = y := by
   rw [hi', Nat.sub_self] at hd
   have := congrArg (fun l => l[0]?) hd
   simp only [List.getElem?_drop, Nat.add_zero] at this
   rw [List.getD_eq_getElem?_getD, hi', <- this]
   rfl
  refine M.retw [0 <= (i : Int) /\ (i : Int) < ((mn s).toNat : Int), (i : Int).toNat < (mn s).toNat, In64 ((i : Int) + 1), (0 : Int) <= 0 /\ 0 <= (i : Int) + 1 /\ (i : Int) + 1 <= ((mn s).toNat : Int), ((i : Int) + 1).toNat <= (mn s).toNat]
   (.sl 1 ((i : Int) + 1).toNat (fun j => (setEl (elS s i) (i : Int).toNat 0 [S y] j).map unr)) (by kernel_rfl) ⟨by omega, by omega, ⟨by omega, by omega⟩, by omega, by omega, trivial⟩ fun L W u h => ?_
  refine sl_eq (by omega) (fun j hj => ?_) h
  show List.map unr (setEl (elS s i) (i : Int).toNat 0 [S y] j) = _
  rw [elS_next s y i hg j]
  unfold elS
  rw [if_pos (by omega)]
  rfl
theorem splitAfter_spec (s : List UInt8) (hs : s.length <= 1000000) : Spec Tryz.prog 196 [S s, S [58]] (row 1 (fun x => [S x]) (cutS s)) := by
 refine Spec.startL (by kernel_rfl) Tryz.func196 rfl rfl fun w0 L hst => ?_
 refine M.cl (genSplit_spec s hs) ?_
 exact M.ret (row 1 (fun x => [S x]) (cutS s)) (by kernel_rfl) rfl
def isWordP (k : Int) (x : List UInt8) (l : Int) (c : Int) : Bool := (bif k == 1 then (bif !x == [115, 101, 108, 102] then !x == [114, 101, 115, 101, 110, 100] else false) else false)
theorem isWordP_spec' (k : Int) (x : List UInt8) (l c : Int) (r : Bool) (hq : isWordP k x l c = r) : Spec Tryz.prog 164 [.agg [I k, S x, I l, I c]] (.sb r) := by
 unfold isWordP at hq
 refine Spec.startL (by kernel_rfl) Tryz.func164 rfl rfl fun w0 L hst => ?_
 refine M.tq hq (fun h1 q2 => ?_) (fun h1 q2 => ?_)
 ·refine M.tq q2 (fun h3 q4 => ?_) (fun h3 q4 => ?_)
  ·exact M.rq q4
  ·exact M.rq q4
 ·exact M.rq q2
theorem isWordP_spec (k : Int) (x : List UInt8) (l c : Int) : Spec Tryz.prog 164 [.agg [I k, S x, I l, I c]] (.sb (isWordP k x l c)) := isWordP_spec' k x l c _ rfl
def isOpP (k : Int) (x : List UInt8) (l : Int) (c : Int) : Bool := (bif k == 7 then (bif !x == [61] then !x == [60, 45] else false) else false)
theorem isOpP_spec' (k : Int) (x : List UInt8) (l c : Int) (r : Bool) (hq : isOpP k x l c = r) : Spec Tryz.prog 141 [.agg [I k, S x, I l, I c]] (.sb r) := by
 unfold isOpP at hq
 refine Spec.startL (by kernel_rfl) Tryz.func141 rfl rfl fun w0 L hst => ?_
 refine M.tq hq (fun h1 q2 => ?_) (fun h1 q2 => ?_)
 ·refine M.tq q2 (fun h3 q4 => ?_) (fun h3 q4 => ?_)
  ·exact M.rq q4
  ·exact M.rq q4
 ·exact M.rq q2
theorem isOpP_spec (k : Int) (x : List UInt8) (l c : Int) : Spec Tryz.prog 141 [.agg [I k, S x, I l, I c]] (.sb (isOpP k x l c)) := isOpP_spec' k x l c _ rfl
def kwoneP (x : List UInt8) : Bool := (bif kindL x != 3 then true else x == [73, 102, 70, 97, 105, 108, 58])
theorem kwoneP_spec' (x : List UInt8) (r : Bool) (hq : kwoneP x = r) : Spec Tryz.prog 168 [S x] (.sb r) := by
 unfold kwoneP at hq
 refine Spec.startL (by kernel_rfl) Tryz.func168 rfl rfl fun w0 L hst => ?_
 refine M.cl (kind_spec x) ?_
 refine M.tq hq (fun h1 q2 => ?_) (fun h1 q2 => ?_)
 ·exact M.rq q2
 ·exact M.rq q2
theorem kwoneP_spec (x : List UInt8) : Spec Tryz.prog 168 [S x] (.sb (kwoneP x)) := kwoneP_spec' x _ rfl
def hpreL (s p : List UInt8) : Bool := bif decide ((s.length : Int) >= p.length) then sub s 0 p.length == p else false
theorem slpre_spec (s p : List UInt8) : Spec Tryz.prog 81 [S s, S p] (.sb (hpreL s p)) := by
 refine Spec.startL (by kernel_rfl) Tryz.func81 rfl rfl fun w0 L hst => ?_
 refine M.tq (r := hpreL s p) rfl (fun h1 q1 => ?_) (fun h1 q1 => ?_)
 ·have := of_decide_eq_true h1
  exact M.rqp [(0 : Int) <= 0 /\ (0 : Int) <= p.length /\ (p.length : Int) <= s.length] ⟨by omega, trivial⟩ q1
 ·exact M.rq q1
theorem hpre_spec (s p : List UInt8) : Spec Tryz.prog 48 [S s, S p] (.sb (hpreL s p)) := by
 refine Spec.startL (by kernel_rfl) Tryz.func48 rfl rfl fun w0 L hst => ?_
 refine M.cl (slpre_spec s p) ?_
 exact M.rq (r := hpreL s p) rfl
def hsufL (s p : List UInt8) : Bool := bif decide ((s.length : Int) >= p.length) then sub s ((s.length : Int) - p.length) s.length == p else false
theorem slsuf_spec (s p : List UInt8) (hs : s.length <= 1000000000) : Spec Tryz.prog 169 [S s, S p] (.sb (hsufL s p)) := by
 refine Spec.startL (by kernel_rfl) Tryz.func169 rfl rfl fun w0 L hst => ?_
 refine M.tq (r := hsufL s p) rfl (fun h1 q1 => ?_) (fun h1 q1 => ?_)
 ·have := of_decide_eq_true h1
  exact M.rqp [In64 ((s.length : Int) - p.length), (0 : Int) <= (s.length : Int) - p.length /\ (s.length : Int) - p.length <= s.length /\ (s.length : Int) <= s.length] ⟨⟨by omega, by omega⟩, by omega, trivial⟩ q1
 ·exact M.rq q1
theorem hsuf_spec (s p : List UInt8) (hs : s.length <= 1000000000) : Spec Tryz.prog 144 [S s, S p] (.sb (hsufL s p)) := by
 refine Spec.startL (by kernel_rfl) Tryz.func144 rfl rfl fun w0 L hst => ?_
 refine M.cl (slsuf_spec s p hs) ?_
 exact M.rq (r := hsufL s p) rfl
def isNameP (s : List UInt8) : Bool := isWordP (kindL s) s 0 0
theorem isName_spec (s : List UInt8) : Spec Tryz.prog 140 [S s] (.sb (isNameP s)) := by
 refine Spec.startL (by kernel_rfl) Tryz.func140 rfl rfl fun w0 L hst => ?_
 refine M.cl (kind_spec s) ?_
 refine M.cl (isWordP_spec (kindL s) s 0 0) ?_
 exact M.rq (r := isNameP s) rfl
def partsP (s : List UInt8) : List (List UInt8) := (cutS s).dropLast
def endsP (s : List UInt8) : Bool := (cutS s).getD (((cutS s).length : Int) - 1).toNat default == []
theorem cutS_len (s : List UInt8) : (cutS s).length = s.count 58 + 1 := cutN_len _ _ _
theorem cutParts_spec (s : List UInt8) (hs : s.length <= 1000000) : Spec Tryz.prog 166 [S s] (.tup [row 1 (fun x => [S x]) (partsP s), .sb (endsP s)]) := by
 have hl := cutS_len s
 have hc := List.count_le_length (a := (58 : UInt8)) (l := s)
 refine Spec.startL (by kernel_rfl) Tryz.func166 rfl rfl fun w0 L hst => ?_
 refine M.cl (splitAfter_spec s hs) ?_
 refine M.retw [In64 (((cutS s).length : Int) - 1), (0 : Int) <= 0 /\ (0 : Int) <= ((cutS s).length : Int) - 1 /\ ((cutS s).length : Int) - 1 <= (cutS s).length, 0 <= ((cutS s).length : Int) - 1 /\ ((cutS s).length : Int) - 1 < (cutS s).length]
  (.tup [.sl 1 (((cutS s).length : Int) - 1).toNat (fun j => [S ((cutS s).getD (0 + j) default)]), .sb (endsP s)]) (by kernel_rfl) ⟨⟨by omega, by omega⟩, by omega, by omega, trivial⟩ fun L W u h => ?_
 rw [R] at h
 rw [R]
 obtain ⟨us, rfl, h⟩ := h
 obtain ⟨u0, us', rfl, h1, h2⟩ := h.uncons
 refine ⟨_, rfl, Rs.cons (sl_eq ?_ (fun j hj => ?_) h1) h2⟩
 ·unfold partsP; rw [List.length_dropLast]; omega
 ·show [S ((cutS s).getD (0 + j) default)] = [S ((partsP s).getD j default)]
  unfold partsP
  rw [Nat.zero_add, List.getD_eq_getElem?_getD, List.getD_eq_getElem?_getD, List.getElem?_dropLast, if_pos (by omega)]
def kwP (s : List UInt8) (k : Int) : Int :=
 bif !endsP s then 0 else (bif ((partsP s).length : Int) == 0 then 0 else (bif decide (((partsP s).length : Int) > 8) then 0 else (bif kindL ((partsP s).getD 0 default) != k then 0 else (bif ((partsP s).drop 1).any kwoneP then 0 else (partsP s).length))))
theorem kwrest_spec (l : List (List UInt8)) : Spec Tryz.prog 167 [.sl 1 (l.length - 1) (fun j => [S (l.getD (1 + j) default)]), .fn 168 []] (.sb ((l.drop 1).any kwoneP)) := by
 have := has_string_0 (l.drop 1) 168 kwoneP fun x _ => kwoneP_spec x
 have e : PV.sl 1 (l.length - 1) (fun j => [S (l.getD (1 + j) default)]) = row 1 (fun s => [S s]) (l.drop 1) := row_drop 1 (fun s => [S s]) l 1
 rw [e]
 exact this
theorem keywords_spec (s : List UInt8) (k : Int) (hs : s.length <= 1000000) : Spec Tryz.prog 143 [S s, I k] (I (kwP s k)) := by
 refine Spec.startL (by kernel_rfl) Tryz.func143 rfl rfl fun w0 L hst => ?_
 refine M.cl (cutParts_spec s hs) ?_
 refine M.tq (r := kwP s k) rfl (fun h1 q1 => ?_) (fun h1 q1 => ?_)
 ·exact M.rq q1
 refine M.tq q1 (fun h2 q2 => ?_) (fun h2 q2 => ?_)
 ·exact M.rq q2
 refine M.tq q2 (fun h3 q3 => ?_) (fun h3 q3 => ?_)
 ·exact M.rq q3
 have h2' : ¬ ((partsP s).length : Int) = 0 := by simpa using h2
 refine M.clp [(0 : Int) <= 0 /\ (0 : Int) < (partsP s).length] ⟨by omega, trivial⟩ (kind_spec ((partsP s).getD 0 default)) ?_
 refine M.tq q3 (fun h4 q4 => ?_) (fun h4 q4 => ?_)
 ·exact M.rq q4
 refine M.clp [(0 : Int) <= 1 /\ (1 : Int) <= (partsP s).length /\ ((partsP s).length : Int) <= (partsP s).length] ⟨by omega, trivial⟩ (kwrest_spec (partsP s)) ?_
 refine M.tq q4 (fun h5 q5 => ?_) (fun h5 q5 => ?_)
 ·exact M.rq q5
 ·exact M.rq q5
def arity0P (s : List UInt8) : Int :=
 bif decide ((s.length : Int) > 80) then -1 else (bif isNameP s then 0 else (bif isOpP (kindL s) s 0 0 then 1 else (bif decide (kwP s 2 > 0) then kwP s 2 else -1)))
theorem arity0_spec (s : List UInt8) : Spec Tryz.prog 82 [S s] (I (arity0P s)) := by
 refine Spec.startL (by kernel_rfl) Tryz.func82 rfl rfl fun w0 L hst => ?_
 refine M.tq (r := arity0P s) rfl (fun h1 q1 => ?_) (fun h1 q1 => ?_)
 ·exact M.rq q1
 have h1' := of_decide_eq_false h1
 refine M.cl (isName_spec s) ?_
 refine M.tq q1 (fun h2 q2 => ?_) (fun h2 q2 => ?_)
 ·exact M.rq q2
 refine M.cl (kind_spec s) ?_
 refine M.cl (isOpP_spec (kindL s) s 0 0) ?_
 refine M.tq q2 (fun h3 q3 => ?_) (fun h3 q3 => ?_)
 ·exact M.rq q3
 refine M.cl (keywords_spec s 2 (by omega)) ?_
 refine M.tq q3 (fun h4 q4 => ?_) (fun h4 q4 => ?_)
 ·exact M.rq q4
 ·exact M.rq q4
def primArityP (s : List UInt8) : Int :=
 bif decide ((s.length : Int) > 80) then -1 else (bif kindL s == 4 then (bif !hsufL s [58] then 0 else (bif decide (kwP s 4 > 0) then kwP s 4 else -1)) else (bif decide (kwP s 4 > 0) then kwP s 4 else -1))
theorem primArity_spec (s : List UInt8) : Spec Tryz.prog 83 [S s] (I (primArityP s)) := by
 refine Spec.startL (by kernel_rfl) Tryz.func83 rfl rfl fun w0 L hst => ?_
 refine M.tq (r := primArityP s) rfl (fun h1 q1 => ?_) (fun h1 q1 => ?_)
 ·exact M.rq q1
 have h1' := of_decide_eq_false h1
 refine M.cl (kind_spec s) ?_
 refine M.tq q1 (fun h2 q2 => ?_) (fun h2 q2 => ?_)
 ·refine M.cl (hsuf_spec s [58] (by omega)) ?_
  refine M.tq q2 (fun h3 q3 => ?_) (fun h3 q3 => ?_)
  ·exact M.rq q3
  refine M.cl (keywords_spec s 4 (by omega)) ?_
  refine M.tq q3 (fun h4 q4 => ?_) (fun h4 q4 => ?_)
  ·exact M.rq q4
  ·exact M.rq q4
 ·refine M.cl (keywords_spec s 4 (by omega)) ?_
  refine M.tq q2 (fun h4 q4 => ?_) (fun h4 q4 => ?_)
  ·exact M.rq q4
  ·exact M.rq q4
def parityP (s : List UInt8) : Int := bif decide (arity0P s >= 0) then arity0P s else primArityP s
theorem parity_spec (s : List UInt8) : Spec Tryz.prog 49 [S s] (I (parityP s)) := by
 refine Spec.startL (by kernel_rfl) Tryz.func49 rfl rfl fun w0 L hst => ?_
 refine M.cl (arity0_spec s) ?_
 refine M.tq (r := parityP s) rfl (fun h1 q1 => ?_) (fun h1 q1 => ?_)
 ·exact M.rq q1
 refine M.cl (primArity_spec s) ?_
 exact M.rq q1
def carityP (s : List UInt8) : Int := bif hpreL s [95] then -1 else parityP s
theorem carity_spec (s : List UInt8) : Spec Tryz.prog 29 [S s] (I (carityP s)) := by
 refine Spec.startL (by kernel_rfl) Tryz.func29 rfl rfl fun w0 L hst => ?_
 refine M.cl (hpre_spec s [95]) ?_
 refine M.tq (r := carityP s) rfl (fun h1 q1 => ?_) (fun h1 q1 => ?_)
 ·exact M.rq q1
 refine M.cl (parity_spec s) ?_
 exact M.rq q1
structure Jd where
 c : Cd
 l : List Cd
 pos : Int
 deriving Inhabited
abbrev Jd.pv (j : Jd) : List PV := [S j.c.nm, .sb j.c.blk, I j.c.outer, I j.c.args, row 1 (fun s => [S s]) j.c.names, row 3 Vl.pv j.c.init, row 3 Vl.pv j.c.lits, row 1 (fun s => [S s]) j.c.sels, row 4 In.pv j.c.ins, row 9 Cd.pv j.l, I j.pos]
def noneC (x : In) : Int := 0
theorem noneC_spec' (x : In) (r : Int) (hq : noneC x = r) : Spec Tryz.prog 200 [.agg x.pv] (I r) := by
 unfold noneC at hq
 refine Spec.startL (by kernel_rfl) Tryz.func200 rfl rfl fun w0 L hst => ?_
 exact M.rq hq
theorem noneC_spec (x : In) : Spec Tryz.prog 200 [.agg x.pv] (I (noneC x)) := noneC_spec' x _ rfl
def oneC (x : In) : Int := 1
theorem oneC_spec' (x : In) (r : Int) (hq : oneC x = r) : Spec Tryz.prog 213 [.agg x.pv] (I r) := by
 unfold oneC at hq
 refine Spec.startL (by kernel_rfl) Tryz.func213 rfl rfl fun w0 L hst => ?_
 exact M.rq hq
theorem oneC_spec (x : In) : Spec Tryz.prog 213 [.agg x.pv] (I (oneC x)) := oneC_spec' x _ rfl
def plainC (j : Jd) (x : In) : Bool := (bif x.a == 0 then (bif x.b == 0 then x.c == 0 else false) else false)
theorem plainC_spec' (j : Jd) (x : In) (r : Bool) (hq : plainC j x = r) : Spec Tryz.prog 203 [.ptr j.pv, .agg x.pv] (.sb r) := by
 unfold plainC at hq
 refine Spec.startL (by kernel_rfl) Tryz.func203 rfl rfl fun w0 L hst => ?_
 refine M.tq hq (fun h1 q2 => ?_) (fun h1 q2 => ?_)
 ·refine M.tq q2 (fun h3 q4 => ?_) (fun h3 q4 => ?_)
  ·exact M.rq q4
  ·exact M.rq q4
 ·exact M.rq q2
theorem plainC_spec (j : Jd) (x : In) : Spec Tryz.prog 203 [.ptr j.pv, .agg x.pv] (.sb (plainC j x)) := plainC_spec' j x _ rfl
def insVC (l : List Vl) (i : Int) : Bool := (bif decide (i >= 0) then decide (i < (↑l.length : Int)) else false)
theorem insVC_spec' (l : List Vl) (i : Int) (r : Bool) (hq : insVC l i = r) : Spec Tryz.prog 202 [row 3 Vl.pv l, I i] (.sb r) := by
 unfold insVC at hq
 refine Spec.startL (by kernel_rfl) Tryz.func202 rfl rfl fun w0 L hst => ?_
 refine M.tq hq (fun h1 q2 => ?_) (fun h1 q2 => ?_)
 ·exact M.rq q2
 ·exact M.rq q2
theorem insVC_spec (l : List Vl) (i : Int) : Spec Tryz.prog 202 [row 3 Vl.pv l, I i] (.sb (insVC l i)) := insVC_spec' l i _ rfl
def insSC (l : List (List UInt8)) (i : Int) : Bool := (bif decide (i >= 0) then decide (i < (↑l.length : Int)) else false)
theorem insSC_spec' (l : List (List UInt8)) (i : Int) (r : Bool) (hq : insSC l i = r) : Spec Tryz.prog 239 [row 1 (fun s => [S s]) l, I i] (.sb r) := by
 unfold insSC at hq
 refine Spec.startL (by kernel_rfl) Tryz.func239 rfl rfl fun w0 L hst => ?_
 refine M.tq hq (fun h1 q2 => ?_) (fun h1 q2 => ?_)
 ·exact M.rq q2
 ·exact M.rq q2
theorem insSC_spec (l : List (List UInt8)) (i : Int) : Spec Tryz.prog 239 [row 1 (fun s => [S s]) l, I i] (.sb (insSC l i)) := insSC_spec' l i _ rfl
def insCC (l : List Cd) (i : Int) : Bool := (bif decide (i >= 0) then decide (i < (↑l.length : Int)) else false)
theorem insCC_spec' (l : List Cd) (i : Int) (r : Bool) (hq : insCC l i = r) : Spec Tryz.prog 240 [row 9 Cd.pv l, I i] (.sb r) := by
 unfold insCC at hq
 refine Spec.startL (by kernel_rfl) Tryz.func240 rfl rfl fun w0 L hst => ?_
 refine M.tq hq (fun h1 q2 => ?_) (fun h1 q2 => ?_)
 ·exact M.rq q2
 ·exact M.rq q2
theorem insCC_spec (l : List Cd) (i : Int) : Spec Tryz.prog 240 [row 9 Cd.pv l, I i] (.sb (insCC l i)) := insCC_spec' l i _ rfl
def argsC (x : In) : Int := x.b
theorem argsC_spec' (x : In) (r : Int) (hq : argsC x = r) : Spec Tryz.prog 199 [.agg x.pv] (I r) := by
 unfold argsC at hq
 refine Spec.startL (by kernel_rfl) Tryz.func199 rfl rfl fun w0 L hst => ?_
 exact M.rq hq
theorem argsC_spec (x : In) : Spec Tryz.prog 199 [.agg x.pv] (I (argsC x)) := argsC_spec' x _ rfl
def constC (j : Jd) (x : In) : Bool := (bif insVC j.c.lits x.a then (bif x.b == 0 then x.c == 0 else false) else false)
theorem constC_spec' (j : Jd) (x : In) (r : Bool) (hq : constC j x = r) : Spec Tryz.prog 201 [.ptr j.pv, .agg x.pv] (.sb r) := by
 unfold constC at hq
 refine Spec.startL (by kernel_rfl) Tryz.func201 rfl rfl fun w0 L hst => ?_
 refine M.cl (insVC_spec j.c.lits x.a) ?_
 refine M.tq hq (fun h1 q2 => ?_) (fun h1 q2 => ?_)
 ·refine M.tq q2 (fun h3 q4 => ?_) (fun h3 q4 => ?_)
  ·exact M.rq q4
  ·exact M.rq q4
 ·exact M.rq q2
theorem constC_spec (j : Jd) (x : In) : Spec Tryz.prog 201 [.ptr j.pv, .agg x.pv] (.sb (constC j x)) := constC_spec' j x _ rfl
def arofC (s : List UInt8) : Int := (bif !hpreL s [95] then -1 else parityP s)
theorem arofC_spec' (s : List UInt8) (r : Int) (hq : arofC s = r) : Spec Tryz.prog 211 [S s] (I r) := by
 unfold arofC at hq
 refine Spec.startL (by kernel_rfl) Tryz.func211 rfl rfl fun w0 L hst => ?_
 refine M.cl (hpre_spec s ([95])) ?_
 refine M.tq hq (fun h1 q2 => ?_) (fun h1 q2 => ?_)
 ·exact M.rq q2
 ·refine M.cl (parity_spec s) ?_
  exact M.rq q2
theorem arofC_spec (s : List UInt8) : Spec Tryz.prog 211 [S s] (I (arofC s)) := arofC_spec' s _ rfl
@[simp] theorem insVC_iff (l : List Vl) (i : Int) : insVC l i = true ↔ 0 <= i /\ i < l.length := by simp [insVC]
@[simp] theorem insSC_iff (l : List (List UInt8)) (i : Int) : insSC l i = true ↔ 0 <= i /\ i < l.length := by simp [insSC]
@[simp] theorem insCC_iff (l : List Cd) (i : Int) : insCC l i = true ↔ 0 <= i /\ i < l.length := by simp [insCC]
def blocksC (j : Jd) (x : In) : Bool := (bif insCC j.l x.a then (bif (j.l.getD x.a.toNat default).blk then (bif (j.l.getD x.a.toNat default).outer == j.pos then (bif x.b == 0 then x.c == 0 else false) else false) else false) else false)
theorem blocksC_spec' (j : Jd) (x : In) (r : Bool) (hq : blocksC j x = r) : Spec Tryz.prog 212 [.ptr j.pv, .agg x.pv] (.sb r) := by
 unfold blocksC at hq
 refine Spec.startL (by kernel_rfl) Tryz.func212 rfl rfl fun w0 L hst => ?_
 refine M.cl (insCC_spec j.l x.a) ?_
 refine M.tq hq (fun h1 q2 => ?_) (fun h1 q2 => ?_)
 ·refine M.tqp [0 <= x.a /\ x.a < (↑j.l.length : Int)] ⟨(by first | rfl | omega | (constructor <;> omega) | assumption | (exact hb _ ‹_›) | trivial | (simp_all; done) | (simp_all; omega)), trivial⟩ q2 (fun h3 q4 => ?_) (fun h3 q4 => ?_)
  ·refine M.tqp [0 <= x.a /\ x.a < (↑j.l.length : Int)] ⟨(by first | rfl | omega | (constructor <;> omega) | assumption | (exact hb _ ‹_›) | trivial | (simp_all; done) | (simp_all; omega)), trivial⟩ q4 (fun h5 q6 => ?_) (fun h5 q6 => ?_)
   ·refine M.tq q6 (fun h7 q8 => ?_) (fun h7 q8 => ?_)
    ·exact M.rq q8
    ·exact M.rq q8
   ·exact M.rq q6
  ·exact M.rq q4
 ·exact M.rq q2
theorem blocksC_spec (j : Jd) (x : In) : Spec Tryz.prog 212 [.ptr j.pv, .agg x.pv] (.sb (blocksC j x)) := blocksC_spec' j x _ rfl
def leaveC (j : Jd) (x : In) : Bool := (bif plainC j x then j.c.blk else false)
theorem leaveC_spec' (j : Jd) (x : In) (r : Bool) (hq : leaveC j x = r) : Spec Tryz.prog 214 [.ptr j.pv, .agg x.pv] (.sb r) := by
 unfold leaveC at hq
 refine Spec.startL (by kernel_rfl) Tryz.func214 rfl rfl fun w0 L hst => ?_
 refine M.cl (plainC_spec j x) ?_
 refine M.tq hq (fun h1 q2 => ?_) (fun h1 q2 => ?_)
 ·exact M.rq q2
 ·exact M.rq q2
theorem leaveC_spec (j : Jd) (x : In) : Spec Tryz.prog 214 [.ptr j.pv, .agg x.pv] (.sb (leaveC j x)) := leaveC_spec' j x _ rfl
def sendsC (j : Jd) (x : In) : Bool := (bif insSC j.c.sels x.a then (bif decide (x.b >= 0) then carityP (j.c.sels.getD x.a.toNat []) == x.b else false) else false)
theorem sendsC_spec' (j : Jd) (x : In) (r : Bool) (hq : sendsC j x = r) : Spec Tryz.prog 206 [.ptr j.pv, .agg x.pv, .fn 29 []] (.sb r) := by
 unfold sendsC at hq
 refine Spec.startL (by kernel_rfl) Tryz.func206 rfl rfl fun w0 L hst => ?_
 refine M.cl (insSC_spec j.c.sels x.a) ?_
 refine M.tq hq (fun h1 q2 => ?_) (fun h1 q2 => ?_)
 ·refine M.tq q2 (fun h3 q4 => ?_) (fun h3 q4 => ?_)
  ·refine M.clp [0 <= x.a /\ x.a < (↑j.c.sels.length : Int)] ⟨(by first | rfl | omega | (constructor <;> omega) | assumption | (exact hb _ ‹_›) | trivial | (simp_all; done) | (simp_all; omega)), trivial⟩ (carity_spec (j.c.sels.getD x.a.toNat [])) ?_
   exact M.rq q4
  ·exact M.rq q4
 ·exact M.rq q2
theorem sendsC_spec (j : Jd) (x : In) : Spec Tryz.prog 206 [.ptr j.pv, .agg x.pv, .fn 29 []] (.sb (sendsC j x)) := sendsC_spec' j x _ rfl
def sendpC (j : Jd) (x : In) : Bool := (bif insSC j.c.sels x.a then (bif decide (x.b >= 0) then arofC (j.c.sels.getD x.a.toNat []) == x.b else false) else false)
theorem sendpC_spec' (j : Jd) (x : In) (r : Bool) (hq : sendpC j x = r) : Spec Tryz.prog 206 [.ptr j.pv, .agg x.pv, .fn 211 []] (.sb r) := by
 unfold sendpC at hq
 refine Spec.startL (by kernel_rfl) Tryz.func206 rfl rfl fun w0 L hst => ?_
 refine M.cl (insSC_spec j.c.sels x.a) ?_
 refine M.tq hq (fun h1 q2 => ?_) (fun h1 q2 => ?_)
 ·refine M.tq q2 (fun h3 q4 => ?_) (fun h3 q4 => ?_)
  ·refine M.clp [0 <= x.a /\ x.a < (↑j.c.sels.length : Int)] ⟨(by first | rfl | omega | (constructor <;> omega) | assumption | (exact hb _ ‹_›) | trivial | (simp_all; done) | (simp_all; omega)), trivial⟩ (arofC_spec (j.c.sels.getD x.a.toNat [])) ?_
   exact M.rq q4
  ·exact M.rq q4
 ·exact M.rq q2
theorem sendpC_spec (j : Jd) (x : In) : Spec Tryz.prog 206 [.ptr j.pv, .agg x.pv, .fn 211 []] (.sb (sendpC j x)) := sendpC_spec' j x _ rfl
def sendrC (j : Jd) (x : In) : Bool := (bif sendsC j x then x.c == 0 else false)
theorem sendrC_spec' (j : Jd) (x : In) (r : Bool) (hq : sendrC j x = r) : Spec Tryz.prog 205 [.ptr j.pv, .agg x.pv] (.sb r) := by
 unfold sendrC at hq
 refine Spec.startL (by kernel_rfl) Tryz.func205 rfl rfl fun w0 L hst => ?_
 refine M.cl (sendsC_spec j x) ?_
 refine M.tq hq (fun h1 q2 => ?_) (fun h1 q2 => ?_)
 ·exact M.rq q2
 ·exact M.rq q2
theorem sendrC_spec (j : Jd) (x : In) : Spec Tryz.prog 205 [.ptr j.pv, .agg x.pv] (.sb (sendrC j x)) := sendrC_spec' j x _ rfl
def imprC (j : Jd) (x : In) : Bool := (bif sendsC j x then x.c == 0 else false)
theorem imprC_spec' (j : Jd) (x : In) (r : Bool) (hq : imprC j x = r) : Spec Tryz.prog 207 [.ptr j.pv, .agg x.pv] (.sb r) := by
 unfold imprC at hq
 refine Spec.startL (by kernel_rfl) Tryz.func207 rfl rfl fun w0 L hst => ?_
 refine M.cl (sendsC_spec j x) ?_
 refine M.tq hq (fun h1 q2 => ?_) (fun h1 q2 => ?_)
 ·exact M.rq q2
 ·exact M.rq q2
theorem imprC_spec (j : Jd) (x : In) : Spec Tryz.prog 207 [.ptr j.pv, .agg x.pv] (.sb (imprC j x)) := imprC_spec' j x _ rfl
def primrC (j : Jd) (x : In) : Bool := (bif sendpC j x then (bif x.c == 0 then true else x.c == 1) else false)
theorem primrC_spec' (j : Jd) (x : In) (r : Bool) (hq : primrC j x = r) : Spec Tryz.prog 210 [.ptr j.pv, .agg x.pv] (.sb r) := by
 unfold primrC at hq
 refine Spec.startL (by kernel_rfl) Tryz.func210 rfl rfl fun w0 L hst => ?_
 refine M.cl (sendpC_spec j x) ?_
 refine M.tq hq (fun h1 q2 => ?_) (fun h1 q2 => ?_)
 ·refine M.tq q2 (fun h3 q4 => ?_) (fun h3 q4 => ?_)
  ·exact M.rq q4
  ·exact M.rq q4
 ·exact M.rq q2
theorem primrC_spec (j : Jd) (x : In) : Spec Tryz.prog 210 [.ptr j.pv, .agg x.pv] (.sb (primrC j x)) := primrC_spec' j x _ rfl
def sendtC (x : In) : Int := x.b + 1
theorem sendtC_spec' (x : In) (hb : -1000000000 <= x.b /\ x.b <= 1000000000) (r : Int) (hq : sendtC x = r) : Spec Tryz.prog 204 [.agg x.pv] (I r) := by
 unfold sendtC at hq
 refine Spec.startL (by kernel_rfl) Tryz.func204 rfl rfl fun w0 L hst => ?_
 exact M.rqp [In64 (x.b + 1)] ⟨(by first | rfl | omega | (constructor <;> omega) | assumption | (exact hb _ ‹_›) | trivial | (simp_all; done) | (simp_all; omega)), trivial⟩ hq
theorem sendtC_spec (x : In) (hb : -1000000000 <= x.b /\ x.b <= 1000000000) : Spec Tryz.prog 204 [.agg x.pv] (I (sendtC x)) := sendtC_spec' x hb _ rfl
def primtC (x : In) : Int := x.b + x.c + 1
theorem primtC_spec' (x : In) (hb : (-1000000000 <= x.b /\ x.b <= 1000000000) /\ (-1000000000 <= x.c /\ x.c <= 1000000000)) (r : Int) (hq : primtC x = r) : Spec Tryz.prog 209 [.agg x.pv] (I r) := by
 unfold primtC at hq
 refine Spec.startL (by kernel_rfl) Tryz.func209 rfl rfl fun w0 L hst => ?_
 exact M.rqp [In64 (x.b + x.c), In64 (x.b + x.c + 1)] ⟨(by first | rfl | omega | (constructor <;> omega) | assumption | (exact hb _ ‹_›) | trivial | (simp_all; done) | (simp_all; omega)), (by first | rfl | omega | (constructor <;> omega) | assumption | (exact hb _ ‹_›) | trivial | (simp_all; done) | (simp_all; omega)), trivial⟩ hq
theorem primtC_spec (x : In) (hb : (-1000000000 <= x.b /\ x.b <= 1000000000) /\ (-1000000000 <= x.c /\ x.c <= 1000000000)) : Spec Tryz.prog 209 [.agg x.pv] (I (primtC x)) := primtC_spec' x hb _ rfl
def resendsC (j : Jd) (x : In) : Bool := bif sendsC j x then (bif x.c == 0 then true else (bif insSC j.c.sels (x.c - 1) then carityP (j.c.sels.getD (x.c - 1).toNat default) == 0 else false)) else false
theorem resendsC_spec0 (j : Jd) (x : In) (hb : In64 (x.c - 1)) : Spec Tryz.prog 208 [.ptr j.pv, .agg x.pv] (.sb (resendsC j x)) := by
 refine Spec.startL (by kernel_rfl) Tryz.func208 rfl rfl fun w0 L hst => ?_
 refine M.cl (sendsC_spec j x) ?_
 refine M.tq (r := resendsC j x) rfl (fun h1 q1 => ?_) (fun h1 q1 => M.rq q1)
 refine M.tq q1 (fun h2 q2 => M.rq q2) (fun h2 q2 => ?_)
 refine M.clp [In64 (x.c - 1)] ⟨hb, trivial⟩ (insSC_spec j.c.sels (x.c - 1)) ?_
 refine M.tq q2 (fun h3 q3 => ?_) (fun h3 q3 => M.rq q3)
 have h3' := (insSC_iff _ _).1 h3
 refine M.clp [In64 (x.c - 1), 0 <= x.c - 1 /\ x.c - 1 < j.c.sels.length] ⟨hb, h3', trivial⟩ (carity_spec (j.c.sels.getD (x.c - 1).toNat default)) ?_
 exact M.rq q3
abbrev In.po (x : In) : List PV := [I x.op, I x.a, I x.b, .o (I x.c)]
theorem agg_po {L : List Nat} {W : World} {x : In} {u : Value} : R [] L W (.agg x.po) u ↔ R [] L W (.agg x.pv) u := by
 constructor
 ·intro h
  rw [R] at h ⊢
  obtain ⟨us, e, h1, h2⟩ := h
  obtain ⟨u0, us, rfl, q0, h2⟩ := h2.uncons
  obtain ⟨u1, us, rfl, q1, h2⟩ := h2.uncons
  obtain ⟨u2, us, rfl, q2, h2⟩ := h2.uncons
  obtain ⟨u3, us, rfl, q3, h2⟩ := h2.uncons
  rw [Rs] at h2
  subst h2
  rw [R] at q3
  exact ⟨_, e, h1, Rs.cons q0 (Rs.cons q1 (Rs.cons q2 (Rs.cons q3.2 Rs.nil)))⟩
 ·intro h
  rw [R] at h ⊢
  obtain ⟨us, e, h1, h2⟩ := h
  obtain ⟨u0, us, rfl, q0, h2⟩ := h2.uncons
  obtain ⟨u1, us, rfl, q1, h2⟩ := h2.uncons
  obtain ⟨u2, us, rfl, q2, h2⟩ := h2.uncons
  obtain ⟨u3, us, rfl, q3, h2⟩ := h2.uncons
  rw [Rs] at h2
  subst h2
  exact ⟨_, e, h1, Rs.cons q0 (Rs.cons q1 (Rs.cons q2 (Rs.cons (by rw [R]; exact ⟨h1 _ (by simp), q3⟩) Rs.nil)))⟩
theorem resendsC_spec (j : Jd) (x : In) (hc : In64 x.c) (hs : j.c.sels.length <= 1000000000) : Spec Tryz.prog 208 [.ptr j.pv, .agg x.pv] (.sb (resendsC j x)) := by
 by_cases hm : x.c = -9223372036854775808
 ·have hsend : Spec Tryz.prog 206 [.ptr j.pv, .agg x.po, .fn 29 []] (.sb (sendsC j x)) := (sendsC_spec j x).conv (fun L W vs h => by
   obtain ⟨u0, us, rfl, q0, h⟩ := h.uncons
   obtain ⟨u1, us, rfl, q1, h⟩ := h.uncons
   exact Rs.cons q0 (Rs.cons (agg_po.1 q1) h)) (fun _ _ _ h => h)
  have key : Spec Tryz.prog 208 [.ptr j.pv, .agg x.po] (.sb (resendsC j x)) := by
   refine Spec.startL (by kernel_rfl) Tryz.func208 rfl rfl fun w0 L hst => ?_
   refine M.cl hsend ?_
   refine M.tq (r := resendsC j x) rfl (fun h1 q1 => ?_) (fun h1 q1 => M.rq q1)
   refine M.tq q1 (fun h2 q2 => M.rq q2) (fun h2 q2 => ?_)
   refine M.cl (insSC_spec j.c.sels (IntKind.i64.wrap (x.c - 1))) ?_
   have hf : insSC j.c.sels (x.c - 1) = false := by
    rw [Bool.eq_false_iff]
    intro h
    have := (insSC_iff _ _).1 h
    omega
   rw [hf] at q2
   have hw : IntKind.i64.wrap (x.c - 1) = 9223372036854775807 := by rw [hm]; decide
   have hf2 : insSC j.c.sels (IntKind.i64.wrap (x.c - 1)) = false := by
    rw [hw, Bool.eq_false_iff]
    intro h
    have := (insSC_iff _ _).1 h
    omega
   refine M.no hf2 (by kernel_rfl) ?_
   exact M.rq q2
  exact key.conv (fun L W vs h => by
   obtain ⟨u0, us, rfl, q0, h⟩ := h.uncons
   obtain ⟨u1, us, rfl, q1, h⟩ := h.uncons
   exact Rs.cons q0 (Rs.cons (agg_po.2 q1) h)) (fun _ _ _ h => h)
 ·exact resendsC_spec0 j x ⟨by have := hc.1; omega, by have := hc.2; omega⟩
def depL (l : List Cd) : Nat -> Int -> Nat -> Nat
 | 0, _, n => n
 | f + 1, i, n => bif decide (i >= 0) then (bif decide (i < (l.length : Int)) then (bif (l.getD i.toNat default).blk then (bif decide ((n : Int) <= 20) then depL l f (l.getD i.toNat default).outer (n + 1) else n) else n) else n) else n
theorem depth_spec (l : List Cd) (i : Int) : Spec Tryz.prog 172 [row 9 Cd.pv l, I i] (I (depL l 22 i 0)) := by
 refine Spec.startL (by kernel_rfl) Tryz.func172 rfl rfl fun w0 L hst => ?_
 refine M.loop (ι := {q : Int × Nat // q.2 <= 21 /\ depL l (22 - q.2) q.1 q.2 = depL l 22 i 0}) (fun q => [(0, row 9 Cd.pv l), (1, I q.1.1), (5, I q.1.2)]) (fun _ => []) (fun q => 22 - q.1.2) ⟨(i, 0), by omega, rfl⟩ [] (by kernel_rfl) trivial (by kernel_rfl) (by kernel_rfl) fun ⟨(k, n), hn, hq⟩ ih => ?_
 simp only at hn hq
 rw [show 22 - n = (21 - n) + 1 by omega] at hq
 unfold depL at hq
 refine M.tq hq (fun h1 q1 => ?_) (fun h1 q1 => M.rq (enc := fun n : Nat => I n) q1)
 refine M.tq q1 (fun h2 q2 => ?_) (fun h2 q2 => M.rq (enc := fun n : Nat => I n) q2)
 have h1' := of_decide_eq_true h1
 have h2' := of_decide_eq_true h2
 refine M.tqp [0 <= k /\ k < (l.length : Int)] ⟨⟨h1', h2'⟩, trivial⟩ q2 (fun h3 q3 => ?_) (fun h3 q3 => M.rq (enc := fun n : Nat => I n) q3)
 refine M.tq q3 (fun h4 q4 => ?_) (fun h4 q4 => M.rq (enc := fun n : Nat => I n) q4)
 have h4' := of_decide_eq_true h4
 exact M.back [In64 ((n : Int) + 1), 0 <= k /\ k < (l.length : Int)] (ih ⟨((l.getD k.toNat default).outer, n + 1), by simp only; omega, by rw [show 22 - (n + 1) = 21 - n by omega]; exact q4⟩ (by show 22 - (n + 1) < 22 - n; omega)) (by kernel_rfl) ⟨⟨by omega, by omega⟩, ⟨h1', h2'⟩, trivial⟩ (by kernel_rfl) (by kernel_rfl) (by kernel_rfl) (by kernel_rfl)
theorem used_spec (x : In) : Spec Tryz.prog 178 [.agg x.pv] (.fn 215 [.ptr x.pv]) := by
 refine Spec.start (by kernel_rfl) Tryz.func178 rfl rfl fun w0 L => ?_
 exact M.ret (.fn 215 [.ptr x.pv]) (by kernel_rfl) rfl
def usedL (x : In) : List Int := bif x.op == 3 then [x.a] else (bif x.op == 4 then [x.a] else (bif x.op == 6 then [x.a] else (bif x.op == 5 then (bif decide (x.c > 0) then [x.a, x.c - 1] else [x.a]) else [])))
theorem used_iter (x : In) (hb : x.c <= 9223372036854775807) : Iter Tryz.prog 215 [.ptr x.pv] (usedL x).length (fun i => [I ((usedL x).getD i default)]) none := by
 generalize hq : usedL x = r
 unfold usedL at hq
 refine Iter.start (by kernel_rfl) Tryz.func215 rfl rfl fun l J X w0 L hY hJ => ?_
 refine M.tq hq (fun h1 q1 => ?_) (fun h1 q1 => ?_)
 ·subst q1
  exact M.yield (i := 0) [] hY (by simp) hJ (by kernel_rfl) trivial rfl (fun w1 L1 hJ1 => M.retJ (r := .tup []) [] hY hJ1 (by kernel_rfl) trivial) (fun w1 L1 hJ1 => M.retX (r := .tup []) [] hY hJ1 (by kernel_rfl) trivial)
 refine M.tq q1 (fun h2 q2 => ?_) (fun h2 q2 => ?_)
 ·subst q2
  exact M.yield (i := 0) [] hY (by simp) hJ (by kernel_rfl) trivial rfl (fun w1 L1 hJ1 => M.retJ (r := .tup []) [] hY hJ1 (by kernel_rfl) trivial) (fun w1 L1 hJ1 => M.retX (r := .tup []) [] hY hJ1 (by kernel_rfl) trivial)
 refine M.tq q2 (fun h3 q3 => ?_) (fun h3 q3 => ?_)
 ·subst q3
  exact M.yield (i := 0) [] hY (by simp) hJ (by kernel_rfl) trivial rfl (fun w1 L1 hJ1 => M.retJ (r := .tup []) [] hY hJ1 (by kernel_rfl) trivial) (fun w1 L1 hJ1 => M.retX (r := .tup []) [] hY hJ1 (by kernel_rfl) trivial)
 refine M.tq q3 (fun h4 q4 => ?_) (fun h4 q4 => ?_)
 ·cases hc : decide (x.c > 0) with
  | true =>
   rw [hc] at q4
   have hc' := of_decide_eq_true hc
   subst q4
   refine M.yield (i := 0) [] hY (by simp) hJ (by kernel_rfl) trivial rfl (fun w1 L1 hJ1 => ?_) (fun w1 L1 hJ1 => M.retX (r := .tup []) [] hY hJ1 (by kernel_rfl) trivial)
   refine M.yes hc (by kernel_rfl) ?_
   exact M.yield (i := 1) [In64 (x.c - 1)] hY (by simp) hJ1 (by kernel_rfl) ⟨⟨by omega, by omega⟩, trivial⟩ rfl (fun w1 L1 hJ1 => M.retJ (r := .tup []) [] hY hJ1 (by kernel_rfl) trivial) (fun w1 L1 hJ1 => M.retX (r := .tup []) [] hY hJ1 (by kernel_rfl) trivial)
  | false =>
   rw [hc] at q4
   subst q4
   refine M.yield (i := 0) [] hY (by simp) hJ (by kernel_rfl) trivial rfl (fun w1 L1 hJ1 => ?_) (fun w1 L1 hJ1 => M.retX (r := .tup []) [] hY hJ1 (by kernel_rfl) trivial)
   refine M.no hc (by kernel_rfl) ?_
   exact M.retJ (r := .tup []) [] hY hJ1 (by kernel_rfl) trivial
 ·subst q4
  exact M.retJ (r := .tup []) [] hY hJ (by kernel_rfl) trivial
end Go.Proofs.YtcknpohghmkbmaaGreatDoor
