import Derived.Test.YthjpbbbmnmhmmaaGreatDoorM8
import Derived.Test.YthjpbbbmnmhmmaaGreatDoorRf2
set_option linter.unusedVariables false
set_option linter.unusedSimpArgs false
namespace Go.Proofs.YthjpbbbmnmhmmaaGreatDoor
open Go.Lib

theorem rd_any (m j : Nat) : rd (Ten.dig m) j = ((m / 10 ^ j % 10 : Nat) : Int) := by
  by_cases h : j < (Ten.dig m).length
  · exact (Ten.rd_dig h).1
  · have h1 := Ten.dig_lt m
    have h2 : 10 ^ (Ten.dig m).length ≤ 10 ^ j := Nat.pow_le_pow_right (by decide) (by omega)
    rw [rd_ge (by omega), Nat.div_eq_of_lt (by omega)]; rfl
/-- Two digits. -/
theorem root_split (m i : Nat) : m / 100 ^ i = 100 * (m / 100 ^ (i + 1)) + (10 * (rd (Ten.dig m) (2 * i + 1)).toNat + (rd (Ten.dig m) (2 * i)).toNat) := by
  rw [rd_any, rd_any, Int.toNat_natCast, Int.toNat_natCast]
  have e1 : 100 ^ i = 10 ^ (2 * i) := by rw [Nat.pow_mul]
  rw [Nat.pow_succ, e1, ← Nat.div_div_eq_div_mul, Nat.pow_succ, ← Nat.div_div_eq_div_mul]
  omega

/-- Where the root of the first pairs of digits stands: its square and what is left. -/
structure Rt (m k r s : Nat) : Prop where
  sq : r * r + s = m / 100 ^ k
  lt : m / 100 ^ k < (r + 1) * (r + 1)
theorem sq_exp (r d : Nat) : (10 * r + d) * (10 * r + d) = 100 * (r * r) + (20 * r + d) * d := by
  have e : (20 * r + d) * d = 20 * (r * d) + d * d := by rw [Nat.add_mul, Nat.mul_assoc]
  have e2 : (10 * r + d) * (10 * r + d) = 100 * (r * r) + 10 * (r * d) + 10 * (r * d) + d * d := by
    rw [Nat.add_mul, Nat.mul_add, Nat.mul_add]
    have a1 : 10 * r * (10 * r) = 100 * (r * r) := by rw [Nat.mul_assoc, Nat.mul_left_comm r 10 r, ← Nat.mul_assoc]
    have a2 : 10 * r * d = 10 * (r * d) := Nat.mul_assoc _ _ _
    have a3 : d * (10 * r) = 10 * (r * d) := by rw [Nat.mul_left_comm, Nat.mul_comm d r]
    omega
  omega
theorem Rt.start (m : Nat) : Rt m (((Ten.dig m).length + 1) / 2) 0 0 := by
  have h1 := Ten.dig_lt m
  have h2 : 10 ^ (Ten.dig m).length ≤ 10 ^ (2 * (((Ten.dig m).length + 1) / 2)) := Nat.pow_le_pow_right (by decide) (by omega)
  have e1 : 100 ^ (((Ten.dig m).length + 1) / 2) = 10 ^ (2 * (((Ten.dig m).length + 1) / 2)) := by rw [Nat.pow_mul]
  have e2 : m / 100 ^ (((Ten.dig m).length + 1) / 2) = 0 := Nat.div_eq_of_lt (by omega)
  exact ⟨by rw [e2], by rw [e2]; decide⟩
theorem Rt.next {m k r s : Nat} (h : Rt m (k + 1) r s) (d : Nat) (hd : d ≤ 9) (t : Nat) (ht : t = 100 * s + (10 * (rd (Ten.dig m) (2 * k + 1)).toNat + (rd (Ten.dig m) (2 * k)).toNat))
    (h1 : (20 * r + d) * d ≤ t) (h2 : d = 9 ∨ t < (20 * r + (d + 1)) * (d + 1)) : Rt m k (10 * r + d) (t - (20 * r + d) * d) := by
  have hs := root_split m k
  have e1 := sq_exp r d
  have e2 := sq_exp r (d + 1)
  have hA := h.sq
  have hB := h.lt
  have b1 : rd (Ten.dig m) (2 * k + 1) < 10 := (Ten.dig_inR m).at _ |>.2
  have b2 : rd (Ten.dig m) (2 * k) < 10 := (Ten.dig_inR m).at _ |>.2
  have b3 : 0 ≤ rd (Ten.dig m) (2 * k + 1) := (Ten.dig_inR m).at _ |>.1
  have b4 : 0 ≤ rd (Ten.dig m) (2 * k) := (Ten.dig_inR m).at _ |>.1
  refine ⟨by omega, ?_⟩
  rw [show 10 * r + d + 1 = 10 * r + (d + 1) by omega, e2]
  rcases h2 with h2 | h2
  · subst h2
    have e3 : (r + 1) * (r + 1) = r * r + 2 * r + 1 := by rw [Nat.add_mul, Nat.mul_add]; omega
    have e4 : (20 * r + (9 + 1)) * (9 + 1) = 200 * r + 100 := by omega
    omega
  · omega
theorem Rt.done {m r s : Nat} (h : Rt m 0 r s) : isq m = r := by
  have h1 := h.sq
  have h2 := h.lt
  simp at h1 h2
  exact isq_uniq (by omega) h2
end Go.Proofs.YthjpbbbmnmhmmaaGreatDoor

namespace Go.Proofs.YthjpbbbmnmhmmaaGreatDoor
open Go.RowKit Go.Shelf Go.Lib

/-- The number that a slice's cells hold: the measure of Euclid's loop. -/
def tenVal (W : World) (v : Value) : Nat :=
  match v with
  | .slice (some a) n _ => (Ten.val ((List.range n).map fun j => match W.cell? ⟨a.block, a.off + j, none⟩ with | some (.int _ x) => x | _ => 0)).toNat
  | _ => 0
theorem tenVal_RT {W : World} {v : Value} {n : Nat} (h : RT W v n) : tenVal W v = n := by
  obtain ⟨a, cap, rfl, hl, hc⟩ := h.ri
  by_cases h0 : Ten.dig n = []
  · have hn := Ten.dig_eq_nil.1 h0
    subst hn
    rw [h0]
    cases a with
    | none => rfl
    | some a => simp [tenVal, Ten.val]
  · obtain ⟨b, off, rfl, hc'⟩ := hc h0
    have e : (List.range (Ten.dig n).length).map (fun j => match W.cell? ⟨b, off + j, none⟩ with | some (.int _ x) => x | _ => 0) = Ten.dig n := by
      apply List.ext_getElem
      · simp
      · intro i h1 h2
        simp only [List.getElem_map, List.getElem_range]
        rw [hc' i h2]
        simp [rd, List.getElem?_eq_getElem h2]
    unfold tenVal
    simp only
    rw [e, Ten.val_dig]; simp

set_option maxRecDepth 100000 in
set_option maxHeartbeats 4000000 in
theorem r_Gcd (a b : Vl) (ha : a.ok) (hb : b.ok) (w : World) : Ans Tryz.prog 24 #[a.val, b.val] w (pr (gcdR a b)) := by
  have HC : Hid (∀ W, Calls Tryz.prog 47 #[a.val, b.val] W fun e w' => ∃ v v', e = .returned (.tuple #[v, v', .bool (a.num.isSome && b.num.isSome)]) ∧ FormN v ∧ FormN v' ∧ (∀ z, a.num = some z → NH w' v z) ∧ (∀ z, b.num = some z → NH w' v' z) ∧ Below W.heap.size W w') := Lib.hid (r_both a b ha hb)
  have HLA : Hid (∀ z, a.num = some z → nDigits z.natAbs ≤ 400) := Lib.hid (fun z hz => (vl_of_num ha hz).2)
  have HLB : Hid (∀ z, b.num = some z → nDigits z.natAbs ≤ 400) := Lib.hid (fun z hz => (vl_of_num hb hz).2)
  clear ha hb
  obtain ⟨R, hR⟩ : ∃ R, gcdR a b = R := ⟨_, rfl⟩
  have HR := Lib.hid hR
  rw [hR]
  clear hR
  obtain ⟨W, hW⟩ : ∃ W, ((w.alloc (.cells #[.int .i64 a.k, .int .i64 a.n, .string ⟨a.t.toArray⟩] 23)).alloc (.cells #[.int .i64 b.k, .int .i64 b.n, .string ⟨b.t.toArray⟩] 23)).alloc (.cells #[.int .i64 0, .int .i64 0, .string ⟨#[]⟩] 23) = W := ⟨_, rfl⟩
  have HI := Lib.hid (pairIn_new w a b _ _ _ W hW)
  obtain ⟨na, hna⟩ : ∃ na, a.num = na := ⟨_, rfl⟩
  obtain ⟨nb, hnb⟩ : ∃ nb, b.num = nb := ⟨_, rfl⟩
  rw [hna, hnb] at HC
  rw [hna] at HLA
  rw [hnb] at HLB
  have HNA := Lib.hid hna; have HNB := Lib.hid hnb
  clear hna hnb
  obtain ⟨p, hp⟩ : ∃ p, (na.isSome && nb.isSome) = p := ⟨_, rfl⟩
  rw [hp] at HC
  have HP := Lib.hid hp
  clear hp
  have a0 := HI.out.a0; have a1 := HI.out.a1; have a2 := HI.out.a2; have b0 := HI.out.b0; have b1 := HI.out.b1; have b2 := HI.out.b2
  obtain ⟨ak, an, at'⟩ := a
  obtain ⟨bk, bn, bt⟩ := b
  simp only [Vl.val] at HC hW ⊢
  simp only at a0 a1 a2 b0 b1 b2
  go_enter Tryz.func24, Tryz.ntmps24
  go_upto_region 1 with fail
  clear hW
  go_wp2_with fail
  refine (HC.out _).mono ?_
  rintro e w1 ⟨v, v', rfl, ⟨pb, pa, pn, pc, rfl⟩, ⟨qb, qa, qn, qc, rfl⟩, hnx, hny, hb1⟩
  have HNX := Lib.hid hnx; have HNY := Lib.hid hny
  replace HI := Lib.hid (HI.out.below hb1)
  clear hnx hny hb1 a0 a1 a2 b0 b1 b2
  go_upto_region 2 with fail
  obtain ⟨X, hX⟩ : ∃ X, (w1.alloc (.cells #[.bool pb, .slice pa pn pc] 51)).alloc (.cells #[.bool qb, .slice qa qn qc] 51) = X := ⟨_, rfl⟩
  obtain ⟨hcx, hcy, hb2⟩ := ncell2 w1 _ _ pb pa pn pc qb qa qn qc X hX
  rw [hX]
  have hgx : w.heap.size + 1 + 1 < w1.heap.size := HI.out.r.lt
  obtain ⟨gy, hgy⟩ : ∃ g, w1.heap.size + 1 = g := ⟨_, rfl⟩
  rw [hgy] at hcy ⊢
  have hgy2 : w.heap.size + 1 + 1 < gy := by omega
  have HCX := Lib.hid hcx; have HCY := Lib.hid hcy
  replace HI := Lib.hid (HI.out.below hb2)
  replace HNX := Lib.hid (fun z hz => (HNX.out z hz).below hb2)
  replace HNY := Lib.hid (fun z hz => (HNY.out z hz).below hb2)
  clear hcx hcy hb2 hX hgy
  generalize w1.heap.size = gx at *
  cases p with
  | false =>
    have e : R = (Vl.zero, 31) := by rw [← HR.out]; exact ropR_none (by rw [HNA.out, HNB.out]; exact HP.out)
    subst e
    have c0 := HI.out.r.c0; have c1 := HI.out.r.c1; have c2 := HI.out.r.c2
    have f0 := HI.out.r.f0; have f1 := HI.out.r.f1; have f2 := HI.out.r.f2
    go_wp2_with fail
    refine bodyPost_ret (v := .tuple #[vE 0 0 [], .int .i64 31]) (by simp [results, Tryz.results24, go_sem, vE, *]) rfl ?_
    exact ⟨rfl, below_put3 HI.out.bel (by omega) _ _ _⟩
  | true =>
    obtain ⟨x, rfl⟩ : ∃ x, na = some x := by
      cases na with
      | none => exact absurd HP.out (by simp)
      | some x => exact ⟨x, rfl⟩
    obtain ⟨y, rfl⟩ : ∃ y, nb = some y := by
      cases nb with
      | none => exact absurd HP.out (by simp)
      | some y => exact ⟨y, rfl⟩
    have LA : Hid ((Ten.dig x.natAbs).length ≤ 400) := Lib.hid (ten_len (HLA.out x rfl))
    have LB : Hid ((Ten.dig y.natAbs).length ≤ 400) := Lib.hid (ten_len (HLB.out y rfl))
    have HRE : Hid (gcdF x y = R) := Lib.hid (by rw [← HR.out]; exact (ropR_some HNA.out HNB.out).symm)
    replace HNX := Lib.hid (HNX.out x rfl)
    replace HNY := Lib.hid (HNY.out y rfl)
    have x0 := HCX.out.x0; have x1 := HCX.out.x1; have y0 := HCY.out.x0; have y1 := HCY.out.x1
    clear HLA HLB HP HNA HNB HR
    have HX : Hid (RT X (.slice pa pn pc) x.natAbs) := Lib.hid (by obtain ⟨s, e, h⟩ := HNX.out; cases e; exact h)
    have HY : Hid (RT X (.slice qa qn qc) y.natAbs) := Lib.hid (by obtain ⟨s, e, h⟩ := HNY.out; cases e; exact h)
    have HVE : Hid (limZ ((Nat.gcd x.natAbs y.natAbs : Nat) : Int) = R) := HRE
    clear HRE HNX HNY
    obtain ⟨m, hm⟩ : ∃ m, x.natAbs = m := ⟨_, rfl⟩
    obtain ⟨n, hn⟩ : ∃ n, y.natAbs = n := ⟨_, rfl⟩
    rw [hm] at HX LA HVE
    rw [hn] at HY LB HVE
    clear hm hn
    go_wp2_with fail
    clear x0 x1 y0 y1
    go_loopw [9, 10] (fun v5 v6 wr => ∃ (i j : Nat) (a5 : Option Addr) (L5 c5 : Nat) (a6 : Option Addr) (L6 c6 : Nat), v5 = .slice a5 L5 c5 ∧ v6 = .slice a6 L6 c6 ∧ Hid (RT wr (.slice a5 L5 c5) i) ∧ Hid (RT wr (.slice a6 L6 c6) j) ∧ Hid (Nat.gcd i j = Nat.gcd m n ∧ (Ten.dig i).length ≤ 400 ∧ (Ten.dig j).length ≤ 400) ∧ Hid (PairIn w wr ⟨ak, an, at'⟩ ⟨bk, bn, bt⟩)) (fun _ v6 wr => tenVal wr v6)
    case atStart => exact ⟨m, n, _, _, _, _, _, _, rfl, rfl, HX, HY, Lib.hid ⟨rfl, LA.out, LB.out⟩, HI⟩
    case round =>
      clear HX HY HI HCX HCY
      obtain ⟨i, j, a5, L5, c5, a6, L6, c6, rfl, rfl, R5, R6, HG, HI⟩ := hrel
      have hL : Hid (L6 = (Ten.dig j).length) := Lib.hid (by obtain ⟨_, _, e, _⟩ := R6.out.form; cases e; rfl)
      by_cases h0 : L6 = 0
      · subst h0
        have hj0 : j = 0 := Ten.dig_eq_nil.1 (List.eq_nil_of_length_eq_zero hL.out.symm)
        have HJ := Lib.hid (show i = Nat.gcd m n from by have := HG.out.1; rw [hj0, Nat.gcd_zero_right] at this; exact this)
        clear hj0 hL R6
        go_wp2_with fail
        refine (r_signed false _ i _ R5.out).mono ?_
        rintro e w7 ⟨v7, rfl, hW7, hb7⟩
        have HN7 : Hid (NH w7 v7 ((Nat.gcd m n : Nat) : Int)) := Lib.hid (by rw [← HJ.out]; exact hW7)
        replace HI := Lib.hid (HI.out.below hb7)
        obtain ⟨b7, a7, n7, c7, rfl⟩ := hW7.form
        clear hW7 hb7
        go_wp2_with fail
        refine (r_value _ _ _ HN7.out).mono ?_
        rintro e w9 ⟨rfl, hb9⟩
        replace HI := Lib.hid (HI.out.below hb9)
        rw [HVE.out]
        obtain ⟨⟨rk, rn, rt⟩, re⟩ := R
        simp only [pr, Vl.val]
        have c0 := HI.out.r.c0; have c1 := HI.out.r.c1; have c2 := HI.out.r.c2
        have f0 := HI.out.r.f0; have f1 := HI.out.r.f1; have f2 := HI.out.r.f2
        clear hb9
        go_wp2_with fail
        refine bodyPost_ret (v := .tuple #[vE rk rn rt, .int .i64 re]) (by simp [results, Tryz.results24, go_sem, vE, *]) rfl ?_
        exact ⟨rfl, below_put3 HI.out.bel (by omega) _ _ _⟩
      · have hL0 : 0 < L6 := by omega
        have hL1 : decide (0 < L6) = true := by simpa using hL0
        have hj0 : j ≠ 0 := fun e => h0 (by rw [hL.out, e, Ten.dig_zero]; rfl)
        have HJ := Lib.hid hj0
        clear h0 hj0
        go_wp2_with fail
        refine (r_divide _ _ i j _ R5.out R6.out (by have := HG.out.2.1; omega) (by have := HG.out.2.2; omega) HJ.out).mono ?_
        rintro e w4 ⟨qv, rv, rfl, hq4, hr4, hb4⟩
        have HR4 := Lib.hid hr4
        have R6' := Lib.hid (R6.out.below hb4)
        replace HI := Lib.hid (HI.out.below hb4)
        obtain ⟨qa', qc', rfl, _⟩ := hq4.form
        obtain ⟨ra, rc, rfl, _⟩ := hr4.form
        clear hb4 hq4 hr4
        go_wp2_with fail
        refine ⟨⟨j, i % j, _, _, _, _, _, _, rfl, rfl, R6', HR4, Lib.hid ⟨by rw [← HG.out.1, Nat.gcd_comm j, ← Nat.gcd_rec, Nat.gcd_comm], HG.out.2.2, Nat.le_trans (Ten.dig_len_mono (Nat.le_of_lt (Nat.mod_lt _ (Nat.pos_of_ne_zero HJ.out)))) HG.out.2.2⟩, HI⟩, ?_⟩
        rw [tenVal_RT HR4.out, tenVal_RT R6.out]
        exact Nat.mod_lt _ (Nat.pos_of_ne_zero HJ.out)
end Go.Proofs.YthjpbbbmnmhmmaaGreatDoor

namespace Go.Proofs.YthjpbbbmnmhmmaaGreatDoor
open Go.RowKit Go.Shelf Go.Lib

/-- The state of the reference's power loop. -/
structure RPow (W : World) (gx go : Nat) (x : Int) (pb : Bool) (pa : Option Addr) (pn pc : Nat) (y : Int) (qb : Bool) (qa : Option Addr) (qn qc : Nat) : Prop where
  x0 : W.cell? ⟨gx, 0, none⟩ = some (.bool pb)
  x1 : W.cell? ⟨gx, 1, none⟩ = some (.slice pa pn pc)
  hx : NH W (.agg #[.bool pb, .slice pa pn pc]) x
  y0 : W.cell? ⟨go, 0, none⟩ = some (.bool qb)
  y1 : W.cell? ⟨go, 1, none⟩ = some (.slice qa qn qc)
  hy : NH W (.agg #[.bool qb, .slice qa qn qc]) y
  f0 : W.frozen? ⟨go, 0, none⟩ = false
  f1 : W.frozen? ⟨go, 1, none⟩ = false
  ni : NoInt W go
  lt : go < W.heap.size
  ne : gx < go
theorem RPow.below {W W' : World} {gx go : Nat} {x : Int} {pb : Bool} {pa : Option Addr} {pn pc : Nat} {y : Int} {qb : Bool} {qa : Option Addr} {qn qc : Nat} (h : RPow W gx go x pb pa pn pc y qb qa qn qc) (hb : Below W.heap.size W W') : RPow W' gx go x pb pa pn pc y qb qa qn qc :=
  ⟨cell_on hb h.x0, cell_on hb h.x1, h.hx.below hb, cell_on hb h.y0, cell_on hb h.y1, h.hy.below hb, (hb.frozen (p := ⟨go, 0, none⟩) h.lt).trans h.f0, (hb.frozen (p := ⟨go, 1, none⟩) h.lt).trans h.f1, fun j z => by rw [hb.cell (p := ⟨go, j, none⟩) h.lt]; exact h.ni j z, Nat.lt_of_lt_of_le h.lt hb.size, h.ne⟩
theorem RPow.put {W : World} {gx go : Nat} {x : Int} {pb : Bool} {pa : Option Addr} {pn pc : Nat} {y : Int} {qb : Bool} {qa : Option Addr} {qn qc : Nat} (h : RPow W gx go x pb pa pn pc y qb qa qn qc) {z : Int} {b' : Bool} {a' : Option Addr} {n' c' : Nat} (hw : NH W (.agg #[.bool b', .slice a' n' c']) z) :
    RPow ((W.setCell ⟨go, 0, none⟩ (.bool b')).setCell ⟨go, 1, none⟩ (.slice a' n' c')) gx go x pb pa pn pc z b' a' n' c' := by
  have hne : ¬ go = gx := by have := h.ne; omega
  have s0 : ((W.setCell ⟨go, 0, none⟩ (.bool b')).setCell ⟨go, 1, none⟩ (.slice a' n' c')).cell? ⟨go, 0, none⟩ = some (.bool b') := by
    rw [World.cell?_setCell_other _ _ _ _ (by intro e; cases e), World.cell?_setCell_same _ _ _ h.y0]
  have h1 : (W.setCell ⟨go, 0, none⟩ (.bool b')).cell? ⟨go, 1, none⟩ = some (.slice qa qn qc) := by rw [World.cell?_setCell_other _ _ _ _ (by intro e; cases e)]; exact h.y1
  have s1 : ((W.setCell ⟨go, 0, none⟩ (.bool b')).setCell ⟨go, 1, none⟩ (.slice a' n' c')).cell? ⟨go, 1, none⟩ = some (.slice a' n' c') := by
    rw [World.cell?_setCell_same _ _ _ h1]
  refine ⟨cell_put h.x0 hne _ _, cell_put h.x1 hne _ _, h.hx.put h.ni _ _, s0, s1, hw.put h.ni _ _, by have := h.f0; simpa using this, by have := h.f1; simpa using this, fun j v => ?_, by have := h.lt; simpa using this, h.ne⟩
  by_cases j0 : j = 0
  · subst j0; rw [s0]; simp
  · by_cases j1 : j = 1
    · subst j1; rw [s1]; simp
    · rw [World.cell?_setCell_other _ _ _ _ (by intro e; cases e; exact j1 rfl), World.cell?_setCell_other _ _ _ _ (by intro e; cases e; exact j0 rfl)]
      exact h.ni j v
theorem ResV.put2 {W : World} {g go : Nat} (h : ResV W g) (hg : ¬ go = g) (u u' : Value) : ResV ((W.setCell ⟨go, 0, none⟩ u).setCell ⟨go, 1, none⟩ u') g :=
  ⟨cell_put h.c0 hg _ _, cell_put h.c1 hg _ _, cell_put h.c2 hg _ _, by have := h.f0; simpa using this, by have := h.f1; simpa using this, by have := h.f2; simpa using this, by have := h.lt; simpa using this⟩

theorem limZ_big {x : Int} {i N : Nat} (h : i ≤ N) (hb : ¬ nDigits (x ^ i).natAbs ≤ 400) : limZ (x ^ i) = limZ (x ^ N) := by
  unfold limZ
  rw [if_neg hb, if_neg (fun hh => hb (pow_nd_mono h hh))]
theorem ten_mul_len {x y N M : Nat} (hx : (Ten.dig x).length ≤ N) (hy : (Ten.dig y).length ≤ M) : (Ten.dig (x * y)).length ≤ N + M := by
  refine Ten.dig_len _ _ ?_
  rw [Nat.pow_add]
  exact Nat.mul_lt_mul'' (Nat.lt_of_lt_of_le (Ten.dig_lt x) (Nat.pow_le_pow_right (by decide) hx)) (Nat.lt_of_lt_of_le (Ten.dig_lt y) (Nat.pow_le_pow_right (by decide) hy))

set_option maxRecDepth 100000 in
set_option maxHeartbeats 8000000 in
theorem r_Pow (a : Vl) (n : Int) (ha : a.ok) (w : World) : Ans Tryz.prog 22 #[a.val, .int .i64 n] w (pr (powR a n)) := by
  have HC : Hid (∀ W, Calls Tryz.prog 56 #[a.val] W fun e w' => ∃ v, e = .returned (.tuple #[v, .bool a.num.isSome]) ∧ FormN v ∧ (∀ z, a.num = some z → NH w' v z) ∧ Below W.heap.size W w') := Lib.hid (r_of a ha)
  have HLA : Hid (∀ z, a.num = some z → nDigits z.natAbs ≤ 400) := Lib.hid (fun z hz => (vl_of_num ha hz).2)
  clear ha
  obtain ⟨R, hR⟩ : ∃ R, powR a n = R := ⟨_, rfl⟩
  have HR := Lib.hid hR
  rw [hR]
  clear hR
  obtain ⟨W0, hW0⟩ : ∃ W0, w.alloc (.cells #[.int .i64 a.k, .int .i64 a.n, .string ⟨a.t.toArray⟩] 23) = W0 := ⟨_, rfl⟩
  have hs0 : W0.heap.size = w.heap.size + 1 := by rw [← hW0]; simp
  have hbw0 : Below w.heap.size w W0 := by rw [← hW0]; exact (Below.refl _ w).alloc (Nat.le_refl _) _
  have a0 : W0.cell? ⟨w.heap.size, 0, none⟩ = some (.int .i64 a.k) := by rw [← hW0]; exact cell_in _ _ _ 0 rfl
  have a1 : W0.cell? ⟨w.heap.size, 1, none⟩ = some (.int .i64 a.n) := by rw [← hW0]; exact cell_in _ _ _ 1 rfl
  have a2 : W0.cell? ⟨w.heap.size, 2, none⟩ = some (.string ⟨a.t.toArray⟩) := by rw [← hW0]; exact cell_in _ _ _ 2 rfl
  obtain ⟨W, hW⟩ : ∃ W, W0.alloc (.cells #[.int .i64 0, .int .i64 0, .string ⟨#[]⟩] 23) = W := ⟨_, rfl⟩
  have hbW : Below W0.heap.size W0 W := by rw [← hW]; exact (Below.refl _ _).alloc (Nat.le_refl _) _
  have HV := Lib.hid (by rw [← hW]; exact resV_new W0 _ : ResV W W0.heap.size)
  replace a0 := cell_on hbW a0; replace a1 := cell_on hbW a1; replace a2 := cell_on hbW a2
  have HBW := Lib.hid (below_then hbw0 hbW)
  have hg0 : w.heap.size ≤ W0.heap.size := by omega
  obtain ⟨na, hna⟩ : ∃ na, a.num = na := ⟨_, rfl⟩
  rw [hna] at HC HLA
  have HNA := Lib.hid hna
  clear hna hbw0 hbW hs0
  obtain ⟨ak, an, at'⟩ := a
  simp only [Vl.val] at HC ⊢
  simp only at a0 a1 a2 hW hW0
  go_enter Tryz.func22, Tryz.ntmps22
  go_upto_region 1 with fail
  obtain ⟨g, hg⟩ : ∃ g, W0.heap.size = g := ⟨_, rfl⟩
  rw [hg] at HV hg0 ⊢
  clear hW hW0 hg
  go_wp2_with fail
  refine (HC.out _).mono ?_
  rintro e w1 ⟨v, rfl, ⟨pb, pa, pn, pc, rfl⟩, hnx, hb1⟩
  have HNX := Lib.hid hnx
  replace HBW := Lib.hid (below_then HBW.out hb1)
  replace HV := Lib.hid (HV.out.below hb1)
  clear hnx hb1 a0 a1 a2
  go_upto_region 2 with fail
  obtain ⟨X, hX⟩ : ∃ X, w1.alloc (.cells #[.bool pb, .slice pa pn pc] 51) = X := ⟨_, rfl⟩
  obtain ⟨hcx, hb2, hlx⟩ := ncell_new w1 _ pb pa pn pc X hX
  have hgx : g < w1.heap.size := HV.out.lt
  rw [hX]
  replace HBW := Lib.hid (below_then HBW.out hb2)
  replace HV := Lib.hid (HV.out.below hb2)
  replace HNX := Lib.hid (fun z hz => (HNX.out z hz).below hb2)
  have HCX := Lib.hid hcx
  have hgxw : w.heap.size ≤ w1.heap.size := by omega
  clear hcx hb2 hX
  generalize w1.heap.size = gx at *
  cases na with
  | none =>
    have e : R = (Vl.zero, 31) := by rw [← HR.out]; unfold powR; rw [HNA.out]
    subst e
    simp only [Option.isSome_none]
    have c0 := HV.out.c0; have c1 := HV.out.c1; have c2 := HV.out.c2
    have f0 := HV.out.f0; have f1 := HV.out.f1; have f2 := HV.out.f2
    go_wp2_with fail
    refine bodyPost_ret (v := .tuple #[vE 0 0 [], .int .i64 31]) (by simp [results, Tryz.results22, go_sem, vE, *]) rfl ?_
    exact ⟨rfl, below_put3 HBW.out hg0 _ _ _⟩
  | some x =>
    replace HNX := Lib.hid (HNX.out x rfl)
    have LA : Hid ((Ten.dig x.natAbs).length ≤ 400) := Lib.hid (ten_len (HLA.out x rfl))
    simp only [Option.isSome_some]
    by_cases hn : n < 0 ∨ 2000 < n
    · have e : R = (Vl.zero, 1) := by rw [← HR.out]; unfold powR; rw [HNA.out]; exact if_pos hn
      subst e
      have c0 := HV.out.c0; have c1 := HV.out.c1; have c2 := HV.out.c2
      have f0 := HV.out.f0; have f1 := HV.out.f1; have f2 := HV.out.f2
      rcases Int.lt_or_le n 0 with hneg | hneg
      · have d0 : decide (n < 0) = true := by simpa using hneg
        clear hn
        go_wp2_with fail
        refine bodyPost_ret (v := .tuple #[vE 0 0 [], .int .i64 1]) (by simp [results, Tryz.results22, go_sem, vE, *]) rfl ?_
        exact ⟨rfl, below_put3 HBW.out hg0 _ _ _⟩
      · have d0 : decide (n < 0) = false := by simp; omega
        have d1 : decide ((2000 : Int) < n) = true := by simp; omega
        have d2 : (2000 : Int) < n := by omega
        have d3 : ¬ n < 0 := by omega
        clear hn
        go_wp2_with fail
        refine bodyPost_ret (v := .tuple #[vE 0 0 [], .int .i64 1]) (by simp [results, Tryz.results22, go_sem, vE, *]) rfl ?_
        exact ⟨rfl, below_put3 HBW.out hg0 _ _ _⟩
    · obtain ⟨N, rfl⟩ : ∃ N : Nat, n = (N : Int) := ⟨n.toNat, by omega⟩
      have hN : N ≤ 2000 := by omega
      have HRE : Hid (limZ (x ^ N) = R) := Lib.hid (by rw [← HR.out]; unfold powR; rw [HNA.out]; simp only [hn, if_false, Int.toNat_natCast])
      have d0 : decide ((N : Int) < 0) = false := by simp
      have d1 : decide ((2000 : Int) < (N : Int)) = false := by simp; omega
      have d2 : ¬ (2000 : Int) < (N : Int) := by omega
      have d3 : ¬ (N : Int) < 0 := by omega
      clear hn HR HLA HNA
      go_wp2_with fail
      refine (r_small 1 _ (by omega) (by omega)).mono ?_
      rintro e w3 ⟨v3, rfl, hn3, hb3⟩
      obtain ⟨qb, qa, qn, qc, rfl⟩ := hn3.form
      have HN3 := Lib.hid hn3
      replace HBW := Lib.hid (below_then HBW.out hb3)
      replace HV := Lib.hid (HV.out.below hb3)
      replace HNX := Lib.hid (HNX.out.below hb3)
      replace HCX := Lib.hid (HCX.out.below hb3)
      have hlt3 : gx < w3.heap.size := Nat.lt_of_lt_of_le hlx hb3.size
      clear hn3 hb3 hlx
      go_upto_region 7 with fail
      have hb4 : Below w3.heap.size w3 (w3.alloc (.cells #[.bool qb, .slice qa qn qc] 51)) := (Below.refl _ _).alloc (Nat.le_refl _) _
      have hbx := nbox_new w3 51 qb qa qn qc _ HN3.out _ rfl
      have HP : Hid (RPow (w3.alloc (.cells #[.bool qb, .slice qa qn qc] 51)) gx w3.heap.size x pb pa pn pc (x ^ 0) qb qa qn qc) := by
        rw [Int.pow_zero]
        have h1 := HCX.out.below hb4
        exact Lib.hid ⟨h1.x0, h1.x1, HNX.out.below hb4, hbx.1.x0, hbx.1.x1, hbx.1.num, frozen_in _ _ _ 0, frozen_in _ _ _ 1, noInt_num _ _ _ _ _ _, by simp, hlt3⟩
      replace HBW := Lib.hid (below_then HBW.out hb4)
      replace HV := Lib.hid (HV.out.below hb4)
      generalize w3.alloc (.cells #[.bool qb, .slice qa qn qc] 51) = w4 at *
      have hgo : ¬ w3.heap.size = g := by omega
      have hgow : w.heap.size ≤ w3.heap.size := by omega
      generalize w3.heap.size = go at *
      clear hb4 hbx HN3 HNX HCX
      go_wp2_with fail
      go_loopw [9] (fun iv wr => ∃ (i : Nat) (qb : Bool) (qa : Option Addr) (qn qc : Nat), iv = .int .i64 i ∧ i ≤ N ∧ Hid (RPow wr gx go x pb pa pn pc (x ^ i) qb qa qn qc) ∧ Hid (ResV wr g) ∧ Hid (Below w.heap.size w wr)) (fun iv _ => N - (RowKit.intOf iv).toNat)
      case atStart => exact ⟨0, qb, qa, qn, qc, rfl, by omega, HP, HV, HBW⟩
      case round =>
        clear HP HV HBW
        obtain ⟨i, qb, qa, qn, qc, rfl, hi, HP, HV, HBW⟩ := hrel
        have x0 := HP.out.x0; have x1 := HP.out.x1; have y0 := HP.out.y0; have y1 := HP.out.y1
        have HQ : Hid (qn = (Ten.dig (x ^ i).natAbs).length) := Lib.hid (by obtain ⟨s, e, h⟩ := HP.out.hy; obtain ⟨a', c', e', _⟩ := h.form; cases e; cases e'; rfl)
        by_cases hin : i < N
        · have t1 : decide (i < N) = true := by simp; omega
          have t1i : (i : Int) < (N : Int) := by omega
          have t1d : decide ((i : Int) < (N : Int)) = true := by simp; omega
          by_cases hq : qn ≤ 400
          · have t2 : decide (qn ≤ 400) = true := by simpa using hq
            have t2i : (qn : Int) ≤ 400 := by omega
            have t2d : decide ((qn : Int) ≤ 400) = true := by simp; omega
            go_upto_region 10 with fail
            refine wp_region_noPanic ?_
            refine region_late (fun w' => w'.cell? ⟨gx, 0, none⟩ = some (.bool pb) ∧ w'.cell? ⟨gx, 1, none⟩ = some (.slice pa pn pc) ∧ w'.cell? ⟨go, 0, none⟩ = some (.bool qb) ∧ w'.cell? ⟨go, 1, none⟩ = some (.slice qa qn qc)) (fun i => i == 11) (by kernel_rfl) ?_
            have hb := (Below.refl wr.heap.size wr).drew
            obtain ⟨X, hX⟩ : ∃ Y, wr.drew = Y := ⟨_, rfl⟩
            rw [hX] at hb ⊢
            replace HP := Lib.hid (HP.out.below hb)
            replace HV := Lib.hid (HV.out.below hb)
            replace HBW := Lib.hid (below_then HBW.out hb)
            clear hX hb x0 x1 y0 y1
            have S0 : ∀ X, Hid (RPow X gx go x pb pa pn pc (x ^ i) qb qa qn qc) → (fun w' => w'.cell? ⟨gx, 0, none⟩ = some (.bool pb) ∧ w'.cell? ⟨gx, 1, none⟩ = some (.slice pa pn pc) ∧ w'.cell? ⟨go, 0, none⟩ = some (.bool qb) ∧ w'.cell? ⟨go, 1, none⟩ = some (.slice qa qn qc)) X := fun X PS => ⟨PS.out.x0, PS.out.x1, PS.out.y0, PS.out.y1⟩
            have hHeld := S0 X HP
            refine late_pure_at (some 37) (i := 0) (v := (.pointer (some ⟨go, 0, none⟩))) rfl rfl rfl (by kernel_rfl) (by kernel_rfl) (by kernel_rfl) (fun _ _ _ h => h) (Or.inl ⟨by rfl, by intro w _; go_simp⟩) (fun _ => hHeld) ?_
            try simp only [Act.put, List.setIfInBounds_toArray, List.set_cons_zero, List.set_cons_succ]
            refine late_take_at (some 38) (i := 1) (v := (.bool qb)) rfl rfl rfl (by kernel_rfl) (by kernel_rfl) (by kernel_rfl) (by kernel_rfl) (fun _ _ _ h => h) (clean_one (by kernel_rfl)) (Or.inl ⟨by rfl, by intro w hSw; go_split_ands; go_simp⟩) hHeld ?_
            try simp only [Act.put, List.setIfInBounds_toArray, List.set_cons_zero, List.set_cons_succ]
            refine late_pure_at (some 39) (i := 2) (v := (.pointer (some ⟨gx, 0, none⟩))) rfl rfl rfl (by kernel_rfl) (by kernel_rfl) (by kernel_rfl) (fun _ _ _ h => h) (Or.inl ⟨by rfl, by intro w _; go_simp⟩) (fun _ => hHeld) ?_
            try simp only [Act.put, List.setIfInBounds_toArray, List.set_cons_zero, List.set_cons_succ]
            refine late_take_at (some 40) (i := 3) (v := (.bool pb)) rfl rfl rfl (by kernel_rfl) (by kernel_rfl) (by kernel_rfl) (by kernel_rfl) (fun _ _ _ h => h) (clean_one (by kernel_rfl)) (Or.inl ⟨by rfl, by intro w hSw; go_split_ands; go_simp⟩) hHeld ?_
            try simp only [Act.put, List.setIfInBounds_toArray, List.set_cons_zero, List.set_cons_succ]
            refine late_pure_at (some 41) (i := 4) (v := (.bool (qb != pb))) rfl rfl rfl (by kernel_rfl) (by kernel_rfl) (by kernel_rfl) (fun _ _ _ h => h) (Or.inl ⟨by rfl, by intro w _; go_simp <;> (cases qb <;> cases pb <;> rfl)⟩) (fun _ => hHeld) ?_
            try simp only [Act.put, List.setIfInBounds_toArray, List.set_cons_zero, List.set_cons_succ]
            refine late_pure_at (some 42) (i := 5) (v := (.pointer (some ⟨go, 1, none⟩))) rfl rfl rfl (by kernel_rfl) (by kernel_rfl) (by kernel_rfl) (fun _ _ _ h => h) (Or.inl ⟨by rfl, by intro w _; go_simp⟩) (fun _ => hHeld) ?_
            try simp only [Act.put, List.setIfInBounds_toArray, List.set_cons_zero, List.set_cons_succ]
            refine late_take_at (some 43) (i := 6) (v := (.slice qa qn qc)) rfl rfl rfl (by kernel_rfl) (by kernel_rfl) (by kernel_rfl) (by kernel_rfl) (fun _ _ _ h => h) (clean_one (by kernel_rfl)) (Or.inl ⟨by rfl, by intro w hSw; go_split_ands; go_simp⟩) hHeld ?_
            try simp only [Act.put, List.setIfInBounds_toArray, List.set_cons_zero, List.set_cons_succ]
            refine late_pure_at (some 44) (i := 7) (v := (.pointer (some ⟨gx, 1, none⟩))) rfl rfl rfl (by kernel_rfl) (by kernel_rfl) (by kernel_rfl) (fun _ _ _ h => h) (Or.inl ⟨by rfl, by intro w _; go_simp⟩) (fun _ => hHeld) ?_
            try simp only [Act.put, List.setIfInBounds_toArray, List.set_cons_zero, List.set_cons_succ]
            refine late_take_at (some 45) (i := 8) (v := (.slice pa pn pc)) rfl rfl rfl (by kernel_rfl) (by kernel_rfl) (by kernel_rfl) (by kernel_rfl) (fun _ _ _ h => h) (clean_one (by kernel_rfl)) (Or.inl ⟨by rfl, by intro w hSw; go_split_ands; go_simp⟩) hHeld ?_
            try simp only [Act.put, List.setIfInBounds_toArray, List.set_cons_zero, List.set_cons_succ]
            clear hHeld
            have hqx : qb = decide (x ^ i < 0) := by obtain ⟨s, e, _⟩ := HP.out.hy; cases e; rfl
            have hpx : pb = decide (x < 0) := by obtain ⟨s, e, _⟩ := HP.out.hx; cases e; rfl
            have HSG : Hid ((if (qb != pb) = true then -((((x ^ i).natAbs * x.natAbs : Nat)) : Int) else (((x ^ i).natAbs * x.natAbs : Nat) : Int)) = x ^ (i + 1)) := Lib.hid (by rw [Int.pow_succ]; exact mul_signs hqx.symm hpx.symm)
            have HT1 : Hid (∀ X, RPow X gx go x pb pa pn pc (x ^ i) qb qa qn qc → RT X (.slice qa qn qc) (x ^ i).natAbs ∧ RT X (.slice pa pn pc) x.natAbs) := Lib.hid (fun X h => ⟨by obtain ⟨s, e, h⟩ := h.hy; cases e; exact h, by obtain ⟨s, e, h⟩ := h.hx; cases e; exact h⟩)
            obtain ⟨m, hm⟩ : ∃ m, (x ^ i).natAbs = m := ⟨_, rfl⟩
            obtain ⟨mx, hmx⟩ : ∃ m, x.natAbs = m := ⟨_, rfl⟩
            rw [hm, hmx] at HSG HT1
            rw [hm] at HQ
            rw [hmx] at LA
            clear hm hmx hqx hpx
            refine late_ready (rs := [9]) (by kernel_rfl) (by simp) ?_
            refine AllLate.cons rfl (fun K hK => ?_) AllLate.nil
            go_simp
            refine (r_times _ _ m mx _ (HT1.out _ HP.out).1 (HT1.out _ HP.out).2 (by have := HQ.out; omega) (by have := LA.out; omega)).mono ?_
            rintro e X ⟨v8, rfl, hR8, hb⟩
            have HR8 := Lib.hid hR8
            obtain ⟨a8, c8, rfl, _⟩ := hR8.form
            replace HP := Lib.hid (HP.out.below hb)
            replace HV := Lib.hid (HV.out.below hb)
            replace HBW := Lib.hid (below_then HBW.out hb)
            have hHeld := S0 X HP
            dsimp only
            refine hK.out _ _ (fun _ => hHeld) ?_
            clear hK K
            try simp only [Act.put, List.setIfInBounds_toArray, List.set_cons_zero, List.set_cons_succ]
            clear hb hHeld hR8
            refine late_ready (rs := [10]) (by kernel_rfl) (by simp) ?_
            refine AllLate.cons rfl (fun K hK => ?_) AllLate.nil
            go_simp
            refine (r_signed _ _ _ _ HR8.out).mono ?_
            rintro e X ⟨v9, rfl, hW9, hb⟩
            have HW9 : Hid (NH X v9 (x ^ (i + 1))) := Lib.hid (by rw [← HSG.out]; first | exact hW9 | (cases qb <;> cases pb <;> exact hW9))
            obtain ⟨b9, a9, n9, c9, rfl⟩ := hW9.form
            clear hW9
            replace HP := Lib.hid (HP.out.below hb)
            replace HV := Lib.hid (HV.out.below hb)
            replace HBW := Lib.hid (below_then HBW.out hb)
            have hHeld := S0 X HP
            dsimp only
            refine hK.out _ _ (fun _ => hHeld) ?_
            clear hK K
            try simp only [Act.put, List.setIfInBounds_toArray, List.set_cons_zero, List.set_cons_succ]
            clear hb hHeld S0
            refine late_ready (rs := [11]) (by kernel_rfl) (by simp) ?_
            refine AllLate.cons rfl (fun K hK => ?_) AllLate.nil
            have U2 := HP.out.y0
            have U3 := HP.out.y1
            have U4 := HP.out.f0
            have U5 := HP.out.f1
            go_simp
            replace HP := Lib.hid (HP.out.put HW9.out)
            replace HV := Lib.hid (HV.out.put2 hgo (.bool b9) (.slice a9 n9 c9))
            replace HBW := Lib.hid (below_put HBW.out hgow (.bool b9) (.slice a9 n9 c9))
            refine hK.out _ _ (not_clean 11 rfl (by kernel_rfl)) ?_
            clear hK K
            try simp only [Act.put, List.setIfInBounds_toArray, List.set_cons_zero, List.set_cons_succ]
            refine late_done (by kernel_rfl) ?_ _
            refine NoPanic.normal ?_
            go_wp2_with fail
            exact ⟨⟨i + 1, _, _, _, _, by go_num, by omega, HP, HV, HBW⟩, by simp [RowKit.intOf] <;> omega⟩
          · have t2 : decide (qn ≤ 400) = false := by simp; omega
            have t2i : ¬ (qn : Int) ≤ 400 := by omega
            have t2d : decide ((qn : Int) ≤ 400) = false := by simp; omega
            skip
            have HVE : Hid (limZ (x ^ i) = R) := Lib.hid (by rw [← HRE.out]; exact limZ_big hi (fun hh => hq (by rw [HQ.out]; exact Ten.len_le hh)))
            clear HRE
            go_wp2_with fail
            refine (r_value _ _ _ HP.out.hy).mono ?_
            rintro e w9 ⟨rfl, hb9⟩
            replace HV := Lib.hid (HV.out.below hb9)
            replace HBW := Lib.hid (below_then HBW.out hb9)
            rw [HVE.out]
            obtain ⟨⟨rk, rn, rt⟩, re⟩ := R
            simp only [pr, Vl.val]
            have c0 := HV.out.c0; have c1 := HV.out.c1; have c2 := HV.out.c2
            have f0 := HV.out.f0; have f1 := HV.out.f1; have f2 := HV.out.f2
            clear hb9 x0 x1 y0 y1
            go_wp2_with fail
            refine bodyPost_ret (v := .tuple #[vE rk rn rt, .int .i64 re]) (by simp [results, Tryz.results22, go_sem, vE, *]) rfl ?_
            exact ⟨rfl, below_put3 HBW.out hg0 _ _ _⟩
        · have t1 : decide (i < N) = false := by simp; omega
          have t1i : ¬ (i : Int) < (N : Int) := by omega
          have t1d : decide ((i : Int) < (N : Int)) = false := by simp; omega
          obtain rfl : i = N := by omega
          skip
          have HVE : Hid (limZ (x ^ i) = R) := Lib.hid (by rw [← HRE.out])
          clear HRE
          go_wp2_with fail
          refine (r_value _ _ _ HP.out.hy).mono ?_
          rintro e w9 ⟨rfl, hb9⟩
          replace HV := Lib.hid (HV.out.below hb9)
          replace HBW := Lib.hid (below_then HBW.out hb9)
          rw [HVE.out]
          obtain ⟨⟨rk, rn, rt⟩, re⟩ := R
          simp only [pr, Vl.val]
          have c0 := HV.out.c0; have c1 := HV.out.c1; have c2 := HV.out.c2
          have f0 := HV.out.f0; have f1 := HV.out.f1; have f2 := HV.out.f2
          clear hb9 x0 x1 y0 y1
          go_wp2_with fail
          refine bodyPost_ret (v := .tuple #[vE rk rn rt, .int .i64 re]) (by simp [results, Tryz.results22, go_sem, vE, *]) rfl ?_
          exact ⟨rfl, below_put3 HBW.out hg0 _ _ _⟩
end Go.Proofs.YthjpbbbmnmhmmaaGreatDoor

namespace Go.Proofs.YthjpbbbmnmhmmaaGreatDoor
open Go.RowKit Go.Shelf Go.Lib

theorem shift_len {n d N : Nat} (h : (Ten.dig n).length ≤ N) (hd : d < 10) : (Ten.dig (10 * n + d)).length ≤ N + 1 := by
  have h1 := Ten.dig_lt n
  have h2 : 10 ^ (Ten.dig n).length ≤ 10 ^ N := Nat.pow_le_pow_right (by decide) h
  exact Ten.dig_len (N + 1) _ (by rw [Nat.pow_succ]; omega)
theorem tw_len {r N : Nat} (h : (Ten.dig r).length ≤ N) : (Ten.dig (20 * r)).length ≤ N + 2 := by
  have h1 := Ten.dig_lt r
  have h2 : 10 ^ (Ten.dig r).length ≤ 10 ^ N := Nat.pow_le_pow_right (by decide) h
  exact Ten.dig_len (N + 2) _ (by rw [Nat.pow_succ, Nat.pow_succ]; omega)
theorem dd_len {d : Nat} (h : d ≤ 9) : (Ten.dig d).length ≤ 1 := Ten.dig_len 1 d (by omega)
theorem field_num (W : World) (b : Bool) (a : Option Addr) (n c : Nat) : (Instr.field 51 (.agg #[.bool b, .slice a n c]) 1).run Tryz.prog W = .ok (.slice a n c) W := by kernel_rfl
attribute [local go_sem] field_num

set_option maxRecDepth 100000 in
set_option maxHeartbeats 8000000 in
theorem r_Root (a : Vl) (ha : a.ok) (w : World) : Ans Tryz.prog 26 #[a.val] w (pr (rootR a)) := by
  have HC : Hid (∀ W, Calls Tryz.prog 56 #[a.val] W fun e w' => ∃ v, e = .returned (.tuple #[v, .bool a.num.isSome]) ∧ FormN v ∧ (∀ z, a.num = some z → NH w' v z) ∧ Below W.heap.size W w') := Lib.hid (r_of a ha)
  have HLA : Hid (∀ z, a.num = some z → nDigits z.natAbs ≤ 400) := Lib.hid (fun z hz => (vl_of_num ha hz).2)
  clear ha
  obtain ⟨R, hR⟩ : ∃ R, rootR a = R := ⟨_, rfl⟩
  have HR := Lib.hid hR
  rw [hR]
  clear hR
  obtain ⟨W0, hW0⟩ : ∃ W0, w.alloc (.cells #[.int .i64 a.k, .int .i64 a.n, .string ⟨a.t.toArray⟩] 23) = W0 := ⟨_, rfl⟩
  have hs0 : W0.heap.size = w.heap.size + 1 := by rw [← hW0]; simp
  have hbw0 : Below w.heap.size w W0 := by rw [← hW0]; exact (Below.refl _ w).alloc (Nat.le_refl _) _
  have a0 : W0.cell? ⟨w.heap.size, 0, none⟩ = some (.int .i64 a.k) := by rw [← hW0]; exact cell_in _ _ _ 0 rfl
  have a1 : W0.cell? ⟨w.heap.size, 1, none⟩ = some (.int .i64 a.n) := by rw [← hW0]; exact cell_in _ _ _ 1 rfl
  have a2 : W0.cell? ⟨w.heap.size, 2, none⟩ = some (.string ⟨a.t.toArray⟩) := by rw [← hW0]; exact cell_in _ _ _ 2 rfl
  obtain ⟨W, hW⟩ : ∃ W, W0.alloc (.cells #[.int .i64 0, .int .i64 0, .string ⟨#[]⟩] 23) = W := ⟨_, rfl⟩
  have hbW : Below W0.heap.size W0 W := by rw [← hW]; exact (Below.refl _ _).alloc (Nat.le_refl _) _
  have HV := Lib.hid (by rw [← hW]; exact resV_new W0 _ : ResV W W0.heap.size)
  replace a0 := cell_on hbW a0; replace a1 := cell_on hbW a1; replace a2 := cell_on hbW a2
  have HBW := Lib.hid (below_then hbw0 hbW)
  have hg0 : w.heap.size ≤ W0.heap.size := by omega
  obtain ⟨na, hna⟩ : ∃ na, a.num = na := ⟨_, rfl⟩
  rw [hna] at HC HLA
  have HNA := Lib.hid hna
  clear hna hbw0 hbW hs0
  obtain ⟨ak, an, at'⟩ := a
  simp only [Vl.val] at HC ⊢
  simp only at a0 a1 a2 hW hW0
  go_enter Tryz.func26, Tryz.ntmps26
  go_upto_region 1 with fail
  obtain ⟨g, hg⟩ : ∃ g, W0.heap.size = g := ⟨_, rfl⟩
  rw [hg] at HV hg0 ⊢
  clear hW hW0 hg
  go_wp2_with fail
  refine (HC.out _).mono ?_
  rintro e w1 ⟨v, rfl, ⟨pb, pa, pn, pc, rfl⟩, hnx, hb1⟩
  have HNX := Lib.hid hnx
  replace HBW := Lib.hid (below_then HBW.out hb1)
  replace HV := Lib.hid (HV.out.below hb1)
  clear hnx hb1 a0 a1 a2
  go_upto_region 2 with fail
  obtain ⟨X, hX⟩ : ∃ X, w1.alloc (.cells #[.bool pb, .slice pa pn pc] 51) = X := ⟨_, rfl⟩
  obtain ⟨hcx, hb2, hlx⟩ := ncell_new w1 _ pb pa pn pc X hX
  have hgx : g < w1.heap.size := HV.out.lt
  rw [hX]
  replace HBW := Lib.hid (below_then HBW.out hb2)
  replace HV := Lib.hid (HV.out.below hb2)
  replace HNX := Lib.hid (fun z hz => (HNX.out z hz).below hb2)
  have HCX := Lib.hid hcx
  have hgxw : w.heap.size ≤ w1.heap.size := by omega
  clear hcx hb2 hX
  generalize w1.heap.size = gx at *
  cases na with
  | none =>
    have e : R = (Vl.zero, 31) := by rw [← HR.out]; unfold rootR; rw [HNA.out]
    subst e
    simp only [Option.isSome_none]
    have c0 := HV.out.c0; have c1 := HV.out.c1; have c2 := HV.out.c2
    have f0 := HV.out.f0; have f1 := HV.out.f1; have f2 := HV.out.f2
    go_wp2_with fail
    refine bodyPost_ret (v := .tuple #[vE 0 0 [], .int .i64 31]) (by simp [results, Tryz.results26, go_sem, vE, *]) rfl ?_
    exact ⟨rfl, below_put3 HBW.out hg0 _ _ _⟩
  | some x =>
    replace HNX := Lib.hid (HNX.out x rfl)
    replace HLA := Lib.hid (HLA.out x rfl)
    simp only [Option.isSome_some]
    have hpx : pb = decide (x < 0) := by obtain ⟨s, e, _⟩ := HNX.out; cases e; rfl
    have HX : Hid (RT X (.slice pa pn pc) x.natAbs) := Lib.hid (by obtain ⟨s, e, h⟩ := HNX.out; cases e; exact h)
    by_cases hneg : x < 0
    · have e : R = (Vl.zero, 1) := by rw [← HR.out]; unfold rootR; rw [HNA.out]; exact if_pos hneg
      subst e
      obtain rfl : pb = true := by rw [hpx]; simpa using hneg
      have x0 := HCX.out.x0; have x1 := HCX.out.x1
      have c0 := HV.out.c0; have c1 := HV.out.c1; have c2 := HV.out.c2
      have f0 := HV.out.f0; have f1 := HV.out.f1; have f2 := HV.out.f2
      clear hpx hneg
      go_wp2_with fail
      refine bodyPost_ret (v := .tuple #[vE 0 0 [], .int .i64 1]) (by simp [results, Tryz.results26, go_sem, vE, *]) rfl ?_
      exact ⟨rfl, below_put3 HBW.out hg0 _ _ _⟩
    · have HRE : Hid ((Vl.of ((isq x.natAbs : Nat) : Int), (0 : Int)) = R) := Lib.hid (by rw [← HR.out]; unfold rootR; rw [HNA.out]; exact (if_neg hneg).symm)
      obtain rfl : pb = false := by rw [hpx]; simpa using hneg
      have HND : Hid (nDigits (((isq x.natAbs : Nat) : Int)).natAbs ≤ 400) := Lib.hid (by simpa using isq_nd HLA.out)
      have LA : Hid ((Ten.dig x.natAbs).length ≤ 400) := Lib.hid (ten_len HLA.out)
      have x0 := HCX.out.x0; have x1 := HCX.out.x1
      obtain ⟨m, hm⟩ : ∃ m, x.natAbs = m := ⟨_, rfl⟩
      rw [hm] at HX LA HRE HND
      clear hpx hneg HR HLA HNA HNX hm
      obtain ⟨L, hL⟩ : ∃ L, (Ten.dig m).length = L := ⟨_, rfl⟩
      obtain rfl : pn = L := by obtain ⟨a', c', e', _⟩ := HX.out.form; cases e'; exact hL
      have HL := Lib.hid hL
      rw [hL] at LA
      have hL4 : pn ≤ 400 := LA.out
      have HXC : Hid (∀ k, k < pn → ∃ b o, pa = some ⟨b, o, none⟩ ∧ X.cell? ⟨b, o + k, none⟩ = some (.int .i64 (rd (Ten.dig m) k))) := Lib.hid (fun k hk => by
        obtain ⟨a', c', e', _, _, _, h⟩ := HX.out.form
        cases e'
        obtain ⟨b, o, rfl, hc⟩ := h (by intro e; rw [e] at hk; simp at hk)
        exact ⟨b, o, rfl, hc k hk⟩)
      have HIN := Lib.hid (Ten.dig_inR m)
      have HST := Lib.hid (by have := Rt.start m; rw [hL] at this; exact this : Rt m ((pn + 1) / 2) 0 0)
      have Hle : Hid (∀ k r s, Rt m k r s → (Ten.dig r).length ≤ 400 ∧ (Ten.dig s).length ≤ 400) := Lib.hid (fun k r s h => by
        have h1 := h.sq
        have h2 := Nat.div_le_self m (100 ^ k)
        have h3 : r ≤ r * r := by rcases Nat.eq_zero_or_pos r with rfl | h0; · exact Nat.le_refl _
                                  · exact Nat.le_mul_of_pos_left r h0
        exact ⟨Nat.le_trans (Ten.dig_len_mono (show r ≤ m by omega)) (by omega), Nat.le_trans (Ten.dig_len_mono (show s ≤ m by omega)) (by omega)⟩)
      have hneX : ¬ gx = g := by omega
      clear hL
      go_wp2_with fail
      clear x0 x1 HX
      go_loopw [6, 7, 8] (fun u6 u7 u8 wr => ∃ (k r s : Nat), u8 = .int .i64 ((k : Int) - 1) ∧ k ≤ (pn + 1) / 2 ∧ Hid (Rt m k r s) ∧ Hid (RT wr u6 r) ∧ Hid (RT wr u7 s) ∧ Hid (Below X.heap.size X wr)) (fun _ _ u8 _ => (RowKit.intOf u8 + 1).toNat)
      case atStart => exact ⟨(pn + 1) / 2, 0, 0, congrArg (Value.int .i64) (by omega), Nat.le_refl _, HST, Lib.hid (RT.zero _), Lib.hid (RT.zero _), Lib.hid (Below.refl _ _)⟩
      case round =>
        obtain ⟨k, r, s, rfl, hk, HRt, H6, H7, HBR⟩ := hrel
        rcases Nat.eq_zero_or_pos k with rfl | hk0
        · rw [show ((0 : Nat) : Int) - 1 = -1 from rfl]
          have hdone := Lib.hid HRt.out.done
          go_wp2_with fail
          refine (r_signed false _ r _ H6.out).mono ?_
          rintro e w7 ⟨v7, rfl, hW7, hb7⟩
          have HN7 : Hid (NH w7 v7 ((isq m : Nat) : Int)) := Lib.hid (by rw [hdone.out]; exact hW7)
          have HB7 := Lib.hid (HBR.out.trans (hb7.mono HBR.out.size))
          obtain ⟨b7, a7, n7, c7, rfl⟩ := hW7.form
          clear hW7 hb7
          go_wp2_with fail
          have hlim : limZ ((isq m : Nat) : Int) = R := by rw [← HRE.out]; unfold limZ; exact if_pos HND.out
          have HLM := Lib.hid hlim
          clear hlim
          refine (r_value _ _ _ HN7.out).mono ?_
          rintro e w9 ⟨rfl, hb9⟩
          have HB9 := Lib.hid (HB7.out.trans (hb9.mono HB7.out.size))
          have HV9 := Lib.hid (HV.out.below HB9.out)
          rw [HLM.out]
          obtain ⟨⟨rk, rn, rt⟩, re⟩ := R
          simp only [pr, Vl.val]
          have c0 := HV9.out.c0; have c1 := HV9.out.c1; have c2 := HV9.out.c2
          have f0 := HV9.out.f0; have f1 := HV9.out.f1; have f2 := HV9.out.f2
          clear hb9
          go_wp2_with fail
          refine bodyPost_ret (v := .tuple #[vE rk rn rt, .int .i64 re]) (by simp [results, Tryz.results26, go_sem, vE, *]) rfl ?_
          exact ⟨rfl, below_put3 (below_then HBW.out HB9.out) hg0 _ _ _⟩
        · obtain ⟨k, rfl⟩ : ∃ m, k = m + 1 := ⟨k - 1, by omega⟩
          rw [show ((k + 1 : Nat) : Int) - 1 = (k : Int) by omega]
          have h2k : 2 * k < pn := by omega
          obtain ⟨b0, o0, hpa, hc0⟩ := HXC.out (2 * k) h2k
          subst hpa
          have hd0 := HIN.out.at (2 * k)
          have hd1 := HIN.out.at (2 * k + 1)
          obtain ⟨D0, hD0⟩ : ∃ d, rd (Ten.dig m) (2 * k) = d := ⟨_, rfl⟩
          obtain ⟨D1, hD1⟩ : ∃ d, rd (Ten.dig m) (2 * k + 1) = d := ⟨_, rfl⟩
          rw [hD0] at hd0 hc0
          rw [hD1] at hd1
          obtain ⟨d00, d01⟩ := hd0
          obtain ⟨d10, d11⟩ := hd1
          have HD1 : Hid (rd (Ten.dig m) (2 * k) = D0 ∧ rd (Ten.dig m) (2 * k + 1) = D1) := Lib.hid ⟨hD0, hD1⟩
          obtain ⟨t, htt⟩ : ∃ t, 10 * (10 * s + D1.toNat) + D0.toNat = t := ⟨_, rfl⟩
          have ht : Hid (10 * (10 * s + D1.toNat) + D0.toNat = t) := Lib.hid htt
          have i0 : (2 : Int) * (k : Int) < (pn : Int) := by omega
          have i0n : 0 ≤ (2 : Int) * (k : Int) := by omega
          have i0t : ((2 : Int) * (k : Int)).toNat = 2 * k := by omega
          have x0 := (HCX.out.below HBR.out).x0; have x1 := (HCX.out.below HBR.out).x1
          clear htt hD0
          by_cases hh : 2 * k + 1 < pn
          · obtain ⟨b1, o1, hpa, hc1⟩ := HXC.out (2 * k + 1) hh
            cases hpa
            rw [hD1] at hc1
            have g1 := cell_on HBR.out hc1
            have i1 : (2 : Int) * (k : Int) + 1 < (pn : Int) := by omega
            have i1d : decide ((2 : Int) * (k : Int) + 1 < (pn : Int)) = true := by simp; omega
            have i1t : ((2 : Int) * (k : Int) + 1).toNat = 2 * k + 1 := by omega
            clear hD1
            go_wp2_with fail
            refine (r_shifted _ s (D1) _ H7.out (by have := (Hle.out _ _ _ HRt.out).2; omega) d10 d11).mono ?_
            rintro e w2 ⟨S1v, rfl, S1h, hb⟩
            have S1 := Lib.hid S1h
            replace H6 := Lib.hid (H6.out.below hb)
            replace HBR := Lib.hid (HBR.out.trans (hb.mono HBR.out.size))
            clear hb S1h
            have x0 := (HCX.out.below HBR.out).x0; have x1 := (HCX.out.below HBR.out).x1
            have g0 := cell_on HBR.out hc0
            go_wp2_with fail
            refine (r_shifted _ _ D0 _ S1.out (Nat.le_trans (shift_len (N := 400) ((Hle.out _ _ _ HRt.out).2) (by omega)) (by decide)) d00 d01).mono ?_
            rintro e w3 ⟨S2v, rfl, S2h, hb⟩
            have S2 := Lib.hid S2h
            replace H6 := Lib.hid (H6.out.below hb)
            replace HBR := Lib.hid (HBR.out.trans (hb.mono HBR.out.size))
            clear hb S2h
            clear x0 x1 g0
            have HT : Hid (RT w3 S2v t) := Lib.hid (by rw [← ht.out]; exact S2.out)
            clear S1 S2
            go_wp2_with fail
            refine (r_plus _ _ r r _ H6.out H6.out (by have := (Hle.out _ _ _ HRt.out).1; omega) (by have := (Hle.out _ _ _ HRt.out).1; omega)).mono ?_
            rintro e w4 ⟨S3v, rfl, S3h, hb⟩
            have S3 := Lib.hid S3h
            replace H6 := Lib.hid (H6.out.below hb)
            replace HT := Lib.hid (HT.out.below hb)
            replace HBR := Lib.hid (HBR.out.trans (hb.mono HBR.out.size))
            clear hb S3h
            go_wp2_with fail
            refine (r_shifted _ (r + r) 0 _ S3.out (by have := plus_len (Hle.out _ _ _ HRt.out).1 (Hle.out _ _ _ HRt.out).1; omega) (by omega) (by omega)).mono ?_
            rintro e w5 ⟨S4v, rfl, S4h, hb⟩
            have S4 := Lib.hid S4h
            replace H6 := Lib.hid (H6.out.below hb)
            replace HT := Lib.hid (HT.out.below hb)
            replace HBR := Lib.hid (HBR.out.trans (hb.mono HBR.out.size))
            clear hb S4h
            have HTW : Hid (RT w5 S4v (20 * r)) := Lib.hid (by have h := S4.out; rw [show 10 * (r + r) + (0 : Int).toNat = 20 * r by simp; omega] at h; exact h)
            clear S3 S4
            go_wp2_with fail
            go_loopw [11] (fun dv wr => ∃ dd : Nat, dv = .int .i64 (dd : Int) ∧ dd ≤ 9 ∧ Hid (dd = 9 ∨ t < (20 * r + (dd + 1)) * (dd + 1)) ∧ Hid (RT wr u6 r) ∧ Hid (RT wr S2v t) ∧ Hid (RT wr S4v (20 * r)) ∧ Hid (Below X.heap.size X wr)) (fun dv _ => (RowKit.intOf dv).toNat)
            case atStart => exact ⟨9, rfl, by omega, Lib.hid (.inl rfl), H6, HT, HTW, HBR⟩
            case round =>
              clear H6 HT HTW HBR
              obtain ⟨dd, rfl, hd9, HD, H6, HT, HTW, HBR⟩ := hrel
              have hLr : Hid ((Ten.dig (20 * r)).length ≤ 402) := Lib.hid (tw_len (Hle.out _ _ _ HRt.out).1)
              go_wp2_with fail
              refine (r_small (dd : Int) _ (by omega) (by omega)).mono ?_
              rintro e w6 ⟨P1v, rfl, P1h, hb⟩
              have P1 := Lib.hid P1h
              replace H6 := Lib.hid (H6.out.below hb)
              replace HT := Lib.hid (HT.out.below hb)
              replace HTW := Lib.hid (HTW.out.below hb)
              replace HBR := Lib.hid (HBR.out.trans (hb.mono HBR.out.size))
              obtain ⟨P1a, P1n, P1c, rfl, _⟩ := P1h.parts
              replace P1 : Hid (RT w6 (.slice P1a P1n P1c) dd) := Lib.hid (by obtain ⟨s, e, h⟩ := P1.out; cases e; exact h)
              clear hb P1h
              generalize decide ((dd : Int) < 0) = P1b at *
              go_wp2_with fail
              refine (r_plus _ _ (20 * r) dd _ HTW.out P1.out (by have := hLr.out; omega) (by have := dd_len hd9; omega)).mono ?_
              rintro e w7 ⟨P2v, rfl, P2h, hb⟩
              have P2 := Lib.hid P2h
              replace H6 := Lib.hid (H6.out.below hb)
              replace HT := Lib.hid (HT.out.below hb)
              replace HTW := Lib.hid (HTW.out.below hb)
              replace HBR := Lib.hid (HBR.out.trans (hb.mono HBR.out.size))
              clear hb P2h
              clear P1
              go_wp2_with fail
              refine (r_small (dd : Int) _ (by omega) (by omega)).mono ?_
              rintro e w8 ⟨P3v, rfl, P3h, hb⟩
              have P3 := Lib.hid P3h
              replace H6 := Lib.hid (H6.out.below hb)
              replace HT := Lib.hid (HT.out.below hb)
              replace HTW := Lib.hid (HTW.out.below hb)
              replace P2 := Lib.hid (P2.out.below hb)
              replace HBR := Lib.hid (HBR.out.trans (hb.mono HBR.out.size))
              obtain ⟨P3a, P3n, P3c, rfl, _⟩ := P3h.parts
              replace P3 : Hid (RT w8 (.slice P3a P3n P3c) dd) := Lib.hid (by obtain ⟨s, e, h⟩ := P3.out; cases e; exact h)
              clear hb P3h
              generalize decide ((dd : Int) < 0) = P3b at *
              go_wp2_with fail
              refine (r_times _ _ (20 * r + dd) dd _ P2.out P3.out (by have := plus_len (N := 2000) (by have := hLr.out; omega : (Ten.dig (20 * r)).length ≤ 2000) (by have := dd_len hd9; omega : (Ten.dig dd).length ≤ 2000); omega) (by have := dd_len hd9; omega)).mono ?_
              rintro e w9 ⟨P4v, rfl, P4h, hb⟩
              have P4 := Lib.hid P4h
              replace H6 := Lib.hid (H6.out.below hb)
              replace HT := Lib.hid (HT.out.below hb)
              replace HTW := Lib.hid (HTW.out.below hb)
              replace HBR := Lib.hid (HBR.out.trans (hb.mono HBR.out.size))
              clear hb P4h
              clear P2 P3
              go_wp2_with fail
              refine (r_order _ _ ((20 * r + dd) * dd) t _ P4.out HT.out).mono ?_
              rintro e w10 ⟨rfl, hb⟩
              replace H6 := Lib.hid (H6.out.below hb)
              replace HT := Lib.hid (HT.out.below hb)
              replace HTW := Lib.hid (HTW.out.below hb)
              replace HBR := Lib.hid (HBR.out.trans (hb.mono HBR.out.size))
              clear hb P4
              by_cases hgt : t < (20 * r + dd) * dd
              · have hd0 : dd ≠ 0 := by intro e; subst e; simp at hgt
                obtain ⟨de, rfl⟩ : ∃ de, dd = de + 1 := ⟨dd - 1, by omega⟩
                have hcmp : cmpI (((20 * r + (de + 1)) * (de + 1) : Nat) : Int) (t : Int) = 1 := by unfold cmpI; rw [if_neg (by omega), if_pos (by omega)]
                rw [hcmp]
                have HG := Lib.hid hgt
                clear hcmp hgt
                go_wp2_with fail
                go_roundw
                case rel => exact ⟨de, by go_num, by omega, Lib.hid (.inr HG.out), H6, HT, HTW, HBR⟩
                case measure => simp [RowKit.intOf] <;> omega
              · have hle : (20 * r + dd) * dd ≤ t := by omega
                obtain ⟨c, hc, hc0⟩ : ∃ c : Int, cmpI (((20 * r + dd) * dd : Nat) : Int) (t : Int) = c ∧ c ≤ 0 := ⟨_, rfl, cmpI_le (by omega)⟩
                rw [hc]
                have hcd : decide (0 < c) = false := by simp; omega
                have HNX := Lib.hid (HRt.out.next dd hd9 t (by have := ht.out; have := HD1.out; omega) hle HD.out)
                have HLE := Lib.hid hle
                have htl := Lib.hid (show (Ten.dig t).length ≤ 402 from by rw [← ht.out]; exact shift_len (N := 401) (shift_len (N := 400) ((Hle.out _ _ _ HRt.out).2) (by omega)) (by omega))
                clear hc hgt hle
                go_wp2_with fail
                refine (r_small (dd : Int) _ (by omega) (by omega)).mono ?_
                rintro e w11 ⟨Q1v, rfl, Q1h, hb⟩
                have Q1 := Lib.hid Q1h
                replace H6 := Lib.hid (H6.out.below hb)
                replace HT := Lib.hid (HT.out.below hb)
                replace HTW := Lib.hid (HTW.out.below hb)
                replace HBR := Lib.hid (HBR.out.trans (hb.mono HBR.out.size))
                obtain ⟨Q1a, Q1n, Q1c, rfl, _⟩ := Q1h.parts
                replace Q1 : Hid (RT w11 (.slice Q1a Q1n Q1c) dd) := Lib.hid (by obtain ⟨s, e, h⟩ := Q1.out; cases e; exact h)
                clear hb Q1h
                generalize decide ((dd : Int) < 0) = Q1b at *
                go_wp2_with fail
                refine (r_plus _ _ (20 * r) dd _ HTW.out Q1.out (by have := hLr.out; omega) (by have := dd_len hd9; omega)).mono ?_
                rintro e w12 ⟨Q2v, rfl, Q2h, hb⟩
                have Q2 := Lib.hid Q2h
                replace H6 := Lib.hid (H6.out.below hb)
                replace HT := Lib.hid (HT.out.below hb)
                replace HBR := Lib.hid (HBR.out.trans (hb.mono HBR.out.size))
                clear hb Q2h
                clear Q1
                go_wp2_with fail
                refine (r_small (dd : Int) _ (by omega) (by omega)).mono ?_
                rintro e w13 ⟨Q3v, rfl, Q3h, hb⟩
                have Q3 := Lib.hid Q3h
                replace H6 := Lib.hid (H6.out.below hb)
                replace HT := Lib.hid (HT.out.below hb)
                replace Q2 := Lib.hid (Q2.out.below hb)
                replace HBR := Lib.hid (HBR.out.trans (hb.mono HBR.out.size))
                obtain ⟨Q3a, Q3n, Q3c, rfl, _⟩ := Q3h.parts
                replace Q3 : Hid (RT w13 (.slice Q3a Q3n Q3c) dd) := Lib.hid (by obtain ⟨s, e, h⟩ := Q3.out; cases e; exact h)
                clear hb Q3h
                generalize decide ((dd : Int) < 0) = Q3b at *
                go_wp2_with fail
                refine (r_times _ _ (20 * r + dd) dd _ Q2.out Q3.out (by have := plus_len (N := 2000) (by have := hLr.out; omega : (Ten.dig (20 * r)).length ≤ 2000) (by have := dd_len hd9; omega : (Ten.dig dd).length ≤ 2000); omega) (by have := dd_len hd9; omega)).mono ?_
                rintro e w14 ⟨Q4v, rfl, Q4h, hb⟩
                have Q4 := Lib.hid Q4h
                replace H6 := Lib.hid (H6.out.below hb)
                replace HT := Lib.hid (HT.out.below hb)
                replace HBR := Lib.hid (HBR.out.trans (hb.mono HBR.out.size))
                clear hb Q4h
                clear Q2 Q3
                go_wp2_with fail
                refine (r_minus _ _ t ((20 * r + dd) * dd) _ HT.out Q4.out (by have := htl.out; omega) HLE.out).mono ?_
                rintro e w15 ⟨Q5v, rfl, Q5h, hb⟩
                have Q5 := Lib.hid Q5h
                replace H6 := Lib.hid (H6.out.below hb)
                replace HBR := Lib.hid (HBR.out.trans (hb.mono HBR.out.size))
                clear hb Q5h
                clear Q4
                go_wp2_with fail
                refine (r_shifted _ r (dd : Int) _ H6.out (by have := (Hle.out _ _ _ HRt.out).1; omega) (by omega) (by omega)).mono ?_
                rintro e w16 ⟨Q6v, rfl, Q6h, hb⟩
                have Q6 := Lib.hid Q6h
                replace Q5 := Lib.hid (Q5.out.below hb)
                replace HBR := Lib.hid (HBR.out.trans (hb.mono HBR.out.size))
                clear hb Q6h
                go_wp2_with fail
                exact ⟨⟨k, _, _, rfl, by omega, HNX, Lib.hid (by have h := Q6.out; rw [Int.toNat_natCast] at h; exact h), Q5, HBR⟩, by simp [RowKit.intOf] <;> omega⟩
          · have hz : D1 = 0 := by rw [← hD1]; exact rd_ge (by rw [HL.out]; omega)
            subst hz
            have i1 : ¬ (2 : Int) * (k : Int) + 1 < (pn : Int) := by omega
            have i1d : decide ((2 : Int) * (k : Int) + 1 < (pn : Int)) = false := by simp; omega
            clear hD1
            go_wp2_with fail
            refine (r_shifted _ s (0) _ H7.out (by have := (Hle.out _ _ _ HRt.out).2; omega) (by omega) (by omega)).mono ?_
            rintro e w2 ⟨S1v, rfl, S1h, hb⟩
            have S1 := Lib.hid S1h
            replace H6 := Lib.hid (H6.out.below hb)
            replace HBR := Lib.hid (HBR.out.trans (hb.mono HBR.out.size))
            clear hb S1h
            have x0 := (HCX.out.below HBR.out).x0; have x1 := (HCX.out.below HBR.out).x1
            have g0 := cell_on HBR.out hc0
            go_wp2_with fail
            refine (r_shifted _ _ D0 _ S1.out (Nat.le_trans (shift_len (N := 400) ((Hle.out _ _ _ HRt.out).2) (by omega)) (by decide)) d00 d01).mono ?_
            rintro e w3 ⟨S2v, rfl, S2h, hb⟩
            have S2 := Lib.hid S2h
            replace H6 := Lib.hid (H6.out.below hb)
            replace HBR := Lib.hid (HBR.out.trans (hb.mono HBR.out.size))
            clear hb S2h
            clear x0 x1 g0
            have HT : Hid (RT w3 S2v t) := Lib.hid (by rw [← ht.out]; exact S2.out)
            clear S1 S2
            go_wp2_with fail
            refine (r_plus _ _ r r _ H6.out H6.out (by have := (Hle.out _ _ _ HRt.out).1; omega) (by have := (Hle.out _ _ _ HRt.out).1; omega)).mono ?_
            rintro e w4 ⟨S3v, rfl, S3h, hb⟩
            have S3 := Lib.hid S3h
            replace H6 := Lib.hid (H6.out.below hb)
            replace HT := Lib.hid (HT.out.below hb)
            replace HBR := Lib.hid (HBR.out.trans (hb.mono HBR.out.size))
            clear hb S3h
            go_wp2_with fail
            refine (r_shifted _ (r + r) 0 _ S3.out (by have := plus_len (Hle.out _ _ _ HRt.out).1 (Hle.out _ _ _ HRt.out).1; omega) (by omega) (by omega)).mono ?_
            rintro e w5 ⟨S4v, rfl, S4h, hb⟩
            have S4 := Lib.hid S4h
            replace H6 := Lib.hid (H6.out.below hb)
            replace HT := Lib.hid (HT.out.below hb)
            replace HBR := Lib.hid (HBR.out.trans (hb.mono HBR.out.size))
            clear hb S4h
            have HTW : Hid (RT w5 S4v (20 * r)) := Lib.hid (by have h := S4.out; rw [show 10 * (r + r) + (0 : Int).toNat = 20 * r by simp; omega] at h; exact h)
            clear S3 S4
            go_wp2_with fail
            go_loopw [11] (fun dv wr => ∃ dd : Nat, dv = .int .i64 (dd : Int) ∧ dd ≤ 9 ∧ Hid (dd = 9 ∨ t < (20 * r + (dd + 1)) * (dd + 1)) ∧ Hid (RT wr u6 r) ∧ Hid (RT wr S2v t) ∧ Hid (RT wr S4v (20 * r)) ∧ Hid (Below X.heap.size X wr)) (fun dv _ => (RowKit.intOf dv).toNat)
            case atStart => exact ⟨9, rfl, by omega, Lib.hid (.inl rfl), H6, HT, HTW, HBR⟩
            case round =>
              clear H6 HT HTW HBR
              obtain ⟨dd, rfl, hd9, HD, H6, HT, HTW, HBR⟩ := hrel
              have hLr : Hid ((Ten.dig (20 * r)).length ≤ 402) := Lib.hid (tw_len (Hle.out _ _ _ HRt.out).1)
              go_wp2_with fail
              refine (r_small (dd : Int) _ (by omega) (by omega)).mono ?_
              rintro e w6 ⟨P1v, rfl, P1h, hb⟩
              have P1 := Lib.hid P1h
              replace H6 := Lib.hid (H6.out.below hb)
              replace HT := Lib.hid (HT.out.below hb)
              replace HTW := Lib.hid (HTW.out.below hb)
              replace HBR := Lib.hid (HBR.out.trans (hb.mono HBR.out.size))
              obtain ⟨P1a, P1n, P1c, rfl, _⟩ := P1h.parts
              replace P1 : Hid (RT w6 (.slice P1a P1n P1c) dd) := Lib.hid (by obtain ⟨s, e, h⟩ := P1.out; cases e; exact h)
              clear hb P1h
              generalize decide ((dd : Int) < 0) = P1b at *
              go_wp2_with fail
              refine (r_plus _ _ (20 * r) dd _ HTW.out P1.out (by have := hLr.out; omega) (by have := dd_len hd9; omega)).mono ?_
              rintro e w7 ⟨P2v, rfl, P2h, hb⟩
              have P2 := Lib.hid P2h
              replace H6 := Lib.hid (H6.out.below hb)
              replace HT := Lib.hid (HT.out.below hb)
              replace HTW := Lib.hid (HTW.out.below hb)
              replace HBR := Lib.hid (HBR.out.trans (hb.mono HBR.out.size))
              clear hb P2h
              clear P1
              go_wp2_with fail
              refine (r_small (dd : Int) _ (by omega) (by omega)).mono ?_
              rintro e w8 ⟨P3v, rfl, P3h, hb⟩
              have P3 := Lib.hid P3h
              replace H6 := Lib.hid (H6.out.below hb)
              replace HT := Lib.hid (HT.out.below hb)
              replace HTW := Lib.hid (HTW.out.below hb)
              replace P2 := Lib.hid (P2.out.below hb)
              replace HBR := Lib.hid (HBR.out.trans (hb.mono HBR.out.size))
              obtain ⟨P3a, P3n, P3c, rfl, _⟩ := P3h.parts
              replace P3 : Hid (RT w8 (.slice P3a P3n P3c) dd) := Lib.hid (by obtain ⟨s, e, h⟩ := P3.out; cases e; exact h)
              clear hb P3h
              generalize decide ((dd : Int) < 0) = P3b at *
              go_wp2_with fail
              refine (r_times _ _ (20 * r + dd) dd _ P2.out P3.out (by have := plus_len (N := 2000) (by have := hLr.out; omega : (Ten.dig (20 * r)).length ≤ 2000) (by have := dd_len hd9; omega : (Ten.dig dd).length ≤ 2000); omega) (by have := dd_len hd9; omega)).mono ?_
              rintro e w9 ⟨P4v, rfl, P4h, hb⟩
              have P4 := Lib.hid P4h
              replace H6 := Lib.hid (H6.out.below hb)
              replace HT := Lib.hid (HT.out.below hb)
              replace HTW := Lib.hid (HTW.out.below hb)
              replace HBR := Lib.hid (HBR.out.trans (hb.mono HBR.out.size))
              clear hb P4h
              clear P2 P3
              go_wp2_with fail
              refine (r_order _ _ ((20 * r + dd) * dd) t _ P4.out HT.out).mono ?_
              rintro e w10 ⟨rfl, hb⟩
              replace H6 := Lib.hid (H6.out.below hb)
              replace HT := Lib.hid (HT.out.below hb)
              replace HTW := Lib.hid (HTW.out.below hb)
              replace HBR := Lib.hid (HBR.out.trans (hb.mono HBR.out.size))
              clear hb P4
              by_cases hgt : t < (20 * r + dd) * dd
              · have hd0 : dd ≠ 0 := by intro e; subst e; simp at hgt
                obtain ⟨de, rfl⟩ : ∃ de, dd = de + 1 := ⟨dd - 1, by omega⟩
                have hcmp : cmpI (((20 * r + (de + 1)) * (de + 1) : Nat) : Int) (t : Int) = 1 := by unfold cmpI; rw [if_neg (by omega), if_pos (by omega)]
                rw [hcmp]
                have HG := Lib.hid hgt
                clear hcmp hgt
                go_wp2_with fail
                go_roundw
                case rel => exact ⟨de, by go_num, by omega, Lib.hid (.inr HG.out), H6, HT, HTW, HBR⟩
                case measure => simp [RowKit.intOf] <;> omega
              · have hle : (20 * r + dd) * dd ≤ t := by omega
                obtain ⟨c, hc, hc0⟩ : ∃ c : Int, cmpI (((20 * r + dd) * dd : Nat) : Int) (t : Int) = c ∧ c ≤ 0 := ⟨_, rfl, cmpI_le (by omega)⟩
                rw [hc]
                have hcd : decide (0 < c) = false := by simp; omega
                have HNX := Lib.hid (HRt.out.next dd hd9 t (by have := ht.out; have := HD1.out; omega) hle HD.out)
                have HLE := Lib.hid hle
                have htl := Lib.hid (show (Ten.dig t).length ≤ 402 from by rw [← ht.out]; exact shift_len (N := 401) (shift_len (N := 400) ((Hle.out _ _ _ HRt.out).2) (by omega)) (by omega))
                clear hc hgt hle
                go_wp2_with fail
                refine (r_small (dd : Int) _ (by omega) (by omega)).mono ?_
                rintro e w11 ⟨Q1v, rfl, Q1h, hb⟩
                have Q1 := Lib.hid Q1h
                replace H6 := Lib.hid (H6.out.below hb)
                replace HT := Lib.hid (HT.out.below hb)
                replace HTW := Lib.hid (HTW.out.below hb)
                replace HBR := Lib.hid (HBR.out.trans (hb.mono HBR.out.size))
                obtain ⟨Q1a, Q1n, Q1c, rfl, _⟩ := Q1h.parts
                replace Q1 : Hid (RT w11 (.slice Q1a Q1n Q1c) dd) := Lib.hid (by obtain ⟨s, e, h⟩ := Q1.out; cases e; exact h)
                clear hb Q1h
                generalize decide ((dd : Int) < 0) = Q1b at *
                go_wp2_with fail
                refine (r_plus _ _ (20 * r) dd _ HTW.out Q1.out (by have := hLr.out; omega) (by have := dd_len hd9; omega)).mono ?_
                rintro e w12 ⟨Q2v, rfl, Q2h, hb⟩
                have Q2 := Lib.hid Q2h
                replace H6 := Lib.hid (H6.out.below hb)
                replace HT := Lib.hid (HT.out.below hb)
                replace HBR := Lib.hid (HBR.out.trans (hb.mono HBR.out.size))
                clear hb Q2h
                clear Q1
                go_wp2_with fail
                refine (r_small (dd : Int) _ (by omega) (by omega)).mono ?_
                rintro e w13 ⟨Q3v, rfl, Q3h, hb⟩
                have Q3 := Lib.hid Q3h
                replace H6 := Lib.hid (H6.out.below hb)
                replace HT := Lib.hid (HT.out.below hb)
                replace Q2 := Lib.hid (Q2.out.below hb)
                replace HBR := Lib.hid (HBR.out.trans (hb.mono HBR.out.size))
                obtain ⟨Q3a, Q3n, Q3c, rfl, _⟩ := Q3h.parts
                replace Q3 : Hid (RT w13 (.slice Q3a Q3n Q3c) dd) := Lib.hid (by obtain ⟨s, e, h⟩ := Q3.out; cases e; exact h)
                clear hb Q3h
                generalize decide ((dd : Int) < 0) = Q3b at *
                go_wp2_with fail
                refine (r_times _ _ (20 * r + dd) dd _ Q2.out Q3.out (by have := plus_len (N := 2000) (by have := hLr.out; omega : (Ten.dig (20 * r)).length ≤ 2000) (by have := dd_len hd9; omega : (Ten.dig dd).length ≤ 2000); omega) (by have := dd_len hd9; omega)).mono ?_
                rintro e w14 ⟨Q4v, rfl, Q4h, hb⟩
                have Q4 := Lib.hid Q4h
                replace H6 := Lib.hid (H6.out.below hb)
                replace HT := Lib.hid (HT.out.below hb)
                replace HBR := Lib.hid (HBR.out.trans (hb.mono HBR.out.size))
                clear hb Q4h
                clear Q2 Q3
                go_wp2_with fail
                refine (r_minus _ _ t ((20 * r + dd) * dd) _ HT.out Q4.out (by have := htl.out; omega) HLE.out).mono ?_
                rintro e w15 ⟨Q5v, rfl, Q5h, hb⟩
                have Q5 := Lib.hid Q5h
                replace H6 := Lib.hid (H6.out.below hb)
                replace HBR := Lib.hid (HBR.out.trans (hb.mono HBR.out.size))
                clear hb Q5h
                clear Q4
                go_wp2_with fail
                refine (r_shifted _ r (dd : Int) _ H6.out (by have := (Hle.out _ _ _ HRt.out).1; omega) (by omega) (by omega)).mono ?_
                rintro e w16 ⟨Q6v, rfl, Q6h, hb⟩
                have Q6 := Lib.hid Q6h
                replace Q5 := Lib.hid (Q5.out.below hb)
                replace HBR := Lib.hid (HBR.out.trans (hb.mono HBR.out.size))
                clear hb Q6h
                go_wp2_with fail
                exact ⟨⟨k, _, _, rfl, by omega, HNX, Lib.hid (by have h := Q6.out; rw [Int.toNat_natCast] at h; exact h), Q5, HBR⟩, by simp [RowKit.intOf] <;> omega⟩
end Go.Proofs.YthjpbbbmnmhmmaaGreatDoor

namespace Go.Proofs.YthjpbbbmnmhmmaaGreatDoor
open Go.RowKit Go.Shelf Go.Lib

theorem rgcd_pub (a b : Vl) (ha : a.ok) (hb : b.ok) (w : World) (hE : Env w) : Ans Tryz.prog 24 #[a.val, b.val] w (pr (gcdR a b)) := r_Gcd a b ha hb w
theorem rpowV (a : Vl) (n : Int) (ha : a.ok) (w : World) (hE : Env w) : Ans Tryz.prog 22 #[a.val, .int .i64 n] w (pr (powR a n)) := r_Pow a n ha w
theorem rrootV (a : Vl) (ha : a.ok) (w : World) (hE : Env w) : Ans Tryz.prog 26 #[a.val] w (pr (rootR a)) := r_Root a ha w
end Go.Proofs.YthjpbbbmnmhmmaaGreatDoor
