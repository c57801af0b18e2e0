import Derived.Test.YthjpbbbmnmhmmaaGreatDoorA5
set_option linter.unusedVariables false
set_option linter.unusedSimpArgs false
namespace Go.Proofs.YthjpbbbmnmhmmaaGreatDoor
open Go.RowKit Go.Shelf
attribute [local go_sem] Oper.semAt_some

/-- A function value that tells the ints of a list by their places, in every later world. -/
def FnI (W : World) (fv : Value) (s : List Int) : Prop :=
  ∃ g lb, fv = .func (.func g) #[] lb ∧ (∀ args w, (callFunc g args).run Tryz.prog w = .ok (.enter g args) w) ∧
    ∀ (W' : World), Below W.heap.size W W' → ∀ k, k < s.length → Calls Tryz.prog g (#[.int .i64 (k : Int)] ++ lb) W' fun e w'' => e = .returned (.int .i64 (rd s k)) ∧ ∃ n, w'' = W'.drewN n

theorem drop_rd {s : List Int} {k : Nat} (h : k < s.length) : s.drop k = rd s k :: s.drop (k + 1) := by
  rw [List.drop_eq_getElem_cons h, rd_lt h]

def Small (s : List Int) : Prop := ∀ x ∈ s, -1000000000000000 ≤ x ∧ x ≤ 1000000000000000
theorem Small.rd {s : List Int} (h : Small s) {k : Nat} (hk : k < s.length) : -1000000000000000 ≤ rd s k ∧ rd s k ≤ 1000000000000000 := by
  rw [rd_lt hk]; exact h _ (List.getElem_mem hk)

theorem outC_step (c : Int) (s : List Int) (k : Nat) (h : k < s.length) : outC c (s.drop k) = (c + rd s k) % 1000000 :: outC ((c + rd s k) / 1000000) (s.drop (k + 1)) := by
  rw [drop_rd h]; rfl

set_option maxRecDepth 100000 in
set_option maxHeartbeats 4000000 in
theorem carried1_calls (n : Nat) (hn : 2 ≤ n) (l Bn n₀ : Nat) (fv : Value) (s : List Int) (J Jx : List Int → World → Prop)
    (hY : ∀ pre x W, J pre W → pre.length < (outC 0 s).length → YieldAt Fence.wide (n - 1) Tryz.prog l #[.int .i64 x] W fun e W' =>
      (e = .returned (.bool true) ∧ J (pre ++ [x]) W' ∧ Below n₀ W W') ∨ (e = .returned (.bool false) ∧ Jx (pre ++ [x]) W'))
    (W : World) (hJ : AbidesFrom W.heap.size J) (hBn : W.cell? ⟨Bn, 0, none⟩ = some (.int .i64 (s.length : Int))) (hBs : W.cell? ⟨Bn + 1, 0, none⟩ = some fv)
    (w0 : World) (hn₀ : n₀ = w0.heap.size) (hB1 : Bn + 1 < n₀) (hw0 : Below n₀ w0 W) (hF : FnI w0 fv s) (hs : Small s) (hl : s.length ≤ 100000) (hv : 0 ≤ val s) (h0 : J [] W) :
    CallsIn Fence.wide n Tryz.prog 107 #[.func (.yield l) #[] #[], .pointer (some ⟨Bn, 0, none⟩), .pointer (some ⟨Bn + 1, 0, none⟩)] W fun e W' => (∃ v, e = .returned v) ∧
      ((∃ ys, ys = outC 0 s ∧ J ys W') ∨ (∃ pre, pre <+: outC 0 s ∧ Jx pre W')) := by
  obtain ⟨g, lb, rfl, hent, hcall⟩ := hF
  have HE := Lib.hid hent; have HC := Lib.hid hcall; have HN := Lib.hid hn₀; have HS := Lib.hid hs; have HV := Lib.hid hv
  have hol := outC_len 0 s (by omega) hs
  clear hent hcall hn₀ hs hv
  refine callsIn_of_wp Tryz.func107 rfl trivial ?_ rfl
  simp only [Tryz.ntmps107, List.size_toArray, List.length_cons, List.length_nil, Nat.reduceAdd, Nat.reduceSub, Array.replicate_succ, Array.replicate_zero, List.push_toArray, List.append_toArray, List.nil_append, List.cons_append]
  gi_wp2
  gi_loopw [4, 5] (fun c i wr => ∃ (k : Nat) (cc : Int) (pre : List Int), i = .int .i64 k ∧ c = .int .i64 cc ∧ Hid (pre.length = k) ∧ Hid (outC 0 s = pre ++ outC cc (s.drop k)) ∧ J pre wr ∧ Below n₀ W wr ∧ -1000000000000000 ≤ cc ∧ cc ≤ 1000000000000000 ∧ Hid (0 ≤ cc + val (s.drop k)))
    (fun _ i _ => (outC 0 s).length - (intOf i).toNat)
  case atStart => exact ⟨0, 0, [], rfl, rfl, Lib.hid rfl, Lib.hid rfl, h0, Below.refl _ _, by omega, by omega, Lib.hid (by simpa using HV.out)⟩
  case round =>
    obtain ⟨k, cc, pre, rfl, rfl, hpl, hout, hJs, hnx, hc1, hc2, hcv⟩ := hrel
    have hb1 : wr.cell? ⟨Bn, 0, none⟩ = some (.int .i64 (s.length : Int)) := (hnx.cell (p := ⟨Bn, 0, none⟩) (by simp; omega)).trans hBn
    have hb2 : wr.cell? ⟨Bn + 1, 0, none⟩ = some (.func (.func g) #[] lb) := (hnx.cell (p := ⟨Bn + 1, 0, none⟩) (by simp; omega)).trans hBs
    by_cases hlt : k < s.length
    · have hsm := HS.out.rd hlt
      have hk2 : k ≤ 100000 := by omega
      have hcg := fun args w => HE.out args w
      gi_wp2_with fail
      refine ⟨trivial, fun _ => by omega, callsIn_wide.2 ((HC.out wr (by rw [← HN.out]; exact hw0.trans hnx) k hlt).mono ?_)⟩
      rintro e w'' ⟨rfl, nn, rfl⟩
      obtain ⟨w2, hw2, hb2'⟩ := drew_fresh wr nn
      have hJ2 : J pre w2 := by rw [← hw2]; exact hJ pre wr _ none hJs (by rw [hw2]; exact ⟨hb2'.os, hb2'.tape, hb2'.output, hb2'.size, fun i hi _ => hb2'.block i hi⟩) (fun r e => by cases e)
      have hnx2 : Below n₀ W w2 := by rw [← hw2]; exact drewN_on hnx _
      rw [hw2]
      clear hw2
      have hcs := outC_step cc s k hlt
      have hT := Lib.hid hcs
      have hlen2 : pre.length < (outC 0 s).length := by rw [hout.out, hcs, List.length_append, List.length_cons]; omega
      have hbd : -1000000000000000 ≤ (cc + rd s k) / 1000000 ∧ (cc + rd s k) / 1000000 ≤ 1000000000000000 := by omega
      have hcv2 : Hid (0 ≤ (cc + rd s k) / 1000000 + val (s.drop (k + 1))) := Lib.hid (by have := hcv.out; rw [drop_rd hlt] at this; simp only [val] at this; omega)
      clear hcs
      have HY := Lib.hid (hY pre ((cc + rd s k) % 1000000) w2 hJ2 hlen2)
      clear hY
      have HF := Lib.hid (go_floor (cc + rd s k))
      have key : ∀ (Z : Prop), Z → Z := fun _ z => z
      have way1 : Hid ((cc + rd s k).tmod 1000000 < 0 → wrap64 ((cc + rd s k).tmod 1000000 + 1000000) = (cc + rd s k) % 1000000 ∧ wrap64 ((cc + rd s k).tdiv 1000000 - 1) = (cc + rd s k) / 1000000) := Lib.hid fun h => by
        have := HF.out; rw [if_pos h, if_pos h] at this
        rw [this.1, this.2]; unfold wrap64; omega
      have way2 : Hid (0 ≤ (cc + rd s k).tmod 1000000 → (cc + rd s k).tmod 1000000 = (cc + rd s k) % 1000000 ∧ (cc + rd s k).tdiv 1000000 = (cc + rd s k) / 1000000) := Lib.hid fun h => by
        have := HF.out; rw [if_neg (by omega), if_neg (by omega)] at this; exact this
      gi_wp2_with fail
      all_goals
        first
          | (have hx : (cc + rd s k).tmod 1000000 < 0 := by assumption
             rw [(way1.out hx).1, (way1.out hx).2])
          | (have hx : 0 ≤ (cc + rd s k).tmod 1000000 := by assumption
             rw [(way2.out hx).1, (way2.out hx).2])
        obtain ⟨fn, tmps, assign, body, hy, hR⟩ := HY.out
        rw [hy]
        gi_wp2_with fail
        refine ⟨fun _ => by omega, hR.mono ?_⟩
        clear hy hR
        rintro e W3 (⟨rfl, hJ3, hk3⟩ | ⟨rfl, hJx3⟩)
        · gi_wp2_with fail
          go_roundw
          case rel => exact ⟨k + 1, _, pre ++ [(cc + rd s k) % 1000000], by go_num, rfl, Lib.hid (by simp [hpl.out]), Lib.hid (by rw [hout.out, hT.out]; simp), hJ3, hnx2.trans hk3, hbd.1, hbd.2, hcv2⟩
          case measure => have := hpl.out; simp [intOf]; omega
        · gi_wp2_with fail
          refine bodyPost_ret (results_none rfl _ _ _) rfl ?_
          exact ⟨⟨_, rfl⟩, .inr ⟨_, by rw [hout.out, hT.out]; exact ⟨_, List.append_assoc _ _ _⟩, hJx3⟩⟩
    · have hd : s.drop k = [] := List.drop_eq_nil_of_le (by omega)
      have hcn : 0 ≤ cc := by have := hcv.out; rw [hd] at this; simpa [val] using this
      rw [hd] at hout
      obtain ⟨c, rfl⟩ := Int.eq_ofNat_of_zero_le hcn
      have hout' : Hid (outC 0 s = pre ++ dig c) := Lib.hid (by have := hout.out; simpa [outC] using this)
      clear hout hd hcv
      have hk2 : k ≤ 1000000 := by have := hpl.out; have := congrArg List.length hout'.out; rw [List.length_append] at this; omega
      by_cases hc0 : c = 0
      · subst hc0
        gi_wp2_with fail
        go_end0
        exact ⟨⟨_, rfl⟩, .inl ⟨_, rfl, by rw [hout'.out, dig_zero, List.append_nil]; exact hJs⟩⟩
      · have hcb : ((c : Int) != 0) = true := by simp [hc0]
        have hT := Lib.hid (dig_pos hc0)
        have hlen2 : pre.length < (outC 0 s).length := by rw [hout'.out, hT.out, List.length_append, List.length_cons]; omega
        obtain ⟨fn, tmps, assign, body, hy, hR⟩ := hY pre ((c : Int) % 1000000) wr hJs hlen2
        have HR := Lib.hid hR
        clear hR hY
        have H0 := Lib.hid hc0
        clear hc0
        gi_wp2_with fail
        refine ⟨fun _ => by omega, HR.out.mono ?_⟩
        clear hy HR
        rintro e W3 (⟨rfl, hJ3, hk3⟩ | ⟨rfl, hJx3⟩)
        · gi_wp2_with fail
          go_roundw
          case rel => exact ⟨k + 1, ((c / 1000000 : Nat) : Int), pre ++ [(c : Int) % 1000000], by go_num, by go_num, Lib.hid (by simp [hpl.out]), Lib.hid (by rw [hout'.out, hT.out, List.drop_eq_nil_of_le (by omega)]; simp [outC]; rw [show ((c : Int) / 1000000).toNat = c / 1000000 by omega]), hJ3, hnx.trans hk3, by omega, by omega, Lib.hid (by rw [List.drop_eq_nil_of_le (by omega)]; simp [val]; omega)⟩
          case measure => have := hpl.out; simp [intOf]; omega
        · gi_wp2_with fail
          refine bodyPost_ret (results_none rfl _ _ _) rfl ?_
          exact ⟨⟨_, rfl⟩, .inr ⟨_, by rw [hout'.out, hT.out]; exact ⟨dig (c / 1000000), by simp⟩, hJx3⟩⟩

theorem FnI.below {W W' : World} {fv : Value} {s : List Int} (h : FnI W fv s) (hb : Below W.heap.size W W') : FnI W' fv s := by
  obtain ⟨g, lb, e, h1, h2⟩ := h
  exact ⟨g, lb, e, h1, fun W2 hW2 => h2 W2 (below_then hb hW2)⟩

theorem carried_calls (fv : Value) (s : List Int) (N : Nat) (w : World) (hN : s.length = N) (hF : FnI w fv s) (hs : Small s) (hl : s.length ≤ 100000) (hv : 0 ≤ val s) :
    Calls Tryz.prog 80 #[.int .i64 (N : Int), fv] w fun e w' => ∃ iv, e = .returned iv ∧ IterI w'.heap.size w' iv (outC 0 s) ∧ Below w.heap.size w w' := by
  subst hN
  have H := Lib.hid hF
  obtain ⟨g, lb, rfl, _⟩ := hF
  have fin : Hid (IterI (w.heap.size + 2) ((w.alloc (.cells #[.int .i64 (s.length : Int)] 3)).alloc (.cells #[.func (.func g) #[] lb] 101)) (.func (.func 107) #[] #[.pointer (some ⟨w.heap.size, 0, none⟩), .pointer (some ⟨w.heap.size + 1, 0, none⟩)]) (outC 0 s)) := by
    refine Lib.hid ⟨_, _, rfl, enters_of Tryz.func107 (by kernel_rfl) rfl, fun n hn l J Jx W hW hJ _ hY h0 => ?_⟩
    have b1 := (Boxed.new w 3 (.int .i64 (s.length : Int))).alloc (.cells #[.func (.func g) #[] lb] 101)
    have b2 := Boxed.new (w.alloc (.cells #[.int .i64 (s.length : Int)] 3)) 101 (.func (.func g) #[] lb)
    rw [World.size_alloc] at b2
    have hb : Below w.heap.size w ((w.alloc (.cells #[.int .i64 (s.length : Int)] 3)).alloc (.cells #[.func (.func g) #[] lb] 101)) := ((Below.refl _ w).alloc (Nat.le_refl _) _).alloc (by simp) _
    exact carried1_calls n hn l w.heap.size (w.heap.size + 2) (.func (.func g) #[] lb) s J Jx hY W hJ ((hW.cell (p := ⟨w.heap.size, 0, none⟩) (by simp; omega)).trans b1.cell) ((hW.cell (p := ⟨w.heap.size + 1, 0, none⟩) (by simp)).trans b2.cell)
      _ (by simp) (by omega) (hW.mono (by simp)) (H.out.below hb) hs hl hv h0
  have hmf : ∀ (fn : Fn) (first cap : Array Value) (w : World), (Instr.makeFunc fn first cap).run Tryz.prog w = .ok (.func fn first cap) w := fun _ _ _ _ => rfl
  go_enter Tryz.func80, Tryz.ntmps80
  go_wp2_with fail
  go_ret
  exact ⟨_, rfl, by simpa using fin.out, ((Below.refl _ w).alloc (Nat.le_refl _) _).alloc (by simp) _⟩
end Go.Proofs.YthjpbbbmnmhmmaaGreatDoor
