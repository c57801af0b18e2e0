import Derived.Test.YthjpbbbmnmhmmaaGreatDoorA6
set_option linter.unusedVariables false
set_option linter.unusedSimpArgs false
namespace Go.Proofs.YthjpbbbmnmhmmaaGreatDoor
open Go.RowKit Go.Shelf

/-- f 0, .., f (n - 1). -/
def tab (n : Nat) (f : Nat → Int) : List Int := (List.range n).map f
theorem tab_len (n : Nat) (f : Nat → Int) : (tab n f).length = n := by simp [tab]
theorem rd_tab {n k : Nat} (f : Nat → Int) (h : k < n) : rd (tab n f) k = f k := by rw [rd_lt (by rw [tab_len]; exact h)]; simp [tab]
theorem tab_succ (n : Nat) (f : Nat → Int) : tab (n + 1) f = f 0 :: tab n (fun k => f (k + 1)) := by
  simp only [tab, List.range_succ_eq_map, List.map_cons, List.map_map]; rfl
theorem rd_cons_succ (x : Int) (xs : List Int) (k : Nat) : rd (x :: xs) (k + 1) = rd xs k := by simp [rd]
theorem rd_cons_zero (x : Int) (xs : List Int) : rd (x :: xs) 0 = x := by simp [rd]
theorem val_tab_rd (n : Nat) : ∀ xs : List Int, xs.length ≤ n → val (tab n (rd xs)) = val xs := by
  induction n with
  | zero => intro xs h; have : xs = [] := List.eq_nil_of_length_eq_zero (by omega)
            subst this; rfl
  | succ n ih =>
    intro xs h
    rw [tab_succ, val]
    cases xs with
    | nil =>
      have := ih [] (by simp)
      have e : (fun k => rd [] (k + 1)) = rd [] := by funext k; simp [rd]
      rw [e, this]; simp [rd, val]
    | cons x xs =>
      have e : (fun k => rd (x :: xs) (k + 1)) = rd xs := by funext k; rw [rd_cons_succ]
      rw [e, ih xs (by simp at h; omega), rd_cons_zero]; rfl
theorem val_tab_add (n : Nat) : ∀ f g : Nat → Int, val (tab n (fun k => f k + g k)) = val (tab n f) + val (tab n g) := by
  induction n with
  | zero => intro f g; simp [tab, val]
  | succ n ih => intro f g; simp only [tab_succ, val]; rw [ih]; omega
theorem val_tab_sub (n : Nat) : ∀ f g : Nat → Int, val (tab n (fun k => f k - g k)) = val (tab n f) - val (tab n g) := by
  induction n with
  | zero => intro f g; simp [tab, val]
  | succ n ih => intro f g; simp only [tab_succ, val]; rw [ih]; omega
theorem val_tab_mul (n : Nat) (c : Int) : ∀ f : Nat → Int, val (tab n (fun k => f k * c)) = val (tab n f) * c := by
  induction n with
  | zero => intro f; simp [tab, val]
  | succ n ih => intro f; simp only [tab_succ, val]; rw [ih, Int.add_mul, Int.mul_assoc]
theorem tab_small {n : Nat} {f : Nat → Int} (h : ∀ k, k < n → -1000000000000000 ≤ f k ∧ f k ≤ 1000000000000000) : Small (tab n f) := fun x hx => by
  simp only [tab, List.mem_map, List.mem_range] at hx
  obtain ⟨k, hk, rfl⟩ := hx
  exact h k hk
theorem makeFunc_run (fn : Fn) (first cap : Array Value) (w : World) : (Instr.makeFunc fn first cap).run Tryz.prog w = .ok (.func fn first cap) w := rfl

/-- What plus, minus, times and scaled end in: the two calls, one in the other. -/
theorem gather2 (fv : Value) (s : List Int) (N r : Nat) (w : World) (hN : s.length = N) (hF : FnI w fv s) (hs : Small s) (hl : N ≤ 100000) (hv : val s = (r : Int)) {R : Ending → World → Prop}
    (K : ∀ iv w1, Calls Tryz.prog 79 #[iv] w1 (fun e w2 => ∃ v, e = .returned v ∧ RI w2 v (dig r) ∧ Below w.heap.size w w2) → Below w.heap.size w w1 → R (.returned iv) w1) :
    Calls Tryz.prog 80 #[.int .i64 (N : Int), fv] w R := by
  refine (carried_calls fv s N w hN hF hs (by omega) (by omega)).mono ?_
  rintro e w1 ⟨iv, rfl, hI, hb⟩
  refine K iv w1 ((gathered_calls _ iv _ w1 hI (Nat.le_refl _) ?_ (outC_inR _ _)).mono ?_) hb
  · have := outC_len 0 s (by omega) hs; omega
  · rintro e w2 ⟨v, rfl, hR, hb2, _⟩
    refine ⟨v, rfl, ?_, below_then hb hb2⟩
    rw [outC_val 0 s (by omega), hv] at hR
    simpa using hR

set_option maxHeartbeats 1000000 in
theorem plus1_calls (Ba Bb : Nat) (va vb : Value) (xs ys : List Int) (k : Nat) (w : World) (h1 : w.cell? ⟨Ba, 0, none⟩ = some va) (h2 : w.cell? ⟨Bb, 0, none⟩ = some vb) (ha : RI w va xs) (hb : RI w vb ys) (ra : InR xs) (rb : InR ys) :
    Calls Tryz.prog 89 #[.int .i64 k, .pointer (some ⟨Ba, 0, none⟩), .pointer (some ⟨Bb, 0, none⟩)] w fun e w' => e = .returned (.int .i64 (rd xs k + rd ys k)) ∧ ∃ n, w' = w.drewN n := by
  have HA := Lib.hid ha; have HB := Lib.hid hb
  have q1 := InR.at ra k; have q2 := InR.at rb k
  obtain ⟨a, ca, rfl, _⟩ := ha
  obtain ⟨b, cb, rfl, _⟩ := hb
  clear ra rb
  go_enter Tryz.func89, Tryz.ntmps89
  go_wp2_with fail
  go_quiet ((go_at_call 90; exact quiet_left (by first | exact at_calls _ _ _ _ (HA.out.below (below_drewN' _ _)) | exact at_calls _ _ _ _ (HB.out.below (below_drewN' _ _)))))
  go_wp2_with fail
  go_ret
  exact ⟨rfl, _, rfl⟩

set_option maxHeartbeats 1000000 in
theorem plus_at (N : Nat) (va vb : Value) (m n : Nat) (w : World) (ha : RI w va (dig m)) (hb : RI w vb (dig n)) (hla : (dig m).length ≤ 10000) (hlb : (dig n).length ≤ 10000) (hlm : (dig m).length ≤ N) (hln : (dig n).length ≤ N) (hN : N ≤ 10000)  :
    ∀ W, Below w.heap.size w W → ∀ Ba Bb, W.cell? ⟨Ba, 0, none⟩ = some va → W.cell? ⟨Bb, 0, none⟩ = some vb →
      FnI W (.func (.func 89) #[] #[.pointer (some ⟨Ba, 0, none⟩), .pointer (some ⟨Bb, 0, none⟩)]) (tab N fun k => rd (dig m) k + rd (dig n) k) ∧
      Small (tab N fun k => rd (dig m) k + rd (dig n) k) ∧ val (tab N fun k => rd (dig m) k + rd (dig n) k) = ((m + n : Nat) : Int) := by
  intro W hW Ba Bb h1 h2
  refine ⟨⟨_, _, rfl, enters_of Tryz.func89 (by kernel_rfl) rfl, fun W' hW' k hk => ?_⟩, tab_small fun k _ => ?_, ?_⟩
  · rw [rd_tab _ (by rwa [tab_len] at hk)]
    exact plus1_calls _ _ _ _ _ _ k W' (cell_on hW' h1) (cell_on hW' h2) ((ha.below hW).below hW') ((hb.below hW).below hW') (dig_inR _) (dig_inR _)
  · have := InR.at (dig_inR m) k; have := InR.at (dig_inR n) k; omega
  · rw [val_tab_add, val_tab_rd N _ hlm, val_tab_rd N _ hln, val_dig, val_dig]; omega

set_option maxHeartbeats 1000000 in
theorem plus_calls (va vb : Value) (m n : Nat) (w : World) (ha : RI w va (dig m)) (hb : RI w vb (dig n)) (hla : (dig m).length ≤ 10000) (hlb : (dig n).length ≤ 10000)  :
    Calls Tryz.prog 62 #[va, vb] w fun e w' => ∃ v, e = .returned v ∧ RI w' v (dig (m + n)) ∧ Below w.heap.size w w' := by
  have HA := Lib.hid ha; have HB := Lib.hid hb
  obtain ⟨a, ca, rfl, _⟩ := ha
  obtain ⟨b, cb, rfl, _⟩ := hb
  have b1 := (Boxed.new w 60 (.slice a (dig m).length ca)).alloc (.cells #[.slice b (dig n).length cb] 60)
  have b2 := Boxed.new (w.alloc (.cells #[.slice a (dig m).length ca] 60)) 60 (.slice b (dig n).length cb)
  rw [World.size_alloc] at b2
  have hb : Below w.heap.size w ((w.alloc (.cells #[.slice a (dig m).length ca] 60)).alloc (.cells #[.slice b (dig n).length cb] 60)) := ((Below.refl _ w).alloc (Nat.le_refl _) _).alloc (by simp) _
  have HBB := Lib.hid hb
  have c1 := b1.cell
  have c2 := b2.cell
  have C1 := Lib.hid c1; have C2 := Lib.hid c2
  clear b1 b2 hb
  have hmf := makeFunc_run
  by_cases hlt : ((dig m).length : Int) < ((dig n).length : Int)
  · skip
    have hh := plus_at (dig n).length (.slice a (dig m).length ca) (.slice b (dig n).length cb) m n w HA.out HB.out (by omega) (by omega) (by omega) (by omega) (by omega)  _ HBB.out _ _ C1.out C2.out
    have HH := Lib.hid hh
    clear hh
    go_enter Tryz.func62, Tryz.ntmps62
    go_wp2_with fail
    refine (greatest_calls _ _ _).mono ?_
    rintro e w1 ⟨rfl, rfl⟩
    try rw [if_pos hlt]
    go_wp2_with fail
    refine gather2 _ _ _ _ _ (tab_len _ _) HH.out.1 HH.out.2.1 (by omega) HH.out.2.2 ?_
    intro iv w1 hcall hb1
    go_wp2_with fail
    refine hcall.mono ?_
    rintro e w2 ⟨v, rfl, hR, hb2⟩
    have G1 := Lib.hid hR; have G2 := Lib.hid (below_then HBB.out hb2)
    clear hcall hb1 hR hb2 c1 c2
    go_wp2_with fail
    go_ret
    exact ⟨_, rfl, G1.out, G2.out⟩
  · skip
    have hh := plus_at (dig m).length (.slice a (dig m).length ca) (.slice b (dig n).length cb) m n w HA.out HB.out (by omega) (by omega) (by omega) (by omega) (by omega)  _ HBB.out _ _ C1.out C2.out
    have HH := Lib.hid hh
    clear hh
    go_enter Tryz.func62, Tryz.ntmps62
    go_wp2_with fail
    refine (greatest_calls _ _ _).mono ?_
    rintro e w1 ⟨rfl, rfl⟩
    try rw [if_neg hlt]
    go_wp2_with fail
    refine gather2 _ _ _ _ _ (tab_len _ _) HH.out.1 HH.out.2.1 (by omega) HH.out.2.2 ?_
    intro iv w1 hcall hb1
    go_wp2_with fail
    refine hcall.mono ?_
    rintro e w2 ⟨v, rfl, hR, hb2⟩
    have G1 := Lib.hid hR; have G2 := Lib.hid (below_then HBB.out hb2)
    clear hcall hb1 hR hb2 c1 c2
    go_wp2_with fail
    go_ret
    exact ⟨_, rfl, G1.out, G2.out⟩


set_option maxHeartbeats 1000000 in
theorem minus1_calls (Ba Bb : Nat) (va vb : Value) (xs ys : List Int) (k : Nat) (w : World) (h1 : w.cell? ⟨Ba, 0, none⟩ = some va) (h2 : w.cell? ⟨Bb, 0, none⟩ = some vb) (ha : RI w va xs) (hb : RI w vb ys) (ra : InR xs) (rb : InR ys) :
    Calls Tryz.prog 112 #[.int .i64 k, .pointer (some ⟨Ba, 0, none⟩), .pointer (some ⟨Bb, 0, none⟩)] w fun e w' => e = .returned (.int .i64 (rd xs k - rd ys k)) ∧ ∃ n, w' = w.drewN n := by
  have HA := Lib.hid ha; have HB := Lib.hid hb
  have q1 := InR.at ra k; have q2 := InR.at rb k
  obtain ⟨a, ca, rfl, _⟩ := ha
  obtain ⟨b, cb, rfl, _⟩ := hb
  clear ra rb
  go_enter Tryz.func112, Tryz.ntmps112
  go_wp2_with fail
  go_quiet ((go_at_call 90; exact quiet_left (by first | exact at_calls _ _ _ _ (HA.out.below (below_drewN' _ _)) | exact at_calls _ _ _ _ (HB.out.below (below_drewN' _ _)))))
  go_wp2_with fail
  go_ret
  exact ⟨rfl, _, rfl⟩

set_option maxHeartbeats 1000000 in
theorem minus_at (N : Nat) (va vb : Value) (m n : Nat) (w : World) (ha : RI w va (dig m)) (hb : RI w vb (dig n)) (hla : (dig m).length ≤ 10000) (hlb : (dig n).length ≤ 10000) (hlm : (dig m).length ≤ N) (hln : (dig n).length ≤ N) (hN : N ≤ 10000) (hmn : n ≤ m) :
    ∀ W, Below w.heap.size w W → ∀ Ba Bb, W.cell? ⟨Ba, 0, none⟩ = some va → W.cell? ⟨Bb, 0, none⟩ = some vb →
      FnI W (.func (.func 112) #[] #[.pointer (some ⟨Ba, 0, none⟩), .pointer (some ⟨Bb, 0, none⟩)]) (tab N fun k => rd (dig m) k - rd (dig n) k) ∧
      Small (tab N fun k => rd (dig m) k - rd (dig n) k) ∧ val (tab N fun k => rd (dig m) k - rd (dig n) k) = ((m - n : Nat) : Int) := by
  intro W hW Ba Bb h1 h2
  refine ⟨⟨_, _, rfl, enters_of Tryz.func112 (by kernel_rfl) rfl, fun W' hW' k hk => ?_⟩, tab_small fun k _ => ?_, ?_⟩
  · rw [rd_tab _ (by rwa [tab_len] at hk)]
    exact minus1_calls _ _ _ _ _ _ k W' (cell_on hW' h1) (cell_on hW' h2) ((ha.below hW).below hW') ((hb.below hW).below hW') (dig_inR _) (dig_inR _)
  · have := InR.at (dig_inR m) k; have := InR.at (dig_inR n) k; omega
  · rw [val_tab_sub, val_tab_rd N _ hlm, val_tab_rd N _ hln, val_dig, val_dig]; omega

set_option maxHeartbeats 1000000 in
theorem minus_calls (va vb : Value) (m n : Nat) (w : World) (ha : RI w va (dig m)) (hb : RI w vb (dig n)) (hla : (dig m).length ≤ 10000) (hlb : (dig n).length ≤ 10000) (hmn : n ≤ m) :
    Calls Tryz.prog 86 #[va, vb] w fun e w' => ∃ v, e = .returned v ∧ RI w' v (dig (m - n)) ∧ Below w.heap.size w w' := by
  have HA := Lib.hid ha; have HB := Lib.hid hb
  obtain ⟨a, ca, rfl, _⟩ := ha
  obtain ⟨b, cb, rfl, _⟩ := hb
  have b1 := (Boxed.new w 60 (.slice a (dig m).length ca)).alloc (.cells #[.slice b (dig n).length cb] 60)
  have b2 := Boxed.new (w.alloc (.cells #[.slice a (dig m).length ca] 60)) 60 (.slice b (dig n).length cb)
  rw [World.size_alloc] at b2
  have hb : Below w.heap.size w ((w.alloc (.cells #[.slice a (dig m).length ca] 60)).alloc (.cells #[.slice b (dig n).length cb] 60)) := ((Below.refl _ w).alloc (Nat.le_refl _) _).alloc (by simp) _
  have HBB := Lib.hid hb
  have c1 := b1.cell
  have c2 := b2.cell
  have C1 := Lib.hid c1; have C2 := Lib.hid c2
  clear b1 b2 hb
  have hmf := makeFunc_run
  have hln : (dig n).length ≤ (dig m).length := dig_len_mono hmn
  have hh := minus_at (dig m).length (.slice a (dig m).length ca) (.slice b (dig n).length cb) m n w HA.out HB.out (by omega) (by omega) (by omega) (by omega) (by omega) hmn _ HBB.out _ _ C1.out C2.out
  have HH := Lib.hid hh
  clear hh
  go_enter Tryz.func86, Tryz.ntmps86
  go_wp2_with fail
  refine gather2 _ _ _ _ _ (tab_len _ _) HH.out.1 HH.out.2.1 (by omega) HH.out.2.2 ?_
  intro iv w1 hcall hb1
  go_wp2_with fail
  refine hcall.mono ?_
  rintro e w2 ⟨v, rfl, hR, hb2⟩
  have G1 := Lib.hid hR; have G2 := Lib.hid (below_then HBB.out hb2)
  clear hcall hb1 hR hb2 c1 c2
  go_wp2_with fail
  go_ret
  exact ⟨_, rfl, G1.out, G2.out⟩

end Go.Proofs.YthjpbbbmnmhmmaaGreatDoor
