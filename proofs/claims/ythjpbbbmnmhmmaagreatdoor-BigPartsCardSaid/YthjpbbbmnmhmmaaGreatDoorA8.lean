import Derived.Test.YthjpbbbmnmhmmaaGreatDoorA7
import Derived.Test.YthjpbbbmnmhmmaaGreatDoorM2
set_option linter.unusedVariables false
set_option linter.unusedSimpArgs false
namespace Go.Proofs.YthjpbbbmnmhmmaaGreatDoor
open Go.RowKit Go.Shelf

set_option maxHeartbeats 1000000 in
theorem scaled1_calls (Ba Bb : Nat) (va : Value) (xs : List Int) (c : Int) (k : Nat) (w : World) (h1 : w.cell? ⟨Ba, 0, none⟩ = some va) (h2 : w.cell? ⟨Bb, 0, none⟩ = some (.int .i64 c)) (ha : RI w va xs) (ra : InR xs) (hk : k < xs.length) (hc : 0 ≤ c ∧ c < 1000000) :
    Calls Tryz.prog 111 #[.int .i64 k, .pointer (some ⟨Ba, 0, none⟩), .pointer (some ⟨Bb, 0, none⟩)] w fun e w' => e = .returned (.int .i64 (rd xs k * c)) ∧ ∃ n, w' = w.drewN n := by
  have q1 := InR.at ra k
  obtain ⟨a, ca, rfl, _, hcs⟩ := ha
  obtain ⟨b, off, rfl, hcs'⟩ := hcs (by intro e; subst e; simp at hk)
  have hck := hcs' k hk
  have p0 : 0 ≤ rd xs k * c := Int.mul_nonneg q1.1 hc.1
  have p1 : rd xs k * c ≤ 1000000 * 1000000 := Int.mul_le_mul (by omega) (by omega) hc.1 (by decide)
  have hw : Hid (wrap64 (rd xs k * c) = rd xs k * c) := Lib.hid (by unfold wrap64; omega)
  clear ra hcs hcs'
  go_enter Tryz.func111, Tryz.ntmps111
  go_wp2_with fail
  go_quiet (fail)
  go_wp2_with fail
  go_ret
  exact ⟨ret_int (by first | exact hw.out | rfl), _, rfl⟩

set_option maxHeartbeats 1000000 in
theorem scaled_at (va : Value) (m : Nat) (c : Nat) (w : World) (ha : RI w va (dig m)) (hc : c < 1000000) :
    ∀ W, Below w.heap.size w W → ∀ Ba Bb, W.cell? ⟨Ba, 0, none⟩ = some va → W.cell? ⟨Bb, 0, none⟩ = some (.int .i64 c) →
      FnI W (.func (.func 111) #[] #[.pointer (some ⟨Ba, 0, none⟩), .pointer (some ⟨Bb, 0, none⟩)]) (tab (dig m).length fun k => rd (dig m) k * c) ∧
      Small (tab (dig m).length fun k => rd (dig m) k * c) ∧ val (tab (dig m).length fun k => rd (dig m) k * c) = ((m * c : Nat) : Int) := by
  intro W hW Ba Bb h1 h2
  refine ⟨⟨_, _, rfl, enters_of Tryz.func111 (by kernel_rfl) rfl, fun W' hW' k hk => ?_⟩, tab_small fun k _ => ?_, ?_⟩
  · rw [tab_len] at hk
    rw [rd_tab _ hk]
    exact scaled1_calls _ _ _ _ _ k W' (cell_on hW' h1) (cell_on hW' h2) ((ha.below hW).below hW') (dig_inR _) hk (by omega)
  · have q := InR.at (dig_inR m) k
    have p0 : 0 ≤ rd (dig m) k * c := Int.mul_nonneg q.1 (by omega)
    have p1 : rd (dig m) k * c ≤ 1000000 * 1000000 := Int.mul_le_mul (by omega) (by omega) (by omega) (by decide)
    omega
  · rw [val_tab_mul, val_tab_rd _ _ (Nat.le_refl _), val_dig]; simp

set_option maxHeartbeats 1000000 in
theorem scaled_calls (va : Value) (m c : Nat) (w : World) (ha : RI w va (dig m)) (hla : (dig m).length ≤ 10000) (hcc : c < 1000000) :
    Calls Tryz.prog 85 #[va, .int .i64 c] w fun e w' => ∃ v, e = .returned v ∧ RI w' v (dig (m * c)) ∧ Below w.heap.size w w' := by
  have HA := Lib.hid ha
  obtain ⟨a, ca, rfl, _⟩ := ha
  have b1 := (Boxed.new w 60 (.slice a (dig m).length ca)).alloc (.cells #[.int .i64 c] 3)
  have b2 := Boxed.new (w.alloc (.cells #[.slice a (dig m).length ca] 60)) 3 (.int .i64 c)
  rw [World.size_alloc] at b2
  have hb : Below w.heap.size w ((w.alloc (.cells #[.slice a (dig m).length ca] 60)).alloc (.cells #[.int .i64 c] 3)) := ((Below.refl _ w).alloc (Nat.le_refl _) _).alloc (by simp) _
  have HBB := Lib.hid hb
  have c1 := b1.cell
  have c2 := b2.cell
  have C1 := Lib.hid c1; have C2 := Lib.hid c2
  clear b1 b2 hb
  have hmf := makeFunc_run
  have hh := scaled_at _ m c w HA.out hcc _ HBB.out _ _ C1.out C2.out
  have HH := Lib.hid hh
  clear hh
  go_enter Tryz.func85, Tryz.ntmps85
  go_wp2_with fail
  refine gather2 _ _ _ _ _ (tab_len _ _) HH.out.1 HH.out.2.1 (by omega) HH.out.2.2 ?_
  intro iv w1 hcall hb1
  go_wp2_with fail
  refine hcall.mono ?_
  rintro e w2 ⟨v, rfl, hR, hb2⟩
  have G1 := Lib.hid hR; have G2 := Lib.hid (below_then HBB.out hb2)
  clear hcall hb1 hR hb2 c1 c2
  go_wp2_with fail
  go_ret
  exact ⟨_, rfl, G1.out, G2.out⟩

set_option maxHeartbeats 1000000 in
theorem times1_calls (Ba : Nat) (va : Value) (xs : List Int) (k : Nat) (w : World) (h1 : w.cell? ⟨Ba, 0, none⟩ = some va) (ha : RI w va xs) (hk : k < xs.length) :
    Calls Tryz.prog 81 #[.int .i64 k, .pointer (some ⟨Ba, 0, none⟩)] w fun e w' => e = .returned (.int .i64 (rd xs k)) ∧ ∃ n, w' = w.drewN n := by
  obtain ⟨a, ca, rfl, _, hcs⟩ := ha
  obtain ⟨b, off, rfl, hcs'⟩ := hcs (by intro e; subst e; simp at hk)
  have hck := hcs' k hk
  clear hcs hcs'
  go_enter Tryz.func81, Tryz.ntmps81
  go_wp2_with fail
  go_ret
  exact ⟨rfl, 0, rfl⟩

/-- A whole row of ints of the call's own. -/
def OwnI (W : World) (base g : Nat) (N : Nat) (zs : List Int) : Prop := zs.length = N ∧ W.ownsRow base 3 1 (.slice (some ⟨g, 0, none⟩) N N) N (zs.map (Value.int .i64))
theorem OwnI.cell {W : World} {base g N : Nat} {zs : List Int} (h : OwnI W base g N zs) {j : Nat} (hj : j < N) : W.cell? ⟨g, j, none⟩ = some (.int .i64 (rd zs j)) := by
  have := h.2.cellAt j (by omega)
  rw [this]; have := h.1; simp [rd, List.getElem?_eq_getElem (show j < zs.length by omega)]
theorem OwnI.frozen {W : World} {base g N : Nat} {zs : List Int} (h : OwnI W base g N zs) (j : Nat) : W.frozen? ⟨g, j, none⟩ = false := h.2.frozenAt j
theorem OwnI.stored {W : World} {base g N : Nat} {zs : List Int} (h : OwnI W base g N zs) (j : Nat) (v : Int) : OwnI (W.setCell ⟨g, j, none⟩ (.int .i64 v)) base g N (zs.set j v) ∧ W.grownBy (W.setCell ⟨g, j, none⟩ (.int .i64 v)) (some g) := by
  obtain ⟨h1, h2⟩ := h.2.stored j (.int .i64 v)
  exact ⟨⟨by simpa using h.1, by rw [List.map_set]; exact h1⟩, h2⟩
theorem OwnI.base {W : World} {base g N : Nat} {zs : List Int} (h : OwnI W base g N zs) : base ≤ g := by
  rcases h.2.2 with ⟨e, _⟩ | ⟨g', cap, cur, e, hb, _⟩
  · cases e
  · cases e; exact hb
theorem OwnI.block {W : World} {base g N : Nat} {zs : List Int} (h : OwnI W base g N zs) : ∃ cur, W.heap[g]? = some (.cells cur 3 (0, 0)) := by
  rcases h.2.2 with ⟨e, _⟩ | ⟨g', cap, cur, e, hb, hc, _⟩
  · cases e
  · cases e; exact ⟨cur, hc⟩
theorem OwnI.reads {W : World} {base g N : Nat} {zs : List Int} (h : OwnI W base g N zs) (hN : N ≤ 1000000) : RI W (.slice (some ⟨g, 0, none⟩) N N) zs := by
  refine ⟨_, N, by rw [h.1], by rw [h.1]; exact hN, fun _ => ⟨g, 0, rfl, fun j hj => ?_⟩⟩
  rw [Nat.zero_add]; exact h.cell (by have := h.1; omega)

set_option maxRecDepth 100000 in
set_option maxHeartbeats 4000000 in
theorem times_calls (va vb : Value) (m n : Nat) (w : World) (ha : RI w va (dig m)) (hb : RI w vb (dig n)) (hla : (dig m).length ≤ 500) (hlb : (dig n).length ≤ 500) :
    Calls Tryz.prog 53 #[va, vb] w fun e w' => ∃ v, e = .returned v ∧ RI w' v (dig (m * n)) ∧ Below w.heap.size w w' := by
  have HA := Lib.hid ha; have HB := Lib.hid hb
  obtain ⟨xs, hxs⟩ : ∃ xs, dig m = xs := ⟨_, rfl⟩
  obtain ⟨ys, hys⟩ : ∃ ys, dig n = ys := ⟨_, rfl⟩
  rw [hxs] at HA ha hla
  rw [hys] at HB hb hlb
  have rx : InR xs := by rw [← hxs]; exact dig_inR _
  have ry : InR ys := by rw [← hys]; exact dig_inR _
  obtain ⟨a, ca, rfl, _, ha⟩ := ha
  obtain ⟨b, cb, rfl, _, hb⟩ := hb
  have HCa := Lib.hid ha; have HCb := Lib.hid hb; have HX := Lib.hid hxs; have HY := Lib.hid hys; have RX := Lib.hid rx; have RY := Lib.hid ry
  clear ha hb hxs hys rx ry
  obtain ⟨i0, hi, hz0, hz1, hz2⟩ := info_parts infoInt
  have hmf := makeFunc_run
  go_enter Tryz.func53, Tryz.ntmps53
  go_wp2_with (at_make; refine wpList_make_full w rfl _ _ 49 rfl w.heap.size 3 i0 (.int .i64 0) 1 Tryz.underlying49 hi hz0 hz1 _ _ _ _ (xs.length + ys.length) rfl rfl (by simp) (by simp) (by rw [hz2]; omega) (by unfold maxLen; omega) (Nat.le_refl _) ?_; intro w1 hown hgrow)
  have hO0 : OwnI w1 w.heap.size w.heap.size (xs.length + ys.length) (List.replicate (xs.length + ys.length) 0) := ⟨by simp, by
    have := hown; simp only [Value.cells, Nat.mul_one, toList_madeCells_one] at this; rw [List.map_replicate]; exact this⟩
  have hB0 : Below w.heap.size w w1 := (Below.refl _ w).grown hgrow (Nat.le_refl _) (fun k e => by cases e)
  have hsz : w.heap.size < w1.heap.size := by obtain ⟨cur, hc⟩ := hO0.block; exact (Array.getElem?_eq_some_iff.1 hc).1
  have hbx := Boxed.new w1 49 (.slice (some ⟨w.heap.size, 0, none⟩) (xs.length + ys.length) (xs.length + ys.length))
  have hO1 : OwnI (w1.alloc (.cells #[.slice (some ⟨w.heap.size, 0, none⟩) (xs.length + ys.length) (xs.length + ys.length)] 49)) w.heap.size w.heap.size (xs.length + ys.length) (List.replicate (xs.length + ys.length) 0) := ⟨hO0.1, hO0.2.alloc _⟩
  have hB1 : Below w.heap.size w (w1.alloc (.cells #[.slice (some ⟨w.heap.size, 0, none⟩) (xs.length + ys.length) (xs.length + ys.length)] 49)) := hB0.alloc (by omega) _
  obtain ⟨W1, hW1⟩ : ∃ W1, w1.alloc (.cells #[.slice (some ⟨w.heap.size, 0, none⟩) (xs.length + ys.length) (xs.length + ys.length)] 49) = W1 := ⟨_, rfl⟩
  obtain ⟨Bx, hBx⟩ : ∃ Bx, w1.heap.size = Bx := ⟨_, rfl⟩
  rw [hW1] at hbx hO1 hB1 ⊢
  rw [hBx] at hbx hsz ⊢
  clear hown hgrow hO0 hB0 hW1 hBx
  have hrel_mk : ∀ (wr : World) (i k : Nat) (zs : List Int), OwnI wr w.heap.size w.heap.size (xs.length + ys.length) zs → Prods xs ys i k zs → ∀ j, j < xs.length + ys.length → 0 ≤ rd zs j ∧ rd zs j ≤ (i + 1 : Nat) * 1000000000000 := fun wr i k zs hO hP j hj => by
    refine ⟨hP.lo j, ?_⟩
    by_cases e : j < i + k
    · exact hP.hi j e
    · have := hP.hj j (by omega); omega
  have HM := Lib.hid hrel_mk
  clear hrel_mk
  go_loopw [18] (fun t wr => ∃ (i : Nat) (zs : List Int), t = .int .i64 i ∧ i ≤ xs.length ∧ OwnI wr w.heap.size w.heap.size (xs.length + ys.length) zs ∧ Hid (Prods xs ys i 0 zs) ∧ Boxed wr Bx 49 (.slice (some ⟨w.heap.size, 0, none⟩) (xs.length + ys.length) (xs.length + ys.length)) ∧ Below w.heap.size w wr) (fun t _ => xs.length - (intOf t).toNat)
  case atStart => exact ⟨0, _, rfl, Nat.zero_le _, hO1, Lib.hid (Prods.start xs ys), hbx, hB1⟩
  case round =>
    obtain ⟨i, zs, rfl, hile, hO, hP, hbox, hbel⟩ := hrel
    clear hbx hO1 hB1
    by_cases hlt : i < xs.length
    · obtain ⟨ba, oa, rfl, hca⟩ := HCa.out (by intro e; subst e; simp at hlt)
      have hci := cell_on (hbel.mono (Nat.le_refl _)) (hca i hlt)
      have hxi := InR.at RX.out i
      clear hca
      go_wp2_with fail
      clear hci
      obtain ⟨wo, hwo⟩ : ∃ wo, wr = wo := ⟨_, rfl⟩
      rw [hwo] at hO hbox hbel ⊢
      clear hwo
      go_loopw [25] (fun t wr => ∃ (k : Nat) (zs : List Int), t = .int .i64 k ∧ k ≤ ys.length ∧ OwnI wr w.heap.size w.heap.size (xs.length + ys.length) zs ∧ Hid (Prods xs ys i k zs) ∧ Boxed wr Bx 49 (.slice (some ⟨w.heap.size, 0, none⟩) (xs.length + ys.length) (xs.length + ys.length)) ∧ Below w.heap.size w wr) (fun t _ => ys.length - (intOf t).toNat)
      case atStart => exact ⟨0, _, rfl, Nat.zero_le _, hO, hP, hbox, hbel⟩
      case round =>
        clear hO hP hbox hbel
        obtain ⟨k, zs, rfl, hkle, hO, hP, hbox, hbel⟩ := hrel
        by_cases hkt : k < ys.length
        · obtain ⟨bb, ob, rfl, hcb⟩ := HCb.out (by intro e; subst e; simp at hkt)
          have hck := cell_on (hbel.mono (Nat.le_refl _)) (hcb k hkt)
          have hyk := InR.at RY.out k
          have hbc := hbox.cell
          have hz := hO.cell (j := i + k) (by omega)
          have hfz := hO.frozen (i + k)
          have hzb := HM.out wr i k zs hO hP.out (i + k) (by omega)
          have p0 : 0 ≤ rd xs i * rd ys k := Int.mul_nonneg hxi.1 hyk.1
          have p1 : rd xs i * rd ys k ≤ 1000000000000 := Int.mul_le_mul (c := 1000000) (d := 1000000) (by omega) (by omega) hyk.1 (by decide)
          have hst := hO.stored (i + k) (rd zs (i + k) + rd xs i * rd ys k)
          have HST := Lib.hid hst
          have hi500 : i ≤ 500 := by omega
          have hzb2 : rd zs (i + k) ≤ 501000000000000 := by have := hzb.2; omega
          have hzb1 := hzb.1
          clear hcb hst hzb
          go_wp2_with fail
          exact ⟨⟨k + 1, _, by go_num, by omega, HST.out.1, Lib.hid (hP.out.step RX.out RY.out hlt hkt), hbox.kept HST.out.2 (by simp; omega), hbel.setCell (p := ⟨w.heap.size, i + k, none⟩) (Nat.le_refl _) _⟩, by simp [intOf]; omega⟩
        · obtain rfl : k = ys.length := by omega
          have hP2 := Lib.hid (hP.out.next hlt)
          clear hP
          go_wp2_with fail
          exact ⟨⟨i + 1, zs, by go_num, by omega, hO, hP2, hbox, hbel⟩, by simp [intOf]; omega⟩
    · obtain rfl : i = xs.length := by omega
      have hbc := hbox.cell
      have hval : Hid (val zs = ((m * n : Nat) : Int)) := Lib.hid (by rw [hP.out.done, ← HX.out, ← HY.out, val_dig, val_dig]; simp)
      have hri := Lib.hid (hO.reads (by omega))
      have hsm : Hid (Small zs) := Lib.hid fun x hx => by
        obtain ⟨j, hj, rfl⟩ := List.getElem_of_mem hx
        have := HM.out wr _ _ zs hO hP.out j (by have := hO.1; omega)
        rw [rd_lt hj] at this; omega
      have hF : Hid (FnI wr (.func (.func 81) #[] #[.pointer (some ⟨Bx, 0, none⟩)]) zs) := by
        refine Lib.hid ⟨_, _, rfl, enters_of Tryz.func81 (by kernel_rfl) rfl, fun W' hW' k hk => ?_⟩
        exact times1_calls _ _ _ k W' (cell_on hW' hbc) (hri.out.below hW') hk
      have hl := Lib.hid hO.1
      have hbb := Lib.hid hbel
      clear hP hbel hO
      go_wp2_with fail
      refine gather2 _ zs (xs.length + ys.length) (m * n) _ hl.out hF.out hsm.out (by omega) hval.out ?_
      intro iv w2 hcall hb1
      go_wp2_with fail
      refine hcall.mono ?_
      rintro e w3 ⟨v, rfl, hR, hb2⟩
      have G1 := Lib.hid hR; have G2 := Lib.hid (hbb.out.trans (hb2.mono hbb.out.size))
      clear hcall hb1 hR hb2
      go_wp2_with fail
      go_ret
      exact ⟨_, rfl, G1.out, G2.out⟩
end Go.Proofs.YthjpbbbmnmhmmaaGreatDoor
