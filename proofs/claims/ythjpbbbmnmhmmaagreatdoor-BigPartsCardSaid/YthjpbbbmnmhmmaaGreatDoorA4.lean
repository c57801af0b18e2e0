import Derived.Test.YthjpbbbmnmhmmaaGreatDoorA3
set_option linter.unusedVariables false
set_option linter.unusedSimpArgs false
namespace Go.Proofs.YthjpbbbmnmhmmaaGreatDoor
open Go.RowKit Go.Shelf
attribute [local go_sem] Oper.semAt_some

theorem collect_calls (n₀ : Nat) (fv : Value) (xs : List Int) (w : World) (h : IterI n₀ w fv xs) (hn : n₀ ≤ w.heap.size) (hlen : xs.length ≤ 1000000) :
    Calls Tryz.prog 106 #[fv] w fun e W' => ∃ v, e = .returned v ∧ W'.ownsRow w.heap.size 3 1 v xs.length (xs.map (Value.int .i64)) ∧ (v = .slice none 0 0 ↔ xs = []) ∧ Below w.heap.size w W' := by
  have H := appendSeq_calls n₀ fv xs w h hn hlen
  obtain ⟨g, lb, rfl, _⟩ := h
  have HH := Lib.hid H
  clear H
  go_enter Tryz.func106, Tryz.ntmps106
  go_wp2_with fail
  refine HH.out.mono ?_
  rintro e w' ⟨v, rfl, h1, h2, h3⟩
  have G1 := Lib.hid h1; have G2 := Lib.hid h2; have G3 := Lib.hid h3
  clear h1 h2 h3
  go_wp2_with fail
  go_ret
  exact ⟨v, rfl, G1.out, G2.out, G3.out⟩

/-- A row of the call's own, in one of two forms. -/
theorem own_forms {w : World} {base n : Nat} {v : Value} {xs : List Int} (h : w.ownsRow base 3 1 v n (xs.map (Value.int .i64))) :
    n = xs.length ∧ ((v = .slice none 0 0 ∧ xs = []) ∨ ∃ g cap, v = .slice (some ⟨g, 0, none⟩) n cap ∧ base ≤ g ∧ n ≤ cap ∧ cap ≤ maxLen ∧ ∀ j, j < n → w.cell? ⟨g, j, none⟩ = some (.int .i64 (rd xs j))) := by
  have hl : xs.length = n := by have := h.1; simpa using this
  refine ⟨hl.symm, ?_⟩
  rcases h.2 with ⟨rfl, h0⟩ | ⟨g, cap, cur, rfl, hb, _, h1, h2, _⟩
  · left; subst h0; exact ⟨rfl, List.eq_nil_of_length_eq_zero hl⟩
  · right
    refine ⟨g, cap, rfl, hb, h1, h2, fun j hj => ?_⟩
    have := h.cells (g := g) rfl j (.int .i64 (rd xs j)) (by simp [rd, List.getElem?_eq_getElem (show j < xs.length by omega)])
    have e : (⟨g, 0, none⟩ : Addr).add j = ⟨g, j, none⟩ := by unfold Addr.add; split <;> simp_all
    rwa [e] at this

/-- The value lies in no block below B. -/
def Fr (B : Nat) (v : Value) : Prop := ∀ a n c, v = .slice (some a) n c → B ≤ a.block

set_option maxHeartbeats 1000000 in
theorem gathered_calls (n₀ : Nat) (fv : Value) (xs : List Int) (w : World) (h : IterI n₀ w fv xs) (hn : n₀ ≤ w.heap.size) (hlen : xs.length ≤ 1000000) (hr : InR xs) :
    Calls Tryz.prog 79 #[fv] w fun e W' => ∃ v, e = .returned v ∧ RI W' v (dig (val xs).toNat) ∧ Below w.heap.size w W' ∧ Fr w.heap.size v := by
  have H := collect_calls n₀ fv xs w h hn hlen
  obtain ⟨g, lb, rfl, _⟩ := h
  have HH := Lib.hid H
  have HR := Lib.hid hr
  clear H hr
  go_enter Tryz.func79, Tryz.ntmps79
  go_wp2_with fail
  refine HH.out.mono ?_
  rintro e w' ⟨v, rfl, h1, h2, h3⟩
  have G3 := Lib.hid h3
  obtain ⟨_, hf⟩ := own_forms h1
  clear h1 h2 h3
  rcases hf with ⟨rfl, rfl⟩ | ⟨b, cap, rfl, hbase, hcap, hmax, hc⟩
  · go_wp2_with fail
    go_loop [3] (fun d => d = .slice none 0 0) (fun _ => 0)
    case atStart => rfl
    case round =>
      obtain rfl := hrel
      go_wp2_with fail
      go_ret
      exact ⟨_, rfl, by simp [val, dig_zero]; exact RI.nil _, G3.out, fun a n c h => by cases h⟩
  · have HC := Lib.hid hc
    have hfr : Hid (∀ k, Fr w.heap.size (.slice (some ⟨b, 0, none⟩) k cap)) := Lib.hid fun k a n c h => by cases h; exact hbase
    clear hc hbase
    unfold maxLen at hmax
    go_wp2_with fail
    go_loop [3] (fun d => ∃ k : Nat, k ≤ xs.length ∧ d = .slice (some ⟨b, 0, none⟩) k cap ∧ Hid (val (xs.take k) = val xs)) (fun d => match d with | .slice _ n _ => n | _ => 0)
    case atStart => exact ⟨xs.length, Nat.le_refl _, rfl, Lib.hid (by simp)⟩
    case round =>
      obtain ⟨k, hk, rfl, hv⟩ := hrel
      have fin : Hid ((k = 0 ∨ rd xs (k - 1) ≠ 0) → RI w' (.slice (some ⟨b, 0, none⟩) k cap) (dig (val xs).toNat)) := Lib.hid fun hz => by
        have e : xs.take k = dig (val xs).toNat := by
          rw [← hv.out]
          refine dig_val (InR.take HR.out k) ?_
          rcases hz with rfl | hz
          · left; simp
          · right
            rcases Nat.eq_zero_or_pos k with rfl | h0
            · simp
            · have : (xs.take k).getLast? = some (rd xs (k - 1)) := by
                rw [List.getLast?_eq_getElem?]
                simp [rd, List.length_take, Nat.min_eq_left hk, List.getElem?_take, show k - 1 < k by omega, List.getElem?_eq_getElem (show k - 1 < xs.length by omega)]
              rw [this]; simpa using hz
        rw [← e]
        refine ⟨_, cap, by simp [Nat.min_eq_left hk], by simp; omega, fun _ => ⟨b, 0, rfl, fun j hj => ?_⟩⟩
        have hj' : j < k := by simpa [Nat.min_eq_left hk] using hj
        have := HC.out j (by omega)
        simp only [Nat.zero_add]
        rw [this]; simp [rd, List.getElem?_take, hj']
      rcases Nat.eq_zero_or_pos k with rfl | hk0
      · go_wp2_with fail
        go_ret
        exact ⟨_, rfl, fin.out (by first | exact .inl rfl | simp), G3.out, hfr.out _⟩
      · obtain ⟨m, rfl⟩ : ∃ m, k = m + 1 := ⟨k - 1, by omega⟩
        have hcm := HC.out m (by omega)
        by_cases hz : rd xs m = 0
        · have hz' : (rd xs m == 0) = true := by simp [hz]
          have HZ := Lib.hid hz
          clear hz
          go_wp2_with fail
          go_round
          case rel => exact ⟨m, by omega, rfl, Lib.hid (by rw [← hv.out, List.take_succ_eq_append_getElem (show m < xs.length by omega), val_append]; have := HZ.out; rw [rd_lt (by omega)] at this; rw [this]; simp [val])⟩
          case measure => simp
        · have hz' : (rd xs m == 0) = false := by simp [hz]
          have HZ := Lib.hid hz
          clear hz
          go_wp2_with fail
          go_ret
          exact ⟨_, rfl, fin.out (.inr HZ.out), G3.out, hfr.out _⟩
end Go.Proofs.YthjpbbbmnmhmmaaGreatDoor
