import Derived.Test.YthjpbbbmnmhmmaaGreatDoorA30
import Derived.Test.YthjpbbbmnmhmmaaGreatDoorM10
set_option linter.unusedVariables false
set_option linter.unusedSimpArgs false
namespace Go.Proofs.YthjpbbbmnmhmmaaGreatDoor
open Go.RowKit Go.Shelf Go.Lib

/-- What a byte adds to the rest by nine. -/
def nbyte (c : UInt8) : Int := if c = 45 then 0 else ((c.toNat : Int) - 48) % 256
def nsum : List UInt8 → Int
  | [] => 0
  | c :: l => nbyte c + nsum l
theorem nsum_app (a b : List UInt8) : nsum (a ++ b) = nsum a + nsum b := by
  induction a with
  | nil => simp [nsum]
  | cons c a ih => simp [nsum, ih]; omega
theorem nbyte_bd (c : UInt8) : 0 ≤ nbyte c ∧ nbyte c ≤ 255 := by unfold nbyte; split <;> omega
theorem nsum_bd (l : List UInt8) : 0 ≤ nsum l ∧ nsum l ≤ 255 * l.length := by
  induction l with
  | nil => simp [nsum]
  | cons c l ih => have := nbyte_bd c; simp [nsum]; omega
def nineI (l : List UInt8) : Int := if l.head? = some 45 then (9 - nsum l % 9) % 9 else nsum l % 9
theorem nineI_bd (l : List UInt8) : 0 ≤ nineI l ∧ nineI l ≤ 8 := by unfold nineI; split <;> omega
theorem nine_mul (a b : List UInt8) : 0 ≤ nineI a * nineI b ∧ nineI a * nineI b ≤ 64 := by
  have h1 := nineI_bd a; have h2 := nineI_bd b
  exact ⟨Int.mul_nonneg h1.1 h2.1, Int.mul_le_mul h1.2 h2.2 h2.1 (by omega)⟩
theorem nsum_take {l : List UInt8} {k : Nat} (h : k < l.length) : nsum (l.take (k + 1)) = nsum (l.take k) + nbyte l[k] := by
  rw [List.take_succ_eq_append_getElem h, nsum_app]; simp [nsum]

set_option maxRecDepth 100000 in
set_option maxHeartbeats 2000000 in
theorem nines_calls (l : List UInt8) (hl : l.length ≤ 100000) (w : World) :
    Ans Tryz.prog 33 #[.string ⟨l.toArray⟩] w (.int .i64 (nineI l)) := by
  have HB := Lib.hid (Below.refl w.heap.size w)
  go_enter Tryz.func33, Tryz.ntmps33
  go_wp2
  go_loop [3, 4] (fun n i => ∃ k : Nat, k ≤ l.length ∧ i = .int .i64 k ∧ n = .int .i64 (nsum (l.take k))) (fun _ i => l.length - (RowKit.intOf i).toNat)
  case atStart => exact ⟨0, Nat.zero_le _, rfl, by simp [nsum]⟩
  case round =>
    obtain ⟨k, hk, rfl, rfl⟩ := hrel
    have hd := nsum_bd (l.take k)
    have hll : (l.take k).length ≤ k := List.length_take_le _ _
    obtain ⟨S, hS⟩ : ∃ S, nsum (l.take k) = S := ⟨_, rfl⟩
    rw [hS] at hd ⊢
    have h1 := hd.1
    have h2 : S ≤ 25500000 := by omega
    have HS := Lib.hid hS
    clear hd hll hS
    by_cases hlt : k < l.length
    · have hstep := nsum_take hlt
      have HST := Lib.hid hstep
      clear hstep
      obtain ⟨c, hc⟩ : ∃ c, l[k] = c := ⟨_, rfl⟩
      have HC := Lib.hid hc
      by_cases h45 : c = 45
      · have hb : (({ data := l.toArray } : ByteArray)[k]'(show k < l.length from hlt)) = c := hc
        have hq : ((c.toNat : Int) == 45) = true := by subst h45; rfl
        have hq' : ((c.toNat : Int) != 45) = false := by subst h45; rfl
        have H45 := Lib.hid h45
        clear hc h45
        go_wp2
        all_goals
          go_round
          case rel => exact ⟨k + 1, by omega, by go_num, by rw [HST.out, HS.out, HC.out, H45.out]; simp [nbyte]⟩
          case measure => simp [RowKit.intOf]; omega
      · have hb : (({ data := l.toArray } : ByteArray)[k]'(show k < l.length from hlt)) = c := hc
        have hne : c.toNat ≠ 45 := fun h => h45 (UInt8.toNat_inj.1 (by simpa using h))
        have hq : ((c.toNat : Int) == 45) = false := by simp; omega
        have hq' : ((c.toNat : Int) != 45) = true := by simp; omega
        have H45 := Lib.hid h45
        have hc8 : c.toNat < 256 := c.toNat_lt
        clear hc h45 hne
        go_wp2
        all_goals
          go_round
          case rel => exact ⟨k + 1, by omega, by go_num, by rw [HST.out, HS.out, HC.out]; simp [nbyte, H45.out]⟩
          case measure => simp [RowKit.intOf]; omega
    · obtain rfl : k = l.length := by omega
      have HSE : Hid (S = nsum l) := Lib.hid (by rw [← HS.out, List.take_length])
      have hq1 : nsum l % 9 ≤ 8 := by omega
      have HK := Lib.hid (show S ≤ 25500000 ∧ 0 ≤ S from ⟨h2, h1⟩)
      cases hlc : l with
      | nil =>
        subst hlc
        go_wp2
        go_ret
        exact ⟨by rw [HSE.out]; rfl, HB.out⟩
      | cons c t =>
        subst hlc
        have hhb := head_byte (c :: t)
        by_cases hc : c = 45
        · have hf : ∀ h : 0 < (⟨List.toArray (c :: t)⟩ : ByteArray).size, (((((⟨List.toArray (c :: t)⟩ : ByteArray)[0]'h).toNat : Nat) : Int) == 45) = true := fun h => (hhb h).trans (by subst hc; rfl)
          have hn : Hid (nineI (c :: t) = (9 - S % 9) % 9) := Lib.hid (by unfold nineI; rw [if_pos (by subst hc; rfl), HSE.out])
          clear hhb hc
          go_wp2
          go_ret
          exact ⟨congrArg (fun v => Ending.returned (.int .i64 v)) (show -(S % 9) % 9 = nineI (c :: t) from by rw [hn.out]; omega), HB.out⟩
        · have hf : ∀ h : 0 < (⟨List.toArray (c :: t)⟩ : ByteArray).size, (((((⟨List.toArray (c :: t)⟩ : ByteArray)[0]'h).toNat : Nat) : Int) == 45) = false := fun h => (hhb h).trans (by simp [hc])
          have hn : Hid (nineI (c :: t) = S % 9) := Lib.hid (by unfold nineI; rw [if_neg (by simp [hc]), HSE.out])
          clear hhb hc
          go_wp2
          go_ret
          exact ⟨congrArg (fun v => Ending.returned (.int .i64 v)) (show S % 9 = nineI (c :: t) from hn.out.symm), HB.out⟩
end Go.Proofs.YthjpbbbmnmhmmaaGreatDoor
