import Derived.Test.YthjpbbbmnmhmmaaGreatDoorRows
import Derived.Test.YthjpbbbmnmhmmaaGreatDoorCards
import Derived.Test.YthjpbbbmnmhmmaaGreatDoorTie
import Derived.Test.YthjpbbbmnmhmmaaGreatDoorA31
import Derived.ProofKit
import Derived.OpenShut
import Derived.LaidMore
import Derived.Lay
import Derived.SevenTiedAt
import Derived.Stop.Joined
import Derived.Stop.LaidErr
import Derived.Lib.SmallJoins
import Derived.Lib.LaidTab
set_option linter.unusedVariables false
set_option linter.unusedSimpArgs false
namespace Go.Proofs.YthjpbbbmnmhmmaaGreatDoor
open Go.ChangeShapes Go.WideShapes Go.ChangeAt Go.ChangeMaps Go.RowKit Go.Joins

theorem own : ownKnob Tryz.prog.godebug = none := by kernel_rfl

/-- What the rows of this seat list. -/
def seatLaid : List (String × DataW Unit) := [("math/bits.deBruijn32tab", Rows.laid_math_bits_deBruijn32tab), ("math/bits.deBruijn64tab", Rows.laid_math_bits_deBruijn64tab), ("internal/strconv.uint64pow10", Rows.laid_internal_strconv_uint64pow10), ("unicode/utf8.acceptRanges", Rows.laid_unicode_utf8_acceptRanges), ("strconv.ErrRange", Rows.laid_strconv_ErrRange), ("strconv.ErrSyntax", Rows.laid_strconv_ErrSyntax), ("unicode/utf8.first", Rows.laid_unicode_utf8_first)]

theorem laidPlain (W : World) : laidMetH Tryz.prog seatLaid W = laidMet Tryz.prog seatLaid W := MakeChecks.laidMetH_plain _ _ _ (by kernel_rfl)

theorem star : "*" ++ "errors.errorString" = "*errors.errorString" := by decide
theorem rowErr (u : TypeId) (h : Tryz.prog.typeName? 3 u = some "*errors.errorString") : u = 172 :=
  typeName_ptr_named (nm := "errors.errorString") (by rw [star]; kernel_rfl) (by kernel_rfl) (by decide) u (by rw [star]; exact h)
set_option maxRecDepth 100000 in
theorem env_of_laid {W : World} (h : laidMetH Tryz.prog seatLaid W) : Env W := by
  rw [laidPlain] at h
  have h3 := laidMet.tail (laidMet.tail h)
  have h5 := laidMet.tail (laidMet.tail h3)
  have e : (Rows.laid_internal_strconv_uint64pow10 : DataW Unit) = Lib.tabData .u64 Lib.pow10Tab := by kernel_rfl
  rw [e] at h3
  constructor
  · exact Lib.tabIs_of_head (t := 176) (e := 141) (n := 20) (g := 2) (by kernel_rfl) (by kernel_rfl) (by kernel_rfl) (by kernel_rfl) (by kernel_rfl) (by kernel_rfl) h3
  · obtain ⟨a, s, hv, _⟩ := laid_sentinel (g := 1) (ti := 103) (tp := 172) (te := 174) h5 (by kernel_rfl) (by kernel_rfl) Tryz.underlying103 rowErr (by kernel_rfl) Tryz.underlying174 rfl rfl (by kernel_rfl) (by kernel_rfl) (by kernel_rfl)
    exact ⟨_, _, hv⟩

theorem small_of_wf {n : Int} (h : (Lit.int .i64 n).wf = true) : Small64 n := by unfold Small64; simpa [Lit.wf, IntKind.min, IntKind.max, IntKind.signed, IntKind.bits] using h

set_option maxRecDepth 100000 in
theorem val_open {H : Type} {enc : TypeId × Value → H} {W : World} {v : Value} {d : DataW H} {p : List MemPlace} (hval : Value.okWide Tryz.prog W .any 0 23 v) (h : DataW.Trod enc Tryz.prog W 0 (fun _ => true) true 23 v d p) :
    ∃ a : Vl, v = a.val ∧ a.inp ∧ Small64 a.k ∧ p = [] ∧ d = .agg [.lit (.int .i64 a.k), .lit (.int .i64 a.n), .lit (.string a.t)] := by
  obtain ⟨c0, c1, c2, y0, y1, y2, m, rfl, rfl, rfl, hy0, hy1, hy2⟩ := open_agg3 Tryz.underlying23 (by kernel_rfl) (by kernel_rfl) hval h
  obtain ⟨k, e0, rfl, wk⟩ := DataW.trod_int Tryz.underlying3 hy0
  obtain ⟨n, e1, rfl, wn⟩ := DataW.trod_int Tryz.underlying3 hy1
  obtain ⟨s, e2, rfl, ws⟩ := DataW.trod_string Tryz.underlying9 hy2
  simp at e0 e1 e2
  subst e0 e1 e2
  have sk : Small64 k := by unfold Small64; simpa [Lit.wf, IntKind.min, IntKind.max, IntKind.signed, IntKind.bits] using wk
  have sn : Small64 n := by unfold Small64; simpa [Lit.wf, IntKind.min, IntKind.max, IntKind.signed, IntKind.bits] using wn
  obtain ⟨⟨l⟩⟩ := s
  exact ⟨⟨k, n, l⟩, rfl, ⟨sn, Nat.le_trans (show l.length ≤ maxLen from ws) (by decide)⟩, sk, rfl, rfl⟩

set_option maxRecDepth 100000 in
theorem val_shut {H : Type} {enc : TypeId × Value → H} {W : World} {base : Nat} {sp : Nat → Bool} {held : Bool} (a : Vl) (hi : a.inp) (hk : Small64 a.k) :
    DataW.Trod enc Tryz.prog W base sp held 23 a.val (.agg [.lit (.int .i64 a.k), .lit (.int .i64 a.n), .lit (.string a.t)]) [] := by
  obtain ⟨k, n, l⟩ := a
  have wk : (Lit.int .i64 k).wf = true := by have : Small64 k := hk; unfold Small64 at this; simpa [Lit.wf, IntKind.min, IntKind.max, IntKind.signed, IntKind.bits] using this
  have wn : (Lit.int .i64 n).wf = true := by have : Small64 n := hi.1; unfold Small64 at this; simpa [Lit.wf, IntKind.min, IntKind.max, IntKind.signed, IntKind.bits] using this
  exact shut_agg3 (y0 := (.lit (.int .i64 k), [])) (y1 := (.lit (.int .i64 n), [])) (y2 := (.lit (.string l), [])) Tryz.underlying23 (by kernel_rfl) (by kernel_rfl)
    ⟨1, trod_int_mk 0 Tryz.underlying3 wk⟩ ⟨1, trod_int_mk 0 Tryz.underlying3 wn⟩
    (by obtain ⟨f, hf⟩ := shut_string (enc := enc) (P := Tryz.prog) (w := W) (base := base) (sp := sp) (held := held) (s := ⟨⟨l⟩⟩) Tryz.underlying9 (show l.length ≤ maxLen from Nat.le_trans hi.2 (by decide)); exact ⟨f, hf⟩)
end Go.Proofs.YthjpbbbmnmhmmaaGreatDoor
