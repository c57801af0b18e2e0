import Derived.Test.YtplpnfjccemdnaaGreatDoorJ13
import Derived.Test.YtplpnfjccemdnaaGreatDoorJ12
import Derived.Test.YtplpnfjccemdnaaGreatDoorSh
set_option linter.unusedVariables false
set_option linter.unusedSimpArgs false
/- The texts V26 L0 L1 X1 L2 L3 L4 L5 L6 of the proof, laid one behind the other. -/
namespace Go.Proofs.YtplpnfjccemdnaaGreatDoor
open Go.RowKit
section
variable {w0 : W0} {L : List Nat} {P : Program} {Q : Exit -> Act -> World -> Prop} {fn : Func} {c : Cfg}
theorem Spec.startR {f : FuncId} {args : List PV} {r : PV} {cd : Code} (he : entersP P f = true) (hf : P.funcs[f]? = some fn) (hb : fn.body = some cd) (hn : Nat.ble args.length fn.ntmps = true)
  (k : ∀ w0 L, w0.stay = 0 -> w0.ro = none -> w0.mrk = true -> M P fn w0 L (Qf P fn w0 r) (startC args cd)) : Spec P f args r := by
 refine ⟨he, fun L W vs hL hG hR => ?_⟩
 refine (callsIn_wide.1 (callsIn_of_wp_marks (n := 0) (R := fun e W' => ∃ u, e = .returned u /\ R [] L W' r u /\ Near ⟨W, [], 0, L, [], none, ghosts, true⟩ W') hf hb trivial ?_ rfl)).mono fun e W' ⟨u, h1, h2, h3⟩ => ⟨u, h1, h2, h3.plain⟩
 have h := (k ⟨W, [], 0, L, [], none, ghosts, true⟩ L rfl rfl rfl).out [] (startA fn vs.toArray) W ⟨Near.refl _ _ _ _ _ _ _ _, fun g hg => by simp at hg, fun g hg => ⟨hL g hg, by simp⟩, ⟨fun _ h => h, fun g hg => by simp at hg⟩, ⟨rfl, Nat.zero_le _⟩, ⟨rfl, fun i j g c d hi => by simp at hi, fun g hg => by simp at hg, fun i cs hi => by simp [startC] at hi⟩, args_Ev (Nat.le_of_ble_eq_true hn) hR, Nod.nil rfl, Gl.gho hG, fun g hg => .inl hg, fun q hq => hq⟩
 refine wpIn_mono h fun e a w hq => ?_
 have hq' : Qf P fn ⟨W, [], 0, L, [], none, ghosts, true⟩ r e a w := by unfold wpK at hq; exact hq
 exact hq' rfl
theorem SpecM.startR {f : FuncId} {m : Nat} {σ σ' : Sig} {args : List PV} {r : PV} {c : Code} (he : entersP P f = true) (hf : P.funcs[f]? = some fn) (hb : fn.body = some c) (hn : Nat.ble args.length fn.ntmps = true) (hm : m <= σ.length)
  (k : ∀ w0 L, w0.stay = m -> w0.ro = none -> w0.mrk = true -> M P fn w0 L (Qm P fn w0 σ' r) (startM args σ c)) : SpecM P f m σ args σ' r := by
 refine ⟨he, hm, fun L β W vs hL hG hB hR => ?_⟩
 refine callsIn_wide.1 (callsIn_of_wp_marks (n := 0) hf hb trivial ?_ rfl)
 have h := (k ⟨W, β, m, L, [], none, ghosts, true⟩ L rfl rfl rfl).out β (startA fn vs.toArray) W ⟨Near.refl _ _ _ _ _ _ _ _, fun g hg => .inl hg, hL, ⟨fun _ h => h, fun g hg => .inl hg⟩, ⟨rfl, by rw [hB.1]; exact hm⟩, hB, args_Ev (Nat.le_of_ble_eq_true hn) hR, Nod.nil rfl, Gl.gho hG, fun g hg => .inl hg, fun q hq => hq⟩
 refine wpIn_mono h fun e a w hq => ?_
 have hq' : Qm P fn ⟨W, β, m, L, [], none, ghosts, true⟩ σ' r e a w := by unfold wpK at hq; exact hq
 exact hq' rfl
def rgG : List It -> Operand
 | .code (.rangeFunc g _ _ _) :: _ => g
 | _ => .const undef
def rgP : List It -> Array Tmp
 | .code (.rangeFunc _ p _ _) :: _ => p
 | _ => #[]
def rgA : List It -> Code
 | .code (.rangeFunc _ _ a _) :: _ => a
 | _ => .skip
def rgB : List It -> Code
 | .code (.rangeFunc _ _ _ b) :: _ => b
 | _ => .skip
def rgK : List It -> List It
 | .code (.rangeFunc _ _ _ _) :: k => k
 | k => k
def isRg : List It -> Bool
 | .code (.rangeFunc _ _ _ _) :: _ => true
 | _ => false
theorem isRg_eq {t : List It} (h : isRg t = true) : t = .code (.rangeFunc (rgG t) (rgP t) (rgA t) (rgB t)) :: rgK t := by
 unfold isRg at h
 split at h
 ·rfl
 ·cases h
theorem M.rangeF {ι ζ : Type} (S : ι -> Sig) (pos : ι -> Nat) (x0 : ι) (T : ζ -> Sig) (jump : ζ -> Code) (E' : Env) (s : Nat) {gf : FuncId} {caps : List PV} {n : Nat} {xs : Nat -> List PV} {fin : Option PV} (hI : Iter P gf caps n xs fin)
  (ps : List Prop) (E1 : ι -> Env) (S1 : ι -> Sig) (hp : All ps) (h0 : pos x0 = 0) (hst : w0.stay <= s) (hro : w0.ro = none) (hmk : w0.mrk = true) (hfl : ∀ x, fin = some x -> flatP x = true)
  (h : (stop P fn.ntmps c).1 = ps) (hdr : (stop P fn.ntmps c).2.dr = none) (ht : isRg (stop P fn.ntmps c).2.todo = true)
  (hg : evA (stop P fn.ntmps c).2.E (rgG (stop P fn.ntmps c).2.todo) = .fn gf caps) (hgc : noRef.noRefs caps = true)
  (hE : keepE (E'.map (·.1)) (stop P fn.ntmps c).2.E = E') (hS : (stop P fn.ntmps c).2.σ = S x0)
  (hs : E'.all (fun q => refOk s q.2) = true) (hlS : ∀ x, Nat.ble s (S x).length = true)
  (hxs : ∀ i, (xs i).length = (rgP (stop P fn.ntmps c).2.todo).size) (hpt : (rgP (stop P fn.ntmps c).2.todo).toList.all (fun t => decide (t < fn.ntmps)) = true)
  (hasg : ∀ x, asgC P fn E' (rgP (stop P fn.ntmps c).2.todo) (xs (pos x)) (S x) (rgA (stop P fn.ntmps c).2.todo) = ([], ⟨E1 x, S1 x, [], none⟩))
  (round : ∀ x w1 L1, pos x < n -> w1.stay = s -> M P fn w1 L1 (Qr fn.ntmps S (fun y => pos y = pos x + 1) T jump w1) ⟨E1 x, S1 x, [.code (rgB (stop P fn.ntmps c).2.todo)], none⟩)
  (done : ∀ x L', fin = none -> pos x = n -> M P fn w0 L' Q ⟨E', S x, rgK (stop P fn.ntmps c).2.todo, none⟩) (pan : ∀ x v, fin = some v -> pos x = n -> OkP fn w0 Q (S x) E' v) (out : ∀ z L', M P fn w0 L' Q ⟨E', T z, .code (jump z) :: rgK (stop P fn.ntmps c).2.todo, none⟩) : M P fn w0 L Q c :=
 M.range S pos x0 T jump E' s hI ps E1 S1 h hp hdr (isRg_eq ht) hg hgc hE hS h0 hs hst hro hmk (Nat.le_of_ble_eq_true (hlS x0)) hfl hxs hpt (fun x _ => hasg x) round done pan out
end
abbrev B (b : UInt8) : PV := .v (.int .u8 b.toNat)
abbrev brow (l : List UInt8) : PV := row 1 (fun b => [B b]) l
theorem brow_eq (l : List UInt8) : PV.sl 1 l.length (bytesEl ⟨l.toArray⟩) = brow l := by
 have : bytesEl ⟨l.toArray⟩ = fun j => [B (l.getD j default)] := by
  funext j
  show [PV.v (.int .u8 (l.getD j 0).toNat)] = _
  rfl
 rw [this]
theorem ixByte_spec (l : List UInt8) (b : UInt8) : Spec Tryz.prog 294 [S l, B b] (I (Lib.indexByte l b)) := by
 refine ⟨by kernel_rfl, fun L W vs hL hG hR => ?_⟩
 obtain ⟨u, us, rfl, h1, hR1⟩ := hR.uncons
 obtain ⟨u2, us, rfl, h2, hR2⟩ := hR1.uncons
 rw [Rs] at hR2
 rw [R] at h1 h2
 subst h1; subst h2; subst hR2
 refine (Tryz.strings_IndexByte ⟨l.toArray⟩ b.toNat W).mono fun e w' ⟨he, hw⟩ => ?_
 subst hw
 refine ⟨_, he, ?_, Below.refl _ _⟩
 rw [R]
 simp
def smallL (b : UInt8) : Bool := (bif decide ((↑b.toNat : Int) >= 97) then decide ((↑b.toNat : Int) <= 122) else false)
theorem smallL_spec' (b : UInt8) (r : Bool) (hq : smallL b = r) : Spec Tryz.prog 313 [B b] (.sb r) := by
 unfold smallL at hq
 refine Spec.startL (by kernel_rfl) Tryz.func313 rfl rfl fun w0 L hst => ?_
 refine M.tq hq (fun h1 q2 => ?_) (fun h1 q2 => ?_)
 ·exact M.rq q2
 ·exact M.rq q2
theorem smallL_spec (b : UInt8) : Spec Tryz.prog 313 [B b] (.sb (smallL b)) := smallL_spec' b _ rfl
def largeL (b : UInt8) : Bool := (bif decide ((↑b.toNat : Int) >= 65) then decide ((↑b.toNat : Int) <= 90) else false)
theorem largeL_spec' (b : UInt8) (r : Bool) (hq : largeL b = r) : Spec Tryz.prog 314 [B b] (.sb r) := by
 unfold largeL at hq
 refine Spec.startL (by kernel_rfl) Tryz.func314 rfl rfl fun w0 L hst => ?_
 refine M.tq hq (fun h1 q2 => ?_) (fun h1 q2 => ?_)
 ·exact M.rq q2
 ·exact M.rq q2
theorem largeL_spec (b : UInt8) : Spec Tryz.prog 314 [B b] (.sb (largeL b)) := largeL_spec' b _ rfl
def digitL (b : UInt8) : Bool := (bif decide ((↑b.toNat : Int) >= 48) then decide ((↑b.toNat : Int) <= 57) else false)
theorem digitL_spec' (b : UInt8) (r : Bool) (hq : digitL b = r) : Spec Tryz.prog 282 [B b] (.sb r) := by
 unfold digitL at hq
 refine Spec.startL (by kernel_rfl) Tryz.func282 rfl rfl fun w0 L hst => ?_
 refine M.tq hq (fun h1 q2 => ?_) (fun h1 q2 => ?_)
 ·exact M.rq q2
 ·exact M.rq q2
theorem digitL_spec (b : UInt8) : Spec Tryz.prog 282 [B b] (.sb (digitL b)) := digitL_spec' b _ rfl
def blankL (b : UInt8) : Bool := (bif (↑b.toNat : Int) == 32 then true else (bif (↑b.toNat : Int) == 9 then true else (↑b.toNat : Int) == 10))
theorem blankL_spec' (b : UInt8) (r : Bool) (hq : blankL b = r) : Spec Tryz.prog 293 [B b] (.sb r) := by
 unfold blankL at hq
 refine Spec.startL (by kernel_rfl) Tryz.func293 rfl rfl fun w0 L hst => ?_
 refine M.tq hq (fun h1 q2 => ?_) (fun h1 q2 => ?_)
 ·exact M.rq q2
 ·refine M.tq q2 (fun h3 q4 => ?_) (fun h3 q4 => ?_)
  ·exact M.rq q4
  ·exact M.rq q4
theorem blankL_spec (b : UInt8) : Spec Tryz.prog 293 [B b] (.sb (blankL b)) := blankL_spec' b _ rfl
def underL (b : UInt8) : Bool := (↑b.toNat : Int) == 95
theorem underL_spec' (b : UInt8) (r : Bool) (hq : underL b = r) : Spec Tryz.prog 280 [B b] (.sb r) := by
 unfold underL at hq
 refine Spec.startL (by kernel_rfl) Tryz.func280 rfl rfl fun w0 L hst => ?_
 exact M.rq hq
theorem underL_spec (b : UInt8) : Spec Tryz.prog 280 [B b] (.sb (underL b)) := underL_spec' b _ rfl
def quoteL (b : UInt8) : Bool := (↑b.toNat : Int) == 39
theorem quoteL_spec' (b : UInt8) (r : Bool) (hq : quoteL b = r) : Spec Tryz.prog 284 [B b] (.sb r) := by
 unfold quoteL at hq
 refine Spec.startL (by kernel_rfl) Tryz.func284 rfl rfl fun w0 L hst => ?_
 exact M.rq hq
theorem quoteL_spec (b : UInt8) : Spec Tryz.prog 284 [B b] (.sb (quoteL b)) := quoteL_spec' b _ rfl
def insideL (b : UInt8) : Bool := (bif decide ((↑b.toNat : Int) >= 32) then (bif decide ((↑b.toNat : Int) <= 126) then (↑b.toNat : Int) != 39 else false) else false)
theorem insideL_spec' (b : UInt8) (r : Bool) (hq : insideL b = r) : Spec Tryz.prog 317 [B b] (.sb r) := by
 unfold insideL at hq
 refine Spec.startL (by kernel_rfl) Tryz.func317 rfl rfl fun w0 L hst => ?_
 refine M.tq hq (fun h1 q2 => ?_) (fun h1 q2 => ?_)
 ·refine M.tq q2 (fun h3 q4 => ?_) (fun h3 q4 => ?_)
  ·exact M.rq q4
  ·exact M.rq q4
 ·exact M.rq q2
theorem insideL_spec (b : UInt8) : Spec Tryz.prog 317 [B b] (.sb (insideL b)) := insideL_spec' b _ rfl
end Go.Proofs.YtplpnfjccemdnaaGreatDoor
namespace Go.Proofs.YtplpnfjccemdnaaGreatDoor
def runF (p : UInt8 -> Bool) : List UInt8 -> Nat
 | [] => 0
 | b :: l => if p b then runF p l + 1 else 0
def nxt (l : List UInt8) (n : Nat) : UInt8 := l.getD n 0
def letterL (b : UInt8) : Bool := bif smallL b then true else largeL b
theorem letterL_spec (b : UInt8) : Spec Tryz.prog 278 [B b] (.sb (letterL b)) := by
 refine Spec.startL (by kernel_rfl) Tryz.func278 rfl rfl fun w0 L hst => ?_
 refine M.cl (smallL_spec b) ?_
 refine M.tq (r := letterL b) rfl (fun h1 q2 => ?_) (fun h1 q2 => ?_)
 ·exact M.rq q2
 ·refine M.cl (largeL_spec b) ?_
  exact M.rq q2
def wordL (b : UInt8) : Bool := bif letterL b then true else digitL b
theorem wordL_spec (b : UInt8) : Spec Tryz.prog 315 [B b] (.sb (wordL b)) := by
 refine Spec.startL (by kernel_rfl) Tryz.func315 rfl rfl fun w0 L hst => ?_
 refine M.cl (letterL_spec b) ?_
 refine M.tq (r := wordL b) rfl (fun h1 q2 => ?_) (fun h1 q2 => ?_)
 ·exact M.rq q2
 ·refine M.cl (digitL_spec b) ?_
  exact M.rq q2
def opL (b : UInt8) : Bool := decide (Lib.indexByte [43, 45, 42, 47, 37, 60, 62, 61, 126, 38, 64, 33, 63] b >= 0)
theorem opL_spec (b : UInt8) : Spec Tryz.prog 286 [B b] (.sb (opL b)) := by
 refine Spec.startL (by kernel_rfl) Tryz.func286 rfl rfl fun w0 L hst => ?_
 refine M.cl (ixByte_spec [43, 45, 42, 47, 37, 60, 62, 61, 126, 38, 64, 33, 63] b) ?_
 exact M.rq (r := opL b) rfl
def signL (b : UInt8) : Bool := decide (Lib.indexByte [40, 41, 91, 93, 124, 46, 94, 58, 59] b >= 0)
theorem signL_spec (b : UInt8) : Spec Tryz.prog 288 [B b] (.sb (signL b)) := by
 refine Spec.startL (by kernel_rfl) Tryz.func288 rfl rfl fun w0 L hst => ?_
 refine M.cl (ixByte_spec [40, 41, 91, 93, 124, 46, 94, 58, 59] b) ?_
 exact M.rq (r := signL b) rfl
theorem runF_le (p : UInt8 -> Bool) : ∀ l, runF p l <= l.length
 | [] => Nat.le_refl _
 | b :: l => by unfold runF; split; exact Nat.succ_le_succ (runF_le p l); exact Nat.zero_le _
theorem runF_at (p : UInt8 -> Bool) : ∀ (l : List UInt8) (i : Nat), i <= runF p l -> i < l.length -> (i = runF p l ↔ p (l.getD i 0) = false)
 | [], i, _, h => by simp at h
 | b :: l, 0, _, _ => by
  unfold runF
  cases hb : p b with
  | true => simp [hb]
  | false => simp [hb]
 | b :: l, i + 1, h1, h2 => by
  unfold runF at h1 ⊢
  cases hb : p b with
  | false => rw [hb] at h1; simp at h1
  | true =>
   rw [hb] at h1
   simp only [if_true] at h1 ⊢
   rw [show (b :: l).getD (i + 1) 0 = l.getD i 0 by rfl]
   rw [<- runF_at p l i (by omega) (by simpa using h2)]
   omega
theorem run_spec (l : List UInt8) (g : Nat) (p : UInt8 -> Bool) (hl : l.length <= 9223372036854775807) (hg : ∀ b, Spec Tryz.prog g [B b] (.sb (p b))) : Spec Tryz.prog 291 [brow l, .fn g []] (I (runF p l)) := by
 refine Spec.startL (by kernel_rfl) Tryz.func291 rfl rfl fun w0 L hst => ?_
 refine M.loop (ι := {i : Nat // i <= runF p l}) (fun i => [(0, brow l), (1, .fn g []), (5, I i.1)]) (fun _ => []) (fun i => runF p l - i.1) ⟨0, Nat.zero_le _⟩ [] (by kernel_rfl) trivial (by kernel_rfl) (by kernel_rfl) fun ⟨i, hi⟩ ih => ?_
 have hr := runF_le p l
 refine M.ts (decide ((i : Int) < (l.length : Int))) (fun h1 => ?_) (fun h1 => ?_)
 ·have hlt : i < l.length := by have := of_decide_eq_true h1; omega
  refine M.callp [0 <= (i : Int) /\ (i : Int) < (l.length : Int)] (hg (l.getD (i : Int).toNat default)) (by kernel_rfl) ⟨by omega, trivial⟩ (by kernel_rfl) ?_
  refine M.ts (p (l.getD (i : Int).toNat default)) (fun h2 => ?_) (fun h2 => ?_)
  ·have hne : i ≠ runF p l := fun e => by
    have h3 := (runF_at p l i hi hlt).1 e
    have h4 : p (l.getD i 0) = true := h2
    rw [h3] at h4; cases h4
   exact M.bk [In64 ((i : Int) + 1)] (ih ⟨i + 1, by omega⟩ (by show runF p l - (i + 1) < runF p l - i; omega)) ⟨⟨by omega, by omega⟩, trivial⟩
  ·have := (runF_at p l i hi hlt).2 h2
   exact M.ret (I i) (by kernel_rfl) (by rw [<- this])
 ·have := of_decide_eq_false h1
  exact M.ret (I i) (by kernel_rfl) (by rw [show i = runF p l by omega])
structure Rd where
 pos : Nat
 line : Nat
 col : Nat
 name : Nat
 deriving DecidableEq, Inhabited
abbrev sub (t : List UInt8) (a b : Int) : List UInt8 := (t.drop a.toNat).take (b.toNat - a.toNat)
abbrev rd (t : List UInt8) (r : Rd) : List PV := [I r.pos, I r.line, I r.col, S t, I r.name]
structure Rd.Ok (t : List UInt8) (r : Rd) : Prop where
 pos : r.pos <= t.length
 line : r.line <= r.pos + 1
 col : r.col <= r.pos + 1
 len : t.length <= 1000000
theorem rest_spec {t : List UInt8} {r : Rd} (h : r.Ok t) : SpecM Tryz.prog 292 1 [rd t r] [.ref 0 0] [rd t r] (brow (t.drop r.pos)) := by
 have h1 := h.pos
 have h2 := h.len
 have e : sub t r.pos t.length = t.drop r.pos := by
  unfold sub
  rw [List.take_of_length_le]
  ·rfl
  ·simp only [List.length_drop]; omega
 refine SpecM.start (by kernel_rfl) Tryz.func292 rfl rfl (Nat.le_refl _) fun w0 L hst => ?_
 refine M.retm (σ1 := [rd t r]) (r' := .sl 1 (sub t r.pos t.length).length (bytesEl ⟨(sub t r.pos t.length).toArray⟩)) [0 <= (r.pos : Int) /\ (r.pos : Int) <= t.length /\ (t.length : Int) <= t.length, (sub t r.pos t.length).length <= 9223372036854775807] [0] hst rfl (by kernel_rfl) ⟨by omega, by rw [e, List.length_drop]; omega, trivial⟩ rfl ?_
 rw [e]
 exact brow_eq _
theorem next_spec {t : List UInt8} {r : Rd} (h : r.Ok t) (n : Nat) (hn : n <= 1000000) : Spec Tryz.prog 259 [.ptr (rd t r), I n] (B (nxt (t.drop r.pos) n)) := by
 have h1 := h.pos
 have h2 := h.len
 refine Spec.start (by kernel_rfl) Tryz.func259 rfl rfl fun w0 L => ?_
 refine M.testp [In64 ((r.pos : Int) + n)] (decide ((r.pos : Int) + n >= t.length)) (by kernel_rfl) ⟨⟨by omega, by omega⟩, trivial⟩ (fun h3 => ?_) (fun h3 => ?_)
 ·have h3 := of_decide_eq_true h3
  refine M.ret (B 0) (by kernel_rfl) ?_
  have : nxt (t.drop r.pos) n = 0 := by
   unfold nxt
   rw [List.getD_eq_getElem?_getD, List.getElem?_eq_none (by simp; omega)]
   rfl
  rw [this]
 ·have h3 := of_decide_eq_false h3
  refine M.retp [In64 ((r.pos : Int) + n), 0 <= (r.pos : Int) + n /\ (r.pos : Int) + n < t.length] (B (t.getD ((r.pos : Int) + n).toNat 0)) (by kernel_rfl) ⟨⟨by omega, by omega⟩, by omega, trivial⟩ ?_
  have : nxt (t.drop r.pos) n = t.getD ((r.pos : Int) + n).toNat 0 := by
   unfold nxt
   rw [List.getD_eq_getElem?_getD, List.getD_eq_getElem?_getD, List.getElem?_drop]
   rfl
  rw [this]
def colL (l : List UInt8) (n : Nat) : Nat := bif ((nxt l n).toNat : Int) == 58 then 1 else 0
theorem colon_spec {t : List UInt8} {r : Rd} (h : r.Ok t) (n : Nat) (hn : n <= 1000000) : Spec Tryz.prog 316 [.ptr (rd t r), I n] (I (colL (t.drop r.pos) n)) := by
 refine Spec.start (by kernel_rfl) Tryz.func316 rfl rfl fun w0 L => ?_
 refine M.cl (next_spec h n hn) ?_
 refine M.tq (r := colL (t.drop r.pos) n) rfl (fun h1 q2 => ?_) (fun h1 q2 => ?_)
 ·exact M.rq (enc := fun n : Nat => I n) q2
 ·exact M.rq (enc := fun n : Nat => I n) q2
def adv (p : Nat × Nat) (b : UInt8) : Nat × Nat := if ((b.toNat : Int) == 10) = true then (p.1 + 1, 1) else (p.1, p.2 + 1)
def advs (p : Nat × Nat) (l : List UInt8) : Nat × Nat := l.foldl adv p
theorem adv_le (p : Nat × Nat) (b : UInt8) : (adv p b).1 <= p.1 + 1 /\ (adv p b).2 <= p.2 + 1 := by
 unfold adv; split
 ·exact ⟨Nat.le_refl _, by simp⟩
 ·exact ⟨Nat.le_succ _, Nat.le_refl _⟩
theorem advs_le : ∀ (l : List UInt8) (p : Nat × Nat), (advs p l).1 <= p.1 + l.length /\ (advs p l).2 <= p.2 + l.length
 | [], p => ⟨Nat.le_refl _, Nat.le_refl _⟩
 | b :: l, p => by
  have h := advs_le l (adv p b)
  have h2 := adv_le p b
  unfold advs at h ⊢
  simp only [List.foldl_cons, List.length_cons] at h ⊢
  omega
theorem advs_take (l : List UInt8) (p : Nat × Nat) {i : Nat} (h : i < l.length) : advs p (l.take (i + 1)) = adv (advs p (l.take i)) (l.getD i 0) := by
 unfold advs
 rw [List.take_succ_eq_append_getElem h, List.foldl_append, List.getD_eq_getElem?_getD, List.getElem?_eq_getElem h]
 rfl
def Rd.fwd (t : List UInt8) (r : Rd) (n : Nat) : Rd := ⟨r.pos + n, (advs (r.line, r.col) ((t.drop r.pos).take n)).1, (advs (r.line, r.col) ((t.drop r.pos).take n)).2, r.name⟩
theorem Rd.Ok.fwd {t : List UInt8} {r : Rd} (h : r.Ok t) {n : Nat} (hn : r.pos + n <= t.length) : (r.fwd t n).Ok t := by
 have := advs_le ((t.drop r.pos).take n) (r.line, r.col)
 have hl : ((t.drop r.pos).take n).length = n := by simp; omega
 rw [hl] at this
 exact ⟨hn, by have := h.line; show (advs _ _).1 <= r.pos + n + 1; omega, by have := h.col; show (advs _ _).2 <= r.pos + n + 1; omega, h.len⟩
theorem forward_spec {t : List UInt8} {r : Rd} (h : r.Ok t) (n : Nat) (hn : r.pos + n <= t.length) : SpecM Tryz.prog 290 1 [rd t r] [.ref 0 0, I n] [rd t (r.fwd t n)] (S ((t.drop r.pos).take n)) := by
 have h1 := h.line
 have h2 := h.col
 have h3 := h.len
 have hl : ((t.drop r.pos).take n).length = n := by simp; omega
 have e : sub t r.pos ((r.pos : Int) + n) = (t.drop r.pos).take n := by
  unfold sub
  rw [show ((r.pos : Int) + n).toNat - (r.pos : Int).toNat = n by omega]; rfl
 have ha := advs_le ((t.drop r.pos).take n) (r.line, r.col)
 refine SpecM.start (by kernel_rfl) Tryz.func290 rfl rfl (Nat.le_refl _) fun w0 L hst => ?_
 rw [<- e] at hl ha ⊢
 unfold Rd.fwd
 rw [<- e]
 clear e
 refine M.loopL (ι := {i : Nat // i <= n}) (fun i => [(0, .ref 0 0), (1, I n), (5, S (sub t r.pos ((r.pos : Int) + n))), (26, .sl 1 (sub t r.pos ((r.pos : Int) + n)).length (bytesEl ⟨(sub t r.pos ((r.pos : Int) + n)).toArray⟩)), (27, I (sub t r.pos ((r.pos : Int) + n)).length), (28, I i.1)]) (fun i => [[I r.pos, I (advs (r.line, r.col) ((sub t r.pos ((r.pos : Int) + n)).take i.1)).1, I (advs (r.line, r.col) ((sub t r.pos ((r.pos : Int) + n)).take i.1)).2, S t, I r.name]]) (fun i => n - i.1) ⟨0, Nat.zero_le _⟩
  [In64 ((r.pos : Int) + n), 0 <= (r.pos : Int) /\ (r.pos : Int) <= (r.pos : Int) + n /\ (r.pos : Int) + n <= t.length, (sub t r.pos ((r.pos : Int) + n)).length <= 9223372036854775807] (by kernel_rfl)
  ⟨⟨by omega, by omega⟩, by omega, by omega, trivial⟩ (by kernel_rfl) (by kernel_rfl) fun ⟨i, hi⟩ L ih => ?_
 generalize sub t r.pos ((r.pos : Int) + n) = s at hl ih ha ⊢
 refine M.ts (decide ((i : Int) < (s.length : Int))) (fun h4 => ?_) (fun h4 => ?_)
 ·have hlt : i < s.length := by have := of_decide_eq_true h4; omega
  have hb := advs_le (s.take i) (r.line, r.col)
  have hn := advs_take s (r.line, r.col) hlt
  simp only [List.length_take] at hb
  refine M.testp [0 <= (i : Int) /\ (i : Int) < (s.length : Int), In64 (((advs (r.line, r.col) (s.take i)).2 : Int) + 1)] (((s.getD (i : Int).toNat 0).toNat : Int) == 10) (by kernel_rfl) ⟨by omega, ⟨by omega, by omega⟩, trivial⟩ (fun h5 => ?_) (fun h5 => ?_)
  ·have hd : advs (r.line, r.col) (s.take (i + 1)) = ((advs (r.line, r.col) (s.take i)).1 + 1, 1) := by
    rw [hn]; unfold adv; exact if_pos h5
   have ihn := ih ⟨i + 1, by omega⟩ L (by show n - (i + 1) < n - i; omega)
   dsimp only at ihn
   rw [hd] at ihn
   exact M.bk [In64 (((advs (r.line, r.col) (s.take i)).1 : Int) + 1), In64 ((i : Int) + 1)] ihn ⟨⟨by omega, by omega⟩, ⟨by omega, by omega⟩, trivial⟩
  ·have hd : advs (r.line, r.col) (s.take (i + 1)) = ((advs (r.line, r.col) (s.take i)).1, (advs (r.line, r.col) (s.take i)).2 + 1) := by
    rw [hn]; unfold adv; exact if_neg (fun h => by have h5' : (((s.getD i 0).toNat : Int) == 10) = false := h5; rw [h5'] at h; cases h)
   have ihn := ih ⟨i + 1, by omega⟩ L (by show n - (i + 1) < n - i; omega)
   dsimp only at ihn
   rw [hd] at ihn
   exact M.bk [In64 ((i : Int) + 1)] ihn ⟨⟨by omega, by omega⟩, trivial⟩
 ·have h4 := of_decide_eq_false h4
  have hi : i = n := by omega
  subst hi
  rw [List.take_of_length_le (show s.length <= i by omega)]
  exact M.retm [In64 ((r.pos : Int) + i)] [0] hst rfl (by kernel_rfl) ⟨⟨by omega, by omega⟩, trivial⟩ rfl rfl
abbrev stopV (e : Int) (p : Nat) : PV := .v (.iface 302 (.agg #[.int .i64 e, .int .i64 p]))
theorem need_t (e : Int) (p : Nat) : Spec Tryz.prog 254 [.v (.bool true), I e, I p] (.tup []) := by
 refine Spec.start (by kernel_rfl) Tryz.func254 rfl rfl fun w0 L => ?_
 exact M.ret (.tup []) (by kernel_rfl) rfl
theorem need_s {b : Bool} (hb : b = true) (e : Int) (p : Nat) : Spec Tryz.prog 254 [.sb b, I e, I p] (.tup []) := by
 refine Spec.start (by kernel_rfl) Tryz.func254 rfl rfl fun w0 L => ?_
 refine M.n (b := !b) (by rw [hb]; rfl) ?_
 exact M.ret (.tup []) (by kernel_rfl) rfl
theorem needP_f (e : Int) (p : Nat) : SpecP Tryz.prog 254 0 [] [.v (.bool false), I e, I p] [] (stopV e p) := by
 refine SpecP.start (by kernel_rfl) Tryz.func254 rfl rfl (Nat.le_refl _) fun w0 L hst => ?_
 exact M.pan (x := stopV e p) [] (by kernel_rfl) trivial (OkP.done [] hst rfl (by kernel_rfl) (by kernel_rfl) (by kernel_rfl))
theorem needP_s {b : Bool} (hb : b = false) (e : Int) (p : Nat) : SpecP Tryz.prog 254 0 [] [.sb b, I e, I p] [] (stopV e p) := by
 refine SpecP.start (by kernel_rfl) Tryz.func254 rfl rfl (Nat.le_refl _) fun w0 L hst => ?_
 refine M.ys (b := !b) (by rw [hb]; rfl) ?_
 exact M.pan (x := stopV e p) [] (by kernel_rfl) trivial (OkP.done [] hst rfl (by kernel_rfl) (by kernel_rfl) (by kernel_rfl))
theorem Rd.Ok.rest {t : List UInt8} {r : Rd} (h : r.Ok t) : (t.drop r.pos).length <= 9223372036854775807 := by
 have := h.len; rw [List.length_drop]; omega
theorem Rd.Ok.run {t : List UInt8} {r : Rd} (h : r.Ok t) (p : UInt8 -> Bool) : r.pos + runF p (t.drop r.pos) <= t.length /\ runF p (t.drop r.pos) <= 1000000 := by
 have h1 := h.len; have h2 := runF_le p (t.drop r.pos); have h3 := h.pos; rw [List.length_drop] at h2; omega
theorem colL_le (l : List UInt8) (n : Nat) : colL l n = 0 \/ (colL l n = 1 /\ n < l.length) := by
 unfold colL
 cases h : ((nxt l n).toNat : Int) == 58 with
 | false => exact .inl rfl
 | true =>
  refine .inr ⟨rfl, ?_⟩
  rcases Nat.lt_or_ge n l.length with h1 | h1
  ·exact h1
  ·unfold nxt at h; rw [List.getD_eq_getElem?_getD, List.getElem?_eq_none h1] at h; cases h
theorem Rd.Ok.colOk {t : List UInt8} {r : Rd} (h : r.Ok t) {n : Nat} (hn : r.pos + n <= t.length) : r.pos + (n + colL (t.drop r.pos) n) <= t.length /\ colL (t.drop r.pos) n <= 1 := by
 have h1 := h.pos; have h2 := colL_le (t.drop r.pos) n; rw [List.length_drop] at h2; omega
def wordN (l : List UInt8) : Nat := runF wordL l
def wordC (l : List UInt8) : Nat := colL l (wordN l)
def wordOk (l : List UInt8) : Bool := bif decide ((wordN l : Int) <= 24) then (bif smallL (nxt l 0) then true else (wordC l : Int) == 1) else false
def wordK (l : List UInt8) : Int := bif largeL (nxt l 0) then 3 else 1 + wordC l
def wordR (t : List UInt8) (r : Rd) : Rd := bif wordK (t.drop r.pos) == 1 then { r.fwd t (wordN (t.drop r.pos) + wordC (t.drop r.pos)) with name := r.pos + (wordN (t.drop r.pos) + wordC (t.drop r.pos)) } else r.fwd t (wordN (t.drop r.pos) + wordC (t.drop r.pos))
theorem word_no {t : List UInt8} {r : Rd} (h : r.Ok t) (hq : wordOk (t.drop r.pos) = false) : SpecP Tryz.prog 279 1 [rd t r] [.ref 0 0] [rd t r] (stopV 12 r.pos) := by
 refine SpecP.start (by kernel_rfl) Tryz.func279 rfl rfl (Nat.le_refl _) fun w0 L hst => ?_
 have hw := h.run wordL
 refine M.cm [0] (rest_spec h) ?_
 refine M.cl (run_spec (t.drop r.pos) 315 wordL h.rest wordL_spec) ?_
 refine M.cl (colon_spec h (wordN (t.drop r.pos)) hw.2) ?_
 refine M.tq hq (fun h1 q2 => ?_) (fun h1 q2 => ?_)
 ·refine M.cl (next_spec h 0 (Nat.zero_le _)) ?_
  refine M.cl (smallL_spec (nxt (t.drop r.pos) 0)) ?_
  refine M.tq q2 (fun h3 q4 => ?_) (fun h3 q4 => ?_)
  ·cases q4
  ·exact M.callP [] [] (needP_s q4 12 r.pos) (by kernel_rfl) trivial (by kernel_rfl) (OkP.done [0] hst rfl (by kernel_rfl) (by kernel_rfl) (by kernel_rfl))
 ·exact M.callP [] [] (needP_f 12 r.pos) (by kernel_rfl) trivial (by kernel_rfl) (OkP.done [0] hst rfl (by kernel_rfl) (by kernel_rfl) (by kernel_rfl))
theorem word_ok {t : List UInt8} {r : Rd} (h : r.Ok t) (hq : wordOk (t.drop r.pos) = true) : SpecM Tryz.prog 279 1 [rd t r] [.ref 0 0] [rd t (wordR t r)] (.tup [I (wordK (t.drop r.pos)), S ((t.drop r.pos).take (wordN (t.drop r.pos) + wordC (t.drop r.pos)))]) := by
 refine SpecM.start (by kernel_rfl) Tryz.func279 rfl rfl (Nat.le_refl _) fun w0 L hst => ?_
 have hw := h.run wordL
 have hc : r.pos + (wordN (t.drop r.pos) + wordC (t.drop r.pos)) <= t.length /\ wordC (t.drop r.pos) <= 1 := h.colOk hw.1
 have hn : wordN (t.drop r.pos) <= 1000000 := hw.2
 refine M.cm [0] (rest_spec h) ?_
 refine M.cl (run_spec (t.drop r.pos) 315 wordL h.rest wordL_spec) ?_
 refine M.cl (colon_spec h (wordN (t.drop r.pos)) hw.2) ?_
 refine M.tq hq (fun h1 q2 => ?_) (fun h1 q2 => ?_)
 case refine_2 => cases q2
 refine M.cl (next_spec h 0 (Nat.zero_le _)) ?_
 refine M.cl (smallL_spec (nxt (t.drop r.pos) 0)) ?_
 refine M.tq q2 (fun h3 q4 => M.cl (need_t 12 r.pos) ?_) (fun h3 q4 => M.cl (need_s q4 12 r.pos) ?_)
 all_goals refine M.clp [In64 (1 + (wordC (t.drop r.pos) : Int))] ⟨⟨by omega, by omega⟩, trivial⟩ (next_spec h 0 (Nat.zero_le _)) ?_
 all_goals refine M.cl (largeL_spec (nxt (t.drop r.pos) 0)) ?_
 all_goals refine M.tq (r := wordK (t.drop r.pos)) rfl (fun h5 q6 => ?_) (fun h5 q6 => ?_)
 all_goals refine M.callmp [In64 ((wordN (t.drop r.pos) : Int) + wordC (t.drop r.pos))] [0] (forward_spec h (wordN (t.drop r.pos) + wordC (t.drop r.pos)) hc.1) (by kernel_rfl) ⟨⟨by omega, by omega⟩, trivial⟩ ?_
 all_goals unfold wordR
 all_goals rw [<- q6]
 case refine_1.refine_1.refine_1 | refine_1.refine_2.refine_1 =>
  refine M.n (b := (3 : Int) == 1) rfl ?_
  exact M.retm [] [0] hst rfl (by kernel_rfl) trivial rfl rfl
 all_goals refine M.test ((1 + (wordC (t.drop r.pos) : Int)) == 1) (by kernel_rfl) (fun h7 => ?_) (fun h7 => ?_)
 all_goals rw [h7]
 all_goals exact M.retm [] [0] hst rfl (by kernel_rfl) trivial rfl rfl
theorem row_drop {α : Type} [Inhabited α] (k : Nat) (f : α -> List PV) (l : List α) (n : Nat) : PV.sl k (l.length - n) (fun j => f (l.getD (n + j) default)) = row k f (l.drop n) := by
 have : (fun j => f (l.getD (n + j) default)) = fun j => f ((l.drop n).getD j default) := by
  funext j
  rw [List.getD_eq_getElem?_getD, List.getD_eq_getElem?_getD, List.getElem?_drop]
 rw [this, <- List.length_drop]
def primN (l : List UInt8) : Nat := runF wordL (l.drop 1)
def primC (l : List UInt8) : Nat := colL l (1 + primN l)
def primOk (l : List UInt8) : Bool := bif decide ((primN l : Int) >= 1) then (bif decide ((primN l : Int) <= 24) then largeL (nxt l 1) else false) else false
theorem run1_spec (l : List UInt8) (h : l.length <= 9223372036854775807) : Spec Tryz.prog 291 [.sl 1 (l.length - 1) (fun j => [B (l.getD (1 + j) default)]), .fn 315 []] (I (primN l)) := by
 have := run_spec (l.drop 1) 315 wordL (by rw [List.length_drop]; omega) wordL_spec
 have e : PV.sl 1 (l.length - 1) (fun j => [B (l.getD (1 + j) default)]) = brow (l.drop 1) := row_drop 1 (fun b => [B b]) l 1
 rw [e]
 exact this
theorem Rd.Ok.prim {t : List UInt8} {r : Rd} (h : r.Ok t) (hne : r.pos < t.length) : r.pos + (1 + primN (t.drop r.pos)) <= t.length /\ primN (t.drop r.pos) <= 1000000 := by
 have h1 := h.len; have h2 := runF_le wordL ((t.drop r.pos).drop 1); rw [List.length_drop, List.length_drop] at h2
 have h3 : primN (t.drop r.pos) = runF wordL ((t.drop r.pos).drop 1) := rfl
 omega
theorem prim_no {t : List UInt8} {r : Rd} (h : r.Ok t) (hne : r.pos < t.length) (hq : primOk (t.drop r.pos) = false) : SpecP Tryz.prog 281 1 [rd t r] [.ref 0 0] [rd t r] (stopV 12 r.pos) := by
 refine SpecP.start (by kernel_rfl) Tryz.func281 rfl rfl (Nat.le_refl _) fun w0 L hst => ?_
 have hl : 1 <= (t.drop r.pos).length := by rw [List.length_drop]; omega
 refine M.cm [0] (rest_spec h) ?_
 refine M.clp [(0 : Int) <= 1 /\ (1 : Int) <= (t.drop r.pos).length /\ ((t.drop r.pos).length : Int) <= (t.drop r.pos).length] ⟨by omega, trivial⟩ (run1_spec (t.drop r.pos) h.rest) ?_
 refine M.tq hq (fun h1 q2 => ?_) (fun h1 q2 => ?_)
 ·refine M.tq q2 (fun h3 q4 => ?_) (fun h3 q4 => ?_)
  ·refine M.cl (next_spec h 1 (by omega)) ?_
   refine M.cl (largeL_spec (nxt (t.drop r.pos) 1)) ?_
   exact M.callP [] [] (needP_s q4 12 r.pos) (by kernel_rfl) trivial (by kernel_rfl) (OkP.done [0] hst rfl (by kernel_rfl) (by kernel_rfl) (by kernel_rfl))
  ·exact M.callP [] [] (needP_f 12 r.pos) (by kernel_rfl) trivial (by kernel_rfl) (OkP.done [0] hst rfl (by kernel_rfl) (by kernel_rfl) (by kernel_rfl))
 ·exact M.callP [] [] (needP_f 12 r.pos) (by kernel_rfl) trivial (by kernel_rfl) (OkP.done [0] hst rfl (by kernel_rfl) (by kernel_rfl) (by kernel_rfl))
theorem prim_ok {t : List UInt8} {r : Rd} (h : r.Ok t) (hne : r.pos < t.length) (hq : primOk (t.drop r.pos) = true) : SpecM Tryz.prog 281 1 [rd t r] [.ref 0 0] [rd t (r.fwd t (1 + primN (t.drop r.pos) + primC (t.drop r.pos)))] (.tup [I 4, S ((t.drop r.pos).take (1 + primN (t.drop r.pos) + primC (t.drop r.pos)))]) := by
 refine SpecM.start (by kernel_rfl) Tryz.func281 rfl rfl (Nat.le_refl _) fun w0 L hst => ?_
 have hl : 1 <= (t.drop r.pos).length := by rw [List.length_drop]; omega
 have hw := h.prim hne
 have hc : r.pos + (1 + primN (t.drop r.pos) + primC (t.drop r.pos)) <= t.length /\ primC (t.drop r.pos) <= 1 := h.colOk hw.1
 refine M.cm [0] (rest_spec h) ?_
 refine M.clp [(0 : Int) <= 1 /\ (1 : Int) <= (t.drop r.pos).length /\ ((t.drop r.pos).length : Int) <= (t.drop r.pos).length] ⟨by omega, trivial⟩ (run1_spec (t.drop r.pos) h.rest) ?_
 refine M.tq hq (fun h1 q2 => ?_) (fun h1 q2 => by cases q2)
 refine M.tq q2 (fun h3 q4 => ?_) (fun h3 q4 => by cases q4)
 refine M.cl (next_spec h 1 (by omega)) ?_
 refine M.cl (largeL_spec (nxt (t.drop r.pos) 1)) ?_
 refine M.cl (need_s q4 12 r.pos) ?_
 refine M.clp [In64 (1 + (primN (t.drop r.pos) : Int)), In64 (1 + (primN (t.drop r.pos) : Int))] ⟨⟨by omega, by omega⟩, ⟨by omega, by omega⟩, trivial⟩ (colon_spec h (1 + primN (t.drop r.pos)) (by have := of_decide_eq_true h3; omega)) ?_ (by kernel_rfl)
 refine M.callmp [In64 (1 + (primN (t.drop r.pos) : Int) + primC (t.drop r.pos))] [0] (forward_spec h (1 + primN (t.drop r.pos) + primC (t.drop r.pos)) hc.1) (by kernel_rfl) ⟨⟨by omega, by omega⟩, trivial⟩ ?_
 exact M.retm [] [0] hst rfl (by kernel_rfl) trivial rfl rfl
def numN (l : List UInt8) : Nat := runF digitL l
def numOk (l : List UInt8) : Bool := bif decide ((numN l : Int) <= 400) then (bif (numN l : Int) == 1 then true else ((nxt l 0).toNat : Int) != 48) else false
theorem num_no {t : List UInt8} {r : Rd} (h : r.Ok t) (hq : numOk (t.drop r.pos) = false) : SpecP Tryz.prog 283 1 [rd t r] [.ref 0 0] [rd t r] (stopV 12 r.pos) := by
 refine SpecP.start (by kernel_rfl) Tryz.func283 rfl rfl (Nat.le_refl _) fun w0 L hst => ?_
 refine M.cm [0] (rest_spec h) ?_
 refine M.cl (run_spec (t.drop r.pos) 282 digitL h.rest digitL_spec) ?_
 refine M.tq hq (fun h1 q2 => ?_) (fun h1 q2 => ?_)
 ·refine M.tq q2 (fun h3 q4 => by cases q4) (fun h3 q4 => ?_)
  refine M.cl (next_spec h 0 (by omega)) ?_
  exact M.callP [] [] (needP_s q4 12 r.pos) (by kernel_rfl) trivial (by kernel_rfl) (OkP.done [0] hst rfl (by kernel_rfl) (by kernel_rfl) (by kernel_rfl))
 ·exact M.callP [] [] (needP_f 12 r.pos) (by kernel_rfl) trivial (by kernel_rfl) (OkP.done [0] hst rfl (by kernel_rfl) (by kernel_rfl) (by kernel_rfl))
theorem num_ok {t : List UInt8} {r : Rd} (h : r.Ok t) (hq : numOk (t.drop r.pos) = true) : SpecM Tryz.prog 283 1 [rd t r] [.ref 0 0] [rd t (r.fwd t (numN (t.drop r.pos)))] (.tup [I 5, S ((t.drop r.pos).take (numN (t.drop r.pos)))]) := by
 refine SpecM.start (by kernel_rfl) Tryz.func283 rfl rfl (Nat.le_refl _) fun w0 L hst => ?_
 have hw := h.run digitL
 refine M.cm [0] (rest_spec h) ?_
 refine M.cl (run_spec (t.drop r.pos) 282 digitL h.rest digitL_spec) ?_
 refine M.tq hq (fun h1 q2 => ?_) (fun h1 q2 => by cases q2)
 refine M.tq q2 (fun h3 q4 => M.cl (need_t 12 r.pos) ?_) (fun h3 q4 => M.cl (next_spec h 0 (by omega)) (M.cl (need_s q4 12 r.pos) ?_))
 all_goals refine M.callm [0] (forward_spec h (numN (t.drop r.pos)) hw.1) (by kernel_rfl) ?_
 all_goals exact M.retm [] [0] hst rfl (by kernel_rfl) trivial rfl rfl
def oprN (l : List UInt8) : Nat := runF opL l
def oprOk (l : List UInt8) : Bool := decide ((oprN l : Int) <= 3)
theorem opr_no {t : List UInt8} {r : Rd} (h : r.Ok t) (hq : oprOk (t.drop r.pos) = false) : SpecP Tryz.prog 287 1 [rd t r] [.ref 0 0] [rd t r] (stopV 12 r.pos) := by
 refine SpecP.start (by kernel_rfl) Tryz.func287 rfl rfl (Nat.le_refl _) fun w0 L hst => ?_
 refine M.cm [0] (rest_spec h) ?_
 refine M.cl (run_spec (t.drop r.pos) 286 opL h.rest opL_spec) ?_
 exact M.callP [] [] (needP_s hq 12 r.pos) (by kernel_rfl) trivial (by kernel_rfl) (OkP.done [0] hst rfl (by kernel_rfl) (by kernel_rfl) (by kernel_rfl))
theorem opr_ok {t : List UInt8} {r : Rd} (h : r.Ok t) (hq : oprOk (t.drop r.pos) = true) : SpecM Tryz.prog 287 1 [rd t r] [.ref 0 0] [rd t (r.fwd t (oprN (t.drop r.pos)))] (.tup [I 7, S ((t.drop r.pos).take (oprN (t.drop r.pos)))]) := by
 refine SpecM.start (by kernel_rfl) Tryz.func287 rfl rfl (Nat.le_refl _) fun w0 L hst => ?_
 have hw := h.run opL
 refine M.cm [0] (rest_spec h) ?_
 refine M.cl (run_spec (t.drop r.pos) 286 opL h.rest opL_spec) ?_
 refine M.cl (need_s hq 12 r.pos) ?_
 refine M.cm [0] (forward_spec h (oprN (t.drop r.pos)) hw.1) ?_
 exact M.retm [] [0] hst rfl (by kernel_rfl) trivial rfl rfl
def signK (t : List UInt8) (r : Rd) : Int :=
 bif ((nxt (t.drop r.pos) 0).toNat : Int) == 46 then (bif decide ((r.pos : Int) > 0) then (bif (r.name : Int) == r.pos then (bif letterL (nxt (t.drop r.pos) 1) then 9 else (bif opL (nxt (t.drop r.pos) 1) then 9 else 8)) else 8) else 8) else 8
theorem sign_ok {t : List UInt8} {r : Rd} (h : r.Ok t) (hne : r.pos < t.length) : SpecM Tryz.prog 289 1 [rd t r] [.ref 0 0] [rd t (r.fwd t 1)] (.tup [I (signK t r), S ((t.drop r.pos).take 1)]) := by
 refine SpecM.start (by kernel_rfl) Tryz.func289 rfl rfl (Nat.le_refl _) fun w0 L hst => ?_
 refine M.cl (next_spec h 1 (by omega)) ?_
 refine M.cl (next_spec h 0 (by omega)) ?_
 refine M.tq (r := signK t r) rfl (fun h1 q1 => ?_) (fun h1 q1 => ?_)
 ·refine M.tq q1 (fun h2 q2 => ?_) (fun h2 q2 => ?_)
  ·refine M.tq q2 (fun h3 q3 => ?_) (fun h3 q3 => ?_)
   ·refine M.cl (letterL_spec (nxt (t.drop r.pos) 1)) ?_
    refine M.tq q3 (fun h4 q4 => ?_) (fun h4 q4 => ?_)
    ·refine M.cm [0] (forward_spec h 1 hne) ?_
     rw [<- q4]
     exact M.retm [] [0] hst rfl (by kernel_rfl) trivial rfl rfl
    ·refine M.cl (opL_spec (nxt (t.drop r.pos) 1)) ?_
     refine M.tq q4 (fun h5 q5 => ?_) (fun h5 q5 => ?_)
     all_goals refine M.callm [0] (forward_spec h 1 hne) (by kernel_rfl) ?_
     all_goals rw [<- q5]
     all_goals exact M.retm [] [0] hst rfl (by kernel_rfl) trivial rfl rfl
   ·refine M.cm [0] (forward_spec h 1 hne) ?_
    rw [<- q3]
    exact M.retm [] [0] hst rfl (by kernel_rfl) trivial rfl rfl
  ·refine M.cm [0] (forward_spec h 1 hne) ?_
   rw [<- q2]
   exact M.retm [] [0] hst rfl (by kernel_rfl) trivial rfl rfl
 ·refine M.cm [0] (forward_spec h 1 hne) ?_
  rw [<- q1]
  exact M.retm [] [0] hst rfl (by kernel_rfl) trivial rfl rfl
theorem nxt_lt {l : List UInt8} {n : Nat} {k : Int} (hk : k ≠ 0) (h : ((nxt l n).toNat : Int) = k) : n < l.length := by
 rcases Nat.lt_or_ge n l.length with h1 | h1
 ·exact h1
 ·unfold nxt at h; rw [List.getD_eq_getElem?_getD, List.getElem?_eq_none h1] at h; exact absurd h.symm (by simpa using hk)
def strL (t : List UInt8) : Nat -> Rd -> List UInt8 -> Rd × Option (List UInt8)
 | 0, r, _ => (r, none)
 | f + 1, r, x =>
  bif ((nxt (t.drop (r.fwd t (runF insideL (t.drop r.pos))).pos) 0).toNat : Int) == 39 then
   (bif ((nxt (t.drop ((r.fwd t (runF insideL (t.drop r.pos))).fwd t 1).pos) 0).toNat : Int) != 39 then
    ((r.fwd t (runF insideL (t.drop r.pos))).fwd t 1, some (x ++ (t.drop r.pos).take (runF insideL (t.drop r.pos))))
   else strL t f (((r.fwd t (runF insideL (t.drop r.pos))).fwd t 1).fwd t 1) ((x ++ (t.drop r.pos).take (runF insideL (t.drop r.pos))) ++ (t.drop ((r.fwd t (runF insideL (t.drop r.pos))).fwd t 1).pos).take 1))
  else (r.fwd t (runF insideL (t.drop r.pos)), none)
theorem nxt_pos {t : List UInt8} {p : Nat} {k : Int} (hk : k ≠ 0) (h : ((nxt (t.drop p) 0).toNat : Int) = k) : p + 1 <= t.length := by
 have := nxt_lt hk h
 rw [List.length_drop] at this
 omega
abbrev StrI (t : List UInt8) (res : Rd × Option (List UInt8)) := {q : Nat × Rd × List UInt8 // q.2.1.Ok t /\ strL t q.1 q.2.1 q.2.2 = res /\ q.2.2.length <= q.2.1.pos /\ t.length < q.1 + q.2.1.pos}
theorem str_ok {t : List UInt8} {r r' : Rd} {x : List UInt8} (h : r.Ok t) (hne : r.pos < t.length) (hq : strL t (t.length + 1) (r.fwd t 1) [] = (r', some x)) : SpecM Tryz.prog 285 1 [rd t r] [.ref 0 0] [rd t r'] (.tup [I 6, S x]) := by
 refine SpecM.start (by kernel_rfl) Tryz.func285 rfl rfl (Nat.le_refl _) fun w0 L hst => ?_
 refine M.cm [0] (forward_spec h 1 hne) ?_
 refine M.loopL (ι := StrI t (r', some x)) (fun q => [(0, .ref 0 0), (4, I r.pos), (5, S q.1.2.2)]) (fun q => [rd t q.1.2.1]) (fun q => q.1.1) ⟨(t.length + 1, r.fwd t 1, []), h.fwd hne, hq, Nat.zero_le _, by show t.length < t.length + 1 + _; omega⟩ [] (by kernel_rfl) trivial (by kernel_rfl) (by kernel_rfl) fun ⟨(f, s, y), hs, hf, hy, hfu⟩ L ih => ?_
 simp only at hs hf hy hfu
 have hsp := hs.pos
 cases f with
 | zero => omega
 | succ f =>
 have hw := hs.run insideL
 have hs1 := hs.fwd hw.1
 have hlen := hs.len
 unfold strL at hf
 refine M.cm [0] (rest_spec hs) ?_
 refine M.cl (run_spec (t.drop s.pos) 317 insideL hs.rest insideL_spec) ?_
 refine M.cm [0] (forward_spec hs (runF insideL (t.drop s.pos)) hw.1) ?_
 have hyl : (y ++ (t.drop s.pos).take (runF insideL (t.drop s.pos))).length <= s.pos + runF insideL (t.drop s.pos) := by rw [List.length_append, List.length_take]; omega
 refine M.clp [((y.length + ((t.drop s.pos).take (runF insideL (t.drop s.pos))).length : Nat) : Int) <= 9223372036854775807] ⟨by rw [List.length_take]; omega, trivial⟩ (next_spec hs1 0 (by omega)) ?_
 cases hb : ((nxt (t.drop (s.fwd t (runF insideL (t.drop s.pos))).pos) 0).toNat : Int) == 39 with
 | false => rw [hb] at hf; cases hf
 | true =>
 rw [hb] at hf
 refine M.cl (need_s hb 11 r.pos) ?_
 have hp : (s.fwd t (runF insideL (t.drop s.pos))).pos + 1 <= t.length := nxt_pos (k := 39) (by omega) (by simpa using hb)
 have hs2 := hs1.fwd hp
 refine M.cm [0] (forward_spec hs1 1 hp) ?_
 refine M.cl (next_spec hs2 0 (by omega)) ?_
 refine M.ts (((nxt (t.drop ((s.fwd t (runF insideL (t.drop s.pos))).fwd t 1).pos) 0).toNat : Int) != 39) (fun h5 => ?_) (fun h5 => ?_)
 ·rw [h5] at hf
  cases hf
  exact M.retm [] [0] hst rfl (by kernel_rfl) trivial rfl rfl
 ·rw [h5] at hf
  have hp2 : ((s.fwd t (runF insideL (t.drop s.pos))).fwd t 1).pos + 1 <= t.length := nxt_pos (k := 39) (by omega) (by simpa using h5)
  refine M.cm [0] (forward_spec hs2 1 hp2) ?_
  have e1 : ((s.fwd t (runF insideL (t.drop s.pos))).fwd t 1).pos = s.pos + runF insideL (t.drop s.pos) + 1 := rfl
  have e2 : (((s.fwd t (runF insideL (t.drop s.pos))).fwd t 1).fwd t 1).pos = s.pos + runF insideL (t.drop s.pos) + 1 + 1 := rfl
  refine M.back [(((y ++ (t.drop s.pos).take (runF insideL (t.drop s.pos))).length + ((t.drop ((s.fwd t (runF insideL (t.drop s.pos))).fwd t 1).pos).take 1).length : Nat) : Int) <= 9223372036854775807]
   (ih ⟨(f, ((s.fwd t (runF insideL (t.drop s.pos))).fwd t 1).fwd t 1, (y ++ (t.drop s.pos).take (runF insideL (t.drop s.pos))) ++ (t.drop ((s.fwd t (runF insideL (t.drop s.pos))).fwd t 1).pos).take 1), hs2.fwd hp2, hf, by simp only [List.length_append, List.length_take] at hyl ⊢; omega, by simp only; omega⟩ L (Nat.lt_succ_self f)) (by kernel_rfl) ⟨by rw [List.length_take]; omega, trivial⟩ (by kernel_rfl) (by kernel_rfl) (by kernel_rfl) (by kernel_rfl)
theorem str_no {t : List UInt8} {r r' : Rd} (h : r.Ok t) (hne : r.pos < t.length) (hq : strL t (t.length + 1) (r.fwd t 1) [] = (r', none)) : SpecP Tryz.prog 285 1 [rd t r] [.ref 0 0] [rd t r'] (stopV 11 r.pos) := by
 refine SpecP.start (by kernel_rfl) Tryz.func285 rfl rfl (Nat.le_refl _) fun w0 L hst => ?_
 refine M.cm [0] (forward_spec h 1 hne) ?_
 refine M.loopL (ι := StrI t (r', none)) (fun q => [(0, .ref 0 0), (4, I r.pos), (5, S q.1.2.2)]) (fun q => [rd t q.1.2.1]) (fun q => q.1.1) ⟨(t.length + 1, r.fwd t 1, []), h.fwd hne, hq, Nat.zero_le _, by show t.length < t.length + 1 + _; omega⟩ [] (by kernel_rfl) trivial (by kernel_rfl) (by kernel_rfl) fun ⟨(f, s, y), hs, hf, hy, hfu⟩ L ih => ?_
 simp only at hs hf hy hfu
 have hsp := hs.pos
 cases f with
 | zero => omega
 | succ f =>
 have hw := hs.run insideL
 have hs1 := hs.fwd hw.1
 have hlen := hs.len
 unfold strL at hf
 refine M.cm [0] (rest_spec hs) ?_
 refine M.cl (run_spec (t.drop s.pos) 317 insideL hs.rest insideL_spec) ?_
 refine M.cm [0] (forward_spec hs (runF insideL (t.drop s.pos)) hw.1) ?_
 have hyl : (y ++ (t.drop s.pos).take (runF insideL (t.drop s.pos))).length <= s.pos + runF insideL (t.drop s.pos) := by rw [List.length_append, List.length_take]; omega
 refine M.clp [((y.length + ((t.drop s.pos).take (runF insideL (t.drop s.pos))).length : Nat) : Int) <= 9223372036854775807] ⟨by rw [List.length_take]; omega, trivial⟩ (next_spec hs1 0 (by omega)) ?_
 cases hb : ((nxt (t.drop (s.fwd t (runF insideL (t.drop s.pos))).pos) 0).toNat : Int) == 39 with
 | false =>
  rw [hb] at hf
  cases hf
  exact M.callP [] [] (needP_s hb 11 r.pos) (by kernel_rfl) trivial (by kernel_rfl) (OkP.done [0] hst rfl (by kernel_rfl) (by kernel_rfl) (by kernel_rfl))
 | true =>
 rw [hb] at hf
 refine M.cl (need_s hb 11 r.pos) ?_
 have hp : (s.fwd t (runF insideL (t.drop s.pos))).pos + 1 <= t.length := nxt_pos (k := 39) (by omega) (by simpa using hb)
 have hs2 := hs1.fwd hp
 refine M.cm [0] (forward_spec hs1 1 hp) ?_
 refine M.cl (next_spec hs2 0 (by omega)) ?_
 refine M.ts (((nxt (t.drop ((s.fwd t (runF insideL (t.drop s.pos))).fwd t 1).pos) 0).toNat : Int) != 39) (fun h5 => ?_) (fun h5 => ?_)
 ·rw [h5] at hf
  cases hf
 ·rw [h5] at hf
  have hp2 : ((s.fwd t (runF insideL (t.drop s.pos))).fwd t 1).pos + 1 <= t.length := nxt_pos (k := 39) (by omega) (by simpa using h5)
  refine M.cm [0] (forward_spec hs2 1 hp2) ?_
  have e1 : ((s.fwd t (runF insideL (t.drop s.pos))).fwd t 1).pos = s.pos + runF insideL (t.drop s.pos) + 1 := rfl
  have e2 : (((s.fwd t (runF insideL (t.drop s.pos))).fwd t 1).fwd t 1).pos = s.pos + runF insideL (t.drop s.pos) + 1 + 1 := rfl
  refine M.back [(((y ++ (t.drop s.pos).take (runF insideL (t.drop s.pos))).length + ((t.drop ((s.fwd t (runF insideL (t.drop s.pos))).fwd t 1).pos).take 1).length : Nat) : Int) <= 9223372036854775807]
   (ih ⟨(f, ((s.fwd t (runF insideL (t.drop s.pos))).fwd t 1).fwd t 1, (y ++ (t.drop s.pos).take (runF insideL (t.drop s.pos))) ++ (t.drop ((s.fwd t (runF insideL (t.drop s.pos))).fwd t 1).pos).take 1), hs2.fwd hp2, hf, by simp only [List.length_append, List.length_take] at hyl ⊢; omega, by simp only; omega⟩ L (Nat.lt_succ_self f)) (by kernel_rfl) ⟨by rw [List.length_take]; omega, trivial⟩ (by kernel_rfl) (by kernel_rfl) (by kernel_rfl) (by kernel_rfl)
end Go.Proofs.YtplpnfjccemdnaaGreatDoor
