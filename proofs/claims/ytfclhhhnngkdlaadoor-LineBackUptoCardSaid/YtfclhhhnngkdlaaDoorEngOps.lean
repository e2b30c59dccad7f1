/- The engine's second text: one lemma for each kind of operation that only computes, and the types' facts. -/
import Derived.Test.YtfclhhhnngkdlaaDoorEngCore
set_option linter.unusedVariables false
set_option linter.unusedSimpArgs false
namespace Go.Proofs.Eng
open Go Go.RowKit

/-! ### The types' facts, a class each, so that no line of a walk names them -/
class TyU (P : Program) (t : TypeId) (d : outParam TypeDesc) : Prop where
  u : P.underlying t = some d
class TyI (P : Program) (t : TypeId) (size bytes : outParam Nat) (zero : outParam Value) : Prop where
  i : (P.info? t).map (fun i => (i.size, i.bytes, i.zero)) = some (size, bytes, some zero)

theorem TyI.get {P t size bytes zero} (h : TyI P t size bytes zero) : ∃ i, P.info? t = some i ∧ i.size = size ∧ i.bytes = bytes ∧ i.zero = some zero := by
  obtain ⟨i, hi, hz⟩ := Option.map_eq_some_iff.1 h.i
  simp only [Prod.mk.injEq] at hz
  exact ⟨i, hi, hz.1, hz.2.1, hz.2.2⟩

theorem run_sizeOf {P t size bytes zero} (h : TyI P t size bytes zero) (w : World) : (sizeOf t).run P w = .ok size w := by
  obtain ⟨i, hi, rfl, _, _⟩ := h.get
  simp [sizeOf, typeInfo, hi]
theorem run_zeroOf {P t size bytes zero} (h : TyI P t size bytes zero) (w : World) : (zeroValue t).run P w = .ok zero w := by
  obtain ⟨i, hi, _, _, hz⟩ := h.get
  simp [zeroValue, typeInfo, hi, hz]

def aggB : TypeDesc → Bool
  | .struct _ => true
  | .array _ _ => true
  | _ => false
theorem run_isAgg {P t d} (h : TyU P t d) (w : World) : (isAgg t).run P w = .ok (aggB d) w := by
  simp only [isAgg, Sem.run_bind, run_underlying h.u, Result.andThen_ok]
  cases d <;> rfl

section
variable {P : Program} {w0 : World} {n : Nat} {D : List Deferred} {Q : Exit → Act → World → Prop} {ops : Array Oper} {rest : List Oper} {E : Env} {H : Hp}
variable {md : Md} {d : Nat} {ty : TypeId} {pos : String} {af : Array Edge} {g : Option (Nat × Bool)}

theorem V.move {x : Operand} {v : Value} (hw : want ops E ⟨some d, .move x, ty, pos, af, g⟩ = some true) (hd : Nat.blt d n = true) (hx : ev E x = some v)
    (k : VM P w0 n D Q md ops rest ((d, v) :: E) H) : VM P w0 n D Q md ops (⟨some d, .move x, ty, pos, af, g⟩ :: rest) E H :=
  V.val hw hd (fun a w hF hW => by simp [execOp, hF.ev hx]) k
theorem V.assign {x : Operand} {v : Value} (hw : want ops E ⟨some d, .assign x, ty, pos, af, g⟩ = some true) (hd : Nat.blt d n = true) (hx : ev E x = some v)
    (k : VM P w0 n D Q md ops rest ((d, v) :: E) H) : VM P w0 n D Q md ops (⟨some d, .assign x, ty, pos, af, g⟩ :: rest) E H :=
  V.val hw hd (fun a w hF hW => by simp [execOp, hF.ev hx]) k
theorem V.pickT {c x y : Operand} {v : Value} (hw : want ops E ⟨some d, .pick c x y, ty, pos, af, g⟩ = some true) (hd : Nat.blt d n = true) (hc : ev E c = some (.bool true)) (hx : ev E x = some v)
    (k : VM P w0 n D Q md ops rest ((d, v) :: E) H) : VM P w0 n D Q md ops (⟨some d, .pick c x y, ty, pos, af, g⟩ :: rest) E H :=
  V.val hw hd (fun a w hF hW => by simp [execOp, hF.ev hc, hF.ev hx, asBool]) k
theorem V.pickF {c x y : Operand} {v : Value} (hw : want ops E ⟨some d, .pick c x y, ty, pos, af, g⟩ = some true) (hd : Nat.blt d n = true) (hc : ev E c = some (.bool false)) (hy : ev E y = some v)
    (k : VM P w0 n D Q md ops rest ((d, v) :: E) H) : VM P w0 n D Q md ops (⟨some d, .pick c x y, ty, pos, af, g⟩ :: rest) E H :=
  V.val hw hd (fun a w hF hW => by simp [execOp, hF.ev hc, hF.ev hy, asBool]) k
theorem V.extract {x : Operand} {i : Nat} {vs : Array Value} {v : Value} (hw : want ops E ⟨some d, .extract x i, ty, pos, af, g⟩ = some true) (hd : Nat.blt d n = true) (hx : ev E x = some (.tuple vs)) (hi : vs[i]? = some v)
    (k : VM P w0 n D Q md ops rest ((d, v) :: E) H) : VM P w0 n D Q md ops (⟨some d, .extract x i, ty, pos, af, g⟩ :: rest) E H :=
  V.val hw hd (fun a w hF hW => by simp [execOp, hF.ev hx, Instr.extract, hi]) k
theorem V.not {t : TypeId} {x : Operand} {b : Bool} (hw : want ops E ⟨some d, .unOp .not t x, ty, pos, af, g⟩ = some true) (hd : Nat.blt d n = true) (hx : ev E x = some (.bool b))
    (k : VM P w0 n D Q md ops rest ((d, .bool (!b)) :: E) H) : VM P w0 n D Q md ops (⟨some d, .unOp .not t x, ty, pos, af, g⟩ :: rest) E H :=
  V.val hw hd (fun a w hF hW => by simp [execOp, hF.ev hx, Op.unary]) k
theorem V.negI {t : TypeId} {x : Operand} {i : Int} (hw : want ops E ⟨some d, .unOp .neg t x, ty, pos, af, g⟩ = some true) (hd : Nat.blt d n = true) (hx : ev E x = some (.int .i64 i)) (h : -9223372036854775808 < i ∧ i ≤ 9223372036854775807)
    (k : VM P w0 n D Q md ops rest ((d, .int .i64 (-i)) :: E) H) : VM P w0 n D Q md ops (⟨some d, .unOp .neg t x, ty, pos, af, g⟩ :: rest) E H :=
  V.val hw hd (fun a w hF hW => by
    have := IntWalk.i64_in (0 - i) (by omega)
    simp only [execOp, Sem.run_bind, hF.ev hx, Op.unary, Op.intArith, this, Sem.run_pure, Result.andThen_ok]
    rw [show (0 - i) = -i by omega]) k
theorem V.nilCheck {x : Operand} {ad : Addr} (hw : want ops E ⟨some d, .nilCheck x, ty, pos, af, g⟩ = some true) (hd : Nat.blt d n = true) (hx : ev E x = some (.pointer (some ad)))
    (k : VM P w0 n D Q md ops rest ((d, .pointer (some ad)) :: E) H) : VM P w0 n D Q md ops (⟨some d, .nilCheck x, ty, pos, af, g⟩ :: rest) E H :=
  V.val hw hd (fun a w hF hW => by simp [execOp, hF.ev hx]) k
theorem V.nilCheckF {x : Operand} {f : FuncId} {fi ca : Array Value} (hw : want ops E ⟨some d, .nilCheck x, ty, pos, af, g⟩ = some true) (hd : Nat.blt d n = true) (hx : ev E x = some (.func (.func f) fi ca))
    (k : VM P w0 n D Q md ops rest ((d, .func (.func f) fi ca) :: E) H) : VM P w0 n D Q md ops (⟨some d, .nilCheck x, ty, pos, af, g⟩ :: rest) E H :=
  V.val hw hd (fun a w hF hW => by simp [execOp, hF.ev hx]) k
theorem V.makeFunc {fn : Fn} {fi ca : Array Operand} {vf vc : List Value} (hw : want ops E ⟨some d, .makeFunc fn fi ca, ty, pos, af, g⟩ = some true) (hd : Nat.blt d n = true) (hf : evs E fi.toList = some vf) (hc : evs E ca.toList = some vc)
    (k : VM P w0 n D Q md ops rest ((d, .func fn vf.toArray vc.toArray) :: E) H) : VM P w0 n D Q md ops (⟨some d, .makeFunc fn fi ca, ty, pos, af, g⟩ :: rest) E H :=
  V.val hw hd (fun a w hF hW => by
    have h1 := hF.evs hf
    have h2 := hF.evs hc
    have e1 : fi.map a.eval = vf.toArray := by apply Array.ext'; simpa using h1
    have e2 : ca.map a.eval = vc.toArray := by apply Array.ext'; simpa using h2
    simp [execOp, Instr.makeFunc, e1, e2]) k

/-! #### operators -/
/-- the operator's own value -/
def Bin (P : Program) (op : BinOp) (t : TypeId) (x y v : Value) : Prop := ∀ (a b : Operand) (w : World), (do eqGuard op t a b x y; binOp op t x y).run P w = .ok v w

theorem V.bin {op : BinOp} {t t' : TypeId} {x y : Operand} {vx vy v : Value} (hw : want ops E ⟨some d, .binOp op t x y t', ty, pos, af, g⟩ = some true) (hd : Nat.blt d n = true)
    (hx : ev E x = some vx) (hy : ev E y = some vy) (hb : Bin P op t vx vy v)
    (k : VM P w0 n D Q md ops rest ((d, v) :: E) H) : VM P w0 n D Q md ops (⟨some d, .binOp op t x y t', ty, pos, af, g⟩ :: rest) E H :=
  V.val hw hd (fun a w hF hW => by
    have h1 := hb x y w
    simp only [execOp, hF.ev hx, hF.ev hy]
    rw [Sem.run_bind, h1]
    rfl) k
end

section
variable {P : Program} {t : TypeId}
theorem Bin.of {op : BinOp} {x y v : Value} (hg : ∀ (a b : Operand) (w : World), (eqGuard op t a b x y).run P w = .ok () w) (h : ∀ w, (binOp op t x y).run P w = .ok v w) : Bin P op t x y v :=
  fun a b w => by rw [Sem.run_bind, hg a b w]; exact h w

theorem bin_add (k : IntKind) (x y : Int) {z : Int} (h : k.wrap (x + y) = z) : Bin P .add t (.int k x) (.int k y) (.int k z) := Bin.of (fun _ _ _ => by simp [eqGuard]) fun w => by simp [binOp, Op.intArith, h]
theorem bin_sub (k : IntKind) (x y : Int) {z : Int} (h : k.wrap (x - y) = z) : Bin P .sub t (.int k x) (.int k y) (.int k z) := Bin.of (fun _ _ _ => by simp [eqGuard]) fun w => by simp [binOp, Op.intArith, h]
theorem bin_mul (k : IntKind) (x y : Int) {z : Int} (h : k.wrap (x * y) = z) : Bin P .mul t (.int k x) (.int k y) (.int k z) := Bin.of (fun _ _ _ => by simp [eqGuard]) fun w => by simp [binOp, Op.intArith, h]
theorem bin_addI {x y : Int} (h : -9223372036854775808 ≤ x + y ∧ x + y ≤ 9223372036854775807) : Bin P .add t (.int .i64 x) (.int .i64 y) (.int .i64 (x + y)) := bin_add _ _ _ (IntWalk.i64_in _ h)
theorem bin_subI {x y : Int} (h : -9223372036854775808 ≤ x - y ∧ x - y ≤ 9223372036854775807) : Bin P .sub t (.int .i64 x) (.int .i64 y) (.int .i64 (x - y)) := bin_sub _ _ _ (IntWalk.i64_in _ h)
theorem bin_mulI {x y : Int} (h : -9223372036854775808 ≤ x * y ∧ x * y ≤ 9223372036854775807) : Bin P .mul t (.int .i64 x) (.int .i64 y) (.int .i64 (x * y)) := bin_mul _ _ _ (IntWalk.i64_in _ h)
theorem bin_quo (k : IntKind) (x y : Int) {z : Int} (h0 : y ≠ 0) (h : k.wrap (x.tdiv y) = z) : Bin P .quo t (.int k x) (.int k y) (.int k z) := Bin.of (fun _ _ _ => by simp [eqGuard]) fun w => by simp [binOp, Op.intDiv, h, h0]
theorem bin_rem (k : IntKind) (x y : Int) (h0 : y ≠ 0) : Bin P .rem t (.int k x) (.int k y) (.int k (x.tmod y)) := Bin.of (fun _ _ _ => by simp [eqGuard]) fun w => by simp [binOp, Op.intDiv, h0]
theorem bin_quoI {x y : Int} (h : 0 ≤ x ∧ x ≤ 9223372036854775807 ∧ 1 ≤ y) : Bin P .quo t (.int .i64 x) (.int .i64 y) (.int .i64 (x / y)) := bin_quo _ _ _ (by omega) (IntWalk.i64_quo x y h)
theorem bin_remI {x y : Int} (h : 0 ≤ x ∧ 1 ≤ y) : Bin P .rem t (.int .i64 x) (.int .i64 y) (.int .i64 (x % y)) := by
  have := bin_rem (P := P) (t := t) .i64 x y (by omega)
  rwa [IntWalk.rem_in x y h.1] at this
theorem bin_eql (k : IntKind) (x y : Int) : Bin P .eql t (.int k x) (.int k y) (.bool (decide (x = y))) := Bin.of (fun _ _ _ => by simp [eqGuard]) fun w => by
  simp only [binOp, Op.intCmp]; simp; rfl
theorem bin_neq (k : IntKind) (x y : Int) : Bin P .neq t (.int k x) (.int k y) (.bool (decide (x ≠ y))) := Bin.of (fun _ _ _ => by simp [eqGuard]) fun w => by
  simp only [binOp, Op.intCmp]; simp [bne]; rfl
theorem bin_lss (k : IntKind) (x y : Int) : Bin P .lss t (.int k x) (.int k y) (.bool (decide (x < y))) := Bin.of (fun _ _ _ => by simp [eqGuard]) fun w => by simp [binOp, Op.intCmp]
theorem bin_leq (k : IntKind) (x y : Int) : Bin P .leq t (.int k x) (.int k y) (.bool (decide (x ≤ y))) := Bin.of (fun _ _ _ => by simp [eqGuard]) fun w => by simp [binOp, Op.intCmp]
theorem bin_gtr (k : IntKind) (x y : Int) : Bin P .gtr t (.int k x) (.int k y) (.bool (decide (y < x))) := Bin.of (fun _ _ _ => by simp [eqGuard]) fun w => by simp [binOp, Op.intCmp]
theorem bin_geq (k : IntKind) (x y : Int) : Bin P .geq t (.int k x) (.int k y) (.bool (decide (y ≤ x))) := Bin.of (fun _ _ _ => by simp [eqGuard]) fun w => by simp [binOp, Op.intCmp]
theorem bin_seql (x y : ByteArray) : Bin P .eql t (.string x) (.string y) (.bool (decide (x.data.toList = y.data.toList))) := Bin.of (fun _ _ _ => by simp [eqGuard]) fun w => by (simp [binOp, Op.stringOp, ByteArray.toList_eq]; by_cases h : x.data = y.data <;> simp [h])
theorem bin_sneq (x y : ByteArray) : Bin P .neq t (.string x) (.string y) (.bool (decide (x.data.toList ≠ y.data.toList))) := Bin.of (fun _ _ _ => by simp [eqGuard]) fun w => by (simp [binOp, Op.stringOp, ByteArray.toList_eq]; by_cases h : x.data = y.data <;> simp [h])
theorem bin_sadd (x y : ByteArray) (h : ((x.size + y.size : Nat) : Int) ≤ 9223372036854775807) : Bin P .add t (.string x) (.string y) (.string (x ++ y)) := Bin.of (fun _ _ _ => by simp [eqGuard]) fun w => by
  have hm : IntKind.i64.max = 9223372036854775807 := rfl
  have : ¬ (((x.size + y.size : Nat) : Int) > IntKind.i64.max) := by rw [hm]; omega
  simp only [binOp, Op.stringOp, this, if_false]
  rfl
theorem bin_beql [h : TyU P t .bool] (x y : Bool) : Bin P .eql t (.bool x) (.bool y) (.bool (x == y)) := Bin.of (fun _ _ _ => by simp [eqGuard]) fun w => run_eql_bool w t x y h.u
theorem bin_bneq [h : TyU P t .bool] (x y : Bool) : Bin P .neq t (.bool x) (.bool y) (.bool (!(x == y))) := Bin.of (fun _ _ _ => by simp [eqGuard]) fun w => run_neq_bool w t x y h.u
theorem bin_peqlNil {e} [h : TyU P t (.pointer e)] (p : Option Addr) : Bin P .eql t (.pointer p) (.pointer none) (.bool p.isNone) := Bin.of (fun _ _ _ => by simp [eqGuard]) fun w => by
  have hp : P.underlying t = some (.pointer (P.pointee t)) := by simp [Program.pointee, h.u]
  have := run_eql_pointer_nil (P := P) (w := w) t p hp
  cases p <;> simpa using this
theorem bin_pneqNil {e} [h : TyU P t (.pointer e)] (p : Option Addr) : Bin P .neq t (.pointer p) (.pointer none) (.bool p.isSome) := Bin.of (fun _ _ _ => by simp [eqGuard]) fun w => by
  have hp : P.underlying t = some (.pointer (P.pointee t)) := by simp [Program.pointee, h.u]
  have := run_neq_pointer_nil (P := P) (w := w) t p hp
  cases p <;> simpa using this

/-- unsigned words as bit vectors -/
def u64 (x : BitVec 64) : Value := .int .u64 (x.toNat : Int)
theorem wrap_u64_toNat (x : BitVec 64) : IntKind.u64.wrap (x.toNat : Int) = x.toNat := IntWalk.u64_in _ ⟨by omega, by have := x.isLt; omega⟩
theorem ofInt_toNat64 (x : BitVec 64) : BitVec.ofInt 64 (x.toNat : Int) = x := by
  apply BitVec.eq_of_toNat_eq
  rw [BitVec.toNat_ofInt]
  have := x.isLt
  omega
theorem bin_and64 (x y : BitVec 64) : Bin P .and t (u64 x) (u64 y) (u64 (x &&& y)) := Bin.of (fun _ _ _ => by simp [eqGuard, u64]) fun w => by
  have e : ∀ z : BitVec 64, BitVec.ofInt IntKind.u64.bits (z.toNat : Int) = z := ofInt_toNat64
  simp only [binOp, Op.intBits, u64, ne_eq, not_true, if_false, e]
  simp only [Sem.run_pure, Result.ok.injEq, Value.int.injEq, and_true, true_and]
  exact wrap_u64_toNat (x &&& y)
theorem bin_or64 (x y : BitVec 64) : Bin P .or t (u64 x) (u64 y) (u64 (x ||| y)) := Bin.of (fun _ _ _ => by simp [eqGuard, u64]) fun w => by
  have e : ∀ z : BitVec 64, BitVec.ofInt IntKind.u64.bits (z.toNat : Int) = z := ofInt_toNat64
  simp only [binOp, Op.intBits, u64, ne_eq, not_true, if_false, e]
  simp only [Sem.run_pure, Result.ok.injEq, Value.int.injEq, and_true, true_and]
  exact wrap_u64_toNat (x ||| y)
theorem bin_xor64 (x y : BitVec 64) : Bin P .xor t (u64 x) (u64 y) (u64 (x ^^^ y)) := Bin.of (fun _ _ _ => by simp [eqGuard, u64]) fun w => by
  have e : ∀ z : BitVec 64, BitVec.ofInt IntKind.u64.bits (z.toNat : Int) = z := ofInt_toNat64
  simp only [binOp, Op.intBits, u64, ne_eq, not_true, if_false, e]
  simp only [Sem.run_pure, Result.ok.injEq, Value.int.injEq, and_true, true_and]
  exact wrap_u64_toNat (x ^^^ y)
theorem bin_andNot64 (x y : BitVec 64) : Bin P .andNot t (u64 x) (u64 y) (u64 (x &&& ~~~y)) := Bin.of (fun _ _ _ => by simp [eqGuard, u64]) fun w => by
  have e : ∀ z : BitVec 64, BitVec.ofInt IntKind.u64.bits (z.toNat : Int) = z := ofInt_toNat64
  simp only [binOp, Op.intBits, u64, ne_eq, not_true, if_false, e]
  simp only [Sem.run_pure, Result.ok.injEq, Value.int.injEq, and_true, true_and]
  exact wrap_u64_toNat (x &&& ~~~y)
theorem bin_eql64 (x y : BitVec 64) : Bin P .eql t (u64 x) (u64 y) (.bool (decide (x = y))) := by
  have := bin_eql (P := P) (t := t) .u64 x.toNat y.toNat
  have e : decide ((x.toNat : Int) = y.toNat) = decide (x = y) := by
    rw [decide_eq_decide]
    exact ⟨fun h => BitVec.eq_of_toNat_eq (by omega), fun h => by rw [h]⟩
  rw [e] at this
  exact this
theorem bin_neq64 (x y : BitVec 64) : Bin P .neq t (u64 x) (u64 y) (.bool (decide (x ≠ y))) := by
  have := bin_neq (P := P) (t := t) .u64 x.toNat y.toNat
  have e : decide ((x.toNat : Int) ≠ y.toNat) = decide (x ≠ y) := by
    rw [decide_eq_decide]
    exact ⟨fun h h' => h (by rw [h']), fun h h' => h (BitVec.eq_of_toNat_eq (by omega))⟩
  rw [e] at this
  exact this
theorem wrap_u64_mod (z : Int) : IntKind.u64.wrap z = z % ((2 ^ 64 : Nat) : Int) := by
  rw [IntKind.wrap_u64]
  rfl
theorem cast_pow2 (m : Nat) : ((2 : Int) ^ m) = ((2 ^ m : Nat) : Int) := by rw [Int.natCast_pow]; rfl
theorem pow_shift (x : BitVec 64) (s : Nat) : IntKind.u64.wrap ((x.toNat : Int) * 2 ^ (min s 64)) = ((x <<< s).toNat : Int) := by
  rw [wrap_u64_mod, BitVec.toNat_shiftLeft, Nat.shiftLeft_eq, cast_pow2, ← Int.natCast_mul, ← Int.natCast_emod]
  congr 1
  rcases Nat.lt_or_ge s 64 with h | h
  · rw [Nat.min_eq_left (by omega)]
  · rw [Nat.min_eq_right h]
    obtain ⟨r, rfl⟩ : ∃ r, s = 64 + r := ⟨s - 64, by omega⟩
    have h2 : x.toNat * 2 ^ (64 + r) % 2 ^ 64 = 0 := by
      rw [Nat.pow_add, ← Nat.mul_assoc, Nat.mul_right_comm]
      exact Nat.mul_mod_left _ _
    rw [h2]
    exact Nat.mul_mod_left _ _
theorem bin_shl64 (x : BitVec 64) (s : Nat) (k : IntKind) : Bin P .shl t (u64 x) (.int k (s : Int)) (u64 (x <<< s)) := Bin.of (fun _ _ _ => by simp [eqGuard, u64]) fun w => by
  have h0 : ¬ ((s : Int) < 0) := by omega
  simp only [binOp, Op.shift, u64, h0, if_false, Int.toNat_natCast]
  have : min s IntKind.u64.bits = min s 64 := rfl
  rw [this, pow_shift]
  rfl
theorem bin_shr64 (x : BitVec 64) (s : Nat) (k : IntKind) : Bin P .shr t (u64 x) (.int k (s : Int)) (u64 (x >>> s)) := Bin.of (fun _ _ _ => by simp [eqGuard, u64]) fun w => by
  have h0 : ¬ ((s : Int) < 0) := by omega
  simp only [binOp, Op.shift, u64, h0, if_false, Int.toNat_natCast]
  have hb : min s IntKind.u64.bits = min s 64 := rfl
  rw [hb]
  have : (x.toNat : Int).fdiv (2 ^ min s 64) = ((x >>> s).toNat : Int) := by
    rw [BitVec.toNat_ushiftRight, Nat.shiftRight_eq_div_pow]
    have hpos : (0 : Int) ≤ ((2 ^ min s 64 : Nat) : Int) := Int.natCast_nonneg _
    rw [cast_pow2, Int.fdiv_eq_ediv_of_nonneg _ hpos, ← Int.natCast_ediv]
    congr 1
    have hx := x.isLt
    rcases Nat.lt_or_ge s 64 with h | h
    · rw [Nat.min_eq_left (by omega)]
    · rw [Nat.min_eq_right h]
      have h1 : x.toNat / 2 ^ s = 0 := Nat.div_eq_of_lt (Nat.lt_of_lt_of_le hx (Nat.pow_le_pow_right (by omega) h))
      have h2 : x.toNat / 2 ^ 64 = 0 := Nat.div_eq_of_lt hx
      rw [h1]
      exact h2
  rw [this]
  rfl
/-! unsigned words as natural numbers -/
theorem u64_of (x : Nat) (h : x < 18446744073709551616) : (.int .u64 (x : Int) : Value) = u64 (BitVec.ofNat 64 x) := by
  simp only [u64, BitVec.toNat_ofNat]
  rw [Nat.mod_eq_of_lt (by omega)]
theorem bin_shlN (x s : Nat) (k : IntKind) (h : x * 2 ^ s < 18446744073709551616) : Bin P .shl t (.int .u64 (x : Int)) (.int k (s : Int)) (.int .u64 ((x * 2 ^ s : Nat) : Int)) := by
  have hx : x < 18446744073709551616 := Nat.lt_of_le_of_lt (Nat.le_mul_of_pos_right _ (Nat.pow_pos (by omega))) h
  rw [u64_of x hx, u64_of _ h]
  have := bin_shl64 (P := P) (t := t) (BitVec.ofNat 64 x) s k
  have e : BitVec.ofNat 64 x <<< s = BitVec.ofNat 64 (x * 2 ^ s) := by
    apply BitVec.eq_of_toNat_eq
    simp only [BitVec.toNat_shiftLeft, BitVec.toNat_ofNat, Nat.shiftLeft_eq]
    rw [Nat.mod_eq_of_lt (a := x) (by omega)]
  rw [e] at this
  exact this
theorem bin_shrN (x s : Nat) (k : IntKind) (h : x < 18446744073709551616) : Bin P .shr t (.int .u64 (x : Int)) (.int k (s : Int)) (.int .u64 ((x / 2 ^ s : Nat) : Int)) := by
  have h2 : x / 2 ^ s < 18446744073709551616 := Nat.lt_of_le_of_lt (Nat.div_le_self _ _) h
  rw [u64_of x h, u64_of _ h2]
  have := bin_shr64 (P := P) (t := t) (BitVec.ofNat 64 x) s k
  have e : BitVec.ofNat 64 x >>> s = BitVec.ofNat 64 (x / 2 ^ s) := by
    apply BitVec.eq_of_toNat_eq
    simp only [BitVec.toNat_ushiftRight, BitVec.toNat_ofNat, Nat.shiftRight_eq_div_pow]
    rw [Nat.mod_eq_of_lt (a := x) (by omega), Nat.mod_eq_of_lt (a := x / 2 ^ s) (by omega)]
  rw [e] at this
  exact this
theorem bin_orN (x y : Nat) (hx : x < 18446744073709551616) (hy : y < 18446744073709551616) : Bin P .or t (.int .u64 (x : Int)) (.int .u64 (y : Int)) (.int .u64 ((x ||| y : Nat) : Int)) := by
  have h2 : x ||| y < 2 ^ 64 := Nat.or_lt_two_pow (by omega) (by omega)
  rw [u64_of x hx, u64_of y hy, u64_of _ (by omega)]
  have := bin_or64 (P := P) (t := t) (BitVec.ofNat 64 x) (BitVec.ofNat 64 y)
  have e : BitVec.ofNat 64 x ||| BitVec.ofNat 64 y = BitVec.ofNat 64 (x ||| y) := by
    apply BitVec.eq_of_toNat_eq
    simp only [BitVec.toNat_or, BitVec.toNat_ofNat]
    rw [Nat.mod_eq_of_lt (a := x) (by omega), Nat.mod_eq_of_lt (a := y) (by omega), Nat.mod_eq_of_lt (a := x ||| y) (by omega)]
  rw [e] at this
  exact this
end
end Go.Proofs.Eng
