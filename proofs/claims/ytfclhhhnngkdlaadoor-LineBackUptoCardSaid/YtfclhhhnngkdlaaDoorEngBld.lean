/- The engine's text on strings.Builder: append of a string's bytes, unsafe pointers and strings. -/
import Derived.Test.YtfclhhhnngkdlaaDoorEngStr
import Derived.Lib.AppendStr
import Derived.Lib.UnsafeStr
import Derived.Lib.Builder
set_option linter.unusedVariables false
set_option linter.unusedSimpArgs false
namespace Go.Proofs.Eng
open Go Go.RowKit Go.Lib

theorem strCells_st (l : List UInt8) : strCells ⟨l.toArray⟩ = l.map byv := by
  simp [strCells, byv]

section
variable {P : Program} {w0 : World} {n : Nat} {D : List Deferred} {Q : Exit → Act → World → Prop} {ops : Array Oper} {rest : List Oper} {E : Env} {H H' : Hp}
variable {md : Md} {d : Nat} {ty : TypeId} {pos : String} {af : Array Edge} {g : Option (Nat × Bool)}

theorem own_append_string {t u ty e : TypeId} {zero : Value} (ht : TyU P t (.slice e)) (hu : TyU P u .string) (hi : TyI P e 1 1 zero) (hz : zero = .int .u8 0) {c : Chunk} {v : Value} {m : Nat} {xs : List Value} {w : World} (ho : Own e 1 c v m xs) (hW : Wd w0 (c :: H) w) (l : List UInt8)
    (hb : m + l.length ≤ 140737488355328) : ∃ v' c' w', (Builtin.append_ #[t, u] ty #[v, st l]).run P w = .ok v' w' ∧ Own e 1 c' v' (m + l.length) (xs ++ l.map byv) ∧ Wd w0 (c' :: H) w' ∧ (m + l.length = 0 → v = .slice none 0 0 → v' = .slice none 0 0) := by
  obtain ⟨i, hi1, hi2, hi3, hi4⟩ := hi.get
  subst hz
  have hs := st_size l
  have h63 : m + (⟨l.toArray⟩ : ByteArray).size ≤ maxLen := by rw [hs]; simp only [maxLen]; omega
  obtain ⟨hxl, ⟨rfl, rfl, rfl⟩ | ⟨gb, cap, cur, rfl, rfl, h1, h2, h3, h4⟩⟩ := ho
  · obtain ⟨v', w', e1, e2, e3, e4⟩ := run_append_own_string (P := P) w w.heap.size t u ty e i ht.u hu.u hi1 hi4 hi2 hi3 (.slice none 0 0) 0 xs ⟨by simpa using hxl, .inl ⟨rfl, rfl⟩⟩ ⟨l.toArray⟩ h63 (by rw [hs]; exact hb) (Nat.le_refl _)
    rw [hs, strCells_st] at e2
    rw [hs] at e4
    obtain ⟨c', h5, h6⟩ := (hW.perm (by simp) : Wd w0 H w).appendedNew e2 (by simpa [Value.ownBlock] using e3)
    exact ⟨v', c', w', e1, h5, h6, fun hl _ => e4.2 ⟨rfl, by omega⟩⟩
  · have hg : w.heap[gb]? = some (.cells cur e (0, 0)) := hW.at_ (gb, .cells cur e (0, 0)) (by simp)
    have hxl' : xs.length = m := by simpa using hxl
    have hcs : cur.size = cap := by simpa using h3
    have htk : cur.toList.take m = xs := by simpa using h4
    by_cases hroom : m + l.length ≤ cap
    · have hr := run_append_room_string (P := P) w t u ty e i ht.u hu.u hi1 hi2 gb m cap cur hg ⟨l.toArray⟩ (by rw [hs]; exact hroom) (by rw [hs]; omega)
      rw [hs, strCells_st, htk] at hr
      refine ⟨_, [(gb, .cells (xs ++ l.map byv ++ cur.toList.drop (m + l.length)).toArray e (0, 0))], _, hr, ⟨by simp [hxl'], .inr ⟨gb, cap, _, rfl, rfl, hroom, h2, ?_, ?_⟩⟩, ?_, fun _ h => by cases h⟩
      · simp [hxl']
        omega
      · simp only [Nat.mul_one]
        rw [show m + l.length = (xs ++ l.map byv).length by simp [hxl']]
        exact List.take_left
      · exact hW.turn rfl rfl rfl (by simp) (setRow_heap w gb cur _ e _ hg) (fun k _ hk => setRow_other w gb k _ hk)
    · have hlt : cap < m + l.length := by omega
      have hcell : ∀ j u, xs[j]? = some u → w.cell? ((⟨gb, 0, none⟩ : Addr).add j) = some u := fun j u hu => by
        rw [add_addr, Nat.zero_add]
        refine cell_of_heap rfl hg ?_
        have hj := (List.getElem?_eq_some_iff.1 hu).1
        rw [← htk, List.getElem?_take] at hu
        split at hu
        · simpa using hu
        · cases hu
      have hr := run_append_grow_string (P := P) w t u ty e i (.int .u8 0) ht.u hu.u hi1 hi4 ⟨gb, 0, none⟩ m cap xs (by rw [hi2]; omega) hcell ⟨l.toArray⟩ (by rw [hs]; exact hlt) (by rw [hs]; omega) (by rw [hs, hi3]; exact growslice_fits (by omega) (by omega))
      rw [hs, strCells_st] at hr
      have hge := grownCap_ge w (m + l.length) cap e
      have hcm : grownCap w (m + l.length) cap e ≤ maxLen := grownCap_le_maxLen w (m + l.length) cap e (by simp only [maxLen]; omega)
      refine ⟨_, [(w.heap.size, .cells (xs.toArray ++ (l.map byv).toArray ++ Builtin.zeroCells (Value.int .u8 0).cells (grownCap w (m + l.length) cap e - (m + l.length))) e (0, 0))], _, hr, ⟨by simp [hxl'], .inr ⟨w.heap.size, _, _, rfl, rfl, hge, hcm, ?_, ?_⟩⟩, hW.drop.drew.alloc _, fun _ h => by cases h⟩
      · have hz1 : (Value.int IntKind.u8 0).cells.size = 1 := rfl
        simp only [Array.size_append, List.size_toArray, size_zeroCells, hz1, hxl', List.length_map]
        omega
      · simp only [Array.toList_append, List.append_assoc, Nat.mul_one]
        rw [← List.append_assoc, show m + l.length = (xs ++ l.map byv).length by simp [hxl']]
        exact List.take_left

/-- append(b, s...): a string's bytes onto an owned row -/
theorem V.appendSt {t u e : TypeId} {x y : Operand} {zero : Value} {c : Chunk} {v : Value} {m : Nat} {xs : List Value} {l : List UInt8} [ht : TyU P t (.slice e)] [hu : TyU P u .string] [hi : TyI P e 1 1 zero] (hz : zero = .int .u8 0)
    (hw : want ops E ⟨some d, .call { callee := .builtin .append, args := #[x, y], argTypes := #[t, u] }, ty, pos, af, g⟩ = some true) (hd : Nat.blt d n = true)
    (hx : ev E x = some v) (hy : ev E y = some (st l)) (hp : Pick H c H') (ho : Own e 1 c v m xs) (hb : m + l.length ≤ 140737488355328)
    (kk : ∀ v' c', Own e 1 c' v' (m + l.length) (xs ++ l.map byv) → (m + l.length = 0 → v = .slice none 0 0 → v' = .slice none 0 0) → V P w0 n D Q ops rest ((d, v') :: E) (c' :: H')) :
    V P w0 n D Q ops (⟨some d, .call { callee := .builtin .append, args := #[x, y], argTypes := #[t, u] }, ty, pos, af, g⟩ :: rest) E H :=
  V.wp hw fun a w hF hW => by
    obtain ⟨v', c', w', e1, e2, e3, e4⟩ := own_append_string (ty := ty) ht hu hi hz ho (hW.perm hp.perm) l hb
    unfold Oper.wp execOp
    simp only [resolve, invoke, builtin, Sem.run_bind, Sem.run_pure, Result.andThen_ok, List.map_toArray, List.map_cons, List.map_nil, hF.ev hx, hF.ev hy, e1]
    exact kk v' c' e2 e4 _ _ (hF.put hd) e3

/-! #### unsigned numbers as natural numbers -/
theorem bin_addN {t : TypeId} (k : IntKind) (x y : Nat) (h : k.wrap ((x : Int) + y) = (x : Int) + y) : Bin P .add t (.int k (x : Int)) (.int k (y : Int)) (.int k ((x + y : Nat) : Int)) := by
  have := bin_add (P := P) (t := t) k (x : Int) (y : Int) h
  rwa [← Int.natCast_add] at this
theorem bin_mulN {t : TypeId} (k : IntKind) (x y : Nat) (h : k.wrap ((x : Int) * y) = (x : Int) * y) : Bin P .mul t (.int k (x : Int)) (.int k (y : Int)) (.int k ((x * y : Nat) : Int)) := by
  have := bin_mul (P := P) (t := t) k (x : Int) (y : Int) h
  rwa [← Int.natCast_mul] at this
theorem bin_quoN {t : TypeId} (k : IntKind) (x y : Nat) (hy : y ≠ 0) (h : k.wrap ((x / y : Nat) : Int) = ((x / y : Nat) : Int)) : Bin P .quo t (.int k (x : Int)) (.int k (y : Int)) (.int k ((x / y : Nat) : Int)) :=
  bin_quo k (x : Int) (y : Int) (by omega) (by rw [Int.tdiv_eq_ediv_of_nonneg (by omega), ← Int.natCast_ediv]; exact h)
theorem bin_remN {t : TypeId} (k : IntKind) (x y : Nat) (hy : y ≠ 0) : Bin P .rem t (.int k (x : Int)) (.int k (y : Int)) (.int k ((x % y : Nat) : Int)) := by
  have := bin_rem (P := P) (t := t) k (x : Int) (y : Int) (by omega)
  rwa [Int.tmod_eq_emod_of_nonneg (by omega), ← Int.natCast_emod] at this
theorem bin_shrK {t : TypeId} (k k2 : IntKind) (x s : Nat) (hs : s ≤ k.bits) : Bin P .shr t (.int k (x : Int)) (.int k2 (s : Int)) (.int k ((x / 2 ^ s : Nat) : Int)) := Bin.of (fun _ _ _ => by simp [eqGuard]) fun w => by
  have h0 : ¬ ((s : Int) < 0) := by omega
  simp only [binOp, Op.shift, h0, if_false, Int.toNat_natCast, Nat.min_eq_left hs]
  have : (x : Int).fdiv (2 ^ s) = ((x / 2 ^ s : Nat) : Int) := by
    have hpos : (0 : Int) ≤ ((2 ^ s : Nat) : Int) := Int.natCast_nonneg _
    rw [cast_pow2, Int.fdiv_eq_ediv_of_nonneg _ hpos, ← Int.natCast_ediv]
  rw [this]
  rfl

theorem V.sliceAH {t e : TypeId} {x hi : Operand} {size bytes : Nat} {zero : Value} {b k : Nat} {m : Nat} {j : Nat} {k2 : IntKind} [ht : TyU P t (.array m e)] [hz : TyI P e size bytes zero] (hw : want ops E ⟨some d, .slice t x none (some hi) none, ty, pos, af, g⟩ = some true) (hd : Nat.blt d n = true)
    (hx : ev E x = some (.pointer (some ⟨b, k, none⟩))) (hhi : ev E hi = some (.int k2 (j : Int))) (h2 : j ≤ m) (h3 : 0 < m)
    (kk : VM P w0 n D Q md ops rest ((d, .slice (some ⟨b, k, none⟩) j m) :: E) H) : VM P w0 n D Q md ops (⟨some d, .slice t x none (some hi) none, ty, pos, af, g⟩ :: rest) E H :=
  V.val hw hd (fun a w hF hW => by
    have hb1 : (Instr.sliceBound (.int k2 (j : Int)) m .sliceAlen).run P w = .ok j w := by
      have := run_sliceBound (P := P) w k2 (j : Int) m .sliceAlen (by omega) (by omega)
      simpa using this
    simp [execOp, Instr.sliceAt, run_underlying ht.u, hF.ev hx, hF.ev hhi, Instr.sureAddr, Instr.sliceBounds, hb1, run_sizeOf hz, add_addr]) kk
theorem V.negK {t : TypeId} {x : Operand} {k : IntKind} {i : Int} (z : Int) (hw : want ops E ⟨some d, .unOp .neg t x, ty, pos, af, g⟩ = some true) (hd : Nat.blt d n = true) (hx : ev E x = some (.int k i)) (h : k.wrap (0 - i) = z)
    (kk : VM P w0 n D Q md ops rest ((d, .int k z) :: E) H) : VM P w0 n D Q md ops (⟨some d, .unOp .neg t x, ty, pos, af, g⟩ :: rest) E H :=
  V.val hw hd (fun a w hF hW => by
    simp only [execOp, Sem.run_bind, hF.ev hx, Op.unary, Op.intArith, h, Sem.run_pure, Result.andThen_ok]) kk
/-- a part of a block as a row -/
theorem Rd.part {w0 : World} (b T o m cp : Nat) (fr : Nat × Nat) (l l' : List Value) (he : (l.drop o).take m = l') (hm : o + m ≤ l.length) (hc : m ≤ cp) (hcp : cp ≤ 9223372036854775807) : Rd w0 [(b, .cells l.toArray T fr)] 1 (.slice (some ⟨b, o, none⟩) m cp) m l' := by
  subst he
  refine ⟨_, cp, rfl, hc, by simp only [maxLen]; omega, by rw [List.length_take, List.length_drop]; omega, .inr ⟨b, o, rfl, fun j u hu => ⟨rfl, _, T, fr, .inl (List.mem_singleton.2 rfl), ?_⟩⟩⟩
  rw [List.getElem?_take] at hu
  split at hu
  · rw [List.getElem?_drop] at hu
    simpa using hu
  · cases hu

/-! #### structs against structs -/
/-- two structs' cells by their fields, each a number, a string or a boolean: are they the same? -/
inductive SEq (P : Program) (xs ys : List Value) : List Field → Bool → Prop
  | nil : SEq P xs ys [] true
  | int {f fs k a b r} (hn : (f.name == "_") = false) (ht : TyU P f.type (.int k)) (hx : xs[f.offset]? = some (.int k a)) (hy : ys[f.offset]? = some (.int k b)) (h : SEq P xs ys fs r) : SEq P xs ys (f :: fs) (decide (a = b) && r)
  | str {f fs r} {a b : List UInt8} (hn : (f.name == "_") = false) (ht : TyU P f.type .string) (hx : xs[f.offset]? = some (st a)) (hy : ys[f.offset]? = some (st b)) (h : SEq P xs ys fs r) : SEq P xs ys (f :: fs) (decide (a = b) && r)
  | bool {f fs a b r} (hn : (f.name == "_") = false) (ht : TyU P f.type .bool) (hx : xs[f.offset]? = some (.bool a)) (hy : ys[f.offset]? = some (.bool b)) (h : SEq P xs ys fs r) : SEq P xs ys (f :: fs) (decide (a = b) && r)
theorem run_part1 {e : TypeId} {td : TypeDesc} (ht : TyU P e td) (ha : aggB td = false) {xs : List Value} {off : Nat} {v : Value} (hx : xs[off]? = some v) (w : World) : (part e xs.toArray off).run P w = .ok v w := by
  simp [part, run_isAgg ht, ha, hx]
theorem SEq.run {xs ys : List Value} {fs : List Field} {r : Bool} (h : SEq P xs ys fs r) (d : Nat) (w : World) : (Op.eqFields (d + 1) xs.toArray ys.toArray fs).run P w = .ok r w := by
  have fin : ∀ (b r : Bool) (s : Sem Bool), s.run P w = .ok r w → (if (!b) = true then pure false else s : Sem Bool).run P w = .ok (b && r) w := by
    intro b r s hs
    cases b
    · simp
    · simpa using hs
  induction h with
  | nil => simp [Op.eqFields]
  | @int f fs k a b r hn ht hx hy h ih =>
    have hn' : f.name ≠ "_" := by simpa using hn
    simp only [Op.eqFields, if_pos hn', Sem.run_bind, run_part1 ht rfl hx, run_part1 ht rfl hy, Result.andThen_ok, run_equalIn_int w d f.type k k a b ht.u]
    exact fin _ _ _ ih
  | @str f fs r a b hn ht hx hy h ih =>
    have hn' : f.name ≠ "_" := by simpa using hn
    simp only [Op.eqFields, if_pos hn', Sem.run_bind, run_part1 ht rfl hx, run_part1 ht rfl hy, Result.andThen_ok, run_equalIn_string w d f.type _ _ ht.u]
    have e : ((⟨a.toArray⟩ : ByteArray).toList == (⟨b.toArray⟩ : ByteArray).toList) = decide (a = b) := by
      rw [ByteArray.toList_eq, ByteArray.toList_eq]
      by_cases h : a = b <;> simp [h]
    rw [e]
    exact fin _ _ _ ih
  | @bool f fs a b r hn ht hx hy h ih =>
    have hn' : f.name ≠ "_" := by simpa using hn
    simp only [Op.eqFields, if_pos hn', Sem.run_bind, run_part1 ht rfl hx, run_part1 ht rfl hy, Result.andThen_ok, run_equalIn_bool w d f.type a b ht.u]
    have e : (a == b) = decide (a = b) := by cases a <;> cases b <;> rfl
    rw [e]
    exact fin _ _ _ ih
class NotHeld (P : Program) (t : TypeId) : Prop where
  h : P.stoodInHeld t = false
theorem run_eqS {t : TypeId} {fs : Array Field} {xs ys : List Value} {r : Bool} (ht : TyU P t (.struct fs)) (hh : NotHeld P t) (h : SEq P xs ys fs.toList r) (w : World) : (Op.equalIn 10000 t (.agg xs.toArray) (.agg ys.toArray)).run P w = .ok r w := by
  have hf : P.fieldsOf t = fs := by simp [Program.fieldsOf, ht.u]
  rw [run_equalIn_struct w 9999 t _ _ (by rw [hf]; exact ht.u) hh.h, hf]
  exact h.run 9998 w
theorem bin_eqlS {t : TypeId} {fs : Array Field} {xs ys : List Value} {r : Bool} [ht : TyU P t (.struct fs)] [hg : NoGuard P t] [hh : NotHeld P t] (h : SEq P xs ys fs.toList r) : Bin P .eql t (.agg xs.toArray) (.agg ys.toArray) (.bool r) :=
  Bin.of (fun a b w => run_eqGuard_agg w .eql t a b _ _ hg.g) fun w => by rw [run_eql_struct, run_eqS ht hh h]; rfl
theorem bin_neqS {t : TypeId} {fs : Array Field} {xs ys : List Value} {r : Bool} [ht : TyU P t (.struct fs)] [hg : NoGuard P t] [hh : NotHeld P t] (h : SEq P xs ys fs.toList r) : Bin P .neq t (.agg xs.toArray) (.agg ys.toArray) (.bool (!r)) :=
  Bin.of (fun a b w => run_eqGuard_agg w .neq t a b _ _ hg.g) fun w => by rw [run_neq_struct, run_eqS ht hh h]; rfl

/-! #### unsafe pointers -/
theorem shape_of_heap {w : World} {b : Nat} {cs : Array Value} {T : TypeId} {fr : Nat × Nat} (h : w.heap[b]? = some (.cells cs T fr)) : w.shape? b = some (T, cs.size) := by
  simp [World.shape?, h]
theorem V.toUnsafe {t t' e : TypeId} {x : Operand} {size bytes : Nat} {zero : Value} {b k : Nat} {l : List Value} {T : TypeId} {fr : Nat × Nat} [hs : TyU P t (.pointer e)] [hdst : TyU P t' .unsafePointer] [hi : TyI P e size bytes zero] (hsz : Nat.beq size 0 = false)
    (hw : want ops E ⟨some d, .convert t t' x, ty, pos, af, g⟩ = some true) (hd : Nat.blt d n = true) (hx : ev E x = some (.pointer (some ⟨b, k, none⟩))) (hp : Pick H [(b, .cells l.toArray T fr)] H') (hk : Nat.blt k l.length = true)
    (kk : VM P w0 n D Q md ops rest ((d, .pointer (some ⟨b, k, none⟩)) :: E) H) : VM P w0 n D Q md ops (⟨some d, .convert t t' x, ty, pos, af, g⟩ :: rest) E H :=
  V.val hw hd (fun a w hF hW => by
    obtain ⟨i, h1, h2, _, _⟩ := hi.get
    have hb : w.heap[b]? = some (.cells l.toArray T fr) := hW.mem hp (.inl (List.mem_singleton.2 rfl))
    have hr := Lib.run_to_unsafe (P := P) w (cells := l.toArray.size) ⟨b, k, none⟩ hs.u hdst.u h1 (by rw [h2]; exact ne_beq hsz) (shape_of_heap hb) (by simpa using blt_lt hk)
    simp only [execOp, Sem.run_bind, hF.ev hx, hr, Result.andThen_ok, Sem.run_pure]) kk
class Lies (P : Program) (T : TypeId) (cells k : Nat) (u : TypeId) : Prop where
  l : liesAt P P.depth T (cells / P.cellsOf T) k u 1 = true
theorem V.fromUnsafe {t t' e : TypeId} {x : Operand} {size bytes : Nat} {zero : Value} {b k : Nat} {l : List Value} {T : TypeId} {fr : Nat × Nat} [hs : TyU P t .unsafePointer] [hdst : TyU P t' (.pointer e)] [hi : TyI P e size bytes zero]
    (hw : want ops E ⟨some d, .convert t t' x, ty, pos, af, g⟩ = some true) (hd : Nat.blt d n = true) (hx : ev E x = some (.pointer (some ⟨b, k, none⟩))) (hp : Pick H [(b, .cells l.toArray T fr)] H') (hl : Lies P T l.length k e)
    (kk : VM P w0 n D Q md ops rest ((d, .pointer (some ⟨b, k, none⟩)) :: E) H) : VM P w0 n D Q md ops (⟨some d, .convert t t' x, ty, pos, af, g⟩ :: rest) E H :=
  V.val hw hd (fun a w hF hW => by
    obtain ⟨i, h1, h2, _, _⟩ := hi.get
    have hb : w.heap[b]? = some (.cells l.toArray T fr) := hW.mem hp (.inl (List.mem_singleton.2 rfl))
    have hr := Lib.run_from_unsafe (P := P) w (cells := l.toArray.size) ⟨b, k, none⟩ hs.u hdst.u h1 (shape_of_heap hb) (by simpa using hl.l)
    simp only [execOp, Sem.run_bind, hF.ev hx, hr, Result.andThen_ok, Sem.run_pure]) kk
theorem bin_pneqSame {t e : TypeId} {size bytes : Nat} {zero : Value} [ht : TyU P t (.pointer e)] [hi : TyI P e size bytes zero] (a : Addr) : Bin P .neq t (.pointer (some a)) (.pointer (some a)) (.bool false) :=
  Bin.of (fun _ _ _ => by simp [eqGuard]) fun w => by
    obtain ⟨i, h1, _⟩ := hi.get
    exact Lib.run_neq_ptr_same w a ht.u h1

theorem V.sliceDataO {x : Operand} {t : TypeId} {a0 : Addr} {m c : Nat} (hw : want ops E ⟨some d, .call { callee := .builtin .unsafeSliceData, args := #[x], argTypes := #[t] }, ty, pos, af, g⟩ = some true) (hd : Nat.blt d n = true) (hx : ev E x = some (.slice (some a0) m c)) (hc : c ≠ 0)
    (k : VM P w0 n D Q md ops rest ((d, .pointer (some a0)) :: E) H) : VM P w0 n D Q md ops (⟨some d, .call { callee := .builtin .unsafeSliceData, args := #[x], argTypes := #[t] }, ty, pos, af, g⟩ :: rest) E H :=
  V.val hw hd (fun a w hF hW => by
    have := Lib.run_unsafeSliceData_row (P := P) w #[t] ty a0 m c hc
    simp [execOp, resolve, invoke, builtin, hF.ev hx, this]) k
theorem V.sliceDataN {x : Operand} {t : TypeId} {m c : Nat} (hw : want ops E ⟨some d, .call { callee := .builtin .unsafeSliceData, args := #[x], argTypes := #[t] }, ty, pos, af, g⟩ = some true) (hd : Nat.blt d n = true) (hx : ev E x = some (.slice none m c))
    (k : VM P w0 n D Q md ops rest ((d, .pointer none) :: E) H) : VM P w0 n D Q md ops (⟨some d, .call { callee := .builtin .unsafeSliceData, args := #[x], argTypes := #[t] }, ty, pos, af, g⟩ :: rest) E H :=
  V.val hw hd (fun a w hF hW => by
    have := Lib.run_unsafeSliceData_nil (P := P) w #[t] ty m c
    simp [execOp, resolve, invoke, builtin, hF.ev hx, this]) k
theorem V.unsafeString0 {x y : Operand} {t t' : TypeId} {p : Option Addr} (hw : want ops E ⟨some d, .call { callee := .builtin .unsafeString, args := #[x, y], argTypes := #[t, t'] }, ty, pos, af, g⟩ = some true) (hd : Nat.blt d n = true) (hx : ev E x = some (.pointer p)) (hy : ev E y = some (.int .i64 0))
    (k : VM P w0 n D Q md ops rest ((d, st []) :: E) H) : VM P w0 n D Q md ops (⟨some d, .call { callee := .builtin .unsafeString, args := #[x, y], argTypes := #[t, t'] }, ty, pos, af, g⟩ :: rest) E H :=
  V.val hw hd (fun a w hF hW => by
    have := Lib.run_unsafeString_none (P := P) w t t' ty p
    have e : (ByteArray.empty) = ⟨([] : List UInt8).toArray⟩ := rfl
    simp [execOp, resolve, invoke, builtin, hF.ev hx, hF.ev hy, this, e]) k
/-- the bytes, copied; their row is frozen, and let go -/
theorem V.unsafeStringR {x y : Operand} {t t' e : TypeId} {size : Nat} {bytes : Nat} {zero : Value} {b : Nat} {cur : Array Value} {l : List UInt8} [ht : TyU P t (.pointer e)] [hi : TyI P e 1 bytes zero]
    (hw : want ops E ⟨some d, .call { callee := .builtin .unsafeString, args := #[x, y], argTypes := #[t, t'] }, ty, pos, af, g⟩ = some true) (hd : Nat.blt d n = true) (hx : ev E x = some (.pointer (some ⟨b, 0, none⟩))) (hy : ev E y = some (.int .i64 (l.length : Int)))
    (hp : Pick H [(b, .cells cur e (0, 0))] H') (h0 : l ≠ []) (hn : l.length ≤ cur.size) (hc : cur.toList.take l.length = l.map byv) (h63 : l.length ≤ 9223372036854775807)
    (k : V P w0 n D Q ops rest ((d, st l) :: E) H') : V P w0 n D Q ops (⟨some d, .call { callee := .builtin .unsafeString, args := #[x, y], argTypes := #[t, t'] }, ty, pos, af, g⟩ :: rest) E H :=
  V.wp hw fun a w hF hW => by
    obtain ⟨i, h1, h2, _, _⟩ := hi.get
    have hW' := hW.perm hp.perm
    have hb : w.heap[b]? = some (.cells cur e (0, 0)) := hW'.at_ (b, .cells cur e (0, 0)) (by simp)
    have hcell : ∀ j x, l[j]? = some x → w.cell? ((⟨b, 0, none⟩ : Addr).add j) = some (.int .u8 x.toNat) := fun j x hx => by
      rw [add_addr, Nat.zero_add]
      refine cell_of_heap rfl hb ?_
      have hj := (List.getElem?_eq_some_iff.1 hx).1
      have h3 : (cur.toList.take l.length)[j]? = some (byv x) := by rw [hc, List.getElem?_map, hx]; rfl
      rw [List.getElem?_take, if_pos hj] at h3
      simpa [byv] using h3
    have hr := Lib.run_unsafeString_row (P := P) w t t' ty e ht.u (by simp [Program.cellsOf, h1, h2]) b cur.size (shape_of_heap hb) l h0 hn h63 hcell
    unfold Oper.wp execOp
    simp only [resolve, invoke, builtin, Sem.run_bind, Sem.run_pure, Result.andThen_ok, List.map_toArray, List.map_cons, List.map_nil, hF.ev hx, hF.ev hy, hr]
    refine k _ _ (hF.put hd) ?_
    have hge : w0.heap.size ≤ b := hW'.ge (b, .cells cur e (0, 0)) (by simp)
    have hd' := hW'.drop
    have hnd := hW'.nodup
    simp only [List.flatten_cons, List.map_append, List.map_cons, List.map_nil, List.cons_append, List.nil_append, List.nodup_cons] at hnd
    refine ⟨Lib.below_freeze hd'.below hge _, hd'.nodup, hd'.ge, fun p hp => ?_⟩
    have h4 := hd'.at_ p hp
    have hne : p.1 ≠ b := fun e => hnd.1 (e ▸ List.mem_map_of_mem hp)
    unfold World.freeze
    split
    · exact h4
    · simp only [Array.getElem?_modify]
      rw [if_neg (fun e => hne e.symm)]
      exact h4
end
end Go.Proofs.Eng
