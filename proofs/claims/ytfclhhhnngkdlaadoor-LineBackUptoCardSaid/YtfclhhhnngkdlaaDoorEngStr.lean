/- The engine's text on strings: a string is told by the list of its bytes. -/
import Derived.Test.YtfclhhhnngkdlaaDoorEngArr2
import Derived.Lib.Bytealg
import Derived.Laws.RangeString
set_option linter.unusedVariables false
set_option linter.unusedSimpArgs false
namespace Go.Proofs.Eng
open Go Go.RowKit

/-- a string of these bytes -/
abbrev st (l : List UInt8) : Value := .string ⟨l.toArray⟩
theorem st_size (l : List UInt8) : (⟨l.toArray⟩ : ByteArray).size = l.length := by simp [ByteArray.size]
theorem st_of (s : ByteArray) : Value.string s = st s.data.toList := rfl

theorem Rd.at1 {w0 : World} {c : Chunk} {v : Value} {n : Nat} {l : List Value} {i : Nat} {u : Value} (h : Rd w0 c 1 v n l) (hi : l[i]? = some u) : i < n ∧ ∃ b o cp, v = .slice (some ⟨b, o, none⟩) n cp ∧ Cel w0 c ⟨b, o + i, none⟩ u := by
  obtain ⟨a, cp, rfl, h1, h2, h3, h4⟩ := h
  have hl := (List.getElem?_eq_some_iff.1 hi).1
  rw [Nat.mul_one] at h3
  refine ⟨by omega, ?_⟩
  rcases h4 with rfl | ⟨b, o, rfl, hc⟩
  · cases hi
  · exact ⟨b, o, cp, rfl, hc i u hi⟩

/-- what the call does not touch -/
theorem Ct.frame {P : Program} {w0 : World} {f : FuncId} {args : Array Value} {Hin : Hp} {post : Value → Hp → Prop} (F : Hp) (h : Ct P w0 f args Hin (Ret post)) : Ct P w0 f args (Hin ++ F) (Ret fun v H => ∃ Ho, post v Ho ∧ H = Ho ++ F) := by
  intro R w hW
  refine (h (F ++ R) w (by rw [← List.append_assoc]; exact hW)).mono ?_
  rintro e w' ⟨Ho, h1, h2⟩
  cases e with
  | returned v => exact ⟨Ho ++ F, ⟨Ho, h1, rfl⟩, by rw [List.append_assoc]; exact h2⟩
  | panicked ch => exact h1.elim
  | outgrown => exact h1.elim

/-! ### rows of structs -/
theorem flatMap_at {α : Type} (f : α → List Value) (k : Nat) (hf : ∀ x, (f x).length = k) : ∀ (l : List α) (i : Nat) (x : α), l[i]? = some x → ∀ (j : Nat) (u : Value), (f x)[j]? = some u → (l.flatMap f)[i * k + j]? = some u
  | [], i, x, h, j, u, hu => by simp at h
  | y :: l, 0, x, h, j, u, hu => by
    obtain rfl : y = x := by simpa using h
    have := (List.getElem?_eq_some_iff.1 hu).1
    rw [List.flatMap_cons, Nat.zero_mul, Nat.zero_add, List.getElem?_append_left this]
    exact hu
  | y :: l, i + 1, x, h, j, u, hu => by
    rw [List.flatMap_cons, List.getElem?_append_right (by rw [hf y, Nat.succ_mul]; omega), hf y]
    rw [show (i + 1) * k + j - k = i * k + j by rw [Nat.succ_mul]; omega]
    exact flatMap_at f k hf l i x (by simpa using h) j u hu
theorem flatMap_length {α : Type} (f : α → List Value) (k : Nat) (hf : ∀ x, (f x).length = k) (l : List α) : (l.flatMap f).length = l.length * k := by
  induction l with
  | nil => simp
  | cons x l ih => rw [List.flatMap_cons, List.length_append, ih, hf x, List.length_cons, Nat.succ_mul, Nat.add_comm]
theorem flatMap_drop {α : Type} (f : α → List Value) (k : Nat) (hf : ∀ x, (f x).length = k) : ∀ (l : List α) (i : Nat), (l.flatMap f).drop (i * k) = (l.drop i).flatMap f
  | [], i => by simp
  | y :: l, 0 => by simp
  | y :: l, i + 1 => by
    rw [List.flatMap_cons, List.drop_succ_cons, ← flatMap_drop f k hf l i, Nat.succ_mul, Nat.add_comm, ← List.drop_drop, ← hf y, List.drop_left]
theorem flatMap_take {α : Type} (f : α → List Value) (k : Nat) (hf : ∀ x, (f x).length = k) : ∀ (l : List α) (i : Nat), (l.flatMap f).take (i * k) = (l.take i).flatMap f
  | [], i => by simp
  | y :: l, 0 => by simp
  | y :: l, i + 1 => by
    rw [List.flatMap_cons, List.take_succ_cons, List.flatMap_cons, ← flatMap_take f k hf l i, Nat.succ_mul, Nat.add_comm, List.take_append, hf y]
    rw [List.take_of_length_le (by rw [hf y]; omega), show k + i * k - k = i * k by omega]
theorem Rd.item {α : Type} {f : α → List Value} {k : Nat} (hf : ∀ x, (f x).length = k) (hk : 0 < k) {w0 : World} {c : Chunk} {v : Value} {n : Nat} {l : List α} {i : Nat} {x : α} (h : Rd w0 c k v n (l.flatMap f)) (hx : l[i]? = some x) :
    i < n ∧ ∃ b o cp, v = .slice (some ⟨b, o, none⟩) n cp ∧ ∀ j u, (f x)[j]? = some u → Cel w0 c ⟨b, o + i * k + j, none⟩ u := by
  obtain ⟨a, cp, rfl, h1, h2, h3, h4⟩ := h
  have hl := (List.getElem?_eq_some_iff.1 hx).1
  rw [flatMap_length f k hf] at h3
  have hn : l.length = n := Nat.eq_of_mul_eq_mul_right hk h3
  refine ⟨by omega, ?_⟩
  rcases h4 with h4 | ⟨b, o, rfl, hc⟩
  · exfalso
    have h5 := flatMap_length f k hf l
    rw [h4] at h5
    have := Nat.mul_pos (show 0 < l.length by omega) hk
    simp at h5
    omega
  · refine ⟨b, o, cp, rfl, fun j u hu => ?_⟩
    have := hc (i * k + j) u (flatMap_at f k hf l i x hx j u hu)
    rwa [← Nat.add_assoc] at this
theorem Rd.len {α : Type} {f : α → List Value} {k : Nat} (hf : ∀ x, (f x).length = k) (hk : 0 < k) {w0 : World} {c : Chunk} {v : Value} {n : Nat} {l : List α} (h : Rd w0 c k v n (l.flatMap f)) : n = l.length := by
  obtain ⟨a, cp, rfl, h1, h2, h3, h4⟩ := h
  rw [flatMap_length f k hf] at h3
  exact (Nat.eq_of_mul_eq_mul_right hk h3).symm

/-- a whole block as a row of structs -/
theorem Rd.blockN {w0 : World} (b T m k : Nat) (fr : Nat × Nat) (l : List Value) (hm : l.length = m * k) (h : m ≤ 9223372036854775807) : Rd w0 [(b, .cells l.toArray T fr)] k (.slice (some ⟨b, 0, none⟩) m m) m l :=
  ⟨_, m, rfl, Nat.le_refl _, by simp only [maxLen]; omega, hm, .inr ⟨b, 0, rfl, fun j u hu => ⟨rfl, _, T, fr, .inl (List.mem_singleton.2 rfl), by simpa using hu⟩⟩⟩

/-! ### results of several kinds -/
def rv (r : ResultVar) (tmps : Array Value) : Sem Value := match r with
  | .tmp t => pure (tmps.getD t undef)
  | .cell a t => do loadVar t (← asAddr (tmps.getD a undef))
inductive RV (P : Program) (E : Env) (H : Hp) : ResultVar → Value → Prop
  | tmp {t v} (hv : look E t = some v) : RV P E H (.tmp t) v
  | all {t T td size bytes zero b T' fr H'} {cs : List Value} [ht : TyU P T td] [hi : TyI P T size bytes zero] (ha : aggB td = true) (hv : look E t = some (.pointer (some ⟨b, 0, none⟩))) (hp : Pick H [(b, .cells cs.toArray T' fr)] H') (hl : cs.length = size) : RV P E H (.cell t T) (.agg cs.toArray)
  | one {t T td b k T' fr H' v} {cs : List Value} [ht : TyU P T td] (ha : aggB td = false) (hv : look E t = some (.pointer (some ⟨b, k, none⟩))) (hp : Pick H [(b, .cells cs.toArray T' fr)] H') (hk : Nth cs k v) : RV P E H (.cell t T) v
theorem RV.run {P : Program} {E : Env} {H : Hp} {r : ResultVar} {v : Value} (h : RV P E H r v) {w0 : World} {n : Nat} {D : List Deferred} {a : Act} {w : World} (hF : Fr n D E a) (hW : Wd w0 H w) : (rv r a.tmps).run P w = .ok v w := by
  cases h with
  | tmp hv => simp [rv, hF.look _ _ hv]
  | @all t T td size bytes zero b T' fr H' cs ht hi ha hv hp hl =>
    have hc : ∀ j u, cs[j]? = some u → w.cell? ((⟨b, 0, none⟩ : Addr).add j) = some u := fun j u hu => by
      rw [add_addr]
      exact cell_of_heap rfl (hW.mem hp (.inl (List.mem_singleton.2 rfl))) (by simpa using hu)
    have h1 := run_loadCells_list (P := P) (w := w) ⟨b, 0, none⟩ cs hc
    rw [hl] at h1
    have h2 := hF.look t _ hv
    simp only [rv, h2, asAddr, Sem.run_bind, Sem.run_pure, Result.andThen_ok, loadVar, run_isAgg ht, ha, if_true, run_sizeOf hi, h1]
  | @one t T td b k T' fr H' v cs ht ha hv hp hk =>
    have hc : w.cell? ⟨b, k, none⟩ = some v := cell_of_heap rfl (hW.mem hp (.inl (List.mem_singleton.2 rfl))) (by simpa using hk.eq)
    have h2 := hF.look t _ hv
    simp only [rv, h2, asAddr, Sem.run_bind, Sem.run_pure, Result.andThen_ok, run_loadVar1 ht ha hc]
theorem run_results1 {P : Program} {fn : Func} {r1 : ResultVar} (h : fn.results = #[r1]) {tmps : Array Value} {w : World} {v1 : Value} (h1 : (rv r1 tmps).run P w = .ok v1 w) : (results fn tmps).run P w = .ok v1 w := by
  cases r1 <;> simp_all [results, rv]
theorem run_results2 {P : Program} {fn : Func} {r1 r2 : ResultVar} (h : fn.results = #[r1, r2]) {tmps : Array Value} {w : World} {v1 v2 : Value} (h1 : (rv r1 tmps).run P w = .ok v1 w) (h2 : (rv r2 tmps).run P w = .ok v2 w) :
    (results fn tmps).run P w = .ok (.tuple #[v1, v2]) w := by
  have e : (results fn tmps).run P w = (do let a ← rv r1 tmps; let b ← rv r2 tmps; pure (.tuple #[a, b]) : Sem Value).run P w := by
    cases r1 <;> cases r2 <;> simp [results, h, rv]
  rw [e]
  simp only [Sem.run_bind, h1, h2, Result.andThen_ok, Sem.run_pure]
theorem run_results3 {P : Program} {fn : Func} {r1 r2 r3 : ResultVar} (h : fn.results = #[r1, r2, r3]) {tmps : Array Value} {w : World} {v1 v2 v3 : Value} (h1 : (rv r1 tmps).run P w = .ok v1 w) (h2 : (rv r2 tmps).run P w = .ok v2 w) (h3 : (rv r3 tmps).run P w = .ok v3 w) :
    (results fn tmps).run P w = .ok (.tuple #[v1, v2, v3]) w := by
  have e : (results fn tmps).run P w = (do let a ← rv r1 tmps; let b ← rv r2 tmps; let c ← rv r3 tmps; pure (.tuple #[a, b, c]) : Sem Value).run P w := by
    cases r1 <;> cases r2 <;> cases r3 <;> simp [results, h, rv]
  rw [e]
  simp only [Sem.run_bind, h1, h2, h3, Result.andThen_ok, Sem.run_pure]
section
variable {P : Program} {w0 : World} {n : Nat} {E : Env} {H R : Hp} {fn : Func} {post : Ending → Hp → Prop}
theorem Post.retV1 {r1 : ResultVar} {v1 : Value} {Hout : Hp} (hr : fn.results = #[r1]) (h1 : RV P E H r1 v1) (hp : post (.returned v1) Hout) (hH : Sb H (Hout ++ R)) : Post w0 n [] (BodyPost P w0 fn R post) .ret E H :=
  fun a w hF hW => bodyPost_ret (run_results1 hr (h1.run hF hW)) hF.dfr ⟨Hout, hp, hW.has hH⟩
theorem Post.retV2 {r1 r2 : ResultVar} {v1 v2 : Value} {Hout : Hp} (hr : fn.results = #[r1, r2]) (h1 : RV P E H r1 v1) (h2 : RV P E H r2 v2) (hp : post (.returned (.tuple #[v1, v2])) Hout) (hH : Sb H (Hout ++ R)) : Post w0 n [] (BodyPost P w0 fn R post) .ret E H :=
  fun a w hF hW => bodyPost_ret (run_results2 hr (h1.run hF hW) (h2.run hF hW)) hF.dfr ⟨Hout, hp, hW.has hH⟩
theorem Post.retV3 {r1 r2 r3 : ResultVar} {v1 v2 v3 : Value} {Hout : Hp} (hr : fn.results = #[r1, r2, r3]) (h1 : RV P E H r1 v1) (h2 : RV P E H r2 v2) (h3 : RV P E H r3 v3) (hp : post (.returned (.tuple #[v1, v2, v3])) Hout) (hH : Sb H (Hout ++ R)) : Post w0 n [] (BodyPost P w0 fn R post) .ret E H :=
  fun a w hF hW => bodyPost_ret (run_results3 hr (h1.run hF hW) (h2.run hF hW) (h3.run hF hW)) hF.dfr ⟨Hout, hp, hW.has hH⟩
end

section
variable {P : Program} {t : TypeId}
theorem bin_stadd (a b : List UInt8) (h : ((a.length + b.length : Nat) : Int) ≤ 9223372036854775807) : Bin P .add t (st a) (st b) (st (a ++ b)) := by
  have h1 := bin_sadd (P := P) (t := t) ⟨a.toArray⟩ ⟨b.toArray⟩ (by rw [st_size, st_size]; exact h)
  have h2 : (⟨a.toArray⟩ ++ ⟨b.toArray⟩ : ByteArray) = ⟨(a ++ b).toArray⟩ := by
    apply ByteArray.ext
    rw [ByteArray.data_append]
    simp
  rwa [h2] at h1
theorem bin_steql (a b : List UInt8) : Bin P .eql t (st a) (st b) (.bool (decide (a = b))) := by
  have h := bin_seql (P := P) (t := t) ⟨a.toArray⟩ ⟨b.toArray⟩
  simpa using h
theorem bin_stneq (a b : List UInt8) : Bin P .neq t (st a) (st b) (.bool (decide (a ≠ b))) := by
  have h := bin_sneq (P := P) (t := t) ⟨a.toArray⟩ ⟨b.toArray⟩
  simpa using h
end

section
variable {P : Program} {w0 : World} {n : Nat} {D : List Deferred} {Q : Exit → Act → World → Prop} {ops : Array Oper} {rest : List Oper} {E : Env} {H H' : Hp}
variable {md : Md} {d : Nat} {ty : TypeId} {pos : String} {af : Array Edge} {g : Option (Nat × Bool)}
theorem V.lenSt {x : Operand} {t : TypeId} {l : List UInt8} [ht : TyU P t .string] (hw : want ops E ⟨some d, .call { callee := .builtin .len, args := #[x], argTypes := #[t] }, ty, pos, af, g⟩ = some true) (hd : Nat.blt d n = true) (hx : ev E x = some (st l))
    (k : VM P w0 n D Q md ops rest ((d, .int .i64 (l.length : Int)) :: E) H) : VM P w0 n D Q md ops (⟨some d, .call { callee := .builtin .len, args := #[x], argTypes := #[t] }, ty, pos, af, g⟩ :: rest) E H :=
  V.lenS hw hd hx (by rw [st_size]; exact k)
theorem V.indexSt {t : TypeId} {x y : Operand} {ik : IntKind} {l : List UInt8} {i : Nat} {c : UInt8} [ht : TyU P t .string] (hw : want ops E ⟨some d, .index t x y, ty, pos, af, g⟩ = some true) (hd : Nat.blt d n = true)
    (hx : ev E x = some (st l)) (hy : ev E y = some (.int ik (i : Int))) (h0 : l[i]? = some c)
    (kk : VM P w0 n D Q md ops rest ((d, .int .u8 (c.toNat : Int)) :: E) H) : VM P w0 n D Q md ops (⟨some d, .index t x y, ty, pos, af, g⟩ :: rest) E H := by
  obtain ⟨hi, hc⟩ := List.getElem?_eq_some_iff.1 h0
  refine V.indexS (i := i) hw hd hx hy (by rw [st_size]; exact hi) ?_
  have : (⟨l.toArray⟩ : ByteArray)[i]'(by rw [st_size]; exact hi) = c := by
    show l.toArray[i]'_ = c
    simpa using hc
  rw [this]
  exact kk
theorem extract_st (l : List UInt8) (i j : Nat) : (⟨l.toArray⟩ : ByteArray).extract i j = ⟨((l.take j).drop i).toArray⟩ := by
  apply ByteArray.ext
  rw [ByteArray.data_extract]
  simp [List.drop_take]
/-- s[i:j] -/
theorem V.sliceStLH {t : TypeId} {x lo hi : Operand} {k1 k2 : IntKind} {l : List UInt8} {i j : Nat} [ht : TyU P t .string] (hw : want ops E ⟨some d, .slice t x (some lo) (some hi) none, ty, pos, af, g⟩ = some true) (hd : Nat.blt d n = true)
    (hx : ev E x = some (st l)) (hlo : ev E lo = some (.int k1 (i : Int))) (hhi : ev E hi = some (.int k2 (j : Int))) (h1 : i ≤ j) (h2 : j ≤ l.length)
    (k : VM P w0 n D Q md ops rest ((d, st ((l.take j).drop i)) :: E) H) : VM P w0 n D Q md ops (⟨some d, .slice t x (some lo) (some hi) none, ty, pos, af, g⟩ :: rest) E H :=
  V.val hw hd (fun a w hF hW => by
    have hb1 : (Instr.sliceBound (.int k2 (j : Int)) (⟨l.toArray⟩ : ByteArray).size .sliceAlen).run P w = .ok j w := by
      have := run_sliceBound (P := P) w k2 (j : Int) (⟨l.toArray⟩ : ByteArray).size .sliceAlen (by omega) (by rw [st_size]; omega)
      simpa using this
    have hb2 : (Instr.sliceBound (.int k1 (i : Int)) j .sliceB).run P w = .ok i w := by
      have := run_sliceBound (P := P) w k1 (i : Int) j .sliceB (by omega) (by omega)
      simpa using this
    simp [execOp, Instr.sliceAt, Instr.slice, run_underlying ht.u, hF.ev hx, hF.ev hlo, hF.ev hhi, Instr.sliceBounds, hb1, hb2, extract_st]) k
/-- s[i:] -/
theorem V.sliceStL {t : TypeId} {x lo : Operand} {k1 : IntKind} {l : List UInt8} {i : Nat} [ht : TyU P t .string] (hw : want ops E ⟨some d, .slice t x (some lo) none none, ty, pos, af, g⟩ = some true) (hd : Nat.blt d n = true)
    (hx : ev E x = some (st l)) (hlo : ev E lo = some (.int k1 (i : Int))) (h1 : i ≤ l.length)
    (k : VM P w0 n D Q md ops rest ((d, st (l.drop i)) :: E) H) : VM P w0 n D Q md ops (⟨some d, .slice t x (some lo) none none, ty, pos, af, g⟩ :: rest) E H :=
  V.val hw hd (fun a w hF hW => by
    have hb2 : (Instr.sliceBound (.int k1 (i : Int)) (⟨l.toArray⟩ : ByteArray).size .sliceB).run P w = .ok i w := by
      have := run_sliceBound (P := P) w k1 (i : Int) (⟨l.toArray⟩ : ByteArray).size .sliceB (by omega) (by rw [st_size]; omega)
      simpa using this
    have he : (⟨l.toArray⟩ : ByteArray).extract i (⟨l.toArray⟩ : ByteArray).size = ⟨(l.drop i).toArray⟩ := by
      rw [extract_st, st_size, List.take_length]
    simp [execOp, Instr.sliceAt, Instr.slice, run_underlying ht.u, hF.ev hx, hF.ev hlo, Instr.sliceBounds, hb2, he]) k
/-- s[:j] -/
theorem V.sliceStH {t : TypeId} {x hi : Operand} {k2 : IntKind} {l : List UInt8} {j : Nat} [ht : TyU P t .string] (hw : want ops E ⟨some d, .slice t x none (some hi) none, ty, pos, af, g⟩ = some true) (hd : Nat.blt d n = true)
    (hx : ev E x = some (st l)) (hhi : ev E hi = some (.int k2 (j : Int))) (h2 : j ≤ l.length)
    (k : VM P w0 n D Q md ops rest ((d, st (l.take j)) :: E) H) : VM P w0 n D Q md ops (⟨some d, .slice t x none (some hi) none, ty, pos, af, g⟩ :: rest) E H :=
  V.val hw hd (fun a w hF hW => by
    have hb1 : (Instr.sliceBound (.int k2 (j : Int)) (⟨l.toArray⟩ : ByteArray).size .sliceAlen).run P w = .ok j w := by
      have := run_sliceBound (P := P) w k2 (j : Int) (⟨l.toArray⟩ : ByteArray).size .sliceAlen (by omega) (by rw [st_size]; omega)
      simpa using this
    have he : (⟨l.toArray⟩ : ByteArray).extract 0 j = ⟨(l.take j).toArray⟩ := by
      rw [extract_st, List.drop_zero]
    simp [execOp, Instr.sliceAt, Instr.slice, run_underlying ht.u, hF.ev hx, hF.ev hhi, Instr.sliceBounds, hb1, he]) k
/-- a function without a body: one of the model's rows -/
theorem V.extern {k : FuncId} {fn : Func} {e : Array Value → Sem Value} {xs : Array Operand} {ats : Array TypeId} {vs : List Value} {v : Value} (hf : P.funcs[k]? = some fn) (hname : (fn.name == "runtime.NumGoroutine") = false) (hb : fn.body.isNone = true) (hn : Extern.findNext fn = none) (he : Extern.find fn = some e)
    (hw : want ops E ⟨some d, .call { callee := .value (.func k), args := xs, argTypes := ats }, ty, pos, af, g⟩ = some true) (hd : Nat.blt d n = true) (hx : evs E xs.toList = some vs) (hrun : ∀ w, (e vs.toArray).run P w = .ok v w)
    (kk : VM P w0 n D Q md ops rest ((d, v) :: E) H) : VM P w0 n D Q md ops (⟨some d, .call { callee := .value (.func k), args := xs, argTypes := ats }, ty, pos, af, g⟩ :: rest) E H :=
  V.val hw hd (fun a w hF hW => by
    have hargs : xs.map a.eval = vs.toArray := by
      apply Array.ext'
      rw [Array.toList_map]
      exact hF.evs hx
    have h1 := run_callFunc_extern (P := P) hf hname hb hn he vs.toArray w
    rw [hrun w] at h1
    simp only [execOp, resolve, Act.eval, Deferred.ofValue, Sem.run_bind, Sem.run_pure, Result.andThen_ok, hargs, invoke, Array.append_empty]
    rw [show (#[] ++ vs.toArray : Array Value) = vs.toArray by simp, h1]
    rfl) kk
/-- []byte(s) -/
theorem V.bytesOfSt {t t' e : TypeId} {x : Operand} {l : List UInt8} [hs : TyU P t .string] [ht : TyU P t' (.slice e)] [hu : TyU P e (.int .u8)]
    (hw : want ops E ⟨some d, .convert t t' x, ty, pos, af, g⟩ = some true) (hd : Nat.blt d n = true) (hx : ev E x = some (st l)) (hm : l.length ≤ 9223372036854775807)
    (k : ∀ a cp c, Rd w0 c 1 (.slice a l.length cp) l.length (l.map byv) → V P w0 n D Q ops rest ((d, .slice a l.length cp) :: E) (c :: H)) : V P w0 n D Q ops (⟨some d, .convert t t' x, ty, pos, af, g⟩ :: rest) E H := by
  refine V.bytesOf (bytes := 0) (zero := .bool true) hw hd hx (by rw [st_size]; exact hm) (fun v c hr => ?_)
  rw [st_size] at hr
  obtain ⟨a, cp, rfl, _⟩ := id hr
  exact k a cp c hr
/-- []T{x, y, ..}: each element in its place, of any size -/
theorem fill_all {size : Nat} : ∀ (css : List (List Value)) (us : List Value) (k : Nat) (cells : Array Value), us.map (·.cells) = css.map (·.toArray) → (∀ c ∈ css, c.length = size) → (k + css.length) * size ≤ cells.size →
    Instr.fill (fun i => some (i * size, size)) cells ((us.zipIdx k).map fun p => (p.2, p.1)) = some (cells.toList.take (k * size) ++ css.flatten ++ cells.toList.drop ((k + css.length) * size)).toArray
  | [], [], k, cells, h, hl, hs => by simp [Instr.fill]
  | [], u :: us, k, cells, h, hl, hs => by simp at h
  | c :: css, [], k, cells, h, hl, hs => by simp at h
  | c :: css, u :: us, k, cells, h, hl, hs => by
    simp only [List.map_cons, List.cons.injEq] at h
    have hc : c.length = size := hl c (List.mem_cons_self ..)
    have hs' : (k + 1 + css.length) * size ≤ cells.size := by
      rw [List.length_cons] at hs
      rwa [show k + 1 + css.length = k + (css.length + 1) by omega]
    have hks : k * size + size ≤ cells.size := by
      rw [Nat.add_mul, Nat.add_mul, Nat.one_mul] at hs'
      omega
    simp only [List.zipIdx_cons, List.map_cons, Instr.fill, h.1]
    rw [if_neg (by simp only [Bool.or_eq_true, decide_eq_true_eq]; simp [hc]; omega)]
    rw [← Array.foldl_toList, Array.toList_zipIdx]
    have hf := fold_cells (off := k * size) c 0 cells (by rw [hc]; omega)
    rw [show (c.toArray.toList.zipIdx) = c.zipIdx 0 from rfl]
    rw [hf, fill_all css us (k + 1) _ h.2 (fun c hc => hl c (List.mem_cons_of_mem _ hc)) (by simp [hc]; rw [Nat.min_eq_left (by omega)]; omega)]
    refine congrArg some (Array.ext' ?_)
    simp only [Nat.add_zero, hc, List.length_cons, List.flatten_cons]
    have e1 : (k + 1) * size = k * size + size := by rw [Nat.succ_mul]
    have e2 : (k + (css.length + 1)) * size = (k + 1 + css.length) * size := by rw [show k + (css.length + 1) = k + 1 + css.length by omega]
    have e3 : (k + 1 + css.length) * size = k * size + size + css.length * size := by rw [Nat.add_mul, e1]
    rw [e2]
    have e4 : min (k * size) cells.size = k * size := Nat.min_eq_left (by omega)
    have h5 : ((List.take (k * size) cells.toList) ++ c).length = (k + 1) * size := by
      rw [List.length_append, List.length_take, Array.length_toList, hc, e4, e1]
    rw [List.take_append_of_le_length (by rw [h5]; exact Nat.le_refl _), List.take_of_length_le (Nat.le_of_eq h5), List.drop_append, List.drop_of_length_le (by rw [h5, e1, e3]; omega), List.drop_drop, h5]
    simp only [List.nil_append, List.append_assoc]
    rw [show k * size + size + ((k + 1 + css.length) * size - (k + 1) * size) = (k + 1 + css.length) * size by rw [e1, e3]; omega]
theorem V.buildRows {t e : TypeId} {len : Nat} {parts : Array (Nat × Operand)} {size bytes : Nat} {zero : Value} (us : List Value) (css : List (List Value)) [ht : TyU P t (.slice e)] [hi : TyI P e size bytes zero] (hw : want ops E ⟨some d, .buildSlice t len parts, ty, pos, af, g⟩ = some true) (hd : Nat.blt d n = true)
    (hv : (us.zipIdx.map fun p => p.2) = parts.toList.map (·.1)) (he : evs E (parts.toList.map (·.2)) = some us) (hc : us.map (·.cells) = css.map (·.toArray)) (hl : (css.all fun c => Nat.beq c.length size) = true) (hlen : Nat.beq css.length len = true) (hm : Nat.ble (len * size) (2 ^ 24) = true) (hm0 : Nat.beq (len * size) 0 = false)
    (k : ∀ b, V P w0 n D Q ops rest ((d, .slice (some ⟨b, 0, none⟩) len len) :: E) ([(b, .cells css.flatten.toArray e (0, 0))] :: H)) : V P w0 n D Q ops (⟨some d, .buildSlice t len parts, ty, pos, af, g⟩ :: rest) E H := by
  have hlen' : css.length = len := Nat.eq_of_beq_eq_true hlen
  have hl' : ∀ c ∈ css, c.length = size := fun c hc => Nat.eq_of_beq_eq_true (List.all_eq_true.1 hl c hc)
  refine V.buildSlice (us.zipIdx.map fun p => (p.2, p.1)) hw hd (by rw [List.map_map]; exact hv) (by rw [he, List.map_map]; simp [Function.comp_def]) hm hm0 ?_ k
  have := fill_all css us 0 ((Array.range (len * size)).map (zero.cells[· % zero.cells.size]!)) hc hl' (by simp [hlen'])
  rw [this]
  refine congrArg some (Array.ext' ?_)
  simp [hlen']
/-! #### range over a string -/
theorem V.rangeSt {t : TypeId} {x : Operand} {l : List UInt8} [ht : TyU P t .string] (hw : want ops E ⟨some d, .range t x, ty, pos, af, g⟩ = some true) (hd : Nat.blt d n = true) (hx : ev E x = some (st l))
    (k : ∀ b, V P w0 n D Q ops rest ((d, .pointer (some ⟨b, 0, none⟩)) :: E) ([(b, .stringIter ⟨l.toArray⟩ 0)] :: H)) : V P w0 n D Q ops (⟨some d, .range t x, ty, pos, af, g⟩ :: rest) E H :=
  V.wp hw fun a w hF hW => by
    have hrun : (execOp a.eval ⟨some d, .range t x, ty, pos, af, g⟩).run P w = .ok (.value (.pointer (some ⟨w.heap.size, 0, none⟩))) (w.alloc (.stringIter ⟨l.toArray⟩ 0)) := by
      simp only [execOp, hF.ev hx, Sem.run_bind, run_range_string w t _ ht.u, Result.andThen_ok, Sem.run_pure]
      rfl
    unfold Oper.wp
    rw [hrun]
    exact k w.heap.size _ _ (hF.put hd) (hW.alloc _)
theorem V.nextSt {x : Operand} {l : List UInt8} {i b : Nat} {c : UInt8} (hw : want ops E ⟨some d, .next x true, ty, pos, af, g⟩ = some true) (hd : Nat.blt d n = true) (hx : ev E x = some (.pointer (some ⟨b, 0, none⟩))) (hp : Pick H [(b, .stringIter ⟨l.toArray⟩ i)] H')
    (hc : l[i]? = some c) (ha : c.toNat < 128)
    (k : V P w0 n D Q ops rest ((d, .tuple #[.bool true, .int .i64 (i : Int), .int .i32 (c.toNat : Int)]) :: E) ([(b, .stringIter ⟨l.toArray⟩ (i + 1))] :: H')) : V P w0 n D Q ops (⟨some d, .next x true, ty, pos, af, g⟩ :: rest) E H :=
  V.wp hw fun a w hF hW => by
    have hW' := hW.perm hp.perm
    have hb : w.heap[b]? = some (.stringIter ⟨l.toArray⟩ i) := hW'.at_ (b, .stringIter ⟨l.toArray⟩ i) (by simp)
    obtain ⟨hi, hci⟩ := List.getElem?_eq_some_iff.1 hc
    have hsz : i < (⟨l.toArray⟩ : ByteArray).size := by rw [st_size]; exact hi
    have hbyte : (⟨l.toArray⟩ : ByteArray)[i]'hsz = c := by
      show l.toArray[i]'_ = c
      simpa using hci
    have hdec := decode_ascii ⟨l.toArray⟩ i hsz (by rw [hbyte]; exact ha)
    rw [hbyte] at hdec
    have hrun : (execOp a.eval ⟨some d, .next x true, ty, pos, af, g⟩).run P w = .ok (.value (.tuple #[.bool true, .int .i64 (i : Int), .int .i32 (c.toNat : Int)])) { w with heap := w.heap.setIfInBounds b (.stringIter ⟨l.toArray⟩ (i + 1)) } := by
      simp only [execOp, hF.ev hx, Instr.next, getObj, setObj, Sem.run_bind, Sem.run, hb, Result.andThen, hsz, if_true, hdec]
      simp [goInt, Sem.run, hb, hsz, hdec]
    unfold Oper.wp
    rw [hrun]
    refine k _ _ (hF.put hd) (hW'.turn rfl rfl rfl (by simp) ?_ (fun j _ hj => ?_))
    · have hlt := (Array.getElem?_eq_some_iff.1 hb).1
      simp [Array.getElem?_setIfInBounds, hlt]
    · simp [Array.getElem?_setIfInBounds, Ne.symm hj]
theorem V.nextStEnd {x : Operand} {l : List UInt8} {i b : Nat} (hw : want ops E ⟨some d, .next x true, ty, pos, af, g⟩ = some true) (hd : Nat.blt d n = true) (hx : ev E x = some (.pointer (some ⟨b, 0, none⟩))) (hp : Pick H [(b, .stringIter ⟨l.toArray⟩ i)] H')
    (hc : l[i]? = none)
    (k : V P w0 n D Q ops rest ((d, .tuple #[.bool false]) :: E) H) : V P w0 n D Q ops (⟨some d, .next x true, ty, pos, af, g⟩ :: rest) E H :=
  V.wp hw fun a w hF hW => by
    have hb : w.heap[b]? = some (.stringIter ⟨l.toArray⟩ i) := (hW.perm hp.perm).at_ (b, .stringIter ⟨l.toArray⟩ i) (by simp)
    have hsz : ¬ i < (⟨l.toArray⟩ : ByteArray).size := by rw [st_size]; exact Nat.not_lt.2 (List.getElem?_eq_none_iff.1 hc)
    have hrun : (execOp a.eval ⟨some d, .next x true, ty, pos, af, g⟩).run P w = .ok (.value (.tuple #[.bool false])) w := by
      simp [execOp, hF.ev hx, Instr.next, getObj, Sem.run, hb, hsz]
    unfold Oper.wp
    rw [hrun]
    exact k _ _ (hF.put hd) hW
end
end Go.Proofs.Eng
