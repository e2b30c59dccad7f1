/- The engine's fifth text: arrays, make, copy, bytes and strings. -/
import Derived.Test.YtfclhhhnngkdlaaDoorEngRows
import Derived.Laws.StructEq
import Derived.ChangeKeysEq
import Derived.Lib.ConvBytes
import Derived.Deep.OwnRows
import Derived.WalkSpells
set_option linter.unusedVariables false
set_option linter.unusedSimpArgs false
namespace Go.Proofs.Eng
open Go Go.RowKit

/-- a byte as a cell -/
def byv (b : UInt8) : Value := .int .u8 (b.toNat : Int)
theorem byv_inj {a b : UInt8} : byv a = byv b ↔ a = b := by
  simp only [byv, Value.int.injEq, true_and]
  exact ⟨fun h => UInt8.toNat_inj.1 (by omega), fun h => by rw [h]⟩

theorem all_byv (l : List UInt8) : (l.map byv).all (·.oneCell') = true := by
  rw [List.all_eq_true]
  intro x hx
  obtain ⟨b, _, rfl⟩ := List.mem_map.1 hx
  rfl

class NoGuard (P : Program) (t : TypeId) : Prop where
  g : P.eqGuardType P.depth t = false

section
variable {P : Program} {w0 : World} {n : Nat} {D : List Deferred} {Q : Exit → Act → World → Prop} {ops : Array Oper} {rest : List Oper} {E : Env} {H H' : Hp}
variable {md : Md} {d : Nat} {ty : TypeId} {pos : String} {af : Array Edge} {g : Option (Nat × Bool)}

theorem run_eqItems_bytes {e : TypeId} {bytes : Nat} {zero : Value} (hu : P.underlying e = some (.int .u8)) (hi : TyI P e 1 bytes zero) (dd : Nat) (as bs : List UInt8) : ∀ (m k : Nat), k + m = as.length → as.length = bs.length → ∀ w,
    (Op.eqItems (dd + 1) e 1 (as.map byv).toArray (bs.map byv).toArray (List.range' k m)).run P w = .ok (decide (as.drop k = bs.drop k)) w
  | 0, k, hk, hl, w => by
    simp only [List.range'_zero, Op.eqItems, Sem.run_pure]
    rw [List.drop_of_length_le (by omega), List.drop_of_length_le (by omega)]
    rfl
  | m + 1, k, hk, hl, w => by
    have h1 : k < as.length := by omega
    have h2 : k < bs.length := by omega
    have pa : ∀ (l : List UInt8) (h : k < l.length), (part e (l.map byv).toArray (k * 1)).run P w = .ok (byv l[k]) w := by
      intro l h
      have := run_isAgg (P := P) ⟨hu⟩ w
      simp [part, this, aggB, h]
    simp only [List.range'_succ, Op.eqItems, Sem.run_bind, pa as h1, pa bs h2, Result.andThen_ok, byv, run_equalIn_int w dd e .u8 .u8 _ _ hu]
    have d1 : as.drop k = as[k] :: as.drop (k + 1) := List.drop_eq_getElem_cons h1
    have d2 : bs.drop k = bs[k] :: bs.drop (k + 1) := List.drop_eq_getElem_cons h2
    rw [d1, d2]
    by_cases he : as[k] = bs[k]
    · have : ((as[k].toNat : Int) == (bs[k].toNat : Int)) = true := by rw [he]; simp
      rw [this]
      simp only [Bool.not_true, Bool.false_eq_true, if_false]
      rw [run_eqItems_bytes hu hi dd as bs m (k + 1) (by omega) hl w]
      congr 1
      simp only [List.cons.injEq, he, true_and]
    · have hne : ¬ ((as[k].toNat : Int) = (bs[k].toNat : Int)) := fun h => he (UInt8.toNat_inj.1 (by omega))
      have : ((as[k].toNat : Int) == (bs[k].toNat : Int)) = false := by simpa using hne
      rw [this]
      simp only [Bool.not_false, if_true, Sem.run_pure, List.cons.injEq, he, false_and, decide_false]

theorem run_eql_bytes {t e : TypeId} {m bytes : Nat} {zero : Value} (ht : TyU P t (.array m e)) (hu : TyU P e (.int .u8)) (hi : TyI P e 1 bytes zero) (as bs : List UInt8) (ha : as.length = m) (hb : bs.length = m) (w : World) :
    (Op.equalIn 10000 t (.agg (as.map byv).toArray) (.agg (bs.map byv).toArray)).run P w = .ok (decide (as = bs)) w := by
  obtain ⟨i, hi1, hi2, _, _⟩ := hi.get
  have hc : P.cellsOf e = 1 := by simp [Program.cellsOf, hi1, hi2]
  rw [run_equalIn_array w 9999 _ _ ht.u hi1, hc, List.range_eq_range', run_eqItems_bytes hu.u hi 9998 as bs m 0 (by omega) (by omega) w]
  simp
theorem bin_eqlBytes {t e : TypeId} {m bytes : Nat} {zero : Value} [ht : TyU P t (.array m e)] [hu : TyU P e (.int .u8)] [hi : TyI P e 1 bytes zero] [hg : NoGuard P t] (as bs : List UInt8) (ha : as.length = m) (hb : bs.length = m) :
    Bin P .eql t (.agg (as.map byv).toArray) (.agg (bs.map byv).toArray) (.bool (decide (as = bs))) :=
  Bin.of (fun a b w => run_eqGuard_agg w .eql t a b _ _ hg.g) fun w => by rw [run_eql_struct, run_eql_bytes ht hu hi as bs ha hb]; rfl
theorem bin_neqBytes {t e : TypeId} {m bytes : Nat} {zero : Value} [ht : TyU P t (.array m e)] [hu : TyU P e (.int .u8)] [hi : TyI P e 1 bytes zero] [hg : NoGuard P t] (as bs : List UInt8) (ha : as.length = m) (hb : bs.length = m) :
    Bin P .neq t (.agg (as.map byv).toArray) (.agg (bs.map byv).toArray) (.bool (decide (as ≠ bs))) :=
  Bin.of (fun a b w => run_eqGuard_agg w .neq t a b _ _ hg.g) fun w => by
    rw [run_neq_struct, run_eql_bytes ht hu hi as bs ha hb]
    by_cases h : as = bs <;> simp [h]

/-- a slice against nil -/
theorem bin_sleqlNil {t e : TypeId} [ht : TyU P t (.slice e)] (a0 : Option Addr) (m c : Nat) : Bin P .eql t (.slice a0 m c) (.slice none 0 0) (.bool a0.isNone) :=
  Bin.of (fun _ _ _ => by simp [eqGuard]) fun w => by
    exact Lib.run_eql_slice_nil (P := P) w t e a0 m c 0 0 ht.u
theorem bin_slneqNil {t e : TypeId} [ht : TyU P t (.slice e)] (a0 : Option Addr) (m c : Nat) : Bin P .neq t (.slice a0 m c) (.slice none 0 0) (.bool (!a0.isNone)) :=
  Bin.of (fun _ _ _ => by simp [eqGuard]) fun w => by
    have h := run_neq_slice_nil_any (P := P) w t e a0 m c 0 0 ht.u
    cases a0 <;> simpa using h

/-! #### make -/
theorem V.make {t e : TypeId} {x y : Operand} {bytes : Nat} {zero : Value} {k1 k2 : IntKind} {m : Nat} [ht : TyU P t (.slice e)] [hi : TyI P e 1 bytes zero] (hz : zero.cells = #[zero])
    (hw : want ops E ⟨some d, .makeSlice t x y, ty, pos, af, g⟩ = some true) (hd : Nat.blt d n = true) (hx : ev E x = some (.int k1 (m : Int))) (hy : ev E y = some (.int k2 (m : Int))) (hb : m * bytes ≤ 281474976710656) (hm : m ≤ 9223372036854775807)
    (k : ∀ b, V P w0 n D Q ops rest ((d, .slice (some ⟨b, 0, none⟩) m m) :: E) ([(b, .cells (List.replicate m zero).toArray e (0, 0))] :: H)) : V P w0 n D Q ops (⟨some d, .makeSlice t x y, ty, pos, af, g⟩ :: rest) E H :=
  V.wp hw fun a w hF hW => by
    have hinfo : (P.info? e).map (fun i => (i.zero, i.size, i.bytes)) = some (some zero, 1, bytes) := by
      obtain ⟨i, h1, h2, h3, h4⟩ := hi.get
      simp [h1, h2, h3, h4]
    have hr := run_make_row' (P := P) t e zero bytes ht.u hinfo hz k1 k2 m (by rw [Nat.mul_comm]; exact hb) (by omega) w
    have hc : madeCells #[zero] m = (List.replicate m zero).toArray := by
      apply Array.ext
      · simp [madeCells]
      · intro j h1 h2
        simp [madeCells, Nat.mod_one]
    rw [hc] at hr
    unfold Oper.wp
    have : (execOp a.eval ⟨some d, .makeSlice t x y, ty, pos, af, g⟩).run P w = .ok (.value (.slice (some ⟨w.heap.size, 0, none⟩) m m)) (w.alloc (.cells (List.replicate m zero).toArray e)) := by
      simp only [execOp, Sem.run_bind, hF.ev hx, hF.ev hy, hr, Result.andThen_ok, Sem.run_pure]
    rw [this]
    exact k w.heap.size _ _ (hF.put hd) (hW.alloc _)
theorem Own.made (b e m : Nat) (z : Value) (hm : m ≤ 9223372036854775807) : Own e 1 [(b, .cells (List.replicate m z).toArray e (0, 0))] (.slice (some ⟨b, 0, none⟩) m m) m (List.replicate m z) :=
  ⟨by simp, .inr ⟨b, m, _, rfl, rfl, Nat.le_refl _, by simp only [maxLen]; omega, by simp, by simp⟩⟩

/-! #### copy into an owned block -/
theorem run_storeCells_at (b T : Nat) : ∀ (vs : List Value) (k i : Nat) (cs : Array Value) (w : World), w.heap[b]? = some (.cells cs T (0, 0)) → k + i + vs.length ≤ cs.size → (∀ u ∈ vs, u.oneCell' = true) →
    ∃ w', (storeCells ⟨b, k, none⟩ vs i).run P w = .ok () w' ∧ w'.os = w.os ∧ w'.tape = w.tape ∧ w'.output = w.output ∧ w.heap.size ≤ w'.heap.size ∧
      w'.heap[b]? = some (.cells (cs.toList.take (k + i) ++ vs ++ cs.toList.drop (k + i + vs.length)).toArray T (0, 0)) ∧ ∀ k, k < w.heap.size → k ≠ b → w'.heap[k]? = w.heap[k]?
  | [], k, i, cs, w, hb, hl, h1 => ⟨w, by simp [storeCells], rfl, rfl, rfl, Nat.le_refl _, by simp [hb], fun _ _ _ => rfl⟩
  | v :: vs, k, i, cs, w, hb, hl, h1 => by
    simp only [List.length_cons] at hl
    have hc : w.cell? ⟨b, k + i, none⟩ = some cs[k + i] := cell_of_heap rfl hb (by simp)
    have hf : w.frozen? ⟨b, k + i, none⟩ = false := by simp [World.frozen?, hb]
    have hb' : (w.setCell ⟨b, k + i, none⟩ v).heap[b]? = some (.cells (cs.setIfInBounds (k + i) v) T (0, 0)) := by simp [World.setCell, Array.getElem?_modify, hb]
    obtain ⟨w', hr, h2, h3, h4, h5, h6, h7⟩ := run_storeCells_at b T vs k (i + 1) (cs.setIfInBounds (k + i) v) _ hb' (by simp; omega) (fun u hu => h1 u (List.mem_cons_of_mem _ hu))
    refine ⟨w', ?_, h2, h3, h4, by simpa [World.setCell] using h5, ?_, fun j hj hne => ?_⟩
    · simp only [storeCells, Sem.run_bind]
      rw [add_addr, run_store P w _ v .plain (h1 v (List.mem_cons_self ..)), hc]
      simpa [hf] using hr
    · rw [h6]
      congr 2
      apply congrArg
      simp only [Array.toList_setIfInBounds, List.length_cons]
      have hi : k + i < cs.toList.length := by simp; omega
      rw [List.take_set, List.drop_set, if_pos (by omega), show k + (i + 1) = (k + i) + 1 by omega, List.take_succ_eq_append_getElem hi, List.set_append_right (k + i) v (by simp; omega)]
      simp only [List.length_take, Nat.min_eq_left (Nat.le_of_lt hi), Nat.sub_self, List.set_cons_zero, List.append_assoc, List.cons_append, List.nil_append]
      rw [show k + i + 1 + vs.length = k + i + (vs.length + 1) by omega]
    · rw [h7 j (by simpa [World.setCell] using hj) hne]
      exact Below.heap_setCell w ⟨b, k + i, none⟩ v j (by simpa using hne)

/-- copy(dst, src), the destination in an owned block from cell k on (elements of one cell) -/
theorem V.copy {t t' e : TypeId} {x y : Operand} {bytes : Nat} {zero : Value} {b k dl dc sl sc T : Nat} {cs : Array Value} {news : List Value} {ad : Option Addr} [ht : TyU P t (.slice e)] [hi : TyI P e 1 bytes zero]
    (hw : want ops E ⟨some d, .call { callee := .builtin .copy, args := #[x, y], argTypes := #[t, t'] }, ty, pos, af, g⟩ = some true) (hd : Nat.blt d n = true)
    (hx : ev E x = some (.slice (some ⟨b, k, none⟩) dl dc)) (hy : ev E y = some (.slice ad sl sc)) (hp : Pick H [(b, .cells cs T (0, 0))] H')
    (hl : news.length = min sl dl) (hn : ∀ w, Wd w0 H w → news = [] ∨ ∃ a, ad = some a ∧ ∀ j u, news[j]? = some u → w.cell? (a.add j) = some u) (h1 : news.all (·.oneCell') = true) (hk : k + news.length ≤ cs.size)
    (kk : V P w0 n D Q ops rest ((d, .int .i64 (news.length : Int)) :: E) ([(b, .cells (cs.toList.take k ++ news ++ cs.toList.drop (k + news.length)).toArray T (0, 0))] :: H')) :
    V P w0 n D Q ops (⟨some d, .call { callee := .builtin .copy, args := #[x, y], argTypes := #[t, t'] }, ty, pos, af, g⟩ :: rest) E H :=
  V.wp hw fun a w hF hW => by
    have hW' := hW.perm hp.perm
    have hb : w.heap[b]? = some (.cells cs T (0, 0)) := hW'.at_ (b, .cells cs T (0, 0)) (by simp)
    obtain ⟨w', hr, h2, h3, h4, h5, h6, h7⟩ := run_storeCells_at (P := P) b T news k 0 cs w hb (by omega) (List.all_eq_true.1 h1)
    have hfc : (Builtin.firstCells 1 (min sl dl) (.slice ad sl sc)).run P w = .ok news.toArray w := by
      rcases hn w hW with rfl | ⟨a1, rfl, hn'⟩
      · have h0 : min sl dl = 0 := by simpa using hl.symm
        rw [h0]
        cases ad <;> simp [Builtin.firstCells, loadCells, loadCellsFrom]
      · exact run_firstCells_some (P := P) w 1 (min sl dl) a1 sl sc news (by omega) hn'
    have hrun : (execOp a.eval ⟨some d, .call { callee := .builtin .copy, args := #[x, y], argTypes := #[t, t'] }, ty, pos, af, g⟩).run P w = .ok (.value (.int .i64 (news.length : Int))) w' := by
      have hmin : Nat.min sl dl = min sl dl := rfl
      simp only [execOp, resolve, invoke, builtin, Sem.run_bind, Sem.run_pure, Result.andThen_ok, List.map_toArray, List.map_cons, List.map_nil, hF.ev hx, hF.ev hy, Builtin.copy_, List.getElem?_toArray, List.getElem?_cons_zero, List.getElem?_cons_succ, run_underlying ht.u, Builtin.lenOf, run_sizeOf hi, hmin, hfc]
      simp [hr, goInt, hl]
    unfold Oper.wp
    rw [hrun]
    refine kk _ _ (hF.put hd) (hW'.turn h2 h3 h4 h5 ?_ h7)
    rw [h6]
    simp

theorem Rd.reads {w0 : World} {c : Chunk} {k m : Nat} {ad : Option Addr} {m' cp : Nat} {l : List Value} {H H1 : Hp} (hr : Rd w0 c k (.slice ad m' cp) m l) (hp : c = [] ∨ Pick H c H1) :
    ∀ w, Wd w0 H w → l = [] ∨ ∃ a, ad = some a ∧ ∀ j u, l[j]? = some u → w.cell? (a.add j) = some u := by
  obtain ⟨a, cap, e, _, _, _, hc⟩ := hr
  simp only [Value.slice.injEq] at e
  obtain ⟨rfl, rfl, rfl⟩ := e
  intro w hW
  rcases hc with hc | ⟨b, o, rfl, hc⟩
  · exact .inl hc
  · refine .inr ⟨_, rfl, fun j u hu => ?_⟩
    rw [add_addr]
    rcases hp with rfl | hp
    · exact hW.celOld (hc j u hu)
    · exact hW.cel hp (hc j u hu)
/-- a whole block as a row -/
theorem Rd.block {w0 : World} (b T m : Nat) (fr : Nat × Nat) (l : List Value) (hm : l.length = m) (h : m ≤ 9223372036854775807) : Rd w0 [(b, .cells l.toArray T fr)] 1 (.slice (some ⟨b, 0, none⟩) m m) m l :=
  ⟨_, m, rfl, Nat.le_refl _, by simp only [maxLen]; omega, by omega, .inr ⟨b, 0, rfl, fun j u hu => ⟨rfl, _, T, fr, .inl (List.mem_singleton.2 rfl), by simpa using hu⟩⟩⟩

/-- .. the source a row that is read, of just the destination's length -/
theorem V.copyR {H1 : Hp} {t t' e : TypeId} {x y : Operand} {bytes : Nat} {zero : Value} {b k dc sl T : Nat} {cs : Array Value} {news : List Value} {v : Value} {c : Chunk} [ht : TyU P t (.slice e)] [hi : TyI P e 1 bytes zero]
    (hw : want ops E ⟨some d, .call { callee := .builtin .copy, args := #[x, y], argTypes := #[t, t'] }, ty, pos, af, g⟩ = some true) (hd : Nat.blt d n = true)
    (hx : ev E x = some (.slice (some ⟨b, k, none⟩) sl dc)) (hy : ev E y = some v) (hp : Pick H [(b, .cells cs T (0, 0))] H')
    (hp1 : c = [] ∨ Pick H c H1) (hr : Rd w0 c 1 v sl news) (h1 : news.all (·.oneCell') = true) (hk : k + sl ≤ cs.size)
    (kk : V P w0 n D Q ops rest ((d, .int .i64 (sl : Int)) :: E) ([(b, .cells (cs.toList.take k ++ news ++ cs.toList.drop (k + sl)).toArray T (0, 0))] :: H')) :
    V P w0 n D Q ops (⟨some d, .call { callee := .builtin .copy, args := #[x, y], argTypes := #[t, t'] }, ty, pos, af, g⟩ :: rest) E H := by
  obtain ⟨ad, cp, rfl, h3, h4, h5, h6⟩ := id hr
  have h5' : news.length = sl := by omega
  refine V.copy hw hd hx hy hp (by rw [h5']; exact (Nat.min_self _).symm) (hr.reads hp1) h1 (by omega) ?_
  rw [h5']
  exact kk

/-! #### bytes and strings -/
theorem strOfNums_bytes (l : List UInt8) : strOfNums (l.map fun b => (b.toNat : Int)) = ⟨l.toArray⟩ := by
  unfold strOfNums
  congr 1
  simp [List.map_map, Function.comp_def]

/-- string(bytes) -/
theorem V.str {t t' e : TypeId} {x : Operand} {v : Value} {m : Nat} {l : List UInt8} {c : Chunk} [ht : TyU P t (.slice e)] [hu : TyU P e (.int .u8)] [hs : TyU P t' .string]
    (hw : want ops E ⟨some d, .convert t t' x, ty, pos, af, g⟩ = some true) (hd : Nat.blt d n = true) (hx : ev E x = some v) (hp : c = [] ∨ Pick H c H') (hr : Rd w0 c 1 v m (l.map byv))
    (k : VM P w0 n D Q md ops rest ((d, .string ⟨l.toArray⟩) :: E) H) : VM P w0 n D Q md ops (⟨some d, .convert t t' x, ty, pos, af, g⟩ :: rest) E H :=
  V.val hw hd (fun a w hF hW => by
    obtain ⟨ad, cp, rfl, _, _, hl, hc⟩ := hr
    have hl' : l.length = m := by simpa using hl
    have hrun : (convert t t' (.slice ad m cp)).run P w = .ok (.string ⟨l.toArray⟩) w := by
      rcases hc with h0 | ⟨b, o, rfl, hc⟩
      · have h1 : l = [] := by simpa using h0
        subst h1
        have hm : m = 0 := by simpa using hl'.symm
        subst hm
        cases ad with
        | none => exact run_convert_bytes_nil w t e ht.u hu.u 0 cp t' hs.u
        | some a1 =>
          rw [run_convert_bytes_string w t t' e (some a1) 0 cp ht.u hu.u hs.u]
          simp [Conv.bytesToString, loadCells, loadCellsFrom]
          rfl
      · have := run_convert_bytes_arg (P := P) w t e ht.u hu.u b o m cp (l.map fun x => (x.toNat : Int)) (by simpa using hl') (fun i hi => by
          have hi' : i < l.length := by omega
          have hcel := hc i (byv l[i]) (by simp [hi'])
          have : w.cell? ⟨b, o + i, none⟩ = some (byv l[i]) := by
            rcases hp with rfl | hp
            · exact hW.celOld hcel
            · exact hW.cel hp hcel
          rw [this]
          simp [byv, hi']) t' hs.u
        rw [this, strOfNums_bytes]
    simp only [execOp, Sem.run_bind, hF.ev hx, hrun, Result.andThen_ok, Sem.run_pure]) k

/-- []byte(s): a new row, marked as a string's own -/
theorem V.bytesOf {t t' e : TypeId} {x : Operand} {s : ByteArray} {bytes : Nat} {zero : Value} [hs : TyU P t .string] [ht : TyU P t' (.slice e)] [hu : TyU P e (.int .u8)]
    (hw : want ops E ⟨some d, .convert t t' x, ty, pos, af, g⟩ = some true) (hd : Nat.blt d n = true) (hx : ev E x = some (.string s)) (hm : s.size ≤ 9223372036854775807)
    (k : ∀ v c, Rd w0 c 1 v s.size (s.data.toList.map byv) → V P w0 n D Q ops rest ((d, v) :: E) (c :: H)) : V P w0 n D Q ops (⟨some d, .convert t t' x, ty, pos, af, g⟩ :: rest) E H :=
  V.wp hw fun a w hF hW => by
    let cap := grownCap w s.size 0 e
    have hcap : s.size ≤ cap := grownCap_ge w s.size 0 e
    have hcm : cap ≤ maxLen := grownCap_le_maxLen w s.size 0 e (by simp only [maxLen]; omega)
    have hr0 := Lib.run_convert_string_bytes (P := P) w t t' e s hs.u ht.u hu.u
    have hnew : (Lib.bytesWorld w e s).heap[w.heap.size]? = some (.cells (Lib.bytesCells w e s) e ((Lib.bytesCells w e s).size, (Lib.bytesCells w e s).size + 1)) := Lib.bytesWorld_at_new w e s
    have hW1 : Wd w0 ([(w.heap.size, .cells (Lib.bytesCells w e s) e)] :: H) (w.drew.alloc (.cells (Lib.bytesCells w e s) e)) := hW.drew.alloc _
    have hW2 : Wd w0 ([(w.heap.size, .cells (Lib.bytesCells w e s) e ((Lib.bytesCells w e s).size, (Lib.bytesCells w e s).size + 1))] :: H) (Lib.bytesWorld w e s) := by
      refine hW1.turn rfl rfl rfl (by simp [Lib.bytesWorld, World.freeze]) hnew (fun k hk hne => ?_)
      simp [Lib.bytesWorld, World.freeze, Array.getElem?_modify, Ne.symm hne]
    have hrun : ∃ w' o, (execOp a.eval ⟨some d, .convert t t' x, ty, pos, af, g⟩).run P w = .ok (.value (.slice (some ⟨w.heap.size, 0, none⟩) s.size cap)) w' ∧ Wd w0 ([(w.heap.size, .cells (s.data.map (fun b => Value.int .u8 b.toNat) ++ Array.replicate (cap - s.size) (.int .u8 0)) e o)] :: H) w' := by
      refine ⟨Lib.bytesWorld w e s, _, ?_, hW2⟩
      have hc : (execOp a.eval ⟨some d, .convert t t' x, ty, pos, af, g⟩) = (do pure (.value (← convert t t' (.string s)))) := by
        show (do pure (Next.value (← convert t t' (a.eval x)))) = _
        rw [hF.ev hx]
      rw [hc, Sem.run_bind, hr0]
      rfl
    obtain ⟨w', o, hr, hW'⟩ := hrun
    unfold Oper.wp
    rw [hr]
    refine k _ _ ?_ _ _ (hF.put hd) hW'
    refine ⟨_, cap, rfl, hcap, hcm, by rw [List.length_map, Array.length_toList, Nat.mul_one]; rfl, .inr ⟨w.heap.size, 0, rfl, fun j u hu => ⟨rfl, _, e, o, .inl (List.mem_singleton.2 rfl), ?_⟩⟩⟩
    have hj : j < s.data.size := by
      have := (List.getElem?_eq_some_iff.1 hu).1
      simpa using this
    simp only [Nat.zero_add]
    rw [Array.getElem?_append_left (by simpa using hj)]
    simp only [List.getElem?_map, Array.getElem?_toList] at hu
    simp only [Array.getElem?_map]
    exact hu

/-- []byte("a constant"): the row that was made for it is marked -/
theorem V.convSame {t e : TypeId} {x : Operand} {b m cp T : Nat} {cs : Array Value} [ht : TyU P t (.slice e)] [hu : TyU P e (.int .u8)]
    (hw : want ops E ⟨some d, .convert t t x, ty, pos, af, g⟩ = some true) (hd : Nat.blt d n = true) (hx : ev E x = some (.slice (some ⟨b, 0, none⟩) m cp)) (hp : Pick H [(b, .cells cs T (0, 0))] H')
    (k : V P w0 n D Q ops rest ((d, .slice (some ⟨b, 0, none⟩) m cp) :: E) ([(b, .cells cs T (cs.size, cs.size + 1))] :: H')) : V P w0 n D Q ops (⟨some d, .convert t t x, ty, pos, af, g⟩ :: rest) E H :=
  V.wp hw fun a w hF hW => by
    have hW' := hW.perm hp.perm
    have hb : w.heap[b]? = some (.cells cs T (0, 0)) := hW'.at_ (b, .cells cs T (0, 0)) (by simp)
    have hrun : (execOp a.eval ⟨some d, .convert t t x, ty, pos, af, g⟩).run P w = .ok (.value (.slice (some ⟨b, 0, none⟩) m cp)) (w.freeze ⟨b, cs.size, none⟩ 1) := by
      have hr : (convert t t (.slice (some ⟨b, 0, none⟩) m cp)).run P w = .ok (.slice (some ⟨b, 0, none⟩) m cp) (w.freeze ⟨b, cs.size, none⟩ 1) := by
        have hsh : w.shape? b = some (T, cs.size) := by simp [World.shape?, hb]
        simp [convert, run_underlying ht.u, run_underlying hu.u, markStringish, hsh]
      have hc : (execOp a.eval ⟨some d, .convert t t x, ty, pos, af, g⟩) = (do pure (.value (← convert t t (.slice (some ⟨b, 0, none⟩) m cp)))) := by
        show (do pure (Next.value (← convert t t (a.eval x)))) = _
        rw [hF.ev hx]
      rw [hc, Sem.run_bind, hr]
      rfl
    unfold Oper.wp
    rw [hrun]
    refine k _ _ (hF.put hd) (hW'.turn rfl rfl rfl (by simp [World.freeze]) ?_ (fun j hj hne => ?_))
    · simp [World.freeze, Array.getElem?_modify, hb]
    · simp [World.freeze, Array.getElem?_modify, Ne.symm hne]
end
end Go.Proofs.Eng
