/- The engine's third text: operations on memory. -/
import Derived.Test.YtfclhhhnngkdlaaDoorEngOps
set_option linter.unusedVariables false
set_option linter.unusedSimpArgs false
namespace Go.Proofs.Eng
open Go Go.RowKit

theorem add_addr (b k j : Nat) : (⟨b, k, none⟩ : Addr).add j = ⟨b, k + j, none⟩ := by unfold Addr.add; split <;> simp_all

/-- a list with one place turned -/
inductive SetL {α : Type} : List α → Nat → α → List α → Prop
  | head {x l v} : SetL (x :: l) 0 v (v :: l)
  | tail {x l k v l'} (h : SetL l k v l') : SetL (x :: l) (k + 1) v (x :: l')
theorem SetL.eq {α : Type} {l l' : List α} {k v} (h : SetL l k v l') : l.set k v = l' ∧ k < l.length := by
  induction h with
  | head => simp
  | tail h ih => simp [ih.1, ih.2]

/-- the list's k-th -/
inductive Nth {α : Type} : List α → Nat → α → Prop
  | head {x l} : Nth (x :: l) 0 x
  | tail {x l k v} (h : Nth l k v) : Nth (x :: l) (k + 1) v
theorem Nth.eq {α : Type} {l : List α} {k v} (h : Nth l k v) : l[k]? = some v := by
  induction h with
  | head => rfl
  | tail h ih => simpa using ih

section
variable {P : Program} {w0 : World} {n : Nat} {D : List Deferred} {Q : Exit → Act → World → Prop} {ops : Array Oper} {rest : List Oper} {E : Env} {H H' : Hp}
variable {md : Md} {d : Nat} {ty : TypeId} {pos : String} {af : Array Edge} {g : Option (Nat × Bool)}

theorem run_loadVar1 {t : TypeId} {td : TypeDesc} (ht : TyU P t td) (ha : aggB td = false) {w : World} {ad : Addr} {v : Value} (hc : w.cell? ad = some v) : (loadVar t ad).run P w = .ok v w := by
  simp [loadVar, run_isAgg ht, ha, run_load, hc]

theorem V.loadW {t : TypeId} {x : Operand} {td : TypeDesc} {ad : Addr} {v : Value} [ht : TyU P t td] (ha : aggB td = false) (hw : want ops E ⟨some d, .load t x, ty, pos, af, g⟩ = some true) (hd : Nat.blt d n = true)
    (hx : ev E x = some (.pointer (some ad))) (hc : ∀ w, Wd w0 H w → w.cell? ad = some v)
    (k : VM P w0 n D Q md ops rest ((d, v) :: E) H) : VM P w0 n D Q md ops (⟨some d, .load t x, ty, pos, af, g⟩ :: rest) E H :=
  V.val hw hd (fun a w hF hW => by simp [execOp, hF.ev hx, Instr.loadAt, Instr.sureAddr, run_loadVar1 ht ha (hc w hW)]) k

/-- out of an owned block that is known whole -/
theorem V.load {t : TypeId} {x : Operand} {td : TypeDesc} {b k : Nat} {cs : Array Value} {T : TypeId} {fr : Nat × Nat} {v : Value} [ht : TyU P t td] (ha : aggB td = false) (hw : want ops E ⟨some d, .load t x, ty, pos, af, g⟩ = some true) (hd : Nat.blt d n = true)
    (hx : ev E x = some (.pointer (some ⟨b, k, none⟩))) (hp : Pick H [(b, .cells cs T fr)] H') (hk : cs[k]? = some v)
    (kk : VM P w0 n D Q md ops rest ((d, v) :: E) H) : VM P w0 n D Q md ops (⟨some d, .load t x, ty, pos, af, g⟩ :: rest) E H :=
  V.loadW ha hw hd hx (fun w hW => cell_of_heap rfl (hW.mem hp (.inl (List.mem_singleton.2 rfl))) hk) kk
/-- .. whose cells are written out -/
theorem V.loadL {t : TypeId} {x : Operand} {td : TypeDesc} {b k : Nat} {l : List Value} {T : TypeId} {fr : Nat × Nat} {v : Value} [ht : TyU P t td] (ha : aggB td = false) (hw : want ops E ⟨some d, .load t x, ty, pos, af, g⟩ = some true) (hd : Nat.blt d n = true)
    (hx : ev E x = some (.pointer (some ⟨b, k, none⟩))) (hp : Pick H [(b, .cells l.toArray T fr)] H') (hk : Nth l k v)
    (kk : VM P w0 n D Q md ops rest ((d, v) :: E) H) : VM P w0 n D Q md ops (⟨some d, .load t x, ty, pos, af, g⟩ :: rest) E H :=
  V.load ha hw hd hx hp (by simpa using hk.eq) kk
/-- out of a chunk, by a fact on the cell -/
theorem V.loadC {t : TypeId} {x : Operand} {td : TypeDesc} {ad : Addr} {c : Chunk} {v : Value} [ht : TyU P t td] (ha : aggB td = false) (hw : want ops E ⟨some d, .load t x, ty, pos, af, g⟩ = some true) (hd : Nat.blt d n = true)
    (hx : ev E x = some (.pointer (some ad))) (hp : Pick H c H') (hc : Cel w0 c ad v)
    (kk : VM P w0 n D Q md ops rest ((d, v) :: E) H) : VM P w0 n D Q md ops (⟨some d, .load t x, ty, pos, af, g⟩ :: rest) E H :=
  V.loadW ha hw hd hx (fun w hW => hW.cel hp hc) kk
/-- out of memory that was there from the first -/
theorem V.loadO {t : TypeId} {x : Operand} {td : TypeDesc} {ad : Addr} {v : Value} [ht : TyU P t td] (ha : aggB td = false) (hw : want ops E ⟨some d, .load t x, ty, pos, af, g⟩ = some true) (hd : Nat.blt d n = true)
    (hx : ev E x = some (.pointer (some ad))) (hc : Cel w0 [] ad v)
    (kk : VM P w0 n D Q md ops rest ((d, v) :: E) H) : VM P w0 n D Q md ops (⟨some d, .load t x, ty, pos, af, g⟩ :: rest) E H :=
  V.loadW ha hw hd hx (fun w hW => hW.celOld hc) kk

/-- a struct or an array -/
theorem V.loadNW {t : TypeId} {x : Operand} {td : TypeDesc} {size bytes : Nat} {zero : Value} {ad : Addr} {vs : List Value} [ht : TyU P t td] [hi : TyI P t size bytes zero] (ha : aggB td = true) (hw : want ops E ⟨some d, .load t x, ty, pos, af, g⟩ = some true) (hd : Nat.blt d n = true)
    (hx : ev E x = some (.pointer (some ad))) (hl : vs.length = size) (hc : ∀ w, Wd w0 H w → ∀ j u, vs[j]? = some u → w.cell? (ad.add j) = some u)
    (k : VM P w0 n D Q md ops rest ((d, .agg vs.toArray) :: E) H) : VM P w0 n D Q md ops (⟨some d, .load t x, ty, pos, af, g⟩ :: rest) E H :=
  V.val hw hd (fun a w hF hW => by
    have h1 := run_loadCells_list (P := P) (w := w) ad vs (hc w hW)
    rw [hl] at h1
    simp [execOp, hF.ev hx, Instr.loadAt, Instr.sureAddr, loadVar, run_isAgg ht, ha, run_sizeOf hi, h1]) k

theorem V.loadN {t : TypeId} {x : Operand} {td : TypeDesc} {size bytes : Nat} {zero : Value} {b k : Nat} {cs : Array Value} {T : TypeId} {fr : Nat × Nat} {vs : List Value} [ht : TyU P t td] [hi : TyI P t size bytes zero] (ha : aggB td = true) (hw : want ops E ⟨some d, .load t x, ty, pos, af, g⟩ = some true) (hd : Nat.blt d n = true)
    (hx : ev E x = some (.pointer (some ⟨b, k, none⟩))) (hp : Pick H [(b, .cells cs T fr)] H') (hl : vs.length = size) (hk : ∀ j u, vs[j]? = some u → cs[k + j]? = some u)
    (kk : VM P w0 n D Q md ops rest ((d, .agg vs.toArray) :: E) H) : VM P w0 n D Q md ops (⟨some d, .load t x, ty, pos, af, g⟩ :: rest) E H :=
  V.loadNW ha hw hd hx hl (fun w hW j u hu => by rw [add_addr]; exact cell_of_heap rfl (hW.mem hp (.inl (List.mem_singleton.2 rfl))) (hk j u hu)) kk
/-- a whole block of that very size -/
theorem V.loadAll {t : TypeId} {x : Operand} {td : TypeDesc} {size bytes : Nat} {zero : Value} {b : Nat} {vs : List Value} {T : TypeId} {fr : Nat × Nat} [ht : TyU P t td] [hi : TyI P t size bytes zero] (ha : aggB td = true) (hw : want ops E ⟨some d, .load t x, ty, pos, af, g⟩ = some true) (hd : Nat.blt d n = true)
    (hx : ev E x = some (.pointer (some ⟨b, 0, none⟩))) (hp : Pick H [(b, .cells vs.toArray T fr)] H') (hl : vs.length = size)
    (kk : VM P w0 n D Q md ops rest ((d, .agg vs.toArray) :: E) H) : VM P w0 n D Q md ops (⟨some d, .load t x, ty, pos, af, g⟩ :: rest) E H :=
  V.loadN ha hw hd hx hp hl (fun j u hu => by simpa using hu) kk
theorem V.loadNC {t : TypeId} {x : Operand} {td : TypeDesc} {size bytes : Nat} {zero : Value} {ad : Addr} {c : Chunk} {vs : List Value} [ht : TyU P t td] [hi : TyI P t size bytes zero] (ha : aggB td = true) (hw : want ops E ⟨some d, .load t x, ty, pos, af, g⟩ = some true) (hd : Nat.blt d n = true)
    (hx : ev E x = some (.pointer (some ad))) (hp : Pick H c H') (hl : vs.length = size) (hc : ∀ j u, vs[j]? = some u → Cel w0 c (ad.add j) u)
    (kk : VM P w0 n D Q md ops rest ((d, .agg vs.toArray) :: E) H) : VM P w0 n D Q md ops (⟨some d, .load t x, ty, pos, af, g⟩ :: rest) E H :=
  V.loadNW ha hw hd hx hl (fun w hW j u hu => hW.cel hp (hc j u hu)) kk
theorem V.loadNO {t : TypeId} {x : Operand} {td : TypeDesc} {size bytes : Nat} {zero : Value} {ad : Addr} {vs : List Value} [ht : TyU P t td] [hi : TyI P t size bytes zero] (ha : aggB td = true) (hw : want ops E ⟨some d, .load t x, ty, pos, af, g⟩ = some true) (hd : Nat.blt d n = true)
    (hx : ev E x = some (.pointer (some ad))) (hl : vs.length = size) (hc : ∀ j u, vs[j]? = some u → Cel w0 [] (ad.add j) u)
    (kk : VM P w0 n D Q md ops rest ((d, .agg vs.toArray) :: E) H) : VM P w0 n D Q md ops (⟨some d, .load t x, ty, pos, af, g⟩ :: rest) E H :=
  V.loadNW ha hw hd hx hl (fun w hW j u hu => hW.celOld (hc j u hu)) kk

/-! #### stores -/
theorem run_storeVar1 {t : TypeId} {size bytes : Nat} {zero : Value} (hi : TyI P t size bytes zero) {w : World} {ad : Addr} {v old : Value} (h1 : v.oneCell' = true) (hsz : size = 1) (hc : w.cell? ad = some old) (hf : w.frozen? ad = false) :
    (storeVar t ad v).run P w = .ok () (w.setCell ad v) := by
  have hcs : v.cells = #[v] := by cases v <;> first | rfl | (simp [Value.oneCell'] at h1)
  have h0 : ad.add 0 = ad := rfl
  simp [storeVar, hcs, run_sizeOf hi, hsz, storeCells, h0, run_store P w ad v .plain h1, hc, hf]

theorem V.store {t : TypeId} {x y : Operand} {size bytes : Nat} {zero : Value} {b k : Nat} {cs : Array Value} {T : TypeId} {v : Value} [hi : TyI P t size bytes zero] (hsz : size = 1) (hw : want ops E ⟨none, .store t x y, ty, pos, af, g⟩ = some true)
    (hx : ev E x = some (.pointer (some ⟨b, k, none⟩))) (hy : ev E y = some v) (h1 : v.oneCell' = true) (hp : Pick H [(b, .cells cs T (0, 0))] H') (hk : k < cs.size)
    (kk : V P w0 n D Q ops rest E ([(b, .cells (cs.setIfInBounds k v) T (0, 0))] :: H')) : V P w0 n D Q ops (⟨none, .store t x y, ty, pos, af, g⟩ :: rest) E H :=
  V.wp hw fun a w hF hW => by
    have hW' := hW.perm hp.perm
    have hb : w.heap[b]? = some (.cells cs T (0, 0)) := hW'.at_ (b, .cells cs T (0, 0)) (by simp)
    have hc : w.cell? ⟨b, k, none⟩ = some cs[k] := cell_of_heap rfl hb (by simp)
    have hf : w.frozen? ⟨b, k, none⟩ = false := by simp [World.frozen?, hb]
    have hrun : (execOp a.eval ⟨none, .store t x y, ty, pos, af, g⟩).run P w = .ok .skip (w.setCell ⟨b, k, none⟩ v) := by
      simp [execOp, hF.ev hx, hF.ev hy, Instr.storeAt, Instr.sureAddr, run_storeVar1 hi h1 hsz hc hf]
    unfold Oper.wp
    rw [hrun]
    exact kk _ _ hF hW'.setCell

/-- into a block whose cells are written out -/
theorem V.storeL {t : TypeId} {x y : Operand} {size bytes : Nat} {zero : Value} {b k : Nat} {l l' : List Value} {T : TypeId} {v : Value} [hi : TyI P t size bytes zero] (hsz : size = 1) (hw : want ops E ⟨none, .store t x y, ty, pos, af, g⟩ = some true)
    (hx : ev E x = some (.pointer (some ⟨b, k, none⟩))) (hy : ev E y = some v) (h1 : v.oneCell' = true) (hp : Pick H [(b, .cells l.toArray T (0, 0))] H') (hs : SetL l k v l')
    (kk : V P w0 n D Q ops rest E ([(b, .cells l'.toArray T (0, 0))] :: H')) : V P w0 n D Q ops (⟨none, .store t x y, ty, pos, af, g⟩ :: rest) E H := by
  obtain ⟨e, hlt⟩ := hs.eq
  refine V.store hsz hw hx hy h1 hp (by simpa using hlt) ?_
  simpa [e] using kk

/-- a struct or an array, the whole block -/
theorem run_storeCells_heap (b : Nat) (T : TypeId) : ∀ (vs : List Value) (i : Nat) (cs : Array Value) (w : World), w.heap[b]? = some (.cells cs T (0, 0)) → i + vs.length ≤ cs.size → (∀ u ∈ vs, u.oneCell' = true) →
    ∃ w', (storeCells ⟨b, 0, none⟩ vs i).run P w = .ok () w' ∧ w'.os = w.os ∧ w'.tape = w.tape ∧ w'.output = w.output ∧ w.heap.size ≤ w'.heap.size ∧
      w'.heap[b]? = some (.cells (cs.toList.take i ++ vs ++ cs.toList.drop (i + vs.length)).toArray T (0, 0)) ∧ ∀ k, k < w.heap.size → k ≠ b → w'.heap[k]? = w.heap[k]?
  | [], i, cs, w, hb, hl, h1 => ⟨w, by simp [storeCells], rfl, rfl, rfl, Nat.le_refl _, by simp [hb], fun _ _ _ => rfl⟩
  | v :: vs, i, cs, w, hb, hl, h1 => by
    simp only [List.length_cons] at hl
    have hc : w.cell? ⟨b, i, none⟩ = some cs[i] := cell_of_heap rfl hb (by simp)
    have hf : w.frozen? ⟨b, i, none⟩ = false := by simp [World.frozen?, hb]
    have hb' : (w.setCell ⟨b, i, none⟩ v).heap[b]? = some (.cells (cs.setIfInBounds i v) T (0, 0)) := by simp [World.setCell, Array.getElem?_modify, hb]
    obtain ⟨w', hr, h2, h3, h4, h5, h6, h7⟩ := run_storeCells_heap b T vs (i + 1) (cs.setIfInBounds i v) _ hb' (by simp; omega) (fun u hu => h1 u (List.mem_cons_of_mem _ hu))
    refine ⟨w', ?_, h2, h3, h4, by simpa [World.setCell] using h5, ?_, fun k hk hne => ?_⟩
    · simp only [storeCells, Sem.run_bind]
      rw [add_addr, Nat.zero_add, run_store P w _ v .plain (h1 v (List.mem_cons_self ..)), hc]
      simpa [hf] using hr
    · rw [h6]
      congr 2
      apply congrArg
      simp only [Array.toList_setIfInBounds, List.length_cons]
      have hi : i < cs.toList.length := by simp; omega
      rw [List.take_set, List.drop_set]
      rw [if_pos (by omega)]
      rw [List.take_succ_eq_append_getElem hi, List.set_append_right i v (by simp; omega)]
      simp only [List.length_take, Nat.min_eq_left (Nat.le_of_lt hi), Nat.sub_self, List.set_cons_zero, List.append_assoc, List.cons_append, List.nil_append]
      rw [show i + 1 + vs.length = i + (vs.length + 1) by omega]
    · rw [h7 k (by simpa [World.setCell] using hk) hne]
      exact Below.heap_setCell w ⟨b, i, none⟩ v k (by simpa using hne)

theorem V.storeAll {t : TypeId} {x y : Operand} {size bytes : Nat} {zero : Value} {b : Nat} {cs : Array Value} {vs : List Value} {T : TypeId} [hi : TyI P t size bytes zero] (hw : want ops E ⟨none, .store t x y, ty, pos, af, g⟩ = some true)
    (hx : ev E x = some (.pointer (some ⟨b, 0, none⟩))) (hy : ev E y = some (.agg vs.toArray)) (h1 : vs.all (·.oneCell') = true) (hp : Pick H [(b, .cells cs T (0, 0))] H') (hl : vs.length = size) (hk : cs.size = size)
    (kk : V P w0 n D Q ops rest E ([(b, .cells vs.toArray T (0, 0))] :: H')) : V P w0 n D Q ops (⟨none, .store t x y, ty, pos, af, g⟩ :: rest) E H :=
  V.wp hw fun a w hF hW => by
    have hW' := hW.perm hp.perm
    have hb : w.heap[b]? = some (.cells cs T (0, 0)) := hW'.at_ (b, .cells cs T (0, 0)) (by simp)
    obtain ⟨w', hr, h2, h3, h4, h5, h6, h7⟩ := run_storeCells_heap (P := P) b T vs 0 cs w hb (by omega) (List.all_eq_true.1 h1)
    have hrun : (execOp a.eval ⟨none, .store t x y, ty, pos, af, g⟩).run P w = .ok .skip w' := by
      simp [execOp, hF.ev hx, hF.ev hy, Instr.storeAt, Instr.sureAddr, storeVar, Value.cells, run_sizeOf hi, hl, hr]
    unfold Oper.wp
    rw [hrun]
    refine kk _ _ hF (hW'.turn h2 h3 h4 h5 ?_ h7)
    rw [h6]
    simp [hl, ← hk]

/-! #### new blocks -/
theorem V.new {op : Op} {cs : Array Value} {T : TypeId} (hw : want ops E ⟨some d, op, ty, pos, af, g⟩ = some true) (hd : Nat.blt d n = true)
    (hrun : ∀ a w, Fr n D E a → (execOp a.eval ⟨some d, op, ty, pos, af, g⟩).run P w = .ok (.value (.pointer (some ⟨w.heap.size, 0, none⟩))) (w.alloc (.cells cs T)))
    (k : ∀ b, V P w0 n D Q ops rest ((d, .pointer (some ⟨b, 0, none⟩)) :: E) ([(b, .cells cs T (0, 0))] :: H)) : V P w0 n D Q ops (⟨some d, op, ty, pos, af, g⟩ :: rest) E H :=
  V.wp hw fun a w hF hW => by unfold Oper.wp; rw [hrun a w hF]; exact k w.heap.size _ _ (hF.put hd) (hW.alloc _)

theorem V.alloc {t : TypeId} {size bytes : Nat} {zero : Value} {l : List Value} [hi : TyI P t size bytes zero] (hw : want ops E ⟨some d, .alloc t, ty, pos, af, g⟩ = some true) (hd : Nat.blt d n = true) (hz : zero.cells = l.toArray)
    (k : ∀ b, V P w0 n D Q ops rest ((d, .pointer (some ⟨b, 0, none⟩)) :: E) ([(b, .cells l.toArray t (0, 0))] :: H)) : V P w0 n D Q ops (⟨some d, .alloc t, ty, pos, af, g⟩ :: rest) E H :=
  V.new hw hd (fun a w hF => by simp [execOp, Instr.alloc, run_zeroOf hi, newVar, newRow, hz, World.alloc_eq]) k
theorem V.box {t : TypeId} {x : Operand} {v : Value} {l : List Value} (hw : want ops E ⟨some d, .box t x, ty, pos, af, g⟩ = some true) (hd : Nat.blt d n = true) (hx : ev E x = some v) (hz : v.cells = l.toArray)
    (k : ∀ b, V P w0 n D Q ops rest ((d, .pointer (some ⟨b, 0, none⟩)) :: E) ([(b, .cells l.toArray t (0, 0))] :: H)) : V P w0 n D Q ops (⟨some d, .box t x, ty, pos, af, g⟩ :: rest) E H :=
  V.new hw hd (fun a w hF => by simp [execOp, Instr.box, hF.ev hx, newVar, newRow, hz, World.alloc_eq]) k

/-! #### addresses -/
theorem V.fieldAddr {s : TypeId} {x : Operand} {f : Nat} {fs : Array Field} (off ft : Nat) {size bytes : Nat} {zero : Value} {b k : Nat} [ht : TyU P s (.struct fs)] (hw : want ops E ⟨some d, .fieldAddr s x f, ty, pos, af, g⟩ = some true) (hd : Nat.blt d n = true)
    (hx : ev E x = some (.pointer (some ⟨b, k, none⟩))) (hf : (fs[f]?).map (fun x => (x.offset, x.type)) = some (off, ft)) [hi : TyI P ft size bytes zero] (hsz : Nat.beq size 0 = false)
    (kk : VM P w0 n D Q md ops rest ((d, .pointer (some ⟨b, k + off, none⟩)) :: E) H) : VM P w0 n D Q md ops (⟨some d, .fieldAddr s x f, ty, pos, af, g⟩ :: rest) E H :=
  V.val hw hd (fun a w hF hW => by
    have hne : size ≠ 0 := ne_beq hsz
    obtain ⟨fld, hf', he⟩ := Option.map_eq_some_iff.1 hf
    obtain ⟨rfl, rfl⟩ := Prod.mk.inj he
    simp [execOp, Instr.fieldAt, run_underlying ht.u, hf', hF.ev hx, Instr.sureAddr, fieldPlace, run_sizeOf hi, hne, add_addr]) kk
theorem V.fieldAddrA {s : TypeId} {x : Operand} {f : Nat} {fs : Array Field} (off ft : Nat) {size bytes : Nat} {zero : Value} {ad : Addr} [ht : TyU P s (.struct fs)] (hw : want ops E ⟨some d, .fieldAddr s x f, ty, pos, af, g⟩ = some true) (hd : Nat.blt d n = true)
    (hx : ev E x = some (.pointer (some ad))) (hf : (fs[f]?).map (fun x => (x.offset, x.type)) = some (off, ft)) [hi : TyI P ft size bytes zero] (hsz : Nat.beq size 0 = false)
    (kk : VM P w0 n D Q md ops rest ((d, .pointer (some (ad.add off))) :: E) H) : VM P w0 n D Q md ops (⟨some d, .fieldAddr s x f, ty, pos, af, g⟩ :: rest) E H :=
  V.val hw hd (fun a w hF hW => by
    have hne : size ≠ 0 := ne_beq hsz
    obtain ⟨fld, hf', he⟩ := Option.map_eq_some_iff.1 hf
    obtain ⟨rfl, rfl⟩ := Prod.mk.inj he
    simp [execOp, Instr.fieldAt, run_underlying ht.u, hf', hF.ev hx, Instr.sureAddr, fieldPlace, run_sizeOf hi, hne]) kk

theorem V.indexAddr {t e : TypeId} {x y : Operand} {size bytes : Nat} {zero : Value} {ik : IntKind} {ad : Addr} {len cap : Nat} {i : Int} [ht : TyU P t (.slice e)] [hi : TyI P e size bytes zero] (hw : want ops E ⟨some d, .indexAddr t x y, ty, pos, af, g⟩ = some true) (hd : Nat.blt d n = true)
    (hx : ev E x = some (.slice (some ad) len cap)) (hy : ev E y = some (.int ik i)) (h0 : 0 ≤ i ∧ i < len)
    (kk : VM P w0 n D Q md ops rest ((d, .pointer (some (ad.add (i.toNat * size)))) :: E) H) : VM P w0 n D Q md ops (⟨some d, .indexAddr t x y, ty, pos, af, g⟩ :: rest) E H :=
  V.val hw hd (fun a w hF hW => by
    simp [execOp, Instr.indexAt, run_underlying ht.u, hF.ev hx, hF.ev hy, asIntOf, run_sizeOf hi, h0.1, h0.2]) kk
/-- the index a natural number -/
theorem V.indexN {t e : TypeId} {x y : Operand} {size bytes : Nat} {zero : Value} {ik : IntKind} {ad : Addr} {len cap : Nat} {i : Nat} [ht : TyU P t (.slice e)] [hi : TyI P e size bytes zero] (hw : want ops E ⟨some d, .indexAddr t x y, ty, pos, af, g⟩ = some true) (hd : Nat.blt d n = true)
    (hx : ev E x = some (.slice (some ad) len cap)) (hy : ev E y = some (.int ik (i : Int))) (h0 : i < len)
    (kk : VM P w0 n D Q md ops rest ((d, .pointer (some (ad.add (i * size)))) :: E) H) : VM P w0 n D Q md ops (⟨some d, .indexAddr t x y, ty, pos, af, g⟩ :: rest) E H :=
  V.indexAddr (i := (i : Int)) hw hd hx hy (by omega) (by simpa using kk)
/-- a row of the call's own, its block's head -/
theorem V.indexB {t e : TypeId} {x y : Operand} {size bytes : Nat} {zero : Value} {ik : IntKind} {b : Nat} {len cap : Nat} {i : Nat} [ht : TyU P t (.slice e)] [hi : TyI P e size bytes zero] (hw : want ops E ⟨some d, .indexAddr t x y, ty, pos, af, g⟩ = some true) (hd : Nat.blt d n = true)
    (hx : ev E x = some (.slice (some ⟨b, 0, none⟩) len cap)) (hy : ev E y = some (.int ik (i : Int))) (h0 : i < len)
    (kk : VM P w0 n D Q md ops rest ((d, .pointer (some ⟨b, i * size, none⟩)) :: E) H) : VM P w0 n D Q md ops (⟨some d, .indexAddr t x y, ty, pos, af, g⟩ :: rest) E H :=
  V.indexN hw hd hx hy h0 (by simpa [add_addr] using kk)

/-- a string's byte -/
theorem V.indexS {t : TypeId} {x y : Operand} {ik : IntKind} {s : ByteArray} {i : Nat} [ht : TyU P t .string] (hw : want ops E ⟨some d, .index t x y, ty, pos, af, g⟩ = some true) (hd : Nat.blt d n = true)
    (hx : ev E x = some (.string s)) (hy : ev E y = some (.int ik (i : Int))) (h0 : i < s.size)
    (kk : VM P w0 n D Q md ops rest ((d, .int .u8 (s[i].toNat : Int)) :: E) H) : VM P w0 n D Q md ops (⟨some d, .index t x y, ty, pos, af, g⟩ :: rest) E H :=
  V.val hw hd (fun a w hF hW => by
    simp [execOp, Instr.index, run_underlying ht.u, hF.ev hx, hF.ev hy, asIntOf, h0]) kk

/-- a field of a struct's value, one cell -/
theorem V.field {s : TypeId} {x : Operand} {f : Nat} {fs : Array Field} (off ft : Nat) {td : TypeDesc} {cs : Array Value} {v : Value} [ht : TyU P s (.struct fs)] [hi : TyU P ft td] (hw : want ops E ⟨some d, .field s x f, ty, pos, af, g⟩ = some true) (hd : Nat.blt d n = true)
    (hx : ev E x = some (.agg cs)) (hf : (fs[f]?).map (fun x => (x.offset, x.type)) = some (off, ft)) (ha : aggB td = false) (hv : cs[off]? = some v)
    (kk : VM P w0 n D Q md ops rest ((d, v) :: E) H) : VM P w0 n D Q md ops (⟨some d, .field s x f, ty, pos, af, g⟩ :: rest) E H :=
  V.val hw hd (fun a w hF hW => by
    obtain ⟨fld, hf', he⟩ := Option.map_eq_some_iff.1 hf
    obtain ⟨rfl, rfl⟩ := Prod.mk.inj he
    simp [execOp, Instr.field, run_underlying ht.u, hf', hF.ev hx, asAgg, part, run_isAgg hi, ha, hv]) kk

/-! #### len, cap, min -/
theorem V.lenS {x : Operand} {t : TypeId} {s : ByteArray} [ht : TyU P t .string] (hw : want ops E ⟨some d, .call { callee := .builtin .len, args := #[x], argTypes := #[t] }, ty, pos, af, g⟩ = some true) (hd : Nat.blt d n = true) (hx : ev E x = some (.string s))
    (k : VM P w0 n D Q md ops rest ((d, .int .i64 (s.size : Int)) :: E) H) : VM P w0 n D Q md ops (⟨some d, .call { callee := .builtin .len, args := #[x], argTypes := #[t] }, ty, pos, af, g⟩ :: rest) E H :=
  V.val hw hd (fun a w hF hW => by
    simp [execOp, resolve, invoke, builtin, hF.ev hx, Builtin.len_, run_underlying ht.u, goInt]) k
theorem V.len {x : Operand} {t e : TypeId} {a0 : Option Addr} {m c : Nat} [ht : TyU P t (.slice e)] (hw : want ops E ⟨some d, .call { callee := .builtin .len, args := #[x], argTypes := #[t] }, ty, pos, af, g⟩ = some true) (hd : Nat.blt d n = true) (hx : ev E x = some (.slice a0 m c))
    (k : VM P w0 n D Q md ops rest ((d, .int .i64 (m : Int)) :: E) H) : VM P w0 n D Q md ops (⟨some d, .call { callee := .builtin .len, args := #[x], argTypes := #[t] }, ty, pos, af, g⟩ :: rest) E H :=
  V.val hw hd (fun a w hF hW => by
    simp [execOp, resolve, invoke, builtin, hF.ev hx, Builtin.len_, run_underlying ht.u, goInt]) k
theorem V.minI {x y : Operand} {t t' : TypeId} {k k' : IntKind} {i j : Int} (hw : want ops E ⟨some d, .call { callee := .builtin .min, args := #[x, y], argTypes := #[t, t'] }, ty, pos, af, g⟩ = some true) (hd : Nat.blt d n = true) (hx : ev E x = some (.int k i)) (hy : ev E y = some (.int k' j))
    (kk : VM P w0 n D Q md ops rest ((d, .int k (if j < i then j else i)) :: E) H) : VM P w0 n D Q md ops (⟨some d, .call { callee := .builtin .min, args := #[x, y], argTypes := #[t, t'] }, ty, pos, af, g⟩ :: rest) E H :=
  V.val hw hd (fun a w hF hW => by
    have := run_min_int2 (P := P) (w := w) #[t, t'] ty k k' i j
    simp only [execOp, resolve, invoke, builtin, Sem.run_bind, Sem.run_pure, Result.andThen_ok, List.map_toArray, List.map_cons, List.map_nil, hF.ev hx, hF.ev hy, this]) kk
theorem V.maxI {x y : Operand} {t t' : TypeId} {k k' : IntKind} {i j : Int} (hw : want ops E ⟨some d, .call { callee := .builtin .max, args := #[x, y], argTypes := #[t, t'] }, ty, pos, af, g⟩ = some true) (hd : Nat.blt d n = true) (hx : ev E x = some (.int k i)) (hy : ev E y = some (.int k' j))
    (kk : VM P w0 n D Q md ops rest ((d, .int k (if i < j then j else i)) :: E) H) : VM P w0 n D Q md ops (⟨some d, .call { callee := .builtin .max, args := #[x, y], argTypes := #[t, t'] }, ty, pos, af, g⟩ :: rest) E H :=
  V.val hw hd (fun a w hF hW => by
    have := run_max_int2 (P := P) (w := w) #[t, t'] ty k k' i j
    simp only [execOp, resolve, invoke, builtin, Sem.run_bind, Sem.run_pure, Result.andThen_ok, List.map_toArray, List.map_cons, List.map_nil, hF.ev hx, hF.ev hy, this]) kk
end
end Go.Proofs.Eng
