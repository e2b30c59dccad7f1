/- The engine's sixth text: pointers to arrays, literals of structs and arrays, conversions between integers, results that lie in memory. -/
import Derived.Test.YtfclhhhnngkdlaaDoorEngArr
set_option linter.unusedVariables false
set_option linter.unusedSimpArgs false
namespace Go.Proofs.Eng
open Go Go.RowKit

section
variable {P : Program} {w0 : World} {n : Nat} {D : List Deferred} {Q : Exit → Act → World → Prop} {ops : Array Oper} {rest : List Oper} {E : Env} {H H' : Hp}
variable {md : Md} {d : Nat} {ty : TypeId} {pos : String} {af : Array Edge} {g : Option (Nat × Bool)}

theorem V.conv {t t' : TypeId} {x : Operand} {k k' : IntKind} {i : Int} {u : TypeDesc} (z : Int) [hs : TyU P t u] [ht : TyU P t' (.int k)] (hw : want ops E ⟨some d, .convert t t' x, ty, pos, af, g⟩ = some true) (hd : Nat.blt d n = true)
    (hx : ev E x = some (.int k' i)) (hz : k.wrap i = z)
    (kk : VM P w0 n D Q md ops rest ((d, .int k z) :: E) H) : VM P w0 n D Q md ops (⟨some d, .convert t t' x, ty, pos, af, g⟩ :: rest) E H :=
  V.val hw hd (fun a w hF hW => by
    have hr : (convert t t' (.int k' i)).run P w = .ok (.int k z) w := by
      simp only [convert, Sem.run_bind, run_underlying hs.u, run_underlying ht.u, Result.andThen_ok]
      subst hz
      cases u <;> rfl
    simp only [execOp, Sem.run_bind, hF.ev hx, hr, Result.andThen_ok, Sem.run_pure]) kk

theorem V.indexA {t e : TypeId} {x y : Operand} {size bytes : Nat} {zero : Value} {ik : IntKind} {b k : Nat} {m : Nat} {i : Nat} [ht : TyU P t (.array m e)] [hi : TyI P e size bytes zero] (hw : want ops E ⟨some d, .indexAddr t x y, ty, pos, af, g⟩ = some true) (hd : Nat.blt d n = true)
    (hx : ev E x = some (.pointer (some ⟨b, k, none⟩))) (hy : ev E y = some (.int ik (i : Int))) (h0 : i < m)
    (kk : VM P w0 n D Q md ops rest ((d, .pointer (some ⟨b, k + i * size, none⟩)) :: E) H) : VM P w0 n D Q md ops (⟨some d, .indexAddr t x y, ty, pos, af, g⟩ :: rest) E H :=
  V.val hw hd (fun a w hF hW => by
    have h1 : (0 : Int) ≤ (i : Int) ∧ (i : Int) < (m : Int) := by omega
    simp [execOp, Instr.indexAt, run_underlying ht.u, hF.ev hx, hF.ev hy, asIntOf, Instr.sureAddr, run_sizeOf hi, h1.1, h1.2, h0, add_addr]) kk

theorem V.sliceA {t e : TypeId} {x : Operand} {size bytes : Nat} {zero : Value} {b k : Nat} {m : Nat} [ht : TyU P t (.array m e)] [hi : TyI P e size bytes zero] (hw : want ops E ⟨some d, .slice t x none none none, ty, pos, af, g⟩ = some true) (hd : Nat.blt d n = true)
    (hx : ev E x = some (.pointer (some ⟨b, k, none⟩)))
    (kk : VM P w0 n D Q md ops rest ((d, .slice (some ⟨b, k, none⟩) m m) :: E) H) : VM P w0 n D Q md ops (⟨some d, .slice t x none none none, ty, pos, af, g⟩ :: rest) E H :=
  V.val hw hd (fun a w hF hW => by
    simp [execOp, Instr.sliceAt, run_underlying ht.u, hF.ev hx, Instr.sureAddr, Instr.sliceBounds, run_sizeOf hi, add_addr]) kk
theorem V.sliceALH {t e : TypeId} {x lo hi : Operand} {size bytes : Nat} {zero : Value} {b k : Nat} {m : Nat} {i j : Nat} {k1 k2 : IntKind} [ht : TyU P t (.array m e)] [hz : TyI P e size bytes zero] (hw : want ops E ⟨some d, .slice t x (some lo) (some hi) none, ty, pos, af, g⟩ = some true) (hd : Nat.blt d n = true)
    (hx : ev E x = some (.pointer (some ⟨b, k, none⟩))) (hlo : ev E lo = some (.int k1 (i : Int))) (hhi : ev E hi = some (.int k2 (j : Int))) (h1 : i ≤ j) (h2 : j ≤ m) (h3 : i < m)
    (kk : VM P w0 n D Q md ops rest ((d, .slice (some ⟨b, k + i * size, none⟩) (j - i) (m - i)) :: E) H) : VM P w0 n D Q md ops (⟨some d, .slice t x (some lo) (some hi) none, ty, pos, af, g⟩ :: rest) E H :=
  V.val hw hd (fun a w hF hW => by
    have hb1 : (Instr.sliceBound (.int k2 (j : Int)) m .sliceAlen).run P w = .ok j w := by
      have := run_sliceBound (P := P) w k2 (j : Int) m .sliceAlen (by omega) (by omega)
      simpa using this
    have hb2 : (Instr.sliceBound (.int k1 (i : Int)) j .sliceB).run P w = .ok i w := by
      have := run_sliceBound (P := P) w k1 (i : Int) j .sliceB (by omega) (by omega)
      simpa using this
    have hne : m ≠ i := by omega
    simp [execOp, Instr.sliceAt, run_underlying ht.u, hF.ev hx, hF.ev hlo, hF.ev hhi, Instr.sureAddr, Instr.sliceBounds, hb1, hb2, run_sizeOf hz, add_addr, hne]) kk

/-- x[:h:m] -/
theorem V.sliceHM {t e : TypeId} {x hi mx : Operand} {size bytes : Nat} {zero : Value} {a0 : Option Addr} {m c : Nat} {j q : Nat} {k2 k3 : IntKind} [ht : TyU P t (.slice e)] [hz : TyI P e size bytes zero] (hw : want ops E ⟨some d, .slice t x none (some hi) (some mx), ty, pos, af, g⟩ = some true) (hd : Nat.blt d n = true)
    (hx : ev E x = some (.slice a0 m c)) (hhi : ev E hi = some (.int k2 (j : Int))) (hmx : ev E mx = some (.int k3 (q : Int))) (h1 : j ≤ q) (h2 : q ≤ c)
    (k : VM P w0 n D Q md ops rest ((d, .slice a0 j q) :: E) H) : VM P w0 n D Q md ops (⟨some d, .slice t x none (some hi) (some mx), ty, pos, af, g⟩ :: rest) E H :=
  V.val hw hd (v := .slice a0 j q) (fun a w hF hW => by
    have hb1 : (Instr.sliceBound (.int k3 (q : Int)) c .slice3Acap).run P w = .ok q w := by
      have := run_sliceBound (P := P) w k3 (q : Int) c .slice3Acap (by omega) (by omega)
      simpa using this
    have hb2 : (Instr.sliceBound (.int k2 (j : Int)) q .slice3B).run P w = .ok j w := by
      have := run_sliceBound (P := P) w k2 (j : Int) q .slice3B (by omega) (by omega)
      simpa using this
    cases a0 <;> simp [execOp, Instr.sliceAt, Instr.slice, run_underlying ht.u, hF.ev hx, hF.ev hhi, hF.ev hmx, Instr.sliceBounds, hb1, hb2, run_sizeOf hz, Addr.add]) k

/-- the parts of a literal as they are -/
theorem parts_eval {a : Act} {parts : Array (Nat × Operand)} {vs : List (Nat × Value)} (hF : Fr n D E a)
    (hv : vs.map (·.1) = parts.toList.map (·.1)) (he : evs E (parts.toList.map (·.2)) = some (vs.map (·.2))) : (parts.map fun (i, x) => (i, a.eval x)).toList = vs := by
  have h1 := hF.evs he
  have h2 : (parts.map fun (i, x) => (i, a.eval x)).toList = parts.toList.map fun p => (p.1, a.eval p.2) := by simp
  rw [h2]
  apply List.ext_getElem?
  intro j
  have e1 : (parts.toList.map (·.1))[j]? = (vs.map (·.1))[j]? := by rw [hv]
  have e2 : ((parts.toList.map (·.2)).map a.eval)[j]? = (vs.map (·.2))[j]? := by rw [h1]
  simp only [List.getElem?_map, Option.map_map] at e1 e2 ⊢
  cases hp : parts.toList[j]? with
  | none => rw [hp] at e1; cases hq : vs[j]? with
    | none => rfl
    | some q => rw [hq] at e1; simp at e1
  | some p =>
    rw [hp] at e1 e2
    cases hq : vs[j]? with
    | none => rw [hq] at e1; simp at e1
    | some q =>
      rw [hq] at e1 e2
      simp at e1 e2 ⊢
      rw [e1, e2]

/-- a struct's places: cell offset and size of each field -/
class Places (P : Program) (t : TypeId) (pl : outParam (List (Nat × Nat))) : Prop where
  p : ∃ fs, P.underlying t = some (.struct fs) ∧ fs.toList.map (fun f => (f.offset, (P.info? f.type).map (·.size))) = pl.map (fun q => (q.1, some q.2))

theorem run_places {pl : List (Nat × Nat)} : ∀ (fs : List Field), fs.map (fun f => (f.offset, (P.info? f.type).map (·.size))) = pl.map (fun q => (q.1, some q.2)) → ∀ w,
    (fs.mapM (m := Sem) fun f => do pure (f.offset, ← sizeOf f.type)).run P w = .ok pl w := by
  induction pl with
  | nil =>
    intro fs h w
    have : fs = [] := by simpa using h
    subst this
    rfl
  | cons q pl ih =>
    intro fs h w
    cases fs with
    | nil => simp at h
    | cons f fs =>
      simp only [List.map_cons, List.cons.injEq, Prod.mk.injEq] at h
      obtain ⟨⟨h1, h2⟩, h3⟩ := h
      obtain ⟨i, hi, hs⟩ := Option.map_eq_some_iff.1 h2
      rw [List.mapM_cons]
      simp only [Sem.run_bind, sizeOf, typeInfo, run_program, Result.andThen_ok, hi, Sem.run_pure]
      have := ih fs h3 w
      simp only [Sem.run_bind, sizeOf, typeInfo, run_program, Result.andThen_ok, Sem.run_pure] at this
      rw [this]
      simp [h1, hs]

/-- T{..}, a struct -/
theorem V.buildS {t : TypeId} {parts : Array (Nat × Operand)} {size bytes : Nat} {zero : Value} {pl : List (Nat × Nat)} (vs : List (Nat × Value)) {l : List Value} [ht : Places P t pl] [hi : TyI P t size bytes zero] (hw : want ops E ⟨some d, .build t parts, ty, pos, af, g⟩ = some true) (hd : Nat.blt d n = true)
    (hv : vs.map (·.1) = parts.toList.map (·.1)) (he : evs E (parts.toList.map (·.2)) = some (vs.map (·.2)))
    (hf : Instr.fill (fun i : Nat => pl[i]?) zero.cells vs = some l.toArray)
    (k : VM P w0 n D Q md ops rest ((d, .agg l.toArray) :: E) H) : VM P w0 n D Q md ops (⟨some d, .build t parts, ty, pos, af, g⟩ :: rest) E H :=
  V.val hw hd (fun a w hF hW => by
    obtain ⟨fs, hu, hp⟩ := ht.p
    have hparts := parts_eval hF hv he
    have hm : (fs.mapM (m := Sem) fun f => do pure (f.offset, ← sizeOf f.type)).run P w = .ok pl.toArray w := by
      rw [← Array.toArray_toList (xs := fs), List.mapM_toArray]
      simp only [Sem.run_map, run_places fs.toList hp w]
      rfl
    simp only [execOp, Instr.build, Sem.run_bind, run_zeroOf hi, Result.andThen_ok, run_underlying hu, hm, hparts]
    have hpl : (fun x : Nat => pl.toArray[x]?) = fun i : Nat => pl[i]? := by funext i; simp
    rw [hpl, hf]
    rfl) k

/-- [..]T{..} -/
theorem V.buildA {t e : TypeId} {m : Nat} {parts : Array (Nat × Operand)} {size bytes size' bytes' : Nat} {zero zero' : Value} (vs : List (Nat × Value)) {l : List Value} [ht : TyU P t (.array m e)] [hi : TyI P t size bytes zero] [he' : TyI P e size' bytes' zero'] (hw : want ops E ⟨some d, .build t parts, ty, pos, af, g⟩ = some true) (hd : Nat.blt d n = true)
    (hv : vs.map (·.1) = parts.toList.map (·.1)) (he : evs E (parts.toList.map (·.2)) = some (vs.map (·.2)))
    (hf : Instr.fill (fun i => some (i * size', size')) zero.cells vs = some l.toArray)
    (k : VM P w0 n D Q md ops rest ((d, .agg l.toArray) :: E) H) : VM P w0 n D Q md ops (⟨some d, .build t parts, ty, pos, af, g⟩ :: rest) E H :=
  V.val hw hd (fun a w hF hW => by
    have hparts := parts_eval hF hv he
    simp only [execOp, Instr.build, Sem.run_bind, run_zeroOf hi, Result.andThen_ok, run_underlying ht.u, run_sizeOf he', hparts, hf]
    rfl) k
end

section
variable {P : Program} {w0 : World} {n : Nat} {E : Env} {H R : Hp} {fn : Func} {post : Ending → Hp → Prop}
/-- a result that lies in memory: the whole block, a struct or an array -/
theorem Post.retCell {t : Nat} {T : TypeId} {td : TypeDesc} {size bytes : Nat} {zero : Value} {b : Nat} {vs : List Value} {T' : TypeId} {fr : Nat × Nat} {Hout H' : Hp} [ht : TyU P T td] [hi : TyI P T size bytes zero] (hr : fn.results = #[.cell t T]) (ha : aggB td = true)
    (hv : look E t = some (.pointer (some ⟨b, 0, none⟩))) (hp : Pick H [(b, .cells vs.toArray T' fr)] H') (hl : vs.length = size) (hpost : post (.returned (.agg vs.toArray)) Hout) (hH : Sb H (Hout ++ R)) :
    Post w0 n [] (BodyPost P w0 fn R post) .ret E H := fun a w hF hW => by
  have hc : ∀ j u, vs[j]? = some u → w.cell? ((⟨b, 0, none⟩ : Addr).add j) = some u := fun j u hu => by
    rw [add_addr]
    exact cell_of_heap rfl (hW.mem hp (.inl (List.mem_singleton.2 rfl))) (by simpa using hu)
  have h1 := run_loadCells_list (P := P) (w := w) ⟨b, 0, none⟩ vs hc
  rw [hl] at h1
  refine bodyPost_ret (v := .agg vs.toArray) ?_ hF.dfr ⟨Hout, hpost, hW.has hH⟩
  have h2 := hF.look t _ hv
  rw [Array.getD_eq_getD_getElem?] at h2
  simp only [results, hr]
  have : (loadVar T ⟨b, 0, none⟩).run P w = .ok (.agg vs.toArray) w := by
    simp only [loadVar, Sem.run_bind, run_isAgg ht, ha, Result.andThen_ok, if_true, run_sizeOf hi, h1, Sem.run_pure]
  simp [h2, asAddr, this]
theorem cells_of_one {v : Value} (h : v.oneCell' = true) : v.cells = #[v] := by
  cases v <;> first | rfl | simp [Value.oneCell'] at h

theorem fold_cells {off : Nat} : ∀ (l : List Value) (k : Nat) (cs : Array Value), off + k + l.length ≤ cs.size →
    ((l.zipIdx k).foldl (fun (cs : Array Value) (p : Value × Nat) => cs.setIfInBounds (off + p.2) p.1) cs) = (cs.toList.take (off + k) ++ l ++ cs.toList.drop (off + k + l.length)).toArray
  | [], k, cs, h => by simp
  | x :: l, k, cs, h => by
    simp only [List.length_cons] at h
    rw [List.zipIdx_cons, List.foldl_cons, fold_cells l (k + 1) _ (by simp; omega)]
    apply Array.ext'
    apply List.ext_getElem?
    intro i
    simp only [Array.toList_setIfInBounds, List.getElem?_append, List.getElem?_take, List.getElem?_drop, List.getElem?_set, List.length_append, List.length_take, List.length_set, List.length_cons, Array.length_toList, List.getElem?_cons]
    have h1 : min (off + (k + 1)) cs.size = off + k + 1 := by omega
    have h2 : min (off + k) cs.size = off + k := by omega
    rw [h1, h2]
    by_cases ha : i < off + k
    · rw [if_pos (show i < off + k + 1 + l.length by omega), if_pos (show i < off + k + 1 by omega), if_pos (show i < off + (k + 1) by omega), if_neg (show ¬ off + k = i by omega), if_pos (show i < off + k + (l.length + 1) by omega), if_pos ha, if_pos ha]
    · by_cases hb : i = off + k
      · subst hb
        rw [if_pos (show off + k < off + k + 1 + l.length by omega), if_pos (show off + k < off + k + 1 by omega), if_pos (show off + k < off + (k + 1) by omega), if_pos rfl, if_pos (show off + k < cs.size by omega), if_pos (show off + k < off + k + (l.length + 1) by omega), if_neg (by omega), Nat.sub_self, if_pos rfl]
      · by_cases hc : i < off + k + (l.length + 1)
        · rw [if_pos (show i < off + k + 1 + l.length by omega), if_neg (show ¬ i < off + k + 1 by omega), if_pos hc, if_neg ha, if_neg (show ¬ i - (off + k) = 0 by omega)]
          exact congrArg _ (by omega)
        · rw [if_neg (show ¬ i < off + k + 1 + l.length by omega), if_neg hc, if_neg (show ¬ off + k = off + (k + 1) + l.length + (i - (off + k + 1 + l.length)) by omega)]
          exact congrArg _ (by omega)

section
variable {P : Program} {w0 : World} {n : Nat} {D : List Deferred} {Q : Exit → Act → World → Prop} {ops : Array Oper} {rest : List Oper} {E : Env} {H H' : Hp}
variable {md : Md} {d : Nat} {ty : TypeId} {pos : String} {af : Array Edge} {g : Option (Nat × Bool)}
/-- []T{x}, an element of any size -/
theorem V.buildSlice1 {t e : TypeId} {x : Operand} {size bytes : Nat} {zero v : Value} {l : List Value} [ht : TyU P t (.slice e)] [hi : TyI P e size bytes zero] (hw : want ops E ⟨some d, .buildSlice t 1 #[(0, x)], ty, pos, af, g⟩ = some true) (hd : Nat.blt d n = true)
    (he : ev E x = some v) (hv : v.cells = l.toArray) (hl : l.length = size) (hm : Nat.ble (1 * size) (2 ^ 24) = true) (hm0 : Nat.beq (1 * size) 0 = false)
    (k : ∀ b, V P w0 n D Q ops rest ((d, .slice (some ⟨b, 0, none⟩) 1 1) :: E) ([(b, .cells l.toArray e (0, 0))] :: H)) : V P w0 n D Q ops (⟨some d, .buildSlice t 1 #[(0, x)], ty, pos, af, g⟩ :: rest) E H := by
  refine V.buildSlice [(0, v)] hw hd rfl (by simp [evs, he]) hm hm0 ?_ k
  have h1 : ¬ (v.cells.size ≠ size) := by rw [hv]; simpa using hl
  have h2 : ¬ (0 * size + v.cells.size > ((Array.range (1 * size)).map (zero.cells[· % zero.cells.size]!)).size) := by rw [hv]; simp; omega
  rw [hv] at h1 h2
  simp only [Instr.fill, hv]
  rw [if_neg (by simp only [Bool.or_eq_true, decide_eq_true_eq]; exact not_or.2 ⟨h1, h2⟩)]
  rw [← Array.foldl_toList, Array.toList_zipIdx]
  have := fold_cells (off := 0 * size) l 0 ((Array.range (1 * size)).map (zero.cells[· % zero.cells.size]!)) (by simp; omega)
  rw [show (l.toArray.toList.zipIdx) = l.zipIdx 0 from rfl]
  refine congrArg some (this.trans ?_)
  apply Array.ext'
  simp
  omega
/-- append(s, y) onto a full row: the one element lies in the block that was made just ahead -/
theorem V.appendFull1 {t e : TypeId} {x y : Operand} {size bytes : Nat} {zero : Value} {m b : Nat} {T : TypeId} {l news : List Value} {a1 : Option Addr} {c : Chunk} {H1 : Hp} [ht : TyU P t (.slice e)] [hi : TyI P e size bytes zero] (hzs : Nat.beq zero.cells.size size = true) (hsz : Nat.blt 0 size = true)
    (hw : want ops E ⟨some d, .call { callee := .builtin .append, args := #[x, y], argTypes := #[t, t] }, ty, pos, af, g⟩ = some true) (hd : Nat.blt d n = true)
    (hx : ev E x = some (.slice a1 m m)) (hy : ev E y = some (.slice (some ⟨b, 0, none⟩) 1 1)) (hp : c = [] ∨ Pick H c H1) (hr : Rd w0 c size (.slice a1 m m) m l)
    (hl : news.length = size) (h1 : news.all (·.oneCell') = true) (hb : (m + 1) * bytes ≤ 140737488355328) (h63 : m + 1 ≤ maxLen)
    (kk : ∀ v' c', Own e size c' v' (m + 1) (l ++ news) → V P w0 n D Q ops rest ((d, v') :: E) (c' :: H)) :
    V P w0 n D Q ops (⟨some d, .call { callee := .builtin .append, args := #[x, y], argTypes := #[t, t] }, ty, pos, af, g⟩ :: rest) E ([(b, .cells news.toArray T (0, 0))] :: H) := by
  obtain ⟨_, _, heq, _, _, hlo, _⟩ := id hr
  refine V.appendFull hzs hsz hw hd hx hy hlo (fun w hW => ?_) (by omega) (by omega) (fun w hW => .inr ⟨_, rfl, fun j u hu => ?_⟩) h1 hb h63 (fun v' c' ho' a w hF hW => ?_)
  · refine hr.reads (H := [(b, .cells news.toArray T (0, 0))] :: H) (H1 := [(b, .cells news.toArray T (0, 0))] :: H1) ?_ w hW
    rcases hp with h | h
    · exact .inl h
    · exact .inr (.tail h)
  · rw [add_addr, Nat.zero_add]
    exact cell_of_heap rfl (hW.at_ (b, .cells news.toArray T (0, 0)) (by simp)) (by simpa using hu)
  · refine kk v' c' ho' a w hF (hW.sub ?_)
    simp only [List.flatten_cons]
    exact List.Sublist.append_left (List.sublist_append_right _ _) _
/-- append(s, x...) onto a full row: what is appended is read too -/
theorem V.appendFullR {t e : TypeId} {x y : Operand} {size bytes : Nat} {zero : Value} {m k : Nat} {l news : List Value} {a1 : Option Addr} {v1 : Value} {c c1 : Chunk} {H1 H2 : Hp} [ht : TyU P t (.slice e)] [hi : TyI P e size bytes zero] (hzs : Nat.beq zero.cells.size size = true) (hsz : Nat.blt 0 size = true)
    (hw : want ops E ⟨some d, .call { callee := .builtin .append, args := #[x, y], argTypes := #[t, t] }, ty, pos, af, g⟩ = some true) (hd : Nat.blt d n = true)
    (hx : ev E x = some (.slice a1 m m)) (hy : ev E y = some v1) (hp : c = [] ∨ Pick H c H1) (hr : Rd w0 c size (.slice a1 m m) m l) (hp1 : c1 = [] ∨ Pick H c1 H2) (hr1 : Rd w0 c1 size v1 k news)
    (hk : 0 < k) (h1 : news.all (·.oneCell') = true) (hb : (m + k) * bytes ≤ 140737488355328) (h63 : m + k ≤ maxLen)
    (kk : ∀ v' c', Own e size c' v' (m + k) (l ++ news) → V P w0 n D Q ops rest ((d, v') :: E) (c' :: H)) :
    V P w0 n D Q ops (⟨some d, .call { callee := .builtin .append, args := #[x, y], argTypes := #[t, t] }, ty, pos, af, g⟩ :: rest) E H := by
  obtain ⟨_, _, heq, _, _, hlo, _⟩ := id hr
  obtain ⟨ad, cp, rfl, _, _, hl, _⟩ := id hr1
  exact V.appendFull hzs hsz hw hd hx hy hlo (hr.reads hp) hk hl (hr1.reads hp1) h1 hb h63 kk
end
end
end Go.Proofs.Eng
