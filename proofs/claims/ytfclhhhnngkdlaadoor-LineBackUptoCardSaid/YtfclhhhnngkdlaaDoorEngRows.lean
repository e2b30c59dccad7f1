/- The engine's fourth text: rows (slices): what is read, what is owned, append, make, slicing, copy. -/
import Derived.Test.YtfclhhhnngkdlaaDoorEngMem
import Derived.Laws.BytesArg
import Derived.ArgAppend
set_option linter.unusedVariables false
set_option linter.unusedSimpArgs false
namespace Go.Proofs.Eng
open Go Go.RowKit

theorem add_addr' (b k j : Nat) : (⟨b, k, none⟩ : Addr).add j = ⟨b, k + j, none⟩ := add_addr b k j

/-- a slice of n elements of k cells each that reads as the cells l (out of the chunk c, or of memory that was there from the first) -/
def Rd (w0 : World) (c : Chunk) (k : Nat) (v : Value) (n : Nat) (l : List Value) : Prop :=
  ∃ a cap, v = .slice a n cap ∧ n ≤ cap ∧ cap ≤ maxLen ∧ l.length = n * k ∧ (l = [] ∨ ∃ b o, a = some ⟨b, o, none⟩ ∧ ∀ j u, l[j]? = some u → Cel w0 c ⟨b, o + j, none⟩ u)

theorem Rd.mono {w0 c c' k v n l} (h : Rd w0 c k v n l) (hs : c ⊆ c') : Rd w0 c' k v n l := by
  obtain ⟨a, cap, h1, h2, h3, h4, h5⟩ := h
  refine ⟨a, cap, h1, h2, h3, h4, h5.imp id ?_⟩
  rintro ⟨b, o, e, hc⟩
  exact ⟨b, o, e, fun j u hu => (hc j u hu).mono hs⟩

theorem Rd.take {w0 c k ad m cp l i} (h : Rd w0 c k (.slice ad m cp) m l) (hi : i ≤ m) : Rd w0 c k (.slice ad i cp) i (l.take (i * k)) := by
  obtain ⟨a, cap, e, h2, h3, h4, h5⟩ := h
  simp only [Value.slice.injEq] at e
  obtain ⟨rfl, _, rfl⟩ := e
  refine ⟨ad, cp, rfl, by omega, h3, ?_, ?_⟩
  · rw [List.length_take, h4]
    exact Nat.min_eq_left (Nat.mul_le_mul_right _ hi)
  · rcases h5 with rfl | ⟨b, o, e, hc⟩
    · exact .inl (by simp)
    · refine .inr ⟨b, o, e, fun j u hu => hc j u ?_⟩
      rw [List.getElem?_take] at hu
      split at hu
      · exact hu
      · cases hu
theorem Rd.drop {w0 c k ad m cp l i a1} (h : Rd w0 c k (.slice ad m cp) m l) (hi : i ≤ m) (ha : i < cp → a1 = ad.map (·.add (i * k))) : Rd w0 c k (.slice a1 (m - i) (cp - i)) (m - i) (l.drop (i * k)) := by
  obtain ⟨a, cap, e, h2, h3, h4, h5⟩ := h
  simp only [Value.slice.injEq] at e
  obtain ⟨rfl, _, rfl⟩ := e
  refine ⟨a1, cp - i, rfl, by omega, by omega, by rw [List.length_drop, h4, Nat.sub_mul], ?_⟩
  by_cases hlt : i < m
  · rcases h5 with rfl | ⟨b, o, rfl, hc⟩
    · exact .inl (by simp)
    · obtain rfl := ha (by omega)
      refine .inr ⟨b, o + i * k, by simp [add_addr'], fun j u hu => ?_⟩
      rw [List.getElem?_drop] at hu
      have := hc (i * k + j) u hu
      rwa [← Nat.add_assoc] at this
  · left
    apply List.drop_of_length_le
    have : i = m := by omega
    subst this
    omega

theorem Rd.nil (w0 : World) (c : Chunk) (k : Nat) : Rd w0 c k (.slice none 0 0) 0 [] := ⟨none, 0, rfl, by omega, by simp [maxLen], by simp, .inl rfl⟩

/-- a slice that the call made and that nobody else holds: nil, or a row in a block of its own, from the block's head -/
def Own (e k : Nat) (c : Chunk) (v : Value) (n : Nat) (l : List Value) : Prop :=
  l.length = n * k ∧ ((c = [] ∧ v = .slice none 0 0 ∧ n = 0) ∨
    ∃ g cap cur, c = [(g, .cells cur e (0, 0))] ∧ v = .slice (some ⟨g, 0, none⟩) n cap ∧ n ≤ cap ∧ cap ≤ maxLen ∧ cur.size = cap * k ∧ cur.toList.take (n * k) = l)

theorem Own.nil (e k : Nat) : Own e k [] (.slice none 0 0) 0 [] := ⟨by simp, .inl ⟨rfl, rfl, rfl⟩⟩

theorem Own.rd {w0 : World} {e k c v n l} (h : Own e k c v n l) : Rd w0 c k v n l := by
  obtain ⟨hl, ⟨rfl, rfl, rfl⟩ | ⟨g, cap, cur, rfl, rfl, h1, h2, h3, h4⟩⟩ := h
  · obtain rfl : l = [] := List.eq_nil_of_length_eq_zero (by simpa using hl)
    exact Rd.nil w0 [] k
  · refine ⟨_, cap, rfl, h1, h2, hl, .inr ⟨g, 0, rfl, fun j u hu => ⟨rfl, cur, e, (0, 0), .inl (List.mem_singleton.2 rfl), ?_⟩⟩⟩
    have hj : j < l.length := (List.getElem?_eq_some_iff.1 hu).1
    rw [← h4, List.getElem?_take] at hu
    rw [← h4] at hj
    rw [if_pos (by simp at hj; omega)] at hu
    simpa using hu

theorem Own.owns {w0 e k c v n l H w} (h : Own e k c v n l) (hW : Wd w0 (c :: H) w) : w.ownsRow w0.heap.size e k v n l := by
  obtain ⟨hl, ⟨rfl, rfl, rfl⟩ | ⟨g, cap, cur, rfl, rfl, h1, h2, h3, h4⟩⟩ := h
  · exact ⟨hl, .inl ⟨rfl, rfl⟩⟩
  · exact ⟨hl, .inr ⟨g, cap, cur, rfl, hW.ge (g, .cells cur e (0, 0)) (by simp), hW.at_ (g, .cells cur e (0, 0)) (by simp), h1, h2, h3, h4⟩⟩

/-- what append leaves -/
theorem Wd.appended {w0 e k c v n l H w w' v' n' l'} (h : Own e k c v n l) (hW : Wd w0 (c :: H) w) (ho : w'.ownsRow w0.heap.size e k v' n' l') (hg : w.grownBy w' v.ownBlock)
    (hat : v'.ownBlock = v.ownBlock ∨ v'.ownBlock = some w.heap.size) : ∃ c', Own e k c' v' n' l' ∧ Wd w0 (c' :: H) w' := by
  have hWH : Wd w0 H w := hW.drop
  -- the rest stays
  have hrest : Wd w0 H w' := by
    refine ⟨⟨hg.os.trans hW.below.os, hg.tape.trans hW.below.tape, hg.output.trans hW.below.output, Nat.le_trans hW.below.size hg.size, fun i hi => ?_⟩, hWH.nodup, hWH.ge, fun p hp => ?_⟩
    · rw [hg.block i (Nat.lt_of_lt_of_le hi hW.below.size) ?_]
      · exact hW.below.block i hi
      · intro hc
        have := (h.owns hW).lt i hc.symm
        omega
    · have hat := hWH.at_ p hp
      rw [hg.block p.1 (Array.getElem?_eq_some_iff.1 hat).1 ?_]
      · exact hat
      · intro hc
        obtain ⟨_, ⟨rfl, rfl, _⟩ | ⟨g, cap, cur, rfl, rfl, _⟩⟩ := h
        · simp [Value.ownBlock] at hc
        · have hg' : p.1 = g := by simpa [Value.ownBlock] using hc
          have hnd := hW.nodup
          simp only [List.flatten_cons, List.map_append, List.map_cons, List.map_nil, List.cons_append, List.nil_append, List.nodup_cons] at hnd
          exact hnd.1 (hg' ▸ List.mem_map_of_mem hp)
  rcases ho.2 with ⟨rfl, rfl⟩ | ⟨g', cap', cur', rfl, hb, hh, h1, h2, h3, h4⟩
  · exact ⟨[], ⟨ho.1, .inl ⟨rfl, rfl, rfl⟩⟩, hrest.perm (by simp)⟩
  · refine ⟨[(g', .cells cur' e (0, 0))], ⟨ho.1, .inr ⟨g', cap', cur', rfl, rfl, h1, h2, h3, h4⟩⟩, hrest.below, ?_, ?_, ?_⟩
    · simp only [List.flatten_cons, List.map_append, List.map_cons, List.map_nil, List.cons_append, List.nil_append, List.nodup_cons]
      refine ⟨fun hm => ?_, hWH.nodup⟩
      obtain ⟨p, hp, e1⟩ := List.mem_map.1 hm
      have hlt := (Array.getElem?_eq_some_iff.1 (hWH.at_ p hp)).1
      rcases hat with hat | hat
      · obtain ⟨_, ⟨rfl, rfl, _⟩ | ⟨g, cap, cur, rfl, rfl, _⟩⟩ := h
        · simp [Value.ownBlock] at hat
        · have hgg : g' = g := by simpa [Value.ownBlock] using hat
          have hnd := hW.nodup
          simp only [List.flatten_cons, List.map_append, List.map_cons, List.map_nil, List.cons_append, List.nil_append, List.nodup_cons] at hnd
          exact hnd.1 (hgg ▸ hm)
      · have : g' = w.heap.size := by simpa [Value.ownBlock] using hat
        omega
    · intro p hp
      simp only [List.flatten_cons, List.cons_append, List.nil_append, List.mem_cons] at hp
      rcases hp with rfl | hp
      · exact hb
      · exact hWH.ge p hp
    · intro p hp
      simp only [List.flatten_cons, List.cons_append, List.nil_append, List.mem_cons] at hp
      rcases hp with rfl | hp
      · exact hh
      · exact hrest.at_ p hp

section
variable {P : Program} {w0 : World} {n : Nat} {D : List Deferred} {Q : Exit → Act → World → Prop} {ops : Array Oper} {rest : List Oper} {E : Env} {H H' : Hp}
variable {md : Md} {d : Nat} {ty : TypeId} {pos : String} {af : Array Edge} {g : Option (Nat × Bool)}

theorem V.indexO {t e : TypeId} {x y : Operand} {size bytes : Nat} {zero : Value} {ik : IntKind} {b o : Nat} {len cap : Nat} {i : Nat} [ht : TyU P t (.slice e)] [hi : TyI P e size bytes zero] (hw : want ops E ⟨some d, .indexAddr t x y, ty, pos, af, g⟩ = some true) (hd : Nat.blt d n = true)
    (hx : ev E x = some (.slice (some ⟨b, o, none⟩) len cap)) (hy : ev E y = some (.int ik (i : Int))) (h0 : i < len)
    (kk : VM P w0 n D Q md ops rest ((d, .pointer (some ⟨b, o + i * size, none⟩)) :: E) H) : VM P w0 n D Q md ops (⟨some d, .indexAddr t x y, ty, pos, af, g⟩ :: rest) E H :=
  V.indexN hw hd hx hy h0 (by simpa [add_addr] using kk)

/-- append(s, x...) onto an owned row -/
theorem V.append {t e : TypeId} {x y : Operand} {size bytes : Nat} {zero : Value} {c : Chunk} {v : Value} {m : Nat} {l : List Value} {ad : Option Addr} {k cp : Nat} {news : List Value} [ht : TyU P t (.slice e)] [hi : TyI P e size bytes zero] (hzs : Nat.beq zero.cells.size size = true) (hsz : Nat.blt 0 size = true)
    (hw : want ops E ⟨some d, .call { callee := .builtin .append, args := #[x, y], argTypes := #[t, t] }, ty, pos, af, g⟩ = some true) (hd : Nat.blt d n = true)
    (hx : ev E x = some v) (hy : ev E y = some (.slice ad k cp)) (hp : Pick H c H') (ho : Own e size c v m l)
    (hl : news.length = k * size) (hn : ∀ w, Wd w0 H w → news = [] ∨ ∃ a, ad = some a ∧ ∀ j u, news[j]? = some u → w.cell? (a.add j) = some u) (h1 : news.all (·.oneCell') = true)
    (hb : (m + k) * bytes ≤ 140737488355328) (h63 : m + k ≤ maxLen)
    (kk : ∀ v' c', Own e size c' v' (m + k) (l ++ news) → V P w0 n D Q ops rest ((d, v') :: E) (c' :: H')) :
    V P w0 n D Q ops (⟨some d, .call { callee := .builtin .append, args := #[x, y], argTypes := #[t, t] }, ty, pos, af, g⟩ :: rest) E H :=
  V.wp hw fun a w hF hW => by
    obtain ⟨i, hi1, hi2, hi3, hi4⟩ := hi.get
    have hW' := hW.perm hp.perm
    have hzs' : zero.cells.size = size := Nat.eq_of_beq_eq_true hzs
    have hsz' : 0 < size := blt_lt hsz
    have hrun : ∃ v' w', (Builtin.append_ #[t, t] ty #[v, .slice ad k cp]).run P w = .ok v' w' ∧ w'.ownsRow w0.heap.size e size v' (m + k) (l ++ news) ∧ w.grownBy w' v.ownBlock ∧ (v'.ownBlock = v.ownBlock ∨ v'.ownBlock = some w.heap.size) := by
      rcases hn w hW with rfl | ⟨a1, rfl, hn'⟩
      · have hk : k = 0 := by
          rcases Nat.mul_eq_zero.1 hl.symm with h | h
          · exact h
          · omega
        subst hk
        cases ad with
        | some a1 =>
          obtain ⟨v', w', e1, e2, e3, _, e4⟩ := run_append_own_at (P := P) w w0.heap.size t ty e i zero size bytes ht.u hi1 hi4 hi2 hi3 hzs' hsz' v m l (ho.owns hW') a1 0 cp [] (by simp) (by simp) (by simp) (by simpa using h63) (by simpa using hb) hW.below.size
          exact ⟨v', w', e1, e2, e3, e4⟩
        | none =>
          have howns := ho.owns hW'
          have hv : ∃ a2 m2 c2, v = .slice a2 m2 c2 ∧ m2 ≤ c2 := by
            rcases howns.2 with ⟨rfl, _⟩ | ⟨g, cap, cur, rfl, _, _, hle, _⟩
            · exact ⟨none, 0, 0, rfl, Nat.le_refl _⟩
            · exact ⟨_, _, _, rfl, hle⟩
          obtain ⟨a2, m2, c2, rfl, hle⟩ := hv
          refine ⟨.slice a2 m2 c2, w, ?_, by simpa using howns, ⟨rfl, rfl, rfl, Nat.le_refl _, fun _ _ _ => rfl⟩, .inl rfl⟩
          cases a2 <;> simp [Builtin.append_, run_underlying ht.u, run_sizeOf hi, Builtin.lenOf, Builtin.firstCells, hle, storeCells]
      · obtain ⟨v', w', e1, e2, e3, _, e4⟩ := run_append_own_at (P := P) w w0.heap.size t ty e i zero size bytes ht.u hi1 hi4 hi2 hi3 hzs' hsz' v m l (ho.owns hW') a1 k cp news hl hn' (List.all_eq_true.1 h1) h63 hb hW.below.size
        exact ⟨v', w', e1, e2, e3, e4⟩
    obtain ⟨v', w', e1, e2, e3, e4⟩ := hrun
    obtain ⟨c', ho', hW''⟩ := Wd.appended ho hW' e2 e3 e4
    unfold Oper.wp execOp
    simp only [resolve, invoke, builtin, Sem.run_bind, Sem.run_pure, Result.andThen_ok, List.map_toArray, List.map_cons, List.map_nil, hF.ev hx, hF.ev hy, e1]
    exact kk v' c' ho' _ _ (hF.put hd) hW''

/-- .. what is appended stands in a chunk, or was there from the first -/
theorem V.appendR {H1 : Hp} {t e : TypeId} {x y : Operand} {size bytes : Nat} {zero : Value} {c c1 : Chunk} {v v1 : Value} {m k : Nat} {l news : List Value} [ht : TyU P t (.slice e)] [hi : TyI P e size bytes zero] (hzs : Nat.beq zero.cells.size size = true) (hsz : Nat.blt 0 size = true)
    (hw : want ops E ⟨some d, .call { callee := .builtin .append, args := #[x, y], argTypes := #[t, t] }, ty, pos, af, g⟩ = some true) (hd : Nat.blt d n = true)
    (hx : ev E x = some v) (hy : ev E y = some v1) (hp : Pick H c H') (ho : Own e size c v m l) (hp1 : c1 = [] ∨ Pick H c1 H1) (hr : Rd w0 c1 size v1 k news) (h1 : news.all (·.oneCell') = true)
    (hb : (m + k) * bytes ≤ 140737488355328) (h63 : m + k ≤ maxLen)
    (kk : ∀ v' c', Own e size c' v' (m + k) (l ++ news) → V P w0 n D Q ops rest ((d, v') :: E) (c' :: H')) :
    V P w0 n D Q ops (⟨some d, .call { callee := .builtin .append, args := #[x, y], argTypes := #[t, t] }, ty, pos, af, g⟩ :: rest) E H := by
  obtain ⟨ad, cp, rfl, _, _, hl, hc⟩ := hr
  refine V.append hzs hsz hw hd hx hy hp ho hl (fun w hW => ?_) h1 hb h63 kk
  rcases hc with rfl | ⟨b, o, rfl, hc⟩
  · exact .inl rfl
  · refine .inr ⟨_, rfl, fun j u hu => ?_⟩
    rw [add_addr]
    rcases hp1 with rfl | hp1
    · exact hW.celOld (hc j u hu)
    · exact hW.cel hp1 (hc j u hu)

/-- append(s, y): the one element lies in the block that was made just ahead -/
theorem V.append1 {t e : TypeId} {x y : Operand} {size bytes : Nat} {zero : Value} {c : Chunk} {v : Value} {m b : Nat} {l news : List Value} {T : TypeId} [ht : TyU P t (.slice e)] [hi : TyI P e size bytes zero] (hzs : Nat.beq zero.cells.size size = true) (hsz : Nat.blt 0 size = true)
    (hw : want ops E ⟨some d, .call { callee := .builtin .append, args := #[x, y], argTypes := #[t, t] }, ty, pos, af, g⟩ = some true) (hd : Nat.blt d n = true)
    (hx : ev E x = some v) (hy : ev E y = some (.slice (some ⟨b, 0, none⟩) 1 1)) (hp : Pick H c H') (ho : Own e size c v m l)
    (hl : Nat.beq news.length size = true) (h1 : news.all (·.oneCell') = true)
    (hb : (m + 1) * bytes ≤ 140737488355328) (h63 : m + 1 ≤ maxLen)
    (kk : ∀ v' c', Own e size c' v' (m + 1) (l ++ news) → V P w0 n D Q ops rest ((d, v') :: E) (c' :: H')) :
    V P w0 n D Q ops (⟨some d, .call { callee := .builtin .append, args := #[x, y], argTypes := #[t, t] }, ty, pos, af, g⟩ :: rest) E ([(b, .cells news.toArray T (0, 0))] :: H) := by
  have hl' : news.length = size := Nat.eq_of_beq_eq_true hl
  intro a w hF hW
  have hb0 : w.heap[b]? = some (.cells news.toArray T (0, 0)) := hW.at_ (b, .cells news.toArray T (0, 0)) (by simp)
  have h2 : V P w0 n D Q ops (⟨some d, .call { callee := .builtin .append, args := #[x, y], argTypes := #[t, t] }, ty, pos, af, g⟩ :: rest) E ([(b, .cells news.toArray T (0, 0))] :: H) := by
    refine V.append hzs hsz hw hd hx hy (.tail hp) ho (by omega) (fun w hW => .inr ⟨_, rfl, fun j u hu => ?_⟩) h1 hb h63 (fun v' c' ho' a w hF hW => ?_)
    · rw [add_addr, Nat.zero_add]
      exact cell_of_heap rfl (hW.at_ (b, .cells news.toArray T (0, 0)) (by simp)) (by simpa using hu)
    · refine kk v' c' ho' a w hF (hW.sub ?_)
      simp only [List.flatten_cons]
      exact List.Sublist.append_left (List.sublist_append_right _ _) _
  exact h2 a w hF hW

/-- []T{..} -/
theorem V.buildSlice {t e : TypeId} {len : Nat} {parts : Array (Nat × Operand)} {size bytes : Nat} {zero : Value} (vs : List (Nat × Value)) {l : List Value} [ht : TyU P t (.slice e)] [hi : TyI P e size bytes zero] (hw : want ops E ⟨some d, .buildSlice t len parts, ty, pos, af, g⟩ = some true) (hd : Nat.blt d n = true)
    (hv : vs.map (·.1) = parts.toList.map (·.1)) (he : evs E (parts.toList.map (·.2)) = some (vs.map (·.2))) (hm : Nat.ble (len * size) (2 ^ 24) = true) (hm0 : Nat.beq (len * size) 0 = false)
    (hf : Instr.fill (fun i => some (i * size, size)) ((Array.range (len * size)).map (zero.cells[· % zero.cells.size]!)) vs = some l.toArray)
    (k : ∀ b, V P w0 n D Q ops rest ((d, .slice (some ⟨b, 0, none⟩) len len) :: E) ([(b, .cells l.toArray e (0, 0))] :: H)) : V P w0 n D Q ops (⟨some d, .buildSlice t len parts, ty, pos, af, g⟩ :: rest) E H :=
  V.wp hw fun a w hF hW => by
    have hparts : (parts.map fun (i, x) => (i, a.eval x)).toList = vs := by
      have h1 := hF.evs he
      have h2 : (parts.map fun (i, x) => (i, a.eval x)).toList = parts.toList.map fun p => (p.1, a.eval p.2) := by simp
      rw [h2]
      apply List.ext_getElem?
      intro j
      have e1 : (parts.toList.map (·.1))[j]? = (vs.map (·.1))[j]? := by rw [hv]
      have e2 : ((parts.toList.map (·.2)).map a.eval)[j]? = (vs.map (·.2))[j]? := by rw [h1]
      simp only [List.getElem?_map, Option.map_map] at e1 e2 ⊢
      cases hp : parts.toList[j]? with
      | none => rw [hp] at e1; cases hq : vs[j]? with
        | none => rfl
        | some q => rw [hq] at e1; simp at e1
      | some p =>
        rw [hp] at e1 e2
        cases hq : vs[j]? with
        | none => rw [hq] at e1; simp at e1
        | some q =>
          rw [hq] at e1 e2
          simp at e1 e2 ⊢
          rw [e1, e2]
    have hm' : ¬ (len * size > 2 ^ 24) := by have := Nat.le_of_ble_eq_true hm; omega
    have h0 : ¬ (len * size = 0) := ne_beq hm0
    have hrun : (execOp a.eval ⟨some d, .buildSlice t len parts, ty, pos, af, g⟩).run P w = .ok (.value (.slice (some ⟨w.heap.size, 0, none⟩) len len)) (w.alloc (.cells l.toArray e)) := by
      simp only [execOp, Instr.buildSlice, Sem.run_bind, run_underlying ht.u, Result.andThen_ok, run_sizeOf hi, hm', if_false, hparts, h0, run_zeroOf hi, Sem.run_pure, hf]
      simp [newRow, World.alloc_eq]
    unfold Oper.wp
    rw [hrun]
    exact k w.heap.size _ _ (hF.put hd) (hW.alloc _)
theorem V.buildSlice0 {t e : TypeId} {size bytes : Nat} {zero : Value} [ht : TyU P t (.slice e)] [hi : TyI P e size bytes zero] (hw : want ops E ⟨some d, .buildSlice t 0 #[], ty, pos, af, g⟩ = some true) (hd : Nat.blt d n = true)
    (k : ∀ b, V P w0 n D Q ops rest ((d, .slice (some ⟨b, 0, none⟩) 0 0) :: E) ([(b, .cells #[] e (0, 0))] :: H)) : V P w0 n D Q ops (⟨some d, .buildSlice t 0 #[], ty, pos, af, g⟩ :: rest) E H :=
  V.wp hw fun a w hF hW => by
    have hrun : (execOp a.eval ⟨some d, .buildSlice t 0 #[], ty, pos, af, g⟩).run P w = .ok (.value (.slice (some ⟨w.heap.size, 0, none⟩) 0 0)) (w.alloc (.cells #[] e)) := by
      have h0 : Array.map (fun x => (default : Value)) (Array.range 0) = #[] := by simp [Array.range]
      simp [execOp, Instr.buildSlice, run_underlying ht.u, run_sizeOf hi, newRow, World.alloc_eq, Instr.fill, h0]
    unfold Oper.wp
    rw [hrun]
    exact k w.heap.size _ _ (hF.put hd) (hW.alloc _)
theorem Own.empty (b e k : Nat) : Own e k [(b, .cells #[] e (0, 0))] (.slice (some ⟨b, 0, none⟩) 0 0) 0 [] :=
  ⟨by simp, .inr ⟨b, 0, #[], rfl, rfl, Nat.le_refl _, by simp [maxLen], by simp, by simp⟩⟩

/-- x[l:h] of a slice, within its capacity -/
theorem V.sliceLH {t e : TypeId} {x lo hi : Operand} {size bytes : Nat} {zero : Value} {a0 : Option Addr} {m c : Nat} {i j : Nat} {k1 k2 : IntKind} [ht : TyU P t (.slice e)] [hz : TyI P e size bytes zero] (hw : want ops E ⟨some d, .slice t x (some lo) (some hi) none, ty, pos, af, g⟩ = some true) (hd : Nat.blt d n = true)
    (hx : ev E x = some (.slice a0 m c)) (hlo : ev E lo = some (.int k1 (i : Int))) (hhi : ev E hi = some (.int k2 (j : Int))) (h1 : i ≤ j) (h2 : j ≤ c)
    (k : ∀ a1, (i < c → a1 = a0.map (·.add (i * size))) → (a1.isNone = a0.isNone) → VM P w0 n D Q md ops rest ((d, .slice a1 (j - i) (c - i)) :: E) H) : VM P w0 n D Q md ops (⟨some d, .slice t x (some lo) (some hi) none, ty, pos, af, g⟩ :: rest) E H :=
  V.val hw hd (v := .slice (if c = i then a0 else a0.map (·.add (i * size))) (j - i) (c - i)) (fun a w hF hW => by
    have hb1 : (Instr.sliceBound (.int k2 (j : Int)) c .sliceAcap).run P w = .ok j w := by
      have := run_sliceBound (P := P) w k2 (j : Int) c .sliceAcap (by omega) (by omega)
      simpa using this
    have hb2 : (Instr.sliceBound (.int k1 (i : Int)) j .sliceB).run P w = .ok i w := by
      have := run_sliceBound (P := P) w k1 (i : Int) j .sliceB (by omega) (by omega)
      simpa using this
    simp [execOp, Instr.sliceAt, Instr.slice, run_underlying ht.u, hF.ev hx, hF.ev hlo, hF.ev hhi, Instr.sliceBounds, hb1, hb2, run_sizeOf hz])
    (k _ (fun h => by rw [if_neg (by omega)]) (by split <;> cases a0 <;> rfl))
theorem V.sliceL {t e : TypeId} {x lo : Operand} {size bytes : Nat} {zero : Value} {a0 : Option Addr} {m c : Nat} {i : Nat} {k1 : IntKind} [ht : TyU P t (.slice e)] [hz : TyI P e size bytes zero] (hw : want ops E ⟨some d, .slice t x (some lo) none none, ty, pos, af, g⟩ = some true) (hd : Nat.blt d n = true)
    (hx : ev E x = some (.slice a0 m c)) (hlo : ev E lo = some (.int k1 (i : Int))) (h1 : i ≤ m) (h2 : m ≤ c)
    (k : ∀ a1, (i < c → a1 = a0.map (·.add (i * size))) → (a1.isNone = a0.isNone) → VM P w0 n D Q md ops rest ((d, .slice a1 (m - i) (c - i)) :: E) H) : VM P w0 n D Q md ops (⟨some d, .slice t x (some lo) none none, ty, pos, af, g⟩ :: rest) E H :=
  V.val hw hd (v := .slice (if c = i then a0 else a0.map (·.add (i * size))) (m - i) (c - i)) (fun a w hF hW => by
    have hb2 : (Instr.sliceBound (.int k1 (i : Int)) m .sliceB).run P w = .ok i w := by
      have := run_sliceBound (P := P) w k1 (i : Int) m .sliceB (by omega) (by omega)
      simpa using this
    simp [execOp, Instr.sliceAt, Instr.slice, run_underlying ht.u, hF.ev hx, hF.ev hlo, Instr.sliceBounds, hb2, run_sizeOf hz])
    (k _ (fun h => by rw [if_neg (by omega)]) (by split <;> cases a0 <;> rfl))
theorem V.sliceH {t e : TypeId} {x hi : Operand} {size bytes : Nat} {zero : Value} {a0 : Option Addr} {m c : Nat} {j : Nat} {k2 : IntKind} [ht : TyU P t (.slice e)] [hz : TyI P e size bytes zero] (hw : want ops E ⟨some d, .slice t x none (some hi) none, ty, pos, af, g⟩ = some true) (hd : Nat.blt d n = true)
    (hx : ev E x = some (.slice a0 m c)) (hhi : ev E hi = some (.int k2 (j : Int))) (h2 : j ≤ c)
    (k : VM P w0 n D Q md ops rest ((d, .slice a0 j c) :: E) H) : VM P w0 n D Q md ops (⟨some d, .slice t x none (some hi) none, ty, pos, af, g⟩ :: rest) E H :=
  V.val hw hd (v := .slice a0 j c) (fun a w hF hW => by
    have hb1 : (Instr.sliceBound (.int k2 (j : Int)) c .sliceAcap).run P w = .ok j w := by
      have := run_sliceBound (P := P) w k2 (j : Int) c .sliceAcap (by omega) (by omega)
      simpa using this
    cases a0 <;> simp [execOp, Instr.sliceAt, Instr.slice, run_underlying ht.u, hF.ev hx, hF.ev hhi, Instr.sliceBounds, hb1, run_sizeOf hz, Addr.add]) k
/-- what an append leaves that made a new row -/
theorem Wd.appendedNew {w0 : World} {e k : Nat} {H : Hp} {w w' : World} {v' : Value} {n' : Nat} {l' : List Value} (hW : Wd w0 H w) (ho : w'.ownsRow w.heap.size e k v' n' l') (hg : w.grownBy w' none) : ∃ c', Own e k c' v' n' l' ∧ Wd w0 (c' :: H) w' := by
  have hrest : Wd w0 H w' := by
    refine ⟨⟨hg.os.trans hW.below.os, hg.tape.trans hW.below.tape, hg.output.trans hW.below.output, Nat.le_trans hW.below.size hg.size, fun i hi => ?_⟩, hW.nodup, hW.ge, fun p hp => ?_⟩
    · rw [hg.block i (Nat.lt_of_lt_of_le hi hW.below.size) (by simp)]
      exact hW.below.block i hi
    · have hat := hW.at_ p hp
      rw [hg.block p.1 (Array.getElem?_eq_some_iff.1 hat).1 (by simp)]
      exact hat
  rcases ho.2 with ⟨rfl, rfl⟩ | ⟨g', cap', cur', rfl, hb, hh, h1, h2, h3, h4⟩
  · exact ⟨[], ⟨ho.1, .inl ⟨rfl, rfl, rfl⟩⟩, hrest.perm (by simp)⟩
  · refine ⟨[(g', .cells cur' e (0, 0))], ⟨ho.1, .inr ⟨g', cap', cur', rfl, rfl, h1, h2, h3, h4⟩⟩, hrest.below, ?_, ?_, ?_⟩
    · simp only [List.flatten_cons, List.map_append, List.map_cons, List.map_nil, List.cons_append, List.nil_append, List.nodup_cons]
      refine ⟨fun hm => ?_, hW.nodup⟩
      obtain ⟨p, hp, e1⟩ := List.mem_map.1 hm
      have hlt := (Array.getElem?_eq_some_iff.1 (hW.at_ p hp)).1
      omega
    · intro p hp
      simp only [List.flatten_cons, List.cons_append, List.nil_append, List.mem_cons] at hp
      rcases hp with rfl | hp
      · exact Nat.le_trans hW.below.size hb
      · exact hrest.ge p hp
    · intro p hp
      simp only [List.flatten_cons, List.cons_append, List.nil_append, List.mem_cons] at hp
      rcases hp with rfl | hp
      · exact hh
      · exact hrest.at_ p hp
/-- append(s, x...) onto a row that is full: a new row -/
theorem V.appendFull {t e : TypeId} {x y : Operand} {size bytes : Nat} {zero : Value} {m : Nat} {l : List Value} {a1 ad : Option Addr} {k cp : Nat} {news : List Value} [ht : TyU P t (.slice e)] [hi : TyI P e size bytes zero] (hzs : Nat.beq zero.cells.size size = true) (hsz : Nat.blt 0 size = true)
    (hw : want ops E ⟨some d, .call { callee := .builtin .append, args := #[x, y], argTypes := #[t, t] }, ty, pos, af, g⟩ = some true) (hd : Nat.blt d n = true)
    (hx : ev E x = some (.slice a1 m m)) (hy : ev E y = some (.slice ad k cp)) (hlo : l.length = m * size) (hol : ∀ w, Wd w0 H w → l = [] ∨ ∃ a, a1 = some a ∧ ∀ j u, l[j]? = some u → w.cell? (a.add j) = some u)
    (hk : 0 < k) (hl : news.length = k * size) (hn : ∀ w, Wd w0 H w → news = [] ∨ ∃ a, ad = some a ∧ ∀ j u, news[j]? = some u → w.cell? (a.add j) = some u) (h1 : news.all (·.oneCell') = true)
    (hb : (m + k) * bytes ≤ 140737488355328) (h63 : m + k ≤ maxLen)
    (kk : ∀ v' c', Own e size c' v' (m + k) (l ++ news) → V P w0 n D Q ops rest ((d, v') :: E) (c' :: H)) :
    V P w0 n D Q ops (⟨some d, .call { callee := .builtin .append, args := #[x, y], argTypes := #[t, t] }, ty, pos, af, g⟩ :: rest) E H :=
  V.wp hw fun a w hF hW => by
    obtain ⟨i, hi1, hi2, hi3, hi4⟩ := hi.get
    have hzs' : zero.cells.size = size := Nat.eq_of_beq_eq_true hzs
    have hsz' : 0 < size := blt_lt hsz
    obtain ⟨ad', rfl, hn'⟩ : ∃ a, ad = some a ∧ ∀ j u, news[j]? = some u → w.cell? (a.add j) = some u := by
      rcases hn w hW with h | h
      · subst h
        have := Nat.mul_pos hk hsz'
        simp at hl
        omega
      · exact h
    have hrun : ∃ v' w', (Builtin.append_ #[t, t] ty #[.slice a1 m m, .slice (some ad') k cp]).run P w = .ok v' w' ∧ w'.ownsRow w.heap.size e size v' (m + k) (l ++ news) ∧ w.grownBy w' none := by
      cases a1 with
      | some a =>
        refine run_append_arg_grows w t ty e i zero size bytes ht.u hi1 hi4 hi2 hi3 hzs' hsz' a m m l hlo (fun j u hu => ?_) ad' k cp news hl hn' (by omega) h63 hb
        rcases hol w hW with h | ⟨a', h, h2⟩
        · subst h; cases hu
        · obtain rfl : a = a' := by simpa using h
          exact h2 j u hu
      | none =>
        have hm : l = [] := by
          rcases hol w hW with h | ⟨a', h, h2⟩
          · exact h
          · cases h
        subst hm
        obtain rfl : m = 0 := by
          rcases Nat.mul_eq_zero.1 hlo.symm with h | h
          · exact h
          · omega
        obtain ⟨v', w', e1, e2, e3, _, e4⟩ := run_append_own_at (P := P) w w.heap.size t ty e i zero size bytes ht.u hi1 hi4 hi2 hi3 hzs' hsz' (.slice none 0 0) 0 [] ⟨by simp, .inl ⟨rfl, rfl⟩⟩ ad' k cp news hl hn' (List.all_eq_true.1 h1) h63 hb (Nat.le_refl _)
        exact ⟨v', w', e1, e2, by simpa [Value.ownBlock] using e3⟩
    obtain ⟨v', w', e1, e2, e3⟩ := hrun
    obtain ⟨c', ho', hW''⟩ := hW.appendedNew e2 e3
    unfold Oper.wp execOp
    simp only [resolve, invoke, builtin, Sem.run_bind, Sem.run_pure, Result.andThen_ok, List.map_toArray, List.map_cons, List.map_nil, hF.ev hx, hF.ev hy, e1]
    exact kk v' c' ho' _ _ (hF.put hd) hW''
end
end Go.Proofs.Eng
