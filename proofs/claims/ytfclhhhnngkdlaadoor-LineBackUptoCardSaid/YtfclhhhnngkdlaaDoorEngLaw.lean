/- The engine's last text: what an argument's reading gives the walk, and what the walk gives the row. -/
import Derived.Test.YtfclhhhnngkdlaaDoorEngArr2
import Derived.WalkKit
import Derived.ProofKit
import Derived.OpenShut
import Derived.Carry
import Derived.Deep.Slices
import Derived.Deep.DeepHandedRow
set_option linter.unusedVariables false
namespace Go.Proofs.Eng
open Go Go.RowKit Go.ChangeShapes Go.WideShapes Go.ChangeAt

theorem cel_of {W : World} {ad : Addr} {v : Value} (h : W.cell? ad = some v) : Cel W [] ad v := by
  have hs := World.cell?_spot h
  refine ⟨hs, ?_⟩
  unfold World.cell? at h
  rw [hs] at h
  cases hb : W.heap[ad.block]? with
  | none => rw [hb] at h; simp at h
  | some o =>
    rw [hb] at h
    cases o with
    | cells cs T fr => exact ⟨cs, T, fr, .inr ⟨(Array.getElem?_eq_some_iff.1 hb).1, hb⟩, by simpa using h⟩
    | _ => simp at h

theorem add_add' (a : Addr) (x y : Nat) : (a.add x).add y = a.add (x + y) := by
  obtain ⟨b, o, s⟩ := a
  simp only [Addr.add]
  by_cases hx : x = 0 <;> by_cases hy : y = 0 <;> simp [hx, hy, Nat.add_assoc]
/-- pieces of k laid end to end -/
theorem pieces {α : Type} {k : Nat} (C : Nat → List α) : ∀ (n : Nat), (∀ i, i < n → (C i).length = k) → ∃ l : List α, l.length = n * k ∧ ∀ i, i < n → (l.drop (i * k)).take k = C i
  | 0, _ => ⟨[], by simp, fun i hi => absurd hi (Nat.not_lt_zero _)⟩
  | n + 1, h => by
    obtain ⟨l, hl, hp⟩ := pieces C n (fun i hi => h i (by omega))
    refine ⟨l ++ C n, by rw [List.length_append, hl, h n (by omega), Nat.succ_mul], fun i hi => ?_⟩
    rcases Nat.lt_or_ge i n with hlt | hge
    · have h1 : i * k + k ≤ n * k := by
        rw [← Nat.succ_mul]
        exact Nat.mul_le_mul_right _ hlt
      rw [List.drop_append_of_le_length (by omega), List.take_append_of_le_length (by rw [List.length_drop]; omega)]
      exact hp i hlt
    · obtain rfl : i = n := by omega
      rw [← hl, List.drop_left, List.take_of_length_le (Nat.le_of_eq (h i (by omega)))]

section
variable {H : Type} {enc : TypeId × Value → H} {P : Program} {W : World} {fuel : Nat} {t e : TypeId}

/-- a slice that is read as data: its cells, and each element's reading -/
theorem rd_of_trod {v : Value} {x : DataW H × List MemPlace} (ht : P.underlying t = some (.slice e)) (h : DataW.trod enc P W 0 (fun _ => true) true fuel t [v] = some x) :
    ∃ (n : Nat) (l : List Value), Rd W [] (P.cellsOf e) v n l ∧ ∀ i, i < n → ∃ m y, DataW.trod enc P W 0 (fun _ => true) true m e ((l.drop (i * P.cellsOf e)).take (P.cellsOf e)) = some y := by
  rcases Go.Deep.open_slice ht h with ⟨h1, _⟩ | ⟨a, len, cap, m, n, D, Pl, h1, _, h2, h3, hm, _, hx⟩
  · obtain rfl : v = .slice none 0 0 := by simpa using h1
    exact ⟨0, [], Rd.nil W [] _, fun i hi => absurd hi (Nat.not_lt_zero _)⟩
  · obtain rfl : v = .slice (some a) len cap := by simpa using h1
    simp only [if_true] at hm
    subst hm
    obtain ⟨C, hC⟩ := Go.Deep.choose_lt (α := List Value) (n := m) (p := fun i cs => W.cells? 0 (a.add (i * P.cellsOf e)) (P.cellsOf e) = some cs ∧ DataW.trod enc P W 0 (fun _ => true) true n e cs = some (D i, Pl i)) hx
    obtain ⟨l, hl, hp⟩ := pieces C len (fun i hi => (World.cells?_some (hC i (by omega)).1).2.1)
    refine ⟨len, l, ⟨some a, m, rfl, h2, h3, hl, ?_⟩, fun i hi => ⟨n, _, by rw [hp i hi]; exact (hC i (by omega)).2⟩⟩
    rcases Nat.eq_zero_or_pos l.length with h0 | hpos
    · exact .inl (List.eq_nil_of_length_eq_zero h0)
    · right
      have hk : 0 < P.cellsOf e := by
        rcases Nat.eq_zero_or_pos (P.cellsOf e) with h | h
        · rw [hl, h, Nat.mul_zero] at hpos; omega
        · exact h
      have cell : ∀ j u, l[j]? = some u → W.cell? (a.add j) = some u := by
        intro j u hu
        have hj : j < l.length := (List.getElem?_eq_some_iff.1 hu).1
        have hjk : j / P.cellsOf e < len := Nat.div_lt_of_lt_mul (by rw [Nat.mul_comm, ← hl]; exact hj)
        have hr : j % P.cellsOf e < P.cellsOf e := Nat.mod_lt _ hk
        have hd : j / P.cellsOf e * P.cellsOf e + j % P.cellsOf e = j := by rw [Nat.mul_comm]; exact Nat.div_add_mod j _
        have h4 := (World.cells?_some (hC (j / P.cellsOf e) (by omega)).1).2.2 (j % P.cellsOf e) hr
        rw [← hp _ hjk, List.getElem?_take, if_pos hr, List.getElem?_drop, hd, hu] at h4
        rw [← h4]
        have h5 : (a.add (j / P.cellsOf e * P.cellsOf e)).add (j % P.cellsOf e) = a.add j := by
          rw [add_add', hd]
        rw [h5]
      have hs : a.spot = none := by
        have := World.cell?_spot (cell 0 l[0] (by simp))
        simpa [Addr.add] using this
      obtain ⟨b, o, sp⟩ := a
      simp only at hs
      subst hs
      exact ⟨b, o, rfl, fun j u hu => by have := cel_of (cell j u hu); rwa [add_addr] at this⟩

theorem int_of_trod {k : IntKind} {cs : List Value} {x : DataW H × List MemPlace} (ht : P.underlying t = some (.int k)) (h : DataW.trod enc P W 0 (fun _ => true) true fuel t cs = some x) :
    ∃ n, cs = [.int k n] ∧ (Lit.int k n).wf = true := by
  obtain ⟨n, h1, _, h2⟩ := DataW.trod_int ht h
  exact ⟨n, h1, h2⟩
theorem slice_of_trod {cs : List Value} {x : DataW H × List MemPlace} (ht : P.underlying t = some (.slice e)) (h : DataW.trod enc P W 0 (fun _ => true) true fuel t cs = some x) : ∃ v, cs = [v] := by
  rcases Go.Deep.open_slice ht h with ⟨h1, _⟩ | ⟨a, len, cap, m, n, D, Pl, h1, _⟩
  · exact ⟨_, h1⟩
  · exact ⟨_, h1⟩
theorem string_of_trod {cs : List Value} {x : DataW H × List MemPlace} (ht : P.underlying t = some .string) (h : DataW.trod enc P W 0 (fun _ => true) true fuel t cs = some x) :
    ∃ s : ByteArray, cs = [.string s] ∧ s.size ≤ maxLen := by
  obtain ⟨s, h1, _, h2⟩ := DataW.trod_string ht h
  exact ⟨s, h1, h2⟩

/-- a slice of numbers -/
theorem ints_of_trod {k : IntKind} {v : Value} {x : DataW H × List MemPlace} (ht : P.underlying t = some (.slice e)) (he : P.underlying e = some (.int k)) (hc : P.cellsOf e = 1) (h : DataW.trod enc P W 0 (fun _ => true) true fuel t [v] = some x) :
    ∃ zs : List Int, Rd W [] 1 v zs.length (zs.map (Value.int k)) ∧ ∀ z ∈ zs, (Lit.int k z).wf = true := by
  obtain ⟨n, l, hr, hel⟩ := rd_of_trod ht h
  rw [hc] at hr hel
  have hl : l.length = n := by
    obtain ⟨_, _, _, _, _, h, _⟩ := hr
    simpa using h
  have hall : ∀ u ∈ l, ∃ z, u = .int k z ∧ (Lit.int k z).wf = true := by
    intro u hu
    obtain ⟨i, hi, rfl⟩ := List.getElem_of_mem hu
    obtain ⟨m, y, hy⟩ := hel i (by omega)
    rw [Nat.mul_one, List.drop_eq_getElem_cons hi, List.take_succ_cons, List.take_zero] at hy
    obtain ⟨z, h1, h2⟩ := int_of_trod he hy
    exact ⟨z, by simpa using h1, h2⟩
  have : ∃ zs : List Int, l = zs.map (Value.int k) ∧ ∀ z ∈ zs, (Lit.int k z).wf = true := by
    clear hr hel h hl
    induction l with
    | nil => exact ⟨[], rfl, by simp⟩
    | cons u l ih =>
      obtain ⟨z, rfl, hz⟩ := hall u (List.mem_cons_self ..)
      obtain ⟨zs, rfl, hzs⟩ := ih (fun u hu => hall u (List.mem_cons_of_mem _ hu))
      exact ⟨z :: zs, rfl, by simpa using ⟨hz, hzs⟩⟩
  obtain ⟨zs, rfl, hz⟩ := this
  rw [List.length_map] at hl
  subst hl
  exact ⟨zs, hr, hz⟩
/-- a slice of bytes -/
theorem bytes_of_trod {v : Value} {x : DataW H × List MemPlace} (ht : P.underlying t = some (.slice e)) (he : P.underlying e = some (.int .u8)) (hc : P.cellsOf e = 1) (h : DataW.trod enc P W 0 (fun _ => true) true fuel t [v] = some x) :
    ∃ bs : List UInt8, Rd W [] 1 v bs.length (bs.map byv) := by
  obtain ⟨zs, hr, hz⟩ := ints_of_trod ht he hc h
  have : ∃ bs : List UInt8, zs.map (Value.int .u8) = bs.map byv := by
    clear hr h
    induction zs with
    | nil => exact ⟨[], rfl⟩
    | cons z zs ih =>
      obtain ⟨bs, hb⟩ := ih (fun z h => hz z (List.mem_cons_of_mem _ h))
      have hb2 := bounds_u8 (hz z (List.mem_cons_self ..))
      refine ⟨UInt8.ofNat z.toNat :: bs, ?_⟩
      rw [List.map_cons, List.map_cons, hb]
      congr 1
      unfold byv
      congr 1
      have : z.toNat < 256 := by omega
      simp [Nat.mod_eq_of_lt this]
      omega
  obtain ⟨bs, hb⟩ := this
  have hl := congrArg List.length hb
  rw [List.length_map, List.length_map] at hl
  rw [hb, hl] at hr
  exact ⟨bs, hr⟩

/-- rows of bytes -/
theorem rows_of_trod {q : TypeId} {v : Value} {x : DataW H × List MemPlace} (ht : P.underlying t = some (.slice e)) (he : P.underlying e = some (.slice q)) (hq : P.underlying q = some (.int .u8)) (hc : P.cellsOf e = 1) (hc2 : P.cellsOf q = 1) (h : DataW.trod enc P W 0 (fun _ => true) true fuel t [v] = some x) :
    ∃ (n : Nat) (vs : List Value) (rs : List (List UInt8)), Rd W [] 1 v n vs ∧ vs.length = rs.length ∧ ∀ (i : Nat) (u : Value) (r : List UInt8), vs[i]? = some u → rs[i]? = some r → Rd W [] 1 u r.length (r.map byv) := by
  obtain ⟨n, l, hr, hel⟩ := rd_of_trod ht h
  rw [hc] at hr hel
  have hl : l.length = n := by
    obtain ⟨_, _, _, _, _, h, _⟩ := hr
    simpa using h
  obtain ⟨X, hX⟩ := Go.Deep.choose_lt (α := List UInt8) (n := n) (p := fun i r => ∀ u, l[i]? = some u → Rd W [] 1 u r.length (r.map byv)) (fun i hi => by
    obtain ⟨m, y, hy⟩ := hel i hi
    rw [Nat.mul_one, List.drop_eq_getElem_cons (by omega), List.take_succ_cons, List.take_zero] at hy
    obtain ⟨bs, hb⟩ := bytes_of_trod he hq hc2 hy
    refine ⟨bs, fun u hu => ?_⟩
    rw [List.getElem?_eq_getElem (by omega)] at hu
    simp only [Option.some.injEq] at hu
    subst hu
    exact hb)
  refine ⟨n, l, (List.range n).map X, hr, by simp [hl], fun i u r hu hr => ?_⟩
  have hi : i < n := by
    have := (List.getElem?_eq_some_iff.1 hu).1
    omega
  rw [List.getElem?_map, List.getElem?_range hi] at hr
  simp only [Option.map_some, Option.some.injEq] at hr
  subst hr
  exact hX i hi u hu

theorem trodAll_stay (hl : laidOutB P = true) {W' : World} {sp : Nat → Bool} : ∀ {ts : List TypeId} {vs : List Value} {ds : List (DataW H)} {ps : List MemPlace}, (ts.all fun t => P.readableRec t && decide (t < P.types.size)) = true →
    DataW.TrodAll enc P W 0 (fun _ => true) true ts vs ds ps → (∀ x ∈ ps, W.sameAt W' x) → (∀ x ∈ ps, sp x.block = true) → DataW.TrodAll enc P W' 0 sp true ts vs ds ps
  | [], [], [], ps, _, h, _, _ => h
  | t :: ts, v :: vs, d :: ds, ps, hr, h, hs, hp => by
    obtain ⟨p, q, h1, h2, rfl⟩ := h
    simp only [List.all_cons, Bool.and_eq_true, decide_eq_true_eq] at hr
    exact ⟨p, q, WideElems.Trod_stays hl hr.1.1 hr.1.2 h1 (fun x hx => hs x (List.mem_append_left _ hx)) (fun x hx => hp x (List.mem_append_left _ hx)),
      trodAll_stay hl (by simpa using hr.2) h2 (fun x hx => hs x (List.mem_append_right _ hx)) (fun x hx => hp x (List.mem_append_right _ hx)), rfl⟩
  | [], [], _ :: _, _, _, h, _, _ => h.elim
  | [], _ :: _, _, _, _, h, _, _ => by cases h
  | _ :: _, [], _, _, _, h, _, _ => by cases h
  | _ :: _, _ :: _, [], _, _, h, _, _ => by cases h

/-- the row's second half, for a law: it answered true and nothing that was there has turned -/
theorem law_post {f : Func} {s : ChangeSpec} {apart fresh handsOn again : Bool} {W' : World} {args : Array Value} {ds gs : List (DataW H)} {before : List MemPlace} {tb : TypeId}
    (hl : laidOutB P = true) (hts : (f.params.toList.all fun t => P.readableRec t && decide (t < P.types.size)) = true) (hv : s.vars = []) (hr : f.resultTypes = #[tb]) (hb : P.underlying tb = some .bool)
    (hW : DataW.Whole enc P f.params.toList s.vars apart W args.toList ds gs before) (hs1 : (s.fn H (ds ++ gs)).results = [.lit (.bool true)]) (hs2 : (s.fn H (ds ++ gs)).args = ds) (hs3 : (s.fn H (ds ++ gs)).vars = [])
    (hB : Below W.heap.size W W') : s.post enc P f apart fresh handsOn again W args (.bool true) W' := by
  have hW2 := hW
  obtain ⟨p, q, hA, hV, rfl, hz, hn⟩ := hW
  have hlt : ∀ x ∈ p ++ q, x.block < W.heap.size := fun x hx => by simpa using hW2.lt x hx
  have hq : gs = [] ∧ q = [] := by
    rw [hv] at hV
    cases gs with
    | nil => exact ⟨rfl, hV⟩
    | cons => exact hV.elim
  obtain ⟨rfl, rfl⟩ := hq
  have hargs : ∀ sp : Nat → Bool, (∀ x ∈ p ++ [], sp x.block = true) → DataW.TrodAll enc P W' 0 sp true f.params.toList args.toList (s.fn H (ds ++ [])).args p := fun sp hsp => by
    rw [hs2]
    exact trodAll_stay hl hts hA (fun x hx => hB.same (hlt x (List.mem_append_left _ hx))) (fun x hx => hsp x (List.mem_append_left _ hx))
  have hvars : ∀ sp : Nat → Bool, DataW.TrodVars enc P W' sp s.vars (s.fn H (ds ++ [])).vars [] := fun sp => by
    rw [hs3, hv]
    rfl
  have hres : ∀ (b : Nat) (sp : Nat → Bool) (hd : Bool), DataW.TrodAll enc P W' b sp hd f.resultTypes.toList ((Value.bool true).resultList f.resultTypes.size) (s.fn H (ds ++ [])).results [] := fun b sp hd => by
    rw [hs1, hr]
    exact trodAll_mk1 (shut_bool hb _)
  have hold : ∀ x ∈ p ++ [], (fun b => decide (b < W.heap.size)) x.block = true := fun x hx => by simpa using hlt x hx
  refine ⟨ds, [], p ++ [], [], p, [], hW2, hres _ _ _, hargs _ hold, hvars _, World.keptBut_mono (fun x hx => ⟨hx, Or.inr (by simpa using hx)⟩) (hB.frame _), fun _ => ?_⟩
  refine ⟨ok_one hr rfl (okWide_bool_mk hb _), _, _, ([] ++ p) ++ [], ⟨[] ++ p, [], trodAll_append (hargs _ (fun _ _ => rfl)) (hres _ _ _), hvars _, rfl, ?_, ?_⟩, ?_⟩
  · intro b off hx
    have hx' : MemPlace.cell b off ∈ p ++ [] := by simpa using hx
    rw [hB.frozen (p := ⟨b, off, none⟩) (hlt _ hx')]
    exact hz b off hx'
  · intro ha
    simpa using hn ha
  · intro x hx _
    simpa using hx
end
end Go.Proofs.Eng
