/- The engine's second text on arguments: structs, and rows whose data are told. -/
import Derived.Test.YtfclhhhnngkdlaaDoorEngLaw
import Derived.Test.YtfclhhhnngkdlaaDoorEngStr
set_option linter.unusedVariables false
set_option linter.unusedSimpArgs false
namespace Go.Proofs.Eng
open Go Go.RowKit
section
variable {H : Type} {enc : TypeId × Value → H} {P : Program} {W : World} {fuel : Nat} {t e : TypeId}

/-- a slice that is read as data: its cells, and each element's reading, the data told -/
theorem rd_of_trodD {v : Value} {x : DataW H × List MemPlace} (ht : P.underlying t = some (.slice e)) (h : DataW.trod enc P W 0 (fun _ => true) true fuel t [v] = some x) :
    ∃ (n : Nat) (l : List Value) (D : Nat → DataW H), Rd W [] (P.cellsOf e) v n l ∧ ((n = 0 ∧ x.1 = .nil) ∨ ∃ spare, x.1 = .slice ((List.range n).map D) spare) ∧
      ∀ i, i < n → ∃ m p, DataW.trod enc P W 0 (fun _ => true) true m e ((l.drop (i * P.cellsOf e)).take (P.cellsOf e)) = some (D i, p) := by
  rcases Go.Deep.open_slice ht h with ⟨h1, h2⟩ | ⟨a, len, cap, m, n, D, Pl, h1, _, h2, h3, hm, hx0, hx⟩
  · obtain rfl : v = .slice none 0 0 := by simpa using h1
    exact ⟨0, [], fun _ => .nil, Rd.nil W [] _, .inl ⟨rfl, by rw [h2]⟩, fun i hi => absurd hi (Nat.not_lt_zero _)⟩
  · obtain ⟨n', l, hr, hel⟩ := rd_of_trod ht h
    obtain rfl : v = .slice (some a) len cap := by simpa using h1
    obtain ⟨a', cap', e1, h4, h5, h6, h7⟩ := id hr
    simp only [Value.slice.injEq] at e1
    obtain ⟨rfl, rfl, rfl⟩ := e1
    simp only [if_true] at hm
    subst hm
    obtain ⟨C, hC⟩ := Go.Deep.choose_lt (α := List Value) (n := m) (p := fun i cs => W.cells? 0 (a.add (i * P.cellsOf e)) (P.cellsOf e) = some cs ∧ DataW.trod enc P W 0 (fun _ => true) true n e cs = some (D i, Pl i)) hx
    refine ⟨len, l, D, hr, .inr ⟨_, by rw [hx0]⟩, fun i hi => ⟨n, Pl i, ?_⟩⟩
    have h8 := hC i (by omega)
    have h9 : (l.drop (i * P.cellsOf e)).take (P.cellsOf e) = C i := by
      obtain ⟨h10, h11, h12⟩ := World.cells?_some h8.1
      have hle : (i + 1) * P.cellsOf e ≤ len * P.cellsOf e := Nat.mul_le_mul_right _ hi
      rw [Nat.succ_mul] at hle
      apply List.ext_getElem?
      intro j
      rw [List.getElem?_take]
      by_cases hj : j < P.cellsOf e
      · rw [if_pos hj, List.getElem?_drop]
        rcases h7 with h7 | ⟨b, o, h7, hcel⟩
        · exfalso
          rw [h7] at h6
          simp at h6
          omega
        · obtain rfl := Option.some.inj h7
          obtain ⟨u, hu⟩ : ∃ u, l[i * P.cellsOf e + j]? = some u := ⟨l[i * P.cellsOf e + j]'(by omega), List.getElem?_eq_getElem _⟩
          have h13 := h12 j hj
          rw [add_add', add_addr] at h13
          have h14 := (Wd.start W).celOld (hcel _ u hu)
          rw [h14] at h13
          rw [hu, ← h13]
      · rw [if_neg hj, List.getElem?_eq_none (by omega)]
    rw [h9]
    exact h8.2
/-- a struct's field -/
theorem field_of_trod {fs : Array Field} {cs : List Value} {x : DataW H × List MemPlace} (ht : P.underlying t = some (.struct fs)) (h : DataW.trod enc P W 0 (fun _ => true) true fuel t cs = some x) {i : Nat} {f : Field} (hf : fs[i]? = some f) :
    ∃ m y, DataW.trod enc P W 0 (fun _ => true) true m f.type ((cs.drop f.offset).take (P.cellsOf f.type)) = some y ∧ ∃ ds, x.1 = .agg ds ∧ ds[i]? = some y.1 ∧ ds.length = fs.size := by
  obtain ⟨xs, n, _, hx, _, hl, hp⟩ := DataW.trod_struct ht h
  have h1 := hp i f hf
  have hi : i < xs.length := by rw [hl]; exact (Array.getElem?_eq_some_iff.1 hf).1
  rw [List.getElem?_eq_getElem hi] at h1
  exact ⟨n, xs[i], h1, xs.map (·.1), by rw [hx], by simp [hi], by simp [hl]⟩
/-- .. its place and type, and how many cells it has -/
theorem field_of_trodT {fs : Array Field} {cs : List Value} {x : DataW H × List MemPlace} (ht : P.underlying t = some (.struct fs)) (h : DataW.trod enc P W 0 (fun _ => true) true fuel t cs = some x) (i off : Nat) (ft : TypeId) (k : Nat) (hf : (fs[i]?).map (fun f => (f.offset, f.type)) = some (off, ft)) (hc : P.cellsOf ft = k) :
    ∃ m y, DataW.trod enc P W 0 (fun _ => true) true m ft ((cs.drop off).take k) = some y ∧ ∃ ds, x.1 = .agg ds ∧ ds[i]? = some y.1 ∧ ds.length = fs.size := by
  obtain ⟨f, h1, h2⟩ := Option.map_eq_some_iff.1 hf
  obtain ⟨rfl, rfl⟩ := Prod.mk.inj h2
  subst hc
  exact field_of_trod ht h h1
theorem wf64 {n : Int} (h : (Lit.int .i64 n).wf = true) : -9223372036854775808 ≤ n ∧ n ≤ 9223372036854775807 := by
  simp only [Lit.wf, Bool.and_eq_true, decide_eq_true_eq] at h
  have h1 : IntKind.i64.min = -9223372036854775808 := rfl
  have h2 : IntKind.i64.max = 9223372036854775807 := rfl
  rw [h1, h2] at h
  exact h
/-- a slice of strings -/
theorem strs_of_trod {v : Value} {x : DataW H × List MemPlace} (ht : P.underlying t = some (.slice e)) (he : P.underlying e = some .string) (hc : P.cellsOf e = 1) (h : DataW.trod enc P W 0 (fun _ => true) true fuel t [v] = some x) :
    ∃ ls : List (List UInt8), Rd W [] 1 v ls.length (ls.map st) ∧ ((ls = [] ∧ x.1 = .nil) ∨ ∃ spare, x.1 = .slice (ls.map fun l => .lit (.string l)) spare) := by
  obtain ⟨n, l, D, hr, hx, hel⟩ := rd_of_trodD ht h
  rw [hc] at hr hel
  obtain ⟨C, hC⟩ := Go.Deep.choose_lt (α := List UInt8) (n := n) (p := fun i s => l[i]? = some (st s) ∧ D i = .lit (.string s)) (fun i hi => by
    obtain ⟨m, p, hm⟩ := hel i hi
    obtain ⟨s, h1, h2, _⟩ := DataW.trod_string he hm
    refine ⟨s.data.toList, ?_, by simpa using congrArg Prod.fst h2⟩
    have := congrArg (·[0]?) h1
    simpa [List.getElem?_take, List.getElem?_drop] using this)
  have hl : l.length = n := by
    obtain ⟨_, _, _, _, _, h4, _⟩ := hr
    simpa using h4
  refine ⟨(List.range n).map C, ?_, ?_⟩
  · have e1 : ((List.range n).map C).map st = l := by
      apply List.ext_getElem?
      intro i
      by_cases hi : i < n
      · rw [(hC i hi).1]; simp [hi]
      · rw [List.getElem?_eq_none (by rw [List.length_map, List.length_map, List.length_range]; omega), List.getElem?_eq_none (by omega)]
    rw [e1]
    simpa using hr
  · rcases hx with ⟨rfl, h2⟩ | ⟨spare, h2⟩
    · exact .inl ⟨rfl, h2⟩
    · refine .inr ⟨spare, ?_⟩
      rw [h2]
      congr 1
      rw [List.map_map]
      exact List.map_congr_left fun i hi => (hC i (by simpa using hi)).2
end
end Go.Proofs.Eng
