/- Proved: the law JournalKeeps of the package provostlaw20 returns true for every input and leaves its arguments as they were (the tied card of its row). Conditions: those of the row (the two listed tables of unicode/utf8 read as laid, which the card ties to the program's text); none beyond. -/
import Derived.Test.YtpmpomknnppnjaaDoorJnKeeps
import Derived.Test.YtpmpomknnppnjaaDoorEngLaw
import Derived.Test.YtpmpomknnppnjaaDoorCards
import Derived.Test.YtpmpomknnppnjaaDoorTie
import Derived.Lib.LaidTab
set_option linter.unusedVariables false
namespace Go.Proofs.YtpmpomknnppnjaaDoor.keeps
open Go Go.ChangeShapes Go.WideShapes Go.ChangeAt Go.RowKit Go.Proofs.Eng Go.Proofs.Jn

/-- what a datum's cells are -/
def flat : Nat → DataW Unit → List Value
  | 0, _ => []
  | n + 1, .agg l => l.flatMap (flat n)
  | _ + 1, .lit (.int k x) => [.int k x]
  | _ + 1, _ => []
theorem own : ownKnob Tryd.prog.godebug = none := by kernel_rfl
theorem laidOut : laidOutB Tryd.prog = true := by kernel_rfl
theorem gA : Tryd.prog.globalNamed "unicode/utf8.acceptRanges" = some 1 := by kernel_rfl
theorem gF : Tryd.prog.globalNamed "unicode/utf8.first" = some 0 := by kernel_rfl
theorem cells48 : Tryd.prog.cellsOf 48 = 3 := by kernel_rfl
theorem cells3 : Tryd.prog.cellsOf 3 = 1 := by kernel_rfl
theorem cells31 : Tryd.prog.cellsOf 31 = 1 := by kernel_rfl
theorem cells5 : Tryd.prog.cellsOf 5 = 1 := by kernel_rfl

instance : Inhabited OpD := ⟨⟨0, 0, .slice Option.none 0 0, []⟩⟩
theorem three {α : Type} : ∀ {l : List α}, l.length = 3 → ∃ a b c, l = [a, b, c]
  | [a, b, c], _ => ⟨a, b, c, rfl⟩
section
variable {H : Type} {enc : TypeId × Value → H} {W : World}
theorem op_of_trod {cs : List Value} {fuel : Nat} {y : DataW H × List MemPlace} (h : DataW.trod enc Tryd.prog W 0 (fun _ => true) true fuel 48 cs = some y) :
    ∃ x : OpD, cs = [.int .i64 x.do_, .int .i64 x.n, x.v] ∧ Rd W [] 1 x.v x.data.length (x.data.map byv) ∧ x.n ≤ 9223372036854775807 := by
  obtain ⟨xs, n, rfl, hx, hl, hxl, hf⟩ := DataW.trod_struct Tryd.underlying48 h
  rw [cells48] at hl
  obtain ⟨c0, c1, c2, rfl⟩ := three hl
  have h0 : DataW.trod enc Tryd.prog W 0 (fun _ => true) true n 3 (([c0, c1, c2].drop 0).take (Tryd.prog.cellsOf 3)) = xs[0]? := hf 0 _ rfl
  have h1 : DataW.trod enc Tryd.prog W 0 (fun _ => true) true n 3 (([c0, c1, c2].drop 1).take (Tryd.prog.cellsOf 3)) = xs[1]? := hf 1 _ rfl
  have h2 : DataW.trod enc Tryd.prog W 0 (fun _ => true) true n 31 (([c0, c1, c2].drop 2).take (Tryd.prog.cellsOf 31)) = xs[2]? := hf 2 _ rfl
  have hxl' : xs.length = 3 := hxl
  rw [List.getElem?_eq_getElem (by omega)] at h0 h1 h2
  obtain ⟨z0, e0, w0⟩ := int_of_trod Tryd.underlying3 h0
  obtain ⟨z1, e1, w1⟩ := int_of_trod Tryd.underlying3 h1
  simp only [cells3] at e0 e1
  have e2 : ([c0, c1, c2].drop 2).take (Tryd.prog.cellsOf 31) = [c2] := by rw [cells31]; rfl
  have h2' : DataW.trod enc Tryd.prog W 0 (fun _ => true) true n 31 [c2] = some xs[2] := by rw [← e2]; exact h2
  obtain ⟨bs, hb⟩ := bytes_of_trod Tryd.underlying31 Tryd.underlying5 cells5 h2'
  have e0' : c0 = .int .i64 z0 := by simpa using e0
  have e1' : c1 = .int .i64 z1 := by simpa using e1
  exact ⟨⟨z0, z1, c2, bs⟩, by rw [e0', e1'], hb, (bounds_i64 w1).2⟩

theorem ops_of_trod {v : Value} {fuel : Nat} {y : DataW H × List MemPlace} (h : DataW.trod enc Tryd.prog W 0 (fun _ => true) true fuel 42 [v] = some y) : ∃ ops : List OpD, RdOps W v ops := by
  obtain ⟨n, l, ⟨a, cap, rfl, hn, hcap, hl, hc⟩, hel⟩ := rd_of_trod Tryd.underlying42 h
  rw [cells48] at hl hel
  obtain ⟨X, hX⟩ := Go.Deep.choose_lt (α := OpD) (n := n) (p := fun i x => (l.drop (i * 3)).take 3 = [.int .i64 x.do_, .int .i64 x.n, x.v] ∧ Rd W [] 1 x.v x.data.length (x.data.map byv) ∧ x.n ≤ 9223372036854775807)
    (fun i hi => by
      obtain ⟨m, y, hy⟩ := hel i hi
      exact op_of_trod hy)
  have hn63 : n ≤ 9223372036854775807 := by simp only [maxLen] at hcap; omega
  refine ⟨(List.range n).map X, a, cap, by simp, by simpa using hn63, ?_⟩
  rcases Nat.eq_zero_or_pos n with h0 | hpos
  · left
    subst h0
    rfl
  · right
    rcases hc with rfl | ⟨b, o, rfl, hc⟩
    · simp at hl; omega
    · refine ⟨b, o, rfl, fun i x hx => ?_⟩
      rw [List.getElem?_map] at hx
      obtain ⟨j, hj, rfl⟩ := Option.map_eq_some_iff.1 hx
      have hij : i < n ∧ i = j := by
        rw [List.getElem?_eq_some_iff] at hj
        obtain ⟨h1, h2⟩ := hj
        simp at h1 h2
        exact ⟨h1, h2⟩
      obtain ⟨hi, rfl⟩ := hij
      obtain ⟨h1, h2, h3⟩ := hX i hi
      have key : ∀ q u, q < 3 → [Value.int .i64 (X i).do_, .int .i64 (X i).n, (X i).v][q]? = some u → Cel W [] ⟨b, o + i * 3 + q, none⟩ u := by
        intro q u hq hu
        have := hc (i * 3 + q) u (by
          rw [← h1, List.getElem?_take, if_pos hq, List.getElem?_drop] at hu
          exact hu)
        rwa [← Nat.add_assoc] at this
      exact ⟨key 0 _ (by omega) rfl, key 1 _ (by omega) rfl, key 2 _ (by omega) rfl, h2, h3⟩
end

/-- what the walk gives, for every argument and every world -/
theorem contract (H : Type) (enc : TypeId × Value → H) (W : World) (base : Nat) (args : Array Value) (ds gs : List (DataW H)) (before : List MemPlace)
    (hval : ∀ (j : Nat) t v, Tryd.f4.params[j]? = some t → args[j]? = some v → Value.okWide Tryd.prog W .any base t v)
    (hW : DataW.Whole enc Tryd.prog Tryd.f4.params.toList Rows.journalKeepsSpec.vars false W args.toList ds gs before) :
    Calls Tryd.prog 4 args W fun e W' => ∃ v, e = .returned v ∧ Rows.journalKeepsSpec.post enc Tryd.prog Tryd.f4 false true false false W args v W' := by
  have hW' := hW
  obtain ⟨p, q, hA, hV, rfl, hfz, hnd⟩ := hW
  rw [Tryd.params4] at hA hval
  obtain ⟨v0, vs0, d0, ds0, p0, q0, hargs, rfl, rfl, h0, r0⟩ := trodAll_cons hA
  obtain ⟨v1, vs1, d1, ds1, p1, q1, rfl, rfl, rfl, h1, r1⟩ := trodAll_cons r0
  obtain ⟨rfl, rfl, rfl⟩ := trodAll_nil r1
  obtain rfl : args = #[v0, v1] := by cases args; simp_all
  obtain ⟨rfl, rfl⟩ := trodVars_none hV
  obtain ⟨z, rfl, _, _, _⟩ := open_int Tryd.underlying3 (hval 0 3 v0 rfl rfl) h0
  obtain ⟨a, len, cap, rfl⟩ := okWide_slice Tryd.underlying42 (hval 1 42 v1 rfl rfl)
  obtain ⟨fuel, h1⟩ := h1
  obtain ⟨ops, hops⟩ := ops_of_trod h1
  refine ((c4 (x0 := z) hops) [] W (Wd.start W)).mono ?_
  rintro e W' ⟨Ho, hr, hw⟩
  cases e with
  | returned v =>
    obtain ⟨rfl, rfl⟩ := hr
    exact ⟨_, rfl, law_post laidOut (by kernel_rfl) rfl (by kernel_rfl) Tryd.underlying4 hW' rfl rfl rfl hw.below⟩
  | _ => exact hr.elim

/-- a block that holds what a datum lays -/
def lay (d : DataW Unit) : Obj → Obj
  | .cells _ t frozen => .cells (flat 5 d).toArray t frozen
  | o => o
/-- a world for the witness: the listed tables hold what they are laid with -/
noncomputable def laidWorld (os : Os) : World :=
  { World.holding Tryd.prog os ⟨#[], #[], []⟩ with heap := ((World.holding Tryd.prog os ⟨#[], #[], []⟩).heap.modify 0 (lay Rows.laid_unicode_utf8_first)).modify 1 (lay Rows.laid_unicode_utf8_acceptRanges) }
theorem laid_met (os : Os) : laidMet Tryd.prog Rows.journalKeepsRow.laid ((laidWorld os).forCall (fun _ _ => 0) ⟨#[], #[.int .i64 0, .slice Option.none 0 0], []⟩).memory :=
  laidMet_of_run' 8 (by kernel_rfl) (by kernel_rfl)
theorem reads (os : Os) {H : Type} (enc : TypeId × Value → H) : ∃ places, DataW.whole enc Tryd.prog ((laidWorld os).forCall (fun _ _ => 0) ⟨#[], #[.int .i64 0, .slice Option.none 0 0], []⟩).memory Tryd.f4.params.toList Rows.journalKeepsSpec.vars false #[Value.int .i64 0, .slice Option.none 0 0].toList 8 = some ([.lit (.int .i64 0), .nil], [], places) :=
  ⟨[], by kernel_rfl⟩

set_option maxRecDepth 100000 in
theorem lifted (os : Os) (started : os.Started) (H : Type) (enc : TypeId × Value → H) (F : Stop.Interp) :
    ReturnsInHanded {} Tryd.checked os 4 .any ((OpenSpec.ofChange Rows.journalKeepsSpec).preRow enc Tryd.prog Tryd.f4 Rows.journalKeepsRow.domain false Rows.journalKeepsRow.laid) (((OpenSpec.ofChange Rows.journalKeepsSpec).at F).post enc Tryd.prog Tryd.f4 false true false false) := by
  obtain ⟨places, hx⟩ := reads os enc
  refine returnsInHanded_of_row (C := Tryd.checked) (s := OpenSpec.ofChange Rows.journalKeepsSpec) own started (by kernel_rfl) Tryd.func4
    (witness_row_at (enc := enc) (C := Tryd.checked) false (laidWorld os) #[.int .i64 0, .slice Option.none 0 0] rfl (by kernel_rfl) (by kernel_rfl) (by kernel_rfl)
      (OpenSpec.preRow_of_cond 8 hx (by kernel_rfl) (fun k hk => by cases hk) (by kernel_rfl) (laid_met os))) ?_
  intro W base args ds gs before hval hW _ _ _ hL _ _
  exact contract H enc W base args ds gs before hval hW

theorem said : Rows.JournalKeepsSaid :=
  OpenClaim.holds_of_cond 4 Tryd.f4 rfl rfl rfl rfl rfl rfl rfl ⟨rfl, rfl, rfl, rfl, rfl⟩ rfl rfl rfl rfl rfl (by kernel_rfl) Tryd.func4 (by kernel_rfl)
    (of_decide_eq_true (by kernel_rfl)) (by unfold Func.isWrapper; first | (rw [if_pos (by decide +kernel)]; kernel_rfl) | (rw [if_neg (by decide +kernel)]; exact ⟨rfl, rfl⟩))
    (fun os started H enc _ F => by rw [OpenClaim.pre_eq_preRow]; exact lifted os started H enc F)

theorem plain (f : FuncId) (fn : Func) (hf : Tryd.pinned.checked.prog.funcNamed "provost/provostlaw20.JournalKeeps" = some f) (hfn : Tryd.pinned.checked.prog.funcs[f]? = some fn) :
    false = Tryd.pinned.checked.prog.looks [] ∧ ∀ (j : Nat) t, fn.params[j]? = some t → Tryd.pinned.checked.prog.wantsStandIn t = false := by
  obtain rfl : f = 4 := Option.some.inj ((show Tryd.prog.funcNamed "provost/provostlaw20.JournalKeeps" = some 4 by kernel_rfl).symm.trans hf) |>.symm
  obtain rfl : fn = Tryd.f4 := (Option.some.inj (Tryd.func4.symm.trans hfn)).symm
  refine ⟨by kernel_rfl, fun j t ht => ?_⟩
  rw [Tryd.params4] at ht
  have hm := Array.mem_of_getElem? ht
  have hall : (#[3, 42] : Array TypeId).toList.all (fun t => !(Tryd.prog.wantsStandIn t)) = true := by kernel_rfl
  have h2 := List.all_eq_true.1 hall t (by simpa using hm)
  have h3 : Tryd.prog.wantsStandIn t = false := by simpa using h2
  exact h3

/-- the card -/
theorem card : Rows.JournalKeepsCardSaid :=
  Claim7.holds_tied_plain_at .later [] _ _ _ _ said (fun _ h => by cases h) (by kernel_rfl) (fun _ h => by cases h) journalKeeps_row_tie rfl ⟨rfl, rfl⟩ (by kernel_rfl) rfl plain (by kernel_rfl)
end Go.Proofs.YtpmpomknnppnjaaDoor.keeps
