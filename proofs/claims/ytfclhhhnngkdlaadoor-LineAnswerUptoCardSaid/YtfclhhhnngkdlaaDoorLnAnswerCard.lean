/- Proved: the law LineAnswer of the package provostlaw25 returns true for every input of bulk at most 1048576 and leaves its arguments as they were (the tied card of its row, the second form). Conditions: those of the row (the bulk; the listed tables of internal/strconv and math/bits read as laid, which the card ties to the text of the program); none beyond. -/
import Derived.Test.YtfclhhhnngkdlaaDoorLnLaw5
import Derived.Test.YtfclhhhnngkdlaaDoorEngLaw2
import Derived.LaidSub
import Derived.Test.YtfclhhhnngkdlaaDoorEngLaw
import Derived.Test.YtfclhhhnngkdlaaDoorRows
import Derived.Test.YtfclhhhnngkdlaaDoorCards
import Derived.Test.YtfclhhhnngkdlaaDoorTie
import Derived.Lib.LaidTab
set_option linter.unusedVariables false
set_option linter.unusedSimpArgs false
namespace Go.Proofs.YtfclhhhnngkdlaaDoor.answer
open Go Go.ChangeShapes Go.WideShapes Go.ChangeAt Go.RowKit Go.Proofs.Eng Go.Proofs.Ln
theorem own : ownKnob Tryd.prog.godebug = none := by kernel_rfl
theorem laidOut : laidOutB Tryd.prog = true := by kernel_rfl
theorem pow_table {W : World} (hL : laidMetH Tryd.prog Rows.lineAnswerUptoRow.laid W) : ∀ i, i < 20 → Cel W [] ⟨0, i, none⟩ (.int .u64 ((10 ^ i : Nat) : Int)) := by
  have h1 := (laidMetH_iff.1 hL).1.filter (fun x => x.1 == "internal/strconv.uint64pow10")
  have e : ((Rows.lineAnswerUptoRow.laid.filter fun x => x.2.handleName?.isNone).filter fun x => x.1 == "internal/strconv.uint64pow10") = [("internal/strconv.uint64pow10", Lib.tabData .u64 Lib.pow10Tab)] := by kernel_rfl
  rw [e] at h1
  have hT : Lib.TabIs Tryd.prog W "internal/strconv.uint64pow10" .u64 Lib.pow10Tab := Lib.tabIs_of_head (g := 0) (t := 117) (e := 73) (n := 20) (by kernel_rfl) (by kernel_rfl) Ln.u117.u Ln.u73.u (by kernel_rfl) (by kernel_rfl) h1
  intro i hi
  have := hT.cell (g := 0) (by kernel_rfl) i (by rw [Lib.pow10Tab_length]; exact hi)
  rw [Lib.pow10Tab_at i hi] at this
  exact cel_of this
theorem bulk_lines {H : Type} : ∀ ls : List (List UInt8), Rows.uptoBulkAll (ls.map fun l => (.lit (.string l) : DataW H)) = (ls.map fun l => l.length + 1).sum
  | [] => by simp [Rows.uptoBulkAll]
  | l :: r => by simp [Rows.uptoBulkAll, Rows.uptoBulk, bulk_lines r]
theorem answer_len (num : List UInt8) (hn : num.length ≤ 100) : ∀ ls : List (List UInt8), (answerOf 0 num ls).length ≤ 200 + 3 * (ls.map fun l => l.length + 1).sum := by
  intro ls
  have : ∀ ls : List (List UInt8), (ls.flatMap fun l => [124, 32] ++ l ++ [10]).length ≤ 3 * (ls.map fun l => l.length + 1).sum := by
    intro ls
    induction ls with
    | nil => simp
    | cons l r ih => rw [List.flatMap_cons, List.length_append, List.map_cons, List.sum_cons]; simp only [List.length_append, List.length_cons, List.length_nil]; omega
  have := this ls
  unfold answerOf
  rw [if_neg (by simp)]
  simp only [List.length_append, List.length_cons, List.length_nil] at this ⊢
  omega
theorem itoa_len (n : Int) (h : -9223372036854775808 ≤ n ∧ n ≤ 9223372036854775807) : (Lib.itoa n).length ≤ 100 := by
  rcases int_cases n with ⟨u, rfl⟩ | ⟨u, hu, rfl⟩
  · rw [Lib.itoa_nonneg]; have := dec_len u (by omega); omega
  · rw [Lib.itoa_neg u hu]; have := dec_len u (by omega); simp only [List.length_cons]; omega

set_option maxRecDepth 100000 in
/-- what the walk gives, for every argument and every world -/
theorem contract (H : Type) (enc : TypeId × Value → H) (W : World) (base : Nat) (args : Array Value) (ds gs : List (DataW H)) (before : List MemPlace)
    (hval : ∀ (j : Nat) t v, Tryd.f5.params[j]? = some t → args[j]? = some v → Value.okWide Tryd.prog W .any base t v)
    (hW : DataW.Whole enc Tryd.prog Tryd.f5.params.toList Rows.lineAnswerSpec.vars false W args.toList ds gs before) (hk : Rows.uptoSmall H (ds ++ gs) = true) (hL : laidMetH Tryd.prog Rows.lineAnswerUptoRow.laid W) :
    Calls Tryd.prog 5 args W fun e W' => ∃ v, e = .returned v ∧ Rows.lineAnswerSpec.post enc Tryd.prog Tryd.f5 false true false false W args v W' := by
  have hW' := hW
  obtain ⟨p, q, hA, hV, rfl, hfz, hnd⟩ := hW
  rw [Tryd.params5] at hA hval
  obtain ⟨v0, vs0, d0, ds0, p0, q0, hargs, rfl, rfl, h0, r0⟩ := trodAll_cons hA
  obtain ⟨rfl, rfl, rfl⟩ := trodAll_nil r0
  obtain rfl : args = #[v0] := by cases args; simp_all
  obtain ⟨rfl, rfl⟩ := trodVars_none hV
  have hT := pow_table hL
  obtain ⟨cs, rfl, hcs⟩ := okWide_struct Tryd.underlying34 (hval 0 34 v0 rfl rfl)
  rw [show Tryd.prog.cellsOf 34 = 3 by kernel_rfl] at hcs
  obtain ⟨fuel0, h0⟩ := h0
  obtain ⟨m0, y0, f0, ag0, ha0, hd0, _⟩ := field_of_trodT Tryd.underlying34 h0 0 0 23 1 rfl (by kernel_rfl)
  obtain ⟨m1, y1, f1, ag1, ha1, hd1, _⟩ := field_of_trodT Tryd.underlying34 h0 1 1 3 1 rfl (by kernel_rfl)
  obtain ⟨m2, y2, f2, ag2, ha2, hd2, hag2⟩ := field_of_trodT Tryd.underlying34 h0 2 2 32 1 rfl (by kernel_rfl)
  obtain ⟨l⟩ := cs
  obtain ⟨a, b, c, rfl⟩ : ∃ a b c, l = [a, b, c] := by
    match l, hcs with
    | [a, b, c], _ => exact ⟨a, b, c, rfl⟩
  obtain ⟨e0, he0, _⟩ := int_of_trod Tryd.underlying23 f0
  obtain ⟨n0, hn0, hwf⟩ := int_of_trod Tryd.underlying3 f1
  obtain rfl : a = .int .i64 e0 := (List.cons.inj (show [a] = [.int .i64 e0] from he0)).1
  obtain rfl : b = .int .i64 n0 := (List.cons.inj (show [b] = [.int .i64 n0] from hn0)).1
  obtain ⟨ls, hls, hlsd⟩ := strs_of_trod (v := c) Tryd.underlying32 Tryd.underlying9 (by kernel_rfl) f2
  have hbk : (ls.map fun l => l.length + 1).sum ≤ 1048576 := by
    have hb := of_decide_eq_true hk
    rcases hlsd with ⟨rfl, _⟩ | ⟨spare, hsl⟩
    · simp
    · have e1 : d0 = .agg ag2 := ha2
      rw [e1] at hb
      have hm : (DataW.slice (ls.map fun l => .lit (.string l)) spare) ∈ ag2 := by rw [← hsl]; exact List.mem_of_getElem? hd2
      have h1 : ∀ l : List (DataW H), ∀ d ∈ l, Rows.uptoBulk d ≤ Rows.uptoBulkAll l := by
        intro l
        induction l with
        | nil => intro d hd; cases hd
        | cons x r ih =>
          intro d hd
          simp only [Rows.uptoBulkAll]
          rcases List.mem_cons.1 hd with rfl | hd
          · omega
          · have := ih d hd; omega
      have h2 := h1 ag2 _ hm
      simp only [Rows.uptoBulkAll, Rows.uptoBulk, List.append_nil, bulk_lines] at hb h2
      omega
  have hw64 := wf64 hwf
  have hal := answer_len (Lib.itoa n0) (itoa_len n0 hw64) ls
  refine ((c5 (e := e0) (n := n0) (lines := ls) (v := c) hw64 hls (by omega) hT) [] W (Wd.start W)).mono ?_
  rintro e W' ⟨Ho, hr, hw⟩
  cases e with
  | returned v =>
    obtain ⟨rfl, rfl⟩ := hr
    exact ⟨_, rfl, law_post laidOut (by kernel_rfl) rfl (by kernel_rfl) Tryd.underlying4 hW' rfl rfl rfl hw.below⟩
  | _ => exact hr.elim

/-- what a datum's cells are -/
def flat : Nat → DataW Unit → List Value
  | 0, _ => []
  | n + 1, .agg l => l.flatMap (flat n)
  | _ + 1, .lit (.int k x) => [.int k x]
  | _ + 1, _ => []
/-- a block that holds what a datum lays -/
def lay (d : DataW Unit) : Obj → Obj
  | .cells _ t frozen => .cells (flat 5 d).toArray t frozen
  | o => o
/-- a world for the witness: the listed tables hold what they are laid with -/
noncomputable def laidWorld (os : Os) : World :=
  { World.holding Tryd.prog os ⟨#[], #[], []⟩ with heap := ((((World.holding Tryd.prog os ⟨#[], #[], []⟩).heap).modify 2 (lay Rows.laid_math_bits_deBruijn32tab)).modify 3 (lay Rows.laid_math_bits_deBruijn64tab)).modify 0 (lay Rows.laid_internal_strconv_uint64pow10) }
theorem laid_met (os : Os) : laidMet Tryd.prog Rows.lineAnswerUptoRow.laid ((laidWorld os).forCall (fun _ _ => 0) ⟨#[], #[.agg #[.int .i64 0, .int .i64 0, .slice Option.none 0 0]], []⟩).memory :=
  laidMet_of_run' 8 (by kernel_rfl) (by kernel_rfl)
theorem reads (os : Os) {H : Type} (enc : TypeId × Value → H) : ∃ places, DataW.whole enc Tryd.prog ((laidWorld os).forCall (fun _ _ => 0) ⟨#[], #[.agg #[.int .i64 0, .int .i64 0, .slice Option.none 0 0]], []⟩).memory Tryd.f5.params.toList Rows.lineAnswerSpec.vars false (#[.agg #[.int .i64 0, .int .i64 0, .slice Option.none 0 0]] : Array Value).toList 8 = some ([.agg [.lit (.int .i64 0), .lit (.int .i64 0), .nil]], [], places) :=
  ⟨[], by kernel_rfl⟩
set_option maxRecDepth 100000 in
theorem lifted (os : Os) (started : os.Started) (H : Type) (enc : TypeId × Value → H) (F : Stop.Interp) :
    ReturnsInHanded {} Tryd.checked os 5 .any ((Rows.OpenSpec.upto Rows.lineAnswerSpec).preRow enc Tryd.prog Tryd.f5 Rows.lineAnswerUptoRow.domain false Rows.lineAnswerUptoRow.laid) (((Rows.OpenSpec.upto Rows.lineAnswerSpec).at F).post enc Tryd.prog Tryd.f5 false true false false) := by
  obtain ⟨places, hx⟩ := reads os enc
  refine returnsInHanded_of_row (C := Tryd.checked) (s := Rows.OpenSpec.upto Rows.lineAnswerSpec) own started (by kernel_rfl) Tryd.func5
    (witness_row_at (enc := enc) (C := Tryd.checked) false (laidWorld os) #[.agg #[.int .i64 0, .int .i64 0, .slice Option.none 0 0]] rfl (by kernel_rfl) (by kernel_rfl) (by kernel_rfl)
      (OpenSpec.preRow_of_cond 8 hx (by kernel_rfl) (fun k hk => by cases hk; kernel_rfl) (by kernel_rfl) (laid_met os))) ?_
  intro W base args ds gs before hval hW _ hcond _ hL _ _
  exact contract H enc W base args ds gs before hval hW (hcond _ rfl) hL
theorem said : Rows.LineAnswerUptoSaid :=
  OpenClaim.holds_of_cond 5 Tryd.f5 rfl rfl rfl rfl rfl rfl rfl ⟨rfl, rfl, rfl, rfl, rfl⟩ rfl rfl rfl rfl rfl (by kernel_rfl) Tryd.func5 (by kernel_rfl)
    (of_decide_eq_true (by kernel_rfl)) (by unfold Func.isWrapper; first | (rw [if_pos (by decide +kernel)]; kernel_rfl) | (rw [if_neg (by decide +kernel)]; exact ⟨rfl, rfl⟩))
    (fun os started H enc _ F => by rw [OpenClaim.pre_eq_preRow]; exact lifted os started H enc F)
theorem plain (f : FuncId) (fn : Func) (hf : Tryd.pinned.checked.prog.funcNamed "provost/provostlaw25.LineAnswer" = some f) (hfn : Tryd.pinned.checked.prog.funcs[f]? = some fn) :
    false = Tryd.pinned.checked.prog.looks [] ∧ ∀ (j : Nat) t, fn.params[j]? = some t → Tryd.pinned.checked.prog.wantsStandIn t = false := by
  obtain rfl : f = 5 := Option.some.inj ((show Tryd.prog.funcNamed "provost/provostlaw25.LineAnswer" = some 5 by kernel_rfl).symm.trans hf) |>.symm
  obtain rfl : fn = Tryd.f5 := (Option.some.inj (Tryd.func5.symm.trans hfn)).symm
  refine ⟨by kernel_rfl, fun j t ht => ?_⟩
  rw [Tryd.params5] at ht
  have hm := Array.mem_of_getElem? ht
  have hall : (#[34] : Array TypeId).toList.all (fun t => !(Tryd.prog.wantsStandIn t)) = true := by kernel_rfl
  have h2 := List.all_eq_true.1 hall t (by simpa using hm)
  have h3 : Tryd.prog.wantsStandIn t = false := by simpa using h2
  exact h3
/-- the card -/
theorem card : Rows.LineAnswerUptoCardSaid :=
  Claim7.holds_tied_plain_at .later [] _ _ _ _ said (fun _ h => by cases h) (by kernel_rfl) (fun _ h => by cases h) lineAnswerUpto_row_tie rfl ⟨rfl, rfl⟩ (by kernel_rfl) rfl plain (by kernel_rfl)
end Go.Proofs.YtfclhhhnngkdlaaDoor.answer
