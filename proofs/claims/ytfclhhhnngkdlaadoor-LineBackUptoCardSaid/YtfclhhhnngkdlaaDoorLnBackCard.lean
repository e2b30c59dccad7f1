/- Proved: the law LineBack of the package provostlaw25 returns true for every input of bulk at most 1048576 and leaves its arguments as they were (the tied card of its row, the second form). Conditions: those of the row (the bulk; the listed tables of internal/strconv and math/bits read as laid, which the card ties to the text of the program); none beyond. -/
import Derived.Test.YtfclhhhnngkdlaaDoorLnLaw7
import Derived.Test.YtfclhhhnngkdlaaDoorEngLaw2
import Derived.LaidSub
import Derived.Test.YtfclhhhnngkdlaaDoorEngLaw
import Derived.Test.YtfclhhhnngkdlaaDoorRows
import Derived.Test.YtfclhhhnngkdlaaDoorCards
import Derived.Test.YtfclhhhnngkdlaaDoorTie
import Derived.Lib.LaidTab
set_option linter.unusedVariables false
set_option linter.unusedSimpArgs false
namespace Go.Proofs.YtfclhhhnngkdlaaDoor.backlaw
open Go Go.ChangeShapes Go.WideShapes Go.ChangeAt Go.RowKit Go.Proofs.Eng Go.Proofs.Ln
theorem own : ownKnob Tryd.prog.godebug = none := by kernel_rfl
theorem laidOut : laidOutB Tryd.prog = true := by kernel_rfl
theorem pow_table {W : World} (hL : laidMetH Tryd.prog Rows.lineBackUptoRow.laid W) : ∀ i, i < 20 → Cel W [] ⟨0, i, none⟩ (.int .u64 ((10 ^ i : Nat) : Int)) := by
  have h1 := (laidMetH_iff.1 hL).1.filter (fun x => x.1 == "internal/strconv.uint64pow10")
  have e : ((Rows.lineBackUptoRow.laid.filter fun x => x.2.handleName?.isNone).filter fun x => x.1 == "internal/strconv.uint64pow10") = [("internal/strconv.uint64pow10", Lib.tabData .u64 Lib.pow10Tab)] := by kernel_rfl
  rw [e] at h1
  have hT : Lib.TabIs Tryd.prog W "internal/strconv.uint64pow10" .u64 Lib.pow10Tab := Lib.tabIs_of_head (g := 0) (t := 117) (e := 73) (n := 20) (by kernel_rfl) (by kernel_rfl) Ln.u117.u Ln.u73.u (by kernel_rfl) (by kernel_rfl) h1
  intro i hi
  have := hT.cell (g := 0) (by kernel_rfl) i (by rw [Lib.pow10Tab_length]; exact hi)
  rw [Lib.pow10Tab_at i hi] at this
  exact cel_of this
theorem bulk_mem {H : Type} {d : DataW H} : ∀ {l : List (DataW H)}, d ∈ l → Rows.uptoBulk d ≤ Rows.uptoBulkAll l
  | [], h => by cases h
  | x :: r, h => by
    simp only [Rows.uptoBulkAll]
    rcases List.mem_cons.1 h with rfl | h
    · omega
    · have := bulk_mem h; omega
theorem bulk_cons {H : Type} (d : DataW H) (l : List (DataW H)) : Rows.uptoBulkAll (d :: l) = Rows.uptoBulk d + Rows.uptoBulkAll l := by simp [Rows.uptoBulkAll]

set_option maxRecDepth 100000 in
/-- what the walk gives, for every argument and every world -/
theorem contract (H : Type) (enc : TypeId × Value → H) (W : World) (base : Nat) (args : Array Value) (ds gs : List (DataW H)) (before : List MemPlace)
    (hval : ∀ (j : Nat) t v, Tryd.f8.params[j]? = some t → args[j]? = some v → Value.okWide Tryd.prog W .any base t v)
    (hW : DataW.Whole enc Tryd.prog Tryd.f8.params.toList Rows.lineBackSpec.vars false W args.toList ds gs before) (hk : Rows.uptoSmall H (ds ++ gs) = true) (hL : laidMetH Tryd.prog Rows.lineBackUptoRow.laid W) :
    Calls Tryd.prog 8 args W fun e W' => ∃ v, e = .returned v ∧ Rows.lineBackSpec.post enc Tryd.prog Tryd.f8 false true false false W args v W' := by
  have hW' := hW
  obtain ⟨p, q, hA, hV, rfl, hfz, hnd⟩ := hW
  rw [Tryd.params8] at hA hval
  obtain ⟨v0, vs0, d0, ds0, p0, q0, hargs, rfl, rfl, h0, r0⟩ := trodAll_cons hA
  obtain ⟨v1, vs1, d1, ds1, p1, q1, rfl, rfl, rfl, h1, r1⟩ := trodAll_cons r0
  obtain ⟨rfl, rfl, rfl⟩ := trodAll_nil r1
  obtain rfl : args = #[v0, v1] := by cases args; simp_all
  obtain ⟨rfl, rfl⟩ := trodVars_none hV
  have hT := pow_table hL
  obtain ⟨s1, rfl⟩ := okWide_string Tryd.underlying9 (hval 1 9 v1 rfl rfl)
  obtain ⟨cs, rfl, hcs⟩ := okWide_struct Tryd.underlying43 (hval 0 43 v0 rfl rfl)
  rw [show Tryd.prog.cellsOf 43 = 6 by kernel_rfl] at hcs
  obtain ⟨fuel0, h0⟩ := h0
  obtain ⟨mo, yo, fo, ago, hao, hdo, _⟩ := field_of_trodT Tryd.underlying43 h0 0 0 3 1 rfl (by kernel_rfl)
  obtain ⟨ma, ya, fa, aga, haa, hda, _⟩ := field_of_trodT Tryd.underlying43 h0 1 1 9 1 rfl (by kernel_rfl)
  obtain ⟨mb, yb, fb, agb, hab, hdb, _⟩ := field_of_trodT Tryd.underlying43 h0 2 2 9 1 rfl (by kernel_rfl)
  obtain ⟨mc, yc, fc, agc, hac, hdc, _⟩ := field_of_trodT Tryd.underlying43 h0 3 3 9 1 rfl (by kernel_rfl)
  obtain ⟨mn, yn, fn, agn, han, hdn, _⟩ := field_of_trodT Tryd.underlying43 h0 4 4 3 1 rfl (by kernel_rfl)
  obtain ⟨mt, yt, ft, agt, hat, hdt, _⟩ := field_of_trodT Tryd.underlying43 h0 5 5 9 1 rfl (by kernel_rfl)
  obtain ⟨l⟩ := cs
  obtain ⟨xo, xa, xb, xc, xn, xt, rfl⟩ : ∃ a b c d e f, l = [a, b, c, d, e, f] := by
    match l, hcs with
    | [a, b, c, d, e, f], _ => exact ⟨a, b, c, d, e, f, rfl⟩
  obtain ⟨zo, hzo, hwfo⟩ := int_of_trod Tryd.underlying3 fo
  obtain rfl : xo = .int .i64 zo := (List.cons.inj (show [xo] = [.int .i64 zo] from hzo)).1
  obtain ⟨za, hza, hya, _⟩ := DataW.trod_string Tryd.underlying9 fa
  obtain rfl : xa = .string za := (List.cons.inj (show [xa] = [.string za] from hza)).1
  obtain ⟨zb, hzb, hyb, _⟩ := DataW.trod_string Tryd.underlying9 fb
  obtain rfl : xb = .string zb := (List.cons.inj (show [xb] = [.string zb] from hzb)).1
  obtain ⟨zc, hzc, hyc, _⟩ := DataW.trod_string Tryd.underlying9 fc
  obtain rfl : xc = .string zc := (List.cons.inj (show [xc] = [.string zc] from hzc)).1
  obtain ⟨zn, hzn, hwfn⟩ := int_of_trod Tryd.underlying3 fn
  obtain rfl : xn = .int .i64 zn := (List.cons.inj (show [xn] = [.int .i64 zn] from hzn)).1
  obtain ⟨zt, hzt, hyt, _⟩ := DataW.trod_string Tryd.underlying9 ft
  obtain rfl : xt = .string zt := (List.cons.inj (show [xt] = [.string zt] from hzt)).1
  have hb := of_decide_eq_true hk
  rw [hya] at hda
  have hba := bulk_mem (List.mem_of_getElem? hda)
  rw [hyb] at hdb
  have hbb := bulk_mem (List.mem_of_getElem? hdb)
  have ea : d0 = .agg aga := haa
  have eb : d0 = .agg agb := hab
  obtain rfl : aga = agb := by rw [ea] at eb; injection eb
  rw [ea] at hb
  simp only [List.append_nil, bulk_cons, Rows.uptoBulk] at hb hba hbb
  have hw64 := wf64 hwfn
  refine ((c8 (c := ⟨zo, za.data.toList, zb.data.toList, zc.data.toList, zn, zt.data.toList⟩) (t := s1.data.toList) (by dsimp only; omega) hw64 hT) [] W (Wd.start W)).mono ?_
  rintro e W' ⟨Ho, hr, hw⟩
  cases e with
  | returned v =>
    obtain ⟨rfl, rfl⟩ := hr
    exact ⟨_, rfl, law_post laidOut (by kernel_rfl) rfl (by kernel_rfl) Tryd.underlying4 hW' rfl rfl rfl hw.below⟩
  | _ => exact hr.elim

/-- what a datum's cells are -/
def flat : Nat → DataW Unit → List Value
  | 0, _ => []
  | n + 1, .agg l => l.flatMap (flat n)
  | _ + 1, .lit (.int k x) => [.int k x]
  | _ + 1, _ => []
/-- a block that holds what a datum lays -/
def lay (d : DataW Unit) : Obj → Obj
  | .cells _ t frozen => .cells (flat 5 d).toArray t frozen
  | o => o
/-- a world for the witness: the listed tables hold what they are laid with -/
noncomputable def laidWorld (os : Os) : World :=
  { World.holding Tryd.prog os ⟨#[], #[], []⟩ with heap := ((((World.holding Tryd.prog os ⟨#[], #[], []⟩).heap).modify 2 (lay Rows.laid_math_bits_deBruijn32tab)).modify 3 (lay Rows.laid_math_bits_deBruijn64tab)).modify 0 (lay Rows.laid_internal_strconv_uint64pow10) }
theorem laid_met (os : Os) : laidMet Tryd.prog Rows.lineBackUptoRow.laid ((laidWorld os).forCall (fun _ _ => 0) ⟨#[], #[.agg #[.int .i64 0, .string ByteArray.empty, .string ByteArray.empty, .string ByteArray.empty, .int .i64 0, .string ByteArray.empty], .string ByteArray.empty], []⟩).memory :=
  laidMet_of_run' 8 (by kernel_rfl) (by kernel_rfl)
theorem reads (os : Os) {H : Type} (enc : TypeId × Value → H) : ∃ places, DataW.whole enc Tryd.prog ((laidWorld os).forCall (fun _ _ => 0) ⟨#[], #[.agg #[.int .i64 0, .string ByteArray.empty, .string ByteArray.empty, .string ByteArray.empty, .int .i64 0, .string ByteArray.empty], .string ByteArray.empty], []⟩).memory Tryd.f8.params.toList Rows.lineBackSpec.vars false (#[.agg #[.int .i64 0, .string ByteArray.empty, .string ByteArray.empty, .string ByteArray.empty, .int .i64 0, .string ByteArray.empty], .string ByteArray.empty] : Array Value).toList 8 = some ([.agg [.lit (.int .i64 0), .lit (.string []), .lit (.string []), .lit (.string []), .lit (.int .i64 0), .lit (.string [])], .lit (.string [])], [], places) :=
  ⟨[], by kernel_rfl⟩
set_option maxRecDepth 100000 in
theorem lifted (os : Os) (started : os.Started) (H : Type) (enc : TypeId × Value → H) (F : Stop.Interp) :
    ReturnsInHanded {} Tryd.checked os 8 .any ((Rows.OpenSpec.upto Rows.lineBackSpec).preRow enc Tryd.prog Tryd.f8 Rows.lineBackUptoRow.domain false Rows.lineBackUptoRow.laid) (((Rows.OpenSpec.upto Rows.lineBackSpec).at F).post enc Tryd.prog Tryd.f8 false true false false) := by
  obtain ⟨places, hx⟩ := reads os enc
  refine returnsInHanded_of_row (C := Tryd.checked) (s := Rows.OpenSpec.upto Rows.lineBackSpec) own started (by kernel_rfl) Tryd.func8
    (witness_row_at (enc := enc) (C := Tryd.checked) false (laidWorld os) #[.agg #[.int .i64 0, .string ByteArray.empty, .string ByteArray.empty, .string ByteArray.empty, .int .i64 0, .string ByteArray.empty], .string ByteArray.empty] rfl (by kernel_rfl) (by kernel_rfl) (by kernel_rfl)
      (OpenSpec.preRow_of_cond 8 hx (by kernel_rfl) (fun k hk => by cases hk; kernel_rfl) (by kernel_rfl) (laid_met os))) ?_
  intro W base args ds gs before hval hW _ hcond _ hL _ _
  exact contract H enc W base args ds gs before hval hW (hcond _ rfl) hL
theorem said : Rows.LineBackUptoSaid :=
  OpenClaim.holds_of_cond 8 Tryd.f8 rfl rfl rfl rfl rfl rfl rfl ⟨rfl, rfl, rfl, rfl, rfl⟩ rfl rfl rfl rfl rfl (by kernel_rfl) Tryd.func8 (by kernel_rfl)
    (of_decide_eq_true (by kernel_rfl)) (by unfold Func.isWrapper; first | (rw [if_pos (by decide +kernel)]; kernel_rfl) | (rw [if_neg (by decide +kernel)]; exact ⟨rfl, rfl⟩))
    (fun os started H enc _ F => by rw [OpenClaim.pre_eq_preRow]; exact lifted os started H enc F)
theorem plain (f : FuncId) (fn : Func) (hf : Tryd.pinned.checked.prog.funcNamed "provost/provostlaw25.LineBack" = some f) (hfn : Tryd.pinned.checked.prog.funcs[f]? = some fn) :
    false = Tryd.pinned.checked.prog.looks [] ∧ ∀ (j : Nat) t, fn.params[j]? = some t → Tryd.pinned.checked.prog.wantsStandIn t = false := by
  obtain rfl : f = 8 := Option.some.inj ((show Tryd.prog.funcNamed "provost/provostlaw25.LineBack" = some 8 by kernel_rfl).symm.trans hf) |>.symm
  obtain rfl : fn = Tryd.f8 := (Option.some.inj (Tryd.func8.symm.trans hfn)).symm
  refine ⟨by kernel_rfl, fun j t ht => ?_⟩
  rw [Tryd.params8] at ht
  have hm := Array.mem_of_getElem? ht
  have hall : (#[43, 9] : Array TypeId).toList.all (fun t => !(Tryd.prog.wantsStandIn t)) = true := by kernel_rfl
  have h2 := List.all_eq_true.1 hall t (by simpa using hm)
  have h3 : Tryd.prog.wantsStandIn t = false := by simpa using h2
  exact h3
/-- the card -/
theorem card : Rows.LineBackUptoCardSaid :=
  Claim7.holds_tied_plain_at .later [] _ _ _ _ said (fun _ h => by cases h) (by kernel_rfl) (fun _ h => by cases h) lineBackUpto_row_tie rfl ⟨rfl, rfl⟩ (by kernel_rfl) rfl plain (by kernel_rfl)
end Go.Proofs.YtfclhhhnngkdlaaDoor.backlaw
