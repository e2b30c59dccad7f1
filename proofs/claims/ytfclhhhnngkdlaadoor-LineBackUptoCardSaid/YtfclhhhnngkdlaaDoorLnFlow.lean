/- Contracts of functions of the given program, each proved by walking its code: part of the proof of this claim; no condition beyond those that each theorem names. -/
import Derived.Test.YtfclhhhnngkdlaaDoorLnShow
set_option linter.unusedVariables false
set_option linter.unusedSimpArgs false
namespace Go.Proofs.Ln
open Go Go.RowKit Go.Proofs.Eng
/-- how many tokens a flow has, the line that is end alone among them -/
def flowEnd : List Tok → Option Nat
  | x :: y :: z :: r => if isAlone x y z then some 3 else (flowEnd (y :: z :: r)).map (· + 1)
  | _ => none
def flowOf (l : List Tok) : Call × Tok × Bool × List Tok :=
  match flowEnd l with
  | some n => ({ Call.zero with op := 18, text := (showGo false (l.take n)).getD [] }, Tok.zero, true, l.drop n)
  | none => (Call.zero, l.getLastD Tok.zero, false, l)
theorem flowEnd_short {l : List Tok} (h : l.length ≤ 2) : flowEnd l = none := by
  match l, h with
  | [], _ => rfl
  | [_], _ => rfl
  | [_, _], _ => rfl
theorem drop3 {l : List Tok} {i : Nat} {x y z : Tok} (h2 : 2 ≤ i) (hx : l[i - 2]? = some x) (hy : l[i - 1]? = some y) (hz : l[i]? = some z) : l.drop (i - 2) = x :: y :: z :: l.drop (i + 1) := by
  rw [drop_cons hx, show i - 2 + 1 = i - 1 by omega, drop_cons hy, show i - 1 + 1 = i by omega, drop_cons hz]
theorem flowEnd_hit {l : List Tok} {i : Nat} {x y z : Tok} (hI : flowEnd l = (flowEnd (l.drop (i - 2))).map (· + (i - 2))) (h2 : 2 ≤ i) (hx : l[i - 2]? = some x) (hy : l[i - 1]? = some y) (hz : l[i]? = some z) (ha : isAlone x y z = true) : flowEnd l = some (i + 1) := by
  rw [hI, drop3 h2 hx hy hz]
  simp only [flowEnd]
  rw [if_pos ha]
  simp only [Option.map_some, Option.some.injEq]
  omega
theorem flowEnd_on {l : List Tok} {i : Nat} {x y z : Tok} (hI : flowEnd l = (flowEnd (l.drop (i - 2))).map (· + (i - 2))) (h2 : 2 ≤ i) (hx : l[i - 2]? = some x) (hy : l[i - 1]? = some y) (hz : l[i]? = some z) (ha : isAlone x y z = false) : flowEnd l = (flowEnd (l.drop (i + 1 - 2))).map (· + (i + 1 - 2)) := by
  rw [hI, drop3 h2 hx hy hz]
  simp only [flowEnd]
  rw [if_neg (by simp [ha]), Option.map_map]
  have e : l.drop (i + 1 - 2) = y :: z :: l.drop (i + 1) := by rw [show i + 1 - 2 = i - 1 by omega, drop_cons hy, show i - 1 + 1 = i by omega, drop_cons hz]
  rw [e]
  congr 1
  funext k
  simp only [Function.comp_apply]
  omega
theorem toks_drop (l : List Tok) (i : Nat) : (toks l).drop (i * 5) = toks (l.drop i) := flatMap_drop Tok.cells 5 tok5 l i
theorem toks_take (l : List Tok) (i : Nat) : (toks l).take (i * 5) = toks (l.take i) := flatMap_take Tok.cells 5 tok5 l i
theorem toks3 {l : List Tok} {i : Nat} {x y z : Tok} (h2 : 2 ≤ i) (hx : l[i - 2]? = some x) (hy : l[i - 1]? = some y) (hz : l[i]? = some z) : ((toks l).take ((i + 1) * 5)).drop ((i - 2) * 5) = toks [x, y, z] := by
  rw [toks_take, toks_drop]
  congr 1
  rw [List.drop_take, drop3 h2 hx hy hz, show i + 1 - (i - 2) = 3 by omega]
  rfl

theorem c20 {w0 : World} {rp : Nat} {C : Chunk} {v : Value} {l : List Tok} (hr : Rd w0 C 5 v l.length (toks l)) (h0 : l ≠ []) (hxl : ∀ x ∈ l, x.text.length ≤ 100000) (hl : l.length ≤ 1000000) (hs : ∀ n, flowEnd l = some n → ∃ t, showGo false (l.take n) = some t) : CtR Pg w0 20 #[pt rp] [rdB rp v, C] (fun u H => ∃ v1, Rd w0 C 5 v1 (flowOf l).2.2.2.length (toks (flowOf l).2.2.2) ∧ u = .tuple #[callV (flowOf l).1, tokV (flowOf l).2.1, .bool (flowOf l).2.2.1] ∧ H = [rdB rp v1, C]) := by
  have hlen : 0 < l.length := List.length_pos_iff.2 h0
  obtain ⟨xl, hxl2⟩ : ∃ x, l[l.length - 1]? = some x := ⟨l[l.length - 1]'(by omega), List.getElem?_eq_getElem _⟩
  obtain ⟨_, bb, oo, cp, rfl, hc⟩ := hr.item (f := Tok.cells) (i := l.length - 1) tok5 (by omega) hxl2
  have hcp : l.length ≤ cp := by
    obtain ⟨_, _, e, h, _⟩ := hr
    simp only [Value.slice.injEq] at e
    omega
  refine Ct.of_body Go.Proofs.Tryd.func20 rfl 68 rfl rfl (fun R => ?_)
  refine VC.seq ?_
  refine VC.region ?_
  refine V.alloc (l := [.int .i64 0, .string ByteArray.empty, .string ByteArray.empty, .string ByteArray.empty, .int .i64 0, .string ByteArray.empty]) rfl rfl rfl (fun b1 => ?_)
  refine V.alloc (l := [.int .i64 0, .string ByteArray.empty, .int .i64 0, .int .i64 0, .int .i64 0]) rfl rfl rfl (fun b2 => ?_)
  refine V.assign rfl rfl rfl ?_
  refine V.nil ?_
  refine Post.nextC ?_
  refine VC.seq ?_
  refine VC.seq ?_
  refine VC.region ?_
  refine V.move rfl rfl rfl ?_
  refine V.nilCheck rfl rfl rfl ?_
  refine V.fieldAddr 0 37 rfl rfl rfl rfl rfl ?_
  apply V.loadL rfl rfl rfl rfl
  · repeat' constructor
  · repeat' constructor
  refine V.len rfl rfl rfl ?_
  refine V.move rfl rfl rfl ?_
  refine V.nil ?_
  refine Post.nextC ?_
  refine VC.block ?_
  refine VC.loop (σ := Nat) (fun i => [(0, pt rp), (2, pt b1), (3, pt b2), (12, .int .i64 (l.length : Int)), (13, .int .i64 (i : Int))]) (fun i => rdB rp (.slice (some ⟨bb, oo, none⟩) l.length cp) :: C :: [(b1, .cells (Call.zero).cells.toArray 43 (0, 0))] :: [(b2, .cells (Tok.zero).cells.toArray 41 (0, 0))] :: R) (fun i => i ≤ l.length ∧ flowEnd l = (flowEnd (l.drop (i - 2))).map (· + (i - 2))) (fun i => l.length - i) 0 ⟨Nat.zero_le _, by simp⟩ ?_ ?_ ?_
  · exact ⟨rfl, rfl, rfl, rfl, rfl, trivial⟩
  · repeat' constructor
  rintro i ⟨hi, hI⟩
  refine VC.seq ?_
  refine VC.region ?_
  refine V.bin rfl rfl rfl rfl (bin_lss _ _ _) ?_
  refine V.nil ?_
  refine Post.nextC ?_
  refine VC.seq ?_
  refine VC.cond rfl (fun h1 => ?_) (fun h1 => ?_)
  · try simp only [decide_eq_true_eq, decide_eq_false_iff_not, Bool.not_eq_true', Bool.not_eq_false', Bool.not_eq_eq_eq_not, Bool.not_true, Bool.not_false, beq_iff_eq, beq_eq_false_iff_ne, ne_eq, Int.not_lt, Int.not_le, Option.isSome_some, Option.isNone_none, Option.isSome_none, Option.isNone_some, Classical.not_not] at h1
    refine VC.skip ?_
    refine Post.nextC ?_
    refine VC.seq ?_
    refine VC.block ?_
    refine VC.seq ?_
    refine VC.region ?_
    refine V.move rfl rfl rfl ?_
    refine V.assign rfl rfl rfl ?_
    refine V.nil ?_
    refine Post.nextC ?_
    refine VC.seq ?_
    refine VC.region ?_
    refine V.move rfl rfl rfl ?_
    refine V.bin rfl rfl rfl rfl (bin_geq _ _ _) ?_
    refine V.move rfl rfl rfl ?_
    refine V.split (t := 18) rfl (fun h2 => ?_) (fun h2 => ?_)
    · try simp only [decide_eq_true_eq, decide_eq_false_iff_not, Bool.not_eq_true', Bool.not_eq_false', Bool.not_eq_eq_eq_not, Bool.not_true, Bool.not_false, beq_iff_eq, beq_eq_false_iff_ne, ne_eq, Int.not_lt, Int.not_le, Option.isSome_some, Option.isNone_none, Option.isSome_none, Option.isNone_some, Classical.not_not] at h2
      obtain ⟨x, hx⟩ : ∃ x, l[i - 2]? = some x := ⟨l[i - 2]'(by omega), List.getElem?_eq_getElem _⟩
      obtain ⟨y, hy⟩ : ∃ x, l[i - 1]? = some x := ⟨l[i - 1]'(by omega), List.getElem?_eq_getElem _⟩
      obtain ⟨z, hz⟩ : ∃ x, l[i]? = some x := ⟨l[i]'(by omega), List.getElem?_eq_getElem _⟩
      refine V.move rfl rfl rfl ?_
      refine V.nilCheck rfl rfl rfl ?_
      refine V.fieldAddr 0 37 rfl rfl rfl rfl rfl ?_
      apply V.loadL rfl rfl rfl rfl
      · repeat' constructor
      · repeat' constructor
      refine V.move rfl rfl rfl ?_
      refine V.bin rfl rfl rfl rfl (bin_subI (by omega)) ?_
      refine V.know (t := 24) (y := .int .i64 ((i - 2 : Nat) : Int)) rfl (by first | rfl | (congr 1; omega)) ?_
      refine V.move rfl rfl rfl ?_
      refine V.bin rfl rfl rfl rfl (bin_addI (by omega)) ?_
      refine V.know (t := 26) (y := .int .i64 ((i + 1 : Nat) : Int)) rfl (by first | rfl | (congr 1; omega)) ?_
      refine V.sliceLH (i := i - 2) (j := i + 1) rfl rfl rfl rfl rfl (by omega) (by omega) (fun a1 ha1 _ => ?_)
      have hr3 := (hr.take (i := i + 1) (by omega)).drop (i := i - 2) (a1 := a1) (by omega) ha1
      rw [show i + 1 - (i - 2) = 3 by omega, toks3 (by omega) hx hy hz] at hr3
      rw [show i + 1 - (i - 2) = 3 by omega]
      apply V.call rfl rfl rfl (hc := c41 hr3)
      · repeat' constructor
      rintro v2 Ho ⟨rfl, rfl⟩
      refine V.pickT rfl rfl rfl rfl ?_
      refine V.nil ?_
      refine Post.nextC ?_
      refine VC.cond rfl (fun h3 => ?_) (fun h3 => ?_)
      · try simp only [decide_eq_true_eq, decide_eq_false_iff_not, Bool.not_eq_true', Bool.not_eq_false', Bool.not_eq_eq_eq_not, Bool.not_true, Bool.not_false, beq_iff_eq, beq_eq_false_iff_ne, ne_eq, Int.not_lt, Int.not_le, Option.isSome_some, Option.isNone_none, Option.isSome_none, Option.isNone_some, Classical.not_not] at h3
        refine VC.seq ?_
        refine VC.region ?_
        refine V.move rfl rfl rfl ?_
        refine V.nilCheck rfl rfl rfl ?_
        refine V.fieldAddr 0 37 rfl rfl rfl rfl rfl ?_
        apply V.loadL rfl rfl rfl rfl
        · repeat' constructor
        · repeat' constructor
        refine V.move rfl rfl rfl ?_
        refine V.bin rfl rfl rfl rfl (bin_addI (by omega)) ?_
        refine V.know (t := 36) (y := .int .i64 ((i + 1 : Nat) : Int)) rfl (by first | rfl | (congr 1; omega)) ?_
        refine V.sliceH (j := i + 1) rfl rfl rfl rfl (by omega) ?_
        have hr4 := hr.take (i := i + 1) (by omega)
        rw [toks_take] at hr4
        have hlt : (l.take (i + 1)).length = i + 1 := by rw [List.length_take]; omega
        have hhit := flowEnd_hit hI (by omega) hx hy hz (by assumption)
        obtain ⟨tx, htx⟩ := hs _ hhit
        apply V.call rfl rfl rfl (hc := c42 (l := l.take (i + 1)) (by rw [hlt]; exact hr4) (fun x hx => hxl x (List.mem_of_mem_take hx)) (by omega))
        · repeat' constructor
        rw [htx]
        rintro v2 Ho ⟨rfl, rfl⟩
        refine V.move rfl rfl rfl ?_
        refine V.extract rfl rfl rfl rfl ?_
        refine V.extract rfl rfl rfl rfl ?_
        refine V.assign rfl rfl rfl ?_
        refine V.assign rfl rfl rfl ?_
        refine V.nil ?_
        refine Post.nextC ?_
        refine VC.seq ?_
        refine VC.region ?_
        refine V.move rfl rfl rfl ?_
        refine V.move rfl rfl rfl ?_
        refine V.nilCheck rfl rfl rfl ?_
        refine V.fieldAddr 0 37 rfl rfl rfl rfl rfl ?_
        apply V.loadL rfl rfl rfl rfl
        · repeat' constructor
        · repeat' constructor
        refine V.move rfl rfl rfl ?_
        refine V.bin rfl rfl rfl rfl (bin_addI (by omega)) ?_
        refine V.know (t := 47) (y := .int .i64 ((i + 1 : Nat) : Int)) rfl (by first | rfl | (congr 1; omega)) ?_
        refine V.sliceL (i := i + 1) rfl rfl rfl rfl (by omega) (by omega) (fun a1 ha1 _ => ?_)
        have hr5 := hr.drop (i := i + 1) (a1 := a1) (by omega) ha1
        rw [toks_drop, show l.length - (i + 1) = (l.drop (i + 1)).length by rw [List.length_drop]] at hr5
        rw [show l.length - (i + 1) = (l.drop (i + 1)).length by rw [List.length_drop]]
        refine V.nilCheck rfl rfl rfl ?_
        refine V.fieldAddr 0 37 rfl rfl rfl rfl rfl ?_
        apply V.storeL rfl rfl rfl rfl rfl
        · repeat' constructor
        · repeat' constructor
        refine V.nil ?_
        refine Post.nextC ?_
        refine VC.seq ?_
        refine VC.region ?_
        refine V.move rfl rfl rfl ?_
        refine V.buildS [(0, _), (5, _)] (l := [_, .string ByteArray.empty, .string ByteArray.empty, .string ByteArray.empty, .int .i64 0, _]) rfl rfl rfl rfl rfl ?_
        refine V.buildS [] (l := [.int .i64 0, .string ByteArray.empty, .int .i64 0, .int .i64 0, .int .i64 0]) rfl rfl rfl rfl rfl ?_
        apply V.storeAll rfl rfl rfl rfl
        · repeat' constructor
        · exact rfl
        · exact rfl
        apply V.storeAll rfl rfl rfl rfl
        · repeat' constructor
        · exact rfl
        · exact rfl
        refine V.assign rfl rfl rfl ?_
        refine V.nil ?_
        refine Post.nextC ?_
        refine VC.ret ?_
        refine Post.blockRet (Post.thenRet (Post.thenRet (Post.blockRet (Post.thenRet (?_)))))
        apply Post.retV3 rfl (.all rfl rfl (by repeat' constructor) (by exact rfl)) (.all rfl rfl (by repeat' constructor) (by exact rfl)) (.tmp rfl)
        · have e : flowOf l = ({ Call.zero with op := 18, text := tx }, Tok.zero, true, l.drop (i + 1)) := by
            simp only [flowOf, hhit, htx]
            rfl
          exact ⟨_, by rw [e]; exact hr5, by rw [e] <;> rfl, rfl⟩
        · repeat' constructor
      · try simp only [decide_eq_true_eq, decide_eq_false_iff_not, Bool.not_eq_true', Bool.not_eq_false', Bool.not_eq_eq_eq_not, Bool.not_true, Bool.not_false, beq_iff_eq, beq_eq_false_iff_ne, ne_eq, Int.not_lt, Int.not_le, Option.isSome_some, Option.isNone_none, Option.isSome_none, Option.isNone_some, Classical.not_not] at h3
        refine VC.skip ?_
        refine Post.blockNormal (Post.nextC ?_)
        refine VC.region ?_
        refine V.bin rfl rfl rfl rfl (bin_addI (by omega)) ?_
        refine V.move rfl rfl rfl ?_
        refine V.nil ?_
        refine Post.round (i + 1) ?_ ?_ ?_ ?_
        · refine ⟨by omega, ?_⟩
          first
            | exact flowEnd_on hI (by omega) hx hy hz (by assumption)
            | (rw [show i + 1 - 2 = 0 by omega]; simp)
        · omega
        · exact ⟨rfl, rfl, rfl, rfl, rfl, trivial⟩
        · repeat' constructor
    · try simp only [decide_eq_true_eq, decide_eq_false_iff_not, Bool.not_eq_true', Bool.not_eq_false', Bool.not_eq_eq_eq_not, Bool.not_true, Bool.not_false, beq_iff_eq, beq_eq_false_iff_ne, ne_eq, Int.not_lt, Int.not_le, Option.isSome_some, Option.isNone_none, Option.isSome_none, Option.isNone_some, Classical.not_not] at h2
      refine V.skip rfl rfl ?_
      refine V.skip rfl rfl ?_
      refine V.skip rfl rfl ?_
      refine V.skip rfl rfl ?_
      refine V.skip rfl rfl ?_
      refine V.skip rfl rfl ?_
      refine V.skip rfl rfl ?_
      refine V.skip rfl rfl ?_
      refine V.skip rfl rfl ?_
      refine V.skip rfl rfl ?_
      refine V.pickF rfl rfl rfl rfl ?_
      refine V.nil ?_
      refine Post.nextC ?_
      refine VC.condF rfl ?_
      refine VC.skip ?_
      refine Post.blockNormal (Post.nextC ?_)
      refine VC.region ?_
      refine V.bin rfl rfl rfl rfl (bin_addI (by omega)) ?_
      refine V.move rfl rfl rfl ?_
      refine V.nil ?_
      refine Post.round (i + 1) ?_ ?_ ?_ ?_
      · refine ⟨by omega, ?_⟩
        first
          | exact flowEnd_on hI (by omega) hx hy hz (by assumption)
          | (rw [show i + 1 - 2 = 0 by omega]; simp)
      · omega
      · exact ⟨rfl, rfl, rfl, rfl, rfl, trivial⟩
      · repeat' constructor
  · try simp only [decide_eq_true_eq, decide_eq_false_iff_not, Bool.not_eq_true', Bool.not_eq_false', Bool.not_eq_eq_eq_not, Bool.not_true, Bool.not_false, beq_iff_eq, beq_eq_false_iff_ne, ne_eq, Int.not_lt, Int.not_le, Option.isSome_some, Option.isNone_none, Option.isSome_none, Option.isNone_some, Classical.not_not] at h1
    refine VC.exit ?_
    refine Post.thenExit (Post.thenExit (Post.blockHit (Post.nextC ?_)))
    refine VC.seq ?_
    refine VC.any ([rdB rp (.slice (some ⟨bb, oo, none⟩) l.length cp), C]) 16 16 mixed rfl ?_
    refine VA.take 0 rfl (by kernel_rfl) (by kernel_rfl) rfl (by kernel_rfl) (by kernel_rfl) (by repeat' constructor) ?_
    refine V.buildS [] (l := [.int .i64 0, .string ByteArray.empty, .string ByteArray.empty, .string ByteArray.empty, .int .i64 0, .string ByteArray.empty]) rfl rfl rfl rfl rfl ?_
    refine V.nil ?_
    refine Post.took ?_
    refine VA.take 1 rfl (by kernel_rfl) (by kernel_rfl) rfl (by kernel_rfl) (by kernel_rfl) (by repeat' constructor) ?_
    refine V.move rfl rfl rfl ?_
    refine V.nil ?_
    refine Post.took ?_
    refine VA.take 2 rfl (by kernel_rfl) (by kernel_rfl) rfl (by kernel_rfl) (by kernel_rfl) (by repeat' constructor) ?_
    refine V.nilCheck rfl rfl rfl ?_
    refine V.nil ?_
    refine Post.took ?_
    refine VA.take 3 rfl (by kernel_rfl) (by kernel_rfl) rfl (by kernel_rfl) (by kernel_rfl) (by repeat' constructor) ?_
    refine V.fieldAddr 0 37 rfl rfl rfl rfl rfl ?_
    refine V.nil ?_
    refine Post.took ?_
    refine VA.take 4 rfl (by kernel_rfl) (by kernel_rfl) rfl (by kernel_rfl) (by kernel_rfl) (by repeat' constructor) ?_
    apply V.loadL rfl rfl rfl rfl
    · repeat' constructor
    · repeat' constructor
    refine V.nil ?_
    refine Post.took ?_
    refine VA.take 5 rfl (by kernel_rfl) (by kernel_rfl) rfl (by kernel_rfl) (by kernel_rfl) (by repeat' constructor) ?_
    refine V.move rfl rfl rfl ?_
    refine V.nil ?_
    refine Post.took ?_
    refine VA.take 6 rfl (by kernel_rfl) (by kernel_rfl) rfl (by kernel_rfl) (by kernel_rfl) (by repeat' constructor) ?_
    refine V.nilCheck rfl rfl rfl ?_
    refine V.nil ?_
    refine Post.took ?_
    refine VA.take 7 rfl (by kernel_rfl) (by kernel_rfl) rfl (by kernel_rfl) (by kernel_rfl) (by repeat' constructor) ?_
    refine V.fieldAddr 0 37 rfl rfl rfl rfl rfl ?_
    refine V.nil ?_
    refine Post.took ?_
    refine VA.take 8 rfl (by kernel_rfl) (by kernel_rfl) rfl (by kernel_rfl) (by kernel_rfl) (by repeat' constructor) ?_
    apply V.loadL rfl rfl rfl rfl
    · repeat' constructor
    · repeat' constructor
    refine V.nil ?_
    refine Post.took ?_
    refine VA.take 9 rfl (by kernel_rfl) (by kernel_rfl) rfl (by kernel_rfl) (by kernel_rfl) (by repeat' constructor) ?_
    refine V.len rfl rfl rfl ?_
    refine V.nil ?_
    refine Post.took ?_
    refine VA.take 10 rfl (by kernel_rfl) (by kernel_rfl) rfl (by kernel_rfl) (by kernel_rfl) (by repeat' constructor) ?_
    refine V.bin rfl rfl rfl rfl (bin_subI (by omega)) ?_
    refine V.know (t := 65) (y := .int .i64 ((l.length - 1 : Nat) : Int)) rfl (by first | rfl | (congr 1; omega)) ?_
    refine V.nil ?_
    refine Post.took ?_
    refine VA.take 11 rfl (by kernel_rfl) (by kernel_rfl) rfl (by kernel_rfl) (by kernel_rfl) (by repeat' constructor) ?_
    refine V.indexO rfl rfl rfl rfl (by omega) ?_
    refine V.nil ?_
    refine Post.took ?_
    refine VA.take 12 rfl (by kernel_rfl) (by kernel_rfl) rfl (by kernel_rfl) (by kernel_rfl) (by repeat' constructor) ?_
    apply V.loadNC (c := C) (vs := xl.cells) rfl rfl rfl rfl
    · repeat' constructor
    · rfl
    · exact fun j u hu => by rw [add_addr]; exact hc j u hu
    refine V.nil ?_
    refine Post.took ?_
    refine VA.one 13 (by kernel_rfl) rfl ?_
    apply V.storeAll rfl rfl rfl rfl
    · repeat' constructor
    · exact rfl
    · exact rfl
    refine V.nil ?_
    refine Post.came (by repeat' constructor) ?_
    refine VA.one 14 (by kernel_rfl) rfl ?_
    apply V.storeAll rfl rfl rfl rfl
    · repeat' constructor
    · exact rfl
    · exact rfl
    refine V.nil ?_
    refine Post.came (by repeat' constructor) ?_
    refine VA.take 15 rfl (by kernel_rfl) (by kernel_rfl) rfl (by kernel_rfl) (by kernel_rfl) (by repeat' constructor) ?_
    refine V.assign rfl rfl rfl ?_
    refine V.nil ?_
    refine Post.took ?_
    refine VA.done (by kernel_rfl) ?_
    refine Post.nextC ?_
    refine VC.ret ?_
    apply Post.retV3 rfl (.all rfl rfl (by repeat' constructor) (by exact rfl)) (.all rfl rfl (by repeat' constructor) (by exact rfl)) (.tmp rfl)
    · obtain rfl : i = l.length := by omega
      have e : flowOf l = (Call.zero, xl, false, l) := by
        have h1 : flowEnd l = none := by rw [hI, flowEnd_short (by rw [List.length_drop]; omega)]; rfl
        simp only [flowOf, h1]
        rw [List.getLastD_eq_getLast?, List.getLast?_eq_getElem?, hxl2]
        rfl
      exact ⟨_, by rw [e]; exact hr, by rw [e] <;> rfl, rfl⟩
    · repeat' constructor

end Go.Proofs.Ln
