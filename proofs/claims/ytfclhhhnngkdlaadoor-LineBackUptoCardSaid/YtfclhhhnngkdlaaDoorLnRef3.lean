/- Contracts of functions of the given program, each proved by walking its code: part of the proof of this claim; no condition beyond those that each theorem names. -/
import Derived.Test.YtfclhhhnngkdlaaDoorLnRef2
set_option linter.unusedVariables false
set_option linter.unusedSimpArgs false
namespace Go.Proofs.Ln
open Go Go.RowKit Go.Proofs.Eng
theorem numb_right {t : List UInt8} (h : rightNum t = true) : numb t = (t.length, dval t) := by
  obtain ⟨h1, h2, h3⟩ := rightNum_spec h
  have := numb_yes (t := t) (i := 0) (k := t.length) (by rw [List.drop_zero, takeWhile_all h3]; rfl) (by omega) (by simpa using h) (.inl (Int.le_refl _))
  simpa using this
theorem numb_wrong {t : List UInt8} (h : rightNum t = false) : ¬ (0 < (numb t).1 ∧ (numb t).1 = t.length) := by
  rintro ⟨h1, h2⟩
  by_cases he : (t.takeWhile digit).length = t.length
  · have := numb_no1 (t := t) (i := 0) (k := t.length) (by rw [List.drop_zero]; exact he) (by simpa using h)
    rw [List.drop_zero] at this
    omega
  · unfold numb at h1 h2
    split at h2
    · rename_i hb; rw [if_pos hb] at h1; simp at h1
    · exact he h2
theorem right2r {x : Tok} (h : x.kind = 2) : right x = (rightNum x.text && decide (x.number = (dval x.text : Int))) := by
  rw [right2 h]
  cases hr : rightNum x.text with
  | true =>
    obtain ⟨h1, _, _⟩ := rightNum_spec hr
    rw [numb_right hr]
    dsimp only
    rw [decide_eq_true (by omega), decide_eq_true rfl, Bool.true_and, Bool.true_and, Bool.true_and, decide_eq_decide]
    exact ⟨fun h => h.symm, fun h => h.symm⟩
  | false =>
    have := numb_wrong hr
    rw [Bool.false_and, Bool.and_eq_false_iff]
    left
    rw [Bool.and_eq_false_iff, decide_eq_false_iff_not, decide_eq_false_iff_not]
    by_cases h1 : 0 < (numb x.text).1
    · right; exact fun h2 => this ⟨h1, h2⟩
    · left; exact h1
/-- tokens by their lines -/
def linesGo : List Tok → List Tok → List (List Tok)
  | [], _ => []
  | x :: r, one => if x.kind = 4 then (one ++ [x]) :: linesGo r [] else linesGo r (one ++ [x])
theorem linesGo_line {x : Tok} {r one : List Tok} (h : x.kind = 4) : linesGo (x :: r) one = (one ++ [x]) :: linesGo r [] := by simp only [linesGo]; rw [if_pos h]
theorem linesGo_on {x : Tok} {r one : List Tok} (h : ¬ x.kind = 4) : linesGo (x :: r) one = linesGo r (one ++ [x]) := by simp only [linesGo]; rw [if_neg h]
/-- lines that lie in one chunk -/
def LinesAt (w0 : World) (C : Chunk) (ls : List (List Tok)) (vs : List Value) : Prop :=
  vs.length = ls.length ∧ (∀ u ∈ vs, u.oneCell' = true) ∧ ∀ (i : Nat) (ln : List Tok), ls[i]? = some ln → ∃ v, vs[i]? = some v ∧ Rd w0 C 5 v ln.length (toks ln)
theorem LinesAt.nil (w0 : World) (C : Chunk) : LinesAt w0 C [] [] := ⟨rfl, fun u hu => (by cases hu), fun i ln h => by simp at h⟩
theorem LinesAt.snoc {w0 : World} {C c : Chunk} {ls : List (List Tok)} {vs : List Value} {v : Value} {ln : List Tok} (h : LinesAt w0 C ls vs) (hr : Rd w0 c 5 v ln.length (toks ln)) : LinesAt w0 (C ++ c) (ls ++ [ln]) (vs ++ [v]) := by
  obtain ⟨h1, h2, h3⟩ := h
  refine ⟨by simp [h1], fun u hu => ?_, fun i l' hi => ?_⟩
  · rcases List.mem_append.1 hu with hu | hu
    · exact h2 u hu
    · obtain rfl : u = v := by simpa using hu
      obtain ⟨_, _, rfl, _⟩ := hr
      rfl
  · by_cases hlt : i < ls.length
    · rw [List.getElem?_append_left hlt] at hi
      obtain ⟨u, hu, hru⟩ := h3 i l' hi
      exact ⟨u, by rw [List.getElem?_append_left (by omega)]; exact hu, hru.mono (List.subset_append_left _ _)⟩
    · rw [List.getElem?_append_right (by omega)] at hi
      obtain ⟨hj, rfl⟩ : i - ls.length = 0 ∧ ln = l' := by
        cases hk : i - ls.length with
        | zero => rw [hk] at hi; exact ⟨rfl, by simpa using hi⟩
        | succ k => rw [hk] at hi; simp at hi
      exact ⟨v, by rw [List.getElem?_append_right (by omega), show i - vs.length = 0 by omega]; rfl, hr.mono (List.subset_append_right _ _)⟩

theorem c50 {w0 : World} {x : Tok} (hl : x.text.length ≤ 100000) : CtR Pg w0 50 #[tokV x] [] (fun u H => u = .bool (right x) ∧ H = []) := by
  refine Ct.of_body Go.Proofs.Tryd.func50 rfl 55 rfl rfl (fun R => ?_)
  refine VC.seq ?_
  refine VC.region ?_
  refine V.box rfl rfl rfl rfl (fun b1 => ?_)
  refine V.assign rfl rfl rfl ?_
  refine V.nil ?_
  refine Post.nextC ?_
  refine VC.seq ?_
  refine VC.seq ?_
  refine VC.region ?_
  refine V.fieldAddr 0 3 rfl rfl rfl rfl rfl ?_
  apply V.loadL rfl rfl rfl rfl
  · repeat' constructor
  · repeat' constructor
  refine V.nil ?_
  refine Post.nextC ?_
  refine VC.block ?_
  refine VC.seq ?_
  refine VC.region ?_
  refine V.bin rfl rfl rfl rfl (bin_eql _ _ _) ?_
  refine V.assign rfl rfl rfl ?_
  refine V.nil ?_
  refine Post.nextC ?_
  refine VC.cond rfl (fun h1 => ?_) (fun h1 => ?_)
  · try simp only [decide_eq_true_eq, decide_eq_false_iff_not, Bool.not_eq_true', Bool.not_eq_false', Bool.not_eq_eq_eq_not, Bool.not_true, Bool.not_false, beq_iff_eq, beq_eq_false_iff_ne, ne_eq, Int.not_lt, Int.not_le, Option.isSome_some, Option.isNone_none, Option.isSome_none, Option.isNone_some, Classical.not_not] at h1
    refine VC.seq ?_
    refine VC.region ?_
    refine V.fieldAddr 1 9 rfl rfl rfl rfl rfl ?_
    apply V.loadL rfl rfl rfl rfl
    · repeat' constructor
    · repeat' constructor
    apply V.call rfl rfl rfl (hc := c37 (s := x.text))
    · repeat' constructor
    rintro vq Ho ⟨rfl, rfl⟩
    refine V.move rfl rfl rfl ?_
    refine V.split (t := 10) rfl (fun h2 => ?_) (fun h2 => ?_)
    · try simp only [decide_eq_true_eq, decide_eq_false_iff_not, Bool.not_eq_true', Bool.not_eq_false', Bool.not_eq_eq_eq_not, Bool.not_true, Bool.not_false, beq_iff_eq, beq_eq_false_iff_ne, ne_eq, Int.not_lt, Int.not_le, Option.isSome_some, Option.isNone_none, Option.isSome_none, Option.isNone_some, Classical.not_not] at h2
      refine V.fieldAddr 2 3 rfl rfl rfl rfl rfl ?_
      apply V.loadL rfl rfl rfl rfl
      · repeat' constructor
      · repeat' constructor
      refine V.bin rfl rfl rfl rfl (bin_eql _ _ _) ?_
      refine V.pickT rfl rfl rfl rfl ?_
      refine V.assign rfl rfl rfl ?_
      refine V.nil ?_
      refine Post.nextC ?_
      refine VC.ret ?_
      refine Post.blockRet (Post.thenRet (?_))
      apply Post.ret1 rfl rfl 
      · refine ⟨?_, rfl⟩
        rw [right1 (by assumption)]
        simp_all
      · repeat' constructor
    · try simp only [decide_eq_true_eq, decide_eq_false_iff_not, Bool.not_eq_true', Bool.not_eq_false', Bool.not_eq_eq_eq_not, Bool.not_true, Bool.not_false, beq_iff_eq, beq_eq_false_iff_ne, ne_eq, Int.not_lt, Int.not_le, Option.isSome_some, Option.isNone_none, Option.isSome_none, Option.isNone_some, Classical.not_not] at h2
      refine V.skip rfl rfl ?_
      refine V.skip rfl rfl ?_
      refine V.skip rfl rfl ?_
      refine V.pickF rfl rfl rfl rfl ?_
      refine V.assign rfl rfl rfl ?_
      refine V.nil ?_
      refine Post.nextC ?_
      refine VC.ret ?_
      refine Post.blockRet (Post.thenRet (?_))
      apply Post.ret1 rfl rfl 
      · refine ⟨?_, rfl⟩
        rw [right1 (by assumption)]
        simp_all
      · repeat' constructor
  · try simp only [decide_eq_true_eq, decide_eq_false_iff_not, Bool.not_eq_true', Bool.not_eq_false', Bool.not_eq_eq_eq_not, Bool.not_true, Bool.not_false, beq_iff_eq, beq_eq_false_iff_ne, ne_eq, Int.not_lt, Int.not_le, Option.isSome_some, Option.isNone_none, Option.isSome_none, Option.isNone_some, Classical.not_not] at h1
    refine VC.seq ?_
    refine VC.region ?_
    refine V.bin rfl rfl rfl rfl (bin_eql _ _ _) ?_
    refine V.assign rfl rfl rfl ?_
    refine V.nil ?_
    refine Post.nextC ?_
    refine VC.cond rfl (fun h3 => ?_) (fun h3 => ?_)
    · try simp only [decide_eq_true_eq, decide_eq_false_iff_not, Bool.not_eq_true', Bool.not_eq_false', Bool.not_eq_eq_eq_not, Bool.not_true, Bool.not_false, beq_iff_eq, beq_eq_false_iff_ne, ne_eq, Int.not_lt, Int.not_le, Option.isSome_some, Option.isNone_none, Option.isSome_none, Option.isNone_some, Classical.not_not] at h3
      refine VC.seq ?_
      refine VC.draw mixed (by kernel_rfl) ?_
      refine V.fieldAddr 1 9 rfl rfl rfl rfl rfl ?_
      apply V.loadL rfl rfl rfl rfl
      · repeat' constructor
      · repeat' constructor
      apply V.callQ (.bool (rightNum x.text)) rfl rfl rfl (hc := c47 (s := x.text) (by omega))
      · repeat' constructor
      · rintro u Ho ⟨rfl, rfl⟩; exact ⟨rfl, by repeat' constructor⟩
      refine V.move rfl rfl rfl ?_
      refine V.split (t := 20) rfl (fun h4 => ?_) (fun h4 => ?_)
      · try simp only [decide_eq_true_eq, decide_eq_false_iff_not, Bool.not_eq_true', Bool.not_eq_false', Bool.not_eq_eq_eq_not, Bool.not_true, Bool.not_false, beq_iff_eq, beq_eq_false_iff_ne, ne_eq, Int.not_lt, Int.not_le, Option.isSome_some, Option.isNone_none, Option.isSome_none, Option.isNone_some, Classical.not_not] at h4
        refine V.fieldAddr 2 3 rfl rfl rfl rfl rfl ?_
        apply V.loadL rfl rfl rfl rfl
        · repeat' constructor
        · repeat' constructor
        refine V.fieldAddr 1 9 rfl rfl rfl rfl rfl ?_
        apply V.loadL rfl rfl rfl rfl
        · repeat' constructor
        · repeat' constructor
        apply V.callQ (.int .i64 (dval x.text : Int)) rfl rfl rfl (hc := c48 (s := x.text) (rightNum_spec (by assumption)).2.1 (rightNum_spec (by assumption)).2.2)
        · repeat' constructor
        · rintro u Ho ⟨rfl, rfl⟩; exact ⟨rfl, by repeat' constructor⟩
        refine V.bin rfl rfl rfl rfl (bin_eql _ _ _) ?_
        refine V.pickT rfl rfl rfl rfl ?_
        refine V.assign rfl rfl rfl ?_
        refine V.nil ?_
        refine Post.nextC ?_
        refine VC.ret ?_
        refine Post.blockRet (Post.thenRet (?_))
        apply Post.ret1 rfl rfl 
        · refine ⟨?_, rfl⟩
          rw [right2r (by assumption)]
          simp_all
        · repeat' constructor
      · try simp only [decide_eq_true_eq, decide_eq_false_iff_not, Bool.not_eq_true', Bool.not_eq_false', Bool.not_eq_eq_eq_not, Bool.not_true, Bool.not_false, beq_iff_eq, beq_eq_false_iff_ne, ne_eq, Int.not_lt, Int.not_le, Option.isSome_some, Option.isNone_none, Option.isSome_none, Option.isNone_some, Classical.not_not] at h4
        refine V.skip rfl rfl ?_
        refine V.skip rfl rfl ?_
        refine V.skip rfl rfl ?_
        refine V.skip rfl rfl ?_
        refine V.skip rfl rfl ?_
        refine V.skip rfl rfl ?_
        refine V.pickF rfl rfl rfl rfl ?_
        refine V.assign rfl rfl rfl ?_
        refine V.nil ?_
        refine Post.nextC ?_
        refine VC.ret ?_
        refine Post.blockRet (Post.thenRet (?_))
        apply Post.ret1 rfl rfl 
        · refine ⟨?_, rfl⟩
          rw [right2r (by assumption)]
          simp_all
        · repeat' constructor
    · try simp only [decide_eq_true_eq, decide_eq_false_iff_not, Bool.not_eq_true', Bool.not_eq_false', Bool.not_eq_eq_eq_not, Bool.not_true, Bool.not_false, beq_iff_eq, beq_eq_false_iff_ne, ne_eq, Int.not_lt, Int.not_le, Option.isSome_some, Option.isNone_none, Option.isSome_none, Option.isNone_some, Classical.not_not] at h3
      refine VC.seq ?_
      refine VC.region ?_
      refine V.bin rfl rfl rfl rfl (bin_eql _ _ _) ?_
      refine V.assign rfl rfl rfl ?_
      refine V.nil ?_
      refine Post.nextC ?_
      refine VC.cond rfl (fun h5 => ?_) (fun h5 => ?_)
      · try simp only [decide_eq_true_eq, decide_eq_false_iff_not, Bool.not_eq_true', Bool.not_eq_false', Bool.not_eq_eq_eq_not, Bool.not_true, Bool.not_false, beq_iff_eq, beq_eq_false_iff_ne, ne_eq, Int.not_lt, Int.not_le, Option.isSome_some, Option.isNone_none, Option.isSome_none, Option.isNone_some, Classical.not_not] at h5
        refine VC.seq ?_
        refine VC.region ?_
        refine V.fieldAddr 1 9 rfl rfl rfl rfl rfl ?_
        apply V.loadL rfl rfl rfl rfl
        · repeat' constructor
        · repeat' constructor
        refine V.lenSt rfl rfl rfl ?_
        refine V.bin rfl rfl rfl rfl (bin_eql _ _ _) ?_
        refine V.move rfl rfl rfl ?_
        refine V.split (t := 34) rfl (fun h6 => ?_) (fun h6 => ?_)
        · try simp only [decide_eq_true_eq, decide_eq_false_iff_not, Bool.not_eq_true', Bool.not_eq_false', Bool.not_eq_eq_eq_not, Bool.not_true, Bool.not_false, beq_iff_eq, beq_eq_false_iff_ne, ne_eq, Int.not_lt, Int.not_le, Option.isSome_some, Option.isNone_none, Option.isSome_none, Option.isNone_some, Classical.not_not] at h6
          refine V.fieldAddr 1 9 rfl rfl rfl rfl rfl ?_
          apply V.loadL rfl rfl rfl rfl
          · repeat' constructor
          · repeat' constructor
          obtain ⟨c, hc⟩ : ∃ c, x.text = [c] := List.length_eq_one_iff.1 (by omega)
          refine V.indexSt (i := 0) (c := c) rfl rfl rfl rfl (by rw [hc]; rfl) ?_
          apply V.call rfl rfl rfl (hc := c49)
          · repeat' constructor
          rintro vq Ho ⟨rfl, rfl⟩
          refine V.pickT rfl rfl rfl rfl ?_
          refine V.move rfl rfl rfl ?_
          refine V.split (t := 40) rfl (fun h7 => ?_) (fun h7 => ?_)
          · try simp only [decide_eq_true_eq, decide_eq_false_iff_not, Bool.not_eq_true', Bool.not_eq_false', Bool.not_eq_eq_eq_not, Bool.not_true, Bool.not_false, beq_iff_eq, beq_eq_false_iff_ne, ne_eq, Int.not_lt, Int.not_le, Option.isSome_some, Option.isNone_none, Option.isSome_none, Option.isNone_some, Classical.not_not] at h7
            refine V.fieldAddr 2 3 rfl rfl rfl rfl rfl ?_
            apply V.loadL rfl rfl rfl rfl
            · repeat' constructor
            · repeat' constructor
            refine V.bin rfl rfl rfl rfl (bin_eql _ _ _) ?_
            refine V.pickT rfl rfl rfl rfl ?_
            refine V.assign rfl rfl rfl ?_
            refine V.nil ?_
            refine Post.nextC ?_
            refine VC.ret ?_
            refine Post.blockRet (Post.thenRet (?_))
            apply Post.ret1 rfl rfl 
            · refine ⟨?_, rfl⟩
              first
                | (rw [right3n (by assumption) (by assumption)]; done)
                | (rw [right3y (by assumption) hc]; simp_all)
            · repeat' constructor
          · try simp only [decide_eq_true_eq, decide_eq_false_iff_not, Bool.not_eq_true', Bool.not_eq_false', Bool.not_eq_eq_eq_not, Bool.not_true, Bool.not_false, beq_iff_eq, beq_eq_false_iff_ne, ne_eq, Int.not_lt, Int.not_le, Option.isSome_some, Option.isNone_none, Option.isSome_none, Option.isNone_some, Classical.not_not] at h7
            refine V.skip rfl rfl ?_
            refine V.skip rfl rfl ?_
            refine V.skip rfl rfl ?_
            refine V.pickF rfl rfl rfl rfl ?_
            refine V.assign rfl rfl rfl ?_
            refine V.nil ?_
            refine Post.nextC ?_
            refine VC.ret ?_
            refine Post.blockRet (Post.thenRet (?_))
            apply Post.ret1 rfl rfl 
            · refine ⟨?_, rfl⟩
              first
                | (rw [right3n (by assumption) (by assumption)]; done)
                | (rw [right3y (by assumption) hc]; simp_all)
            · repeat' constructor
        · try simp only [decide_eq_true_eq, decide_eq_false_iff_not, Bool.not_eq_true', Bool.not_eq_false', Bool.not_eq_eq_eq_not, Bool.not_true, Bool.not_false, beq_iff_eq, beq_eq_false_iff_ne, ne_eq, Int.not_lt, Int.not_le, Option.isSome_some, Option.isNone_none, Option.isSome_none, Option.isNone_some, Classical.not_not] at h6
          refine V.skip rfl rfl ?_
          refine V.skip rfl rfl ?_
          refine V.skip rfl rfl ?_
          refine V.skip rfl rfl ?_
          refine V.pickF rfl rfl rfl rfl ?_
          refine V.move rfl rfl rfl ?_
          refine V.skip rfl rfl ?_
          refine V.skip rfl rfl ?_
          refine V.skip rfl rfl ?_
          refine V.pickF rfl rfl rfl rfl ?_
          refine V.assign rfl rfl rfl ?_
          refine V.nil ?_
          refine Post.nextC ?_
          refine VC.ret ?_
          refine Post.blockRet (Post.thenRet (?_))
          apply Post.ret1 rfl rfl 
          · refine ⟨?_, rfl⟩
            first
              | (rw [right3n (by assumption) (by assumption)]; done)
              | (rw [right3y (by assumption) hc]; simp_all)
          · repeat' constructor
      · try simp only [decide_eq_true_eq, decide_eq_false_iff_not, Bool.not_eq_true', Bool.not_eq_false', Bool.not_eq_eq_eq_not, Bool.not_true, Bool.not_false, beq_iff_eq, beq_eq_false_iff_ne, ne_eq, Int.not_lt, Int.not_le, Option.isSome_some, Option.isNone_none, Option.isSome_none, Option.isNone_some, Classical.not_not] at h5
        refine VC.seq ?_
        refine VC.region ?_
        refine V.bin rfl rfl rfl rfl (bin_eql _ _ _) ?_
        refine V.assign rfl rfl rfl ?_
        refine V.nil ?_
        refine Post.nextC ?_
        refine VC.cond rfl (fun h8 => ?_) (fun h8 => ?_)
        · try simp only [decide_eq_true_eq, decide_eq_false_iff_not, Bool.not_eq_true', Bool.not_eq_false', Bool.not_eq_eq_eq_not, Bool.not_true, Bool.not_false, beq_iff_eq, beq_eq_false_iff_ne, ne_eq, Int.not_lt, Int.not_le, Option.isSome_some, Option.isNone_none, Option.isSome_none, Option.isNone_some, Classical.not_not] at h8
          refine VC.seq ?_
          refine VC.region ?_
          refine V.fieldAddr 1 9 rfl rfl rfl rfl rfl ?_
          apply V.loadL rfl rfl rfl rfl
          · repeat' constructor
          · repeat' constructor
          refine V.bin rfl rfl rfl rfl (bin_steql _ _) ?_
          refine V.move rfl rfl rfl ?_
          refine V.split (t := 50) rfl (fun h9 => ?_) (fun h9 => ?_)
          · try simp only [decide_eq_true_eq, decide_eq_false_iff_not, Bool.not_eq_true', Bool.not_eq_false', Bool.not_eq_eq_eq_not, Bool.not_true, Bool.not_false, beq_iff_eq, beq_eq_false_iff_ne, ne_eq, Int.not_lt, Int.not_le, Option.isSome_some, Option.isNone_none, Option.isSome_none, Option.isNone_some, Classical.not_not] at h9
            refine V.fieldAddr 2 3 rfl rfl rfl rfl rfl ?_
            apply V.loadL rfl rfl rfl rfl
            · repeat' constructor
            · repeat' constructor
            refine V.bin rfl rfl rfl rfl (bin_eql _ _ _) ?_
            refine V.pickT rfl rfl rfl rfl ?_
            refine V.assign rfl rfl rfl ?_
            refine V.nil ?_
            refine Post.nextC ?_
            refine VC.ret ?_
            refine Post.blockRet (Post.thenRet (?_))
            apply Post.ret1 rfl rfl 
            · refine ⟨?_, rfl⟩
              rw [right4 (by assumption) (by assumption) (by assumption)]
              simp_all
            · repeat' constructor
          · try simp only [decide_eq_true_eq, decide_eq_false_iff_not, Bool.not_eq_true', Bool.not_eq_false', Bool.not_eq_eq_eq_not, Bool.not_true, Bool.not_false, beq_iff_eq, beq_eq_false_iff_ne, ne_eq, Int.not_lt, Int.not_le, Option.isSome_some, Option.isNone_none, Option.isSome_none, Option.isNone_some, Classical.not_not] at h9
            refine V.skip rfl rfl ?_
            refine V.skip rfl rfl ?_
            refine V.skip rfl rfl ?_
            refine V.pickF rfl rfl rfl rfl ?_
            refine V.assign rfl rfl rfl ?_
            refine V.nil ?_
            refine Post.nextC ?_
            refine VC.ret ?_
            refine Post.blockRet (Post.thenRet (?_))
            apply Post.ret1 rfl rfl 
            · refine ⟨?_, rfl⟩
              rw [right4 (by assumption) (by assumption) (by assumption)]
              simp_all
            · repeat' constructor
        · try simp only [decide_eq_true_eq, decide_eq_false_iff_not, Bool.not_eq_true', Bool.not_eq_false', Bool.not_eq_eq_eq_not, Bool.not_true, Bool.not_false, beq_iff_eq, beq_eq_false_iff_ne, ne_eq, Int.not_lt, Int.not_le, Option.isSome_some, Option.isNone_none, Option.isSome_none, Option.isNone_some, Classical.not_not] at h8
          refine VC.skip ?_
          refine Post.blockNormal (Post.nextC ?_)
          refine VC.seq ?_
          refine VC.region ?_
          refine V.assign rfl rfl rfl ?_
          refine V.nil ?_
          refine Post.nextC ?_
          refine VC.ret ?_
          apply Post.ret1 rfl rfl 
          · refine ⟨?_, rfl⟩
            rw [right4 (by assumption) (by assumption) (by assumption)]
            simp_all
          · repeat' constructor

theorem c26 {w0 : World} {C : Chunk} {v : Value} {l : List Tok} (hr : Rd w0 C 5 v l.length (toks l)) (hx : ∀ x ∈ l, x.text.length ≤ 100000) (hl : l.length ≤ 1000000) : CtR Pg w0 26 #[v] [C] (fun u H => u = (match showGo false l with | none => .tuple #[st [], .int .i64 3] | some t => .tuple #[st t, .int .i64 0]) ∧ H = [C]) := by
  obtain ⟨ad, cp, rfl, _⟩ := id hr
  refine Ct.of_body Go.Proofs.Tryd.func26 rfl 70 rfl rfl (fun R => ?_)
  refine VC.seq ?_
  refine VC.region ?_
  refine V.assign rfl rfl rfl ?_
  refine V.assign rfl rfl rfl ?_
  refine V.nil ?_
  refine Post.nextC ?_
  refine VC.seq ?_
  refine VC.region ?_
  refine V.assign rfl rfl rfl ?_
  refine V.nil ?_
  refine Post.nextC ?_
  refine VC.seq ?_
  refine VC.region ?_
  refine V.assign rfl rfl rfl ?_
  refine V.nil ?_
  refine Post.nextC ?_
  refine VC.seq ?_
  refine VC.seq ?_
  refine VC.region ?_
  refine V.assign rfl rfl rfl ?_
  refine V.nil ?_
  refine Post.nextC ?_
  refine VC.block ?_
  refine VC.loop (σ := (Nat) × (Bool) × (List UInt8)) (fun zz => [(0, .slice ad l.length cp), (4, st zz.2.2), (5, .bool zz.2.1), (6, .int .i64 (zz.1 : Int))]) (fun zz => C :: R) (fun zz => (zz.1 ≤ l.length) ∧ (zz.2.2.length ≤ zz.1 * 100002) ∧ (showGo false l = (showGo (!zz.2.1) (l.drop zz.1)).map (zz.2.2 ++ ·))) (fun zz => l.length - zz.1) (0, true, []) (⟨Nat.zero_le _, by simp, by simp⟩) ?_ ?_ ?_
  · exact ⟨rfl, rfl, rfl, rfl, trivial⟩
  · repeat' constructor
  rintro ⟨i, fst, acc⟩ ⟨(hi : i ≤ l.length), (ha : acc.length ≤ i * 100002), (hI : showGo false l = (showGo (!fst) (l.drop i)).map (acc ++ ·))⟩
  refine VC.sub (E' := [(0, .slice ad l.length cp), (4, st acc), (5, .bool fst), (6, .int .i64 (i : Int))]) (H' := C :: R) ⟨rfl, rfl, rfl, rfl, trivial⟩ (by repeat' constructor) ?_
  refine VC.seq ?_
  refine VC.seq ?_
  refine VC.region ?_
  refine V.move rfl rfl rfl ?_
  refine V.move rfl rfl rfl ?_
  refine V.len rfl rfl rfl ?_
  refine V.bin rfl rfl rfl rfl (bin_lss _ _ _) ?_
  refine V.nil ?_
  refine Post.nextC ?_
  refine VC.cond rfl (fun h1 => ?_) (fun h1 => ?_)
  · try simp only [decide_eq_true_eq, decide_eq_false_iff_not, Bool.not_eq_true', Bool.not_eq_false', Bool.not_eq_eq_eq_not, Bool.not_true, Bool.not_false, beq_iff_eq, beq_eq_false_iff_ne, ne_eq, Int.not_lt, Int.not_le, Option.isSome_some, Option.isNone_none, Option.isSome_none, Option.isNone_some, Classical.not_not] at h1
    refine VC.skip ?_
    refine Post.nextC ?_
    refine VC.seq ?_
    refine VC.block ?_
    refine VC.seq ?_
    refine VC.seq ?_
    refine VC.region ?_
    obtain ⟨x, hxi⟩ := getc (t := l) (i := i) (by assumption)
    have hxl : x.text.length ≤ 100000 := hx x (List.mem_of_getElem? hxi)
    obtain ⟨_, bb, oo, cp2, e, hc⟩ := hr.item (f := Tok.cells) (i := i) tok5 (by omega) hxi
    simp only [Value.slice.injEq] at e
    obtain ⟨rfl, _, rfl⟩ := e
    refine V.move rfl rfl rfl ?_
    refine V.move rfl rfl rfl ?_
    refine V.indexO rfl rfl rfl rfl (by omega) ?_
    apply V.loadNC (c := C) (vs := x.cells) rfl rfl rfl rfl
    · repeat' constructor
    · rfl
    · exact fun j u hu => by rw [add_addr]; exact hc j u hu
    apply V.call rfl rfl rfl (hc := c50 hxl)
    · repeat' constructor
    rintro vq Ho ⟨rfl, rfl⟩
    refine V.not rfl rfl rfl ?_
    refine V.move rfl rfl rfl ?_
    refine V.split (t := 19) rfl (fun h2 => ?_) (fun h2 => ?_)
    · try simp only [decide_eq_true_eq, decide_eq_false_iff_not, Bool.not_eq_true', Bool.not_eq_false', Bool.not_eq_eq_eq_not, Bool.not_true, Bool.not_false, beq_iff_eq, beq_eq_false_iff_ne, ne_eq, Int.not_lt, Int.not_le, Option.isSome_some, Option.isNone_none, Option.isSome_none, Option.isNone_some, Classical.not_not] at h2
      refine V.skip rfl rfl ?_
      refine V.skip rfl rfl ?_
      refine V.skip rfl rfl ?_
      refine V.skip rfl rfl ?_
      refine V.skip rfl rfl ?_
      refine V.skip rfl rfl ?_
      refine V.skip rfl rfl ?_
      refine V.skip rfl rfl ?_
      refine V.skip rfl rfl ?_
      refine V.pickT rfl rfl rfl rfl ?_
      refine V.nil ?_
      refine Post.nextC ?_
      refine VC.condT rfl ?_
      refine VC.seq ?_
      refine VC.region ?_
      refine V.assign rfl rfl rfl ?_
      refine V.assign rfl rfl rfl ?_
      refine V.nil ?_
      refine Post.nextC ?_
      refine VC.ret ?_
      refine Post.thenRet (Post.blockRet (Post.thenRet (Post.thenRet (Post.blockRet (Post.thenRet (?_))))))
      apply Post.ret2 rfl rfl rfl 
      · have e : showGo false l = none := by rw [hI, drop_cons hxi, showGo_bad (by first | (left; assumption) | (right; exact ⟨by assumption, by simp_all⟩))]; rfl
        rw [e]
        exact ⟨rfl, rfl⟩
      · repeat' constructor
    · try simp only [decide_eq_true_eq, decide_eq_false_iff_not, Bool.not_eq_true', Bool.not_eq_false', Bool.not_eq_eq_eq_not, Bool.not_true, Bool.not_false, beq_iff_eq, beq_eq_false_iff_ne, ne_eq, Int.not_lt, Int.not_le, Option.isSome_some, Option.isNone_none, Option.isSome_none, Option.isNone_some, Classical.not_not] at h2
      refine V.move rfl rfl rfl ?_
      refine V.move rfl rfl rfl ?_
      refine V.split (t := 21) rfl (fun h3 => ?_) (fun h3 => ?_)
      · try simp only [decide_eq_true_eq, decide_eq_false_iff_not, Bool.not_eq_true', Bool.not_eq_false', Bool.not_eq_eq_eq_not, Bool.not_true, Bool.not_false, beq_iff_eq, beq_eq_false_iff_ne, ne_eq, Int.not_lt, Int.not_le, Option.isSome_some, Option.isNone_none, Option.isSome_none, Option.isNone_some, Classical.not_not] at h3
        refine V.move rfl rfl rfl ?_
        refine V.move rfl rfl rfl ?_
        refine V.indexO rfl rfl rfl rfl (by omega) ?_
        refine V.fieldAddr 0 3 rfl rfl rfl rfl rfl ?_
        apply V.loadC (c := C) rfl rfl rfl rfl
        · repeat' constructor
        · exact hc 0 _ rfl
        refine V.bin rfl rfl rfl rfl (bin_eql _ _ _) ?_
        refine V.pickT rfl rfl rfl rfl ?_
        refine V.pickF rfl rfl rfl rfl ?_
        refine V.nil ?_
        refine Post.nextC ?_
        refine VC.cond rfl (fun h4 => ?_) (fun h4 => ?_)
        · try simp only [decide_eq_true_eq, decide_eq_false_iff_not, Bool.not_eq_true', Bool.not_eq_false', Bool.not_eq_eq_eq_not, Bool.not_true, Bool.not_false, beq_iff_eq, beq_eq_false_iff_ne, ne_eq, Int.not_lt, Int.not_le, Option.isSome_some, Option.isNone_none, Option.isSome_none, Option.isNone_some, Classical.not_not] at h4
          refine VC.seq ?_
          refine VC.region ?_
          refine V.assign rfl rfl rfl ?_
          refine V.assign rfl rfl rfl ?_
          refine V.nil ?_
          refine Post.nextC ?_
          refine VC.ret ?_
          refine Post.thenRet (Post.blockRet (Post.thenRet (Post.thenRet (Post.blockRet (Post.thenRet (?_))))))
          apply Post.ret2 rfl rfl rfl 
          · have e : showGo false l = none := by rw [hI, drop_cons hxi, showGo_bad (by first | (left; assumption) | (right; exact ⟨by assumption, by simp_all⟩))]; rfl
            rw [e]
            exact ⟨rfl, rfl⟩
          · repeat' constructor
        · try simp only [decide_eq_true_eq, decide_eq_false_iff_not, Bool.not_eq_true', Bool.not_eq_false', Bool.not_eq_eq_eq_not, Bool.not_true, Bool.not_false, beq_iff_eq, beq_eq_false_iff_ne, ne_eq, Int.not_lt, Int.not_le, Option.isSome_some, Option.isNone_none, Option.isSome_none, Option.isNone_some, Classical.not_not] at h4
          refine VC.skip ?_
          refine Post.nextC ?_
          refine VC.seq ?_
          refine VC.seq ?_
          refine VC.region ?_
          refine V.move rfl rfl rfl ?_
          refine V.move rfl rfl rfl ?_
          refine V.indexO rfl rfl rfl rfl (by omega) ?_
          refine V.fieldAddr 0 3 rfl rfl rfl rfl rfl ?_
          apply V.loadC (c := C) rfl rfl rfl rfl
          · repeat' constructor
          · exact hc 0 _ rfl
          refine V.bin rfl rfl rfl rfl (bin_eql _ _ _) ?_
          refine V.nil ?_
          refine Post.nextC ?_
          refine VC.cond rfl (fun h5 => ?_) (fun h5 => ?_)
          · try simp only [decide_eq_true_eq, decide_eq_false_iff_not, Bool.not_eq_true', Bool.not_eq_false', Bool.not_eq_eq_eq_not, Bool.not_true, Bool.not_false, beq_iff_eq, beq_eq_false_iff_ne, ne_eq, Int.not_lt, Int.not_le, Option.isSome_some, Option.isNone_none, Option.isSome_none, Option.isNone_some, Classical.not_not] at h5
            refine VC.seq ?_
            refine VC.region ?_
            refine V.move rfl rfl rfl ?_
            refine V.buildSlice1 (l := [byv 10]) rfl rfl rfl rfl rfl rfl rfl (fun b1 => ?_)
            apply V.str (l := [10]) rfl rfl rfl
            · right; repeat' constructor
            · exact Rd.block _ _ _ _ [byv 10] rfl (by omega)
            refine V.bin rfl rfl rfl rfl (bin_stadd _ _ (by first | omega | (simp only [List.length_append, List.length_cons, List.length_nil]; omega))) ?_
            refine V.assign rfl rfl rfl ?_
            refine V.nil ?_
            refine Post.nextC ?_
            refine VC.seq ?_
            refine VC.region ?_
            refine V.assign rfl rfl rfl ?_
            refine V.nil ?_
            refine Post.nextC ?_
            refine VC.exit ?_
            refine Post.thenExit (Post.blockHit (Post.nextC ?_))
            refine VC.region ?_
            refine V.move rfl rfl rfl ?_
            refine V.bin rfl rfl rfl rfl (bin_addI (by omega)) ?_
            refine V.assign rfl rfl rfl ?_
            refine V.nil ?_
            refine Post.round (i + 1, true, acc ++ [10]) ?_ ?_ ?_ ?_
            · show ((i + 1) ≤ l.length) ∧ ((acc ++ [10]).length ≤ (i + 1) * 100002) ∧ (showGo false l = (showGo (!(true)) (l.drop (i + 1))).map ((acc ++ [10]) ++ ·))
              exact ⟨by omega, by simp only [List.length_append, List.length_cons, List.length_nil]; omega, show_next (by rw [hI, drop_cons hxi]) (showGo_line (by assumption) (by assumption) (by simp_all))⟩
            · show l.length - (i + 1) < l.length - i
              omega
            · exact ⟨rfl, rfl, rfl, rfl, trivial⟩
            · repeat' constructor
          · try simp only [decide_eq_true_eq, decide_eq_false_iff_not, Bool.not_eq_true', Bool.not_eq_false', Bool.not_eq_eq_eq_not, Bool.not_true, Bool.not_false, beq_iff_eq, beq_eq_false_iff_ne, ne_eq, Int.not_lt, Int.not_le, Option.isSome_some, Option.isNone_none, Option.isSome_none, Option.isNone_some, Classical.not_not] at h5
            refine VC.skip ?_
            refine Post.nextC ?_
            refine VC.seq ?_
            refine VC.seq ?_
            refine VC.region ?_
            refine V.move rfl rfl rfl ?_
            refine V.not rfl rfl rfl ?_
            refine V.move rfl rfl rfl ?_
            refine V.split (t := 42) rfl (fun h6 => ?_) (fun h6 => ?_)
            · try simp only [decide_eq_true_eq, decide_eq_false_iff_not, Bool.not_eq_true', Bool.not_eq_false', Bool.not_eq_eq_eq_not, Bool.not_true, Bool.not_false, beq_iff_eq, beq_eq_false_iff_ne, ne_eq, Int.not_lt, Int.not_le, Option.isSome_some, Option.isNone_none, Option.isSome_none, Option.isNone_some, Classical.not_not] at h6
              refine V.move rfl rfl rfl ?_
              refine V.move rfl rfl rfl ?_
              refine V.indexO rfl rfl rfl rfl (by omega) ?_
              refine V.fieldAddr 1 9 rfl rfl rfl rfl rfl ?_
              apply V.loadC (c := C) rfl rfl rfl rfl
              · repeat' constructor
              · exact hc 1 _ rfl
              refine V.bin rfl rfl rfl rfl (bin_stneq _ _) ?_
              refine V.pickT rfl rfl rfl rfl ?_
              refine V.move rfl rfl rfl ?_
              refine V.split (t := 50) rfl (fun h7 => ?_) (fun h7 => ?_)
              · try simp only [decide_eq_true_eq, decide_eq_false_iff_not, Bool.not_eq_true', Bool.not_eq_false', Bool.not_eq_eq_eq_not, Bool.not_true, Bool.not_false, beq_iff_eq, beq_eq_false_iff_ne, ne_eq, Int.not_lt, Int.not_le, Option.isSome_some, Option.isNone_none, Option.isSome_none, Option.isNone_some, Classical.not_not] at h7
                refine V.move rfl rfl rfl ?_
                refine V.move rfl rfl rfl ?_
                refine V.indexO rfl rfl rfl rfl (by omega) ?_
                refine V.fieldAddr 1 9 rfl rfl rfl rfl rfl ?_
                apply V.loadC (c := C) rfl rfl rfl rfl
                · repeat' constructor
                · exact hc 1 _ rfl
                refine V.bin rfl rfl rfl rfl (bin_stneq _ _) ?_
                refine V.pickT rfl rfl rfl rfl ?_
                refine V.nil ?_
                refine Post.nextC ?_
                refine VC.cond rfl (fun h8 => ?_) (fun h8 => ?_)
                · try simp only [decide_eq_true_eq, decide_eq_false_iff_not, Bool.not_eq_true', Bool.not_eq_false', Bool.not_eq_eq_eq_not, Bool.not_true, Bool.not_false, beq_iff_eq, beq_eq_false_iff_ne, ne_eq, Int.not_lt, Int.not_le, Option.isSome_some, Option.isNone_none, Option.isSome_none, Option.isNone_some, Classical.not_not] at h8
                  refine VC.region ?_
                  refine V.move rfl rfl rfl ?_
                  refine V.bin rfl rfl rfl rfl (bin_stadd _ _ (by first | omega | (simp only [List.length_append, List.length_cons, List.length_nil]; omega))) ?_
                  refine V.assign rfl rfl rfl ?_
                  refine V.nil ?_
                  refine Post.nextC ?_
                  refine VC.seq ?_
                  refine VC.region ?_
                  refine V.move rfl rfl rfl ?_
                  refine V.move rfl rfl rfl ?_
                  refine V.move rfl rfl rfl ?_
                  refine V.indexO rfl rfl rfl rfl (by omega) ?_
                  refine V.fieldAddr 1 9 rfl rfl rfl rfl rfl ?_
                  apply V.loadC (c := C) rfl rfl rfl rfl
                  · repeat' constructor
                  · exact hc 1 _ rfl
                  refine V.bin rfl rfl rfl rfl (bin_stadd _ _ (by first | omega | (simp only [List.length_append, List.length_cons, List.length_nil]; omega))) ?_
                  refine V.assign rfl rfl rfl ?_
                  refine V.nil ?_
                  refine Post.nextC ?_
                  refine VC.region ?_
                  refine V.assign rfl rfl rfl ?_
                  refine V.nil ?_
                  refine Post.blockNormal (Post.nextC ?_)
                  refine VC.region ?_
                  refine V.move rfl rfl rfl ?_
                  refine V.bin rfl rfl rfl rfl (bin_addI (by omega)) ?_
                  refine V.assign rfl rfl rfl ?_
                  refine V.nil ?_
                  refine Post.round (i + 1, false, (acc ++ [32]) ++ x.text) ?_ ?_ ?_ ?_
                  · show ((i + 1) ≤ l.length) ∧ (((acc ++ [32]) ++ x.text).length ≤ (i + 1) * 100002) ∧ (showGo false l = (showGo (!(false)) (l.drop (i + 1))).map (((acc ++ [32]) ++ x.text) ++ ·))
                    refine ⟨by omega, by simp only [List.length_append, List.length_cons, List.length_nil]; omega, ?_⟩
                    rw [List.append_assoc]
                    exact show_next (by rw [hI, drop_cons hxi]) (showGo_sep (by assumption) (by assumption) ⟨by simp_all, by assumption, by assumption⟩)
                  · show l.length - (i + 1) < l.length - i
                    omega
                  · exact ⟨rfl, rfl, rfl, rfl, trivial⟩
                  · repeat' constructor
                · try simp only [decide_eq_true_eq, decide_eq_false_iff_not, Bool.not_eq_true', Bool.not_eq_false', Bool.not_eq_eq_eq_not, Bool.not_true, Bool.not_false, beq_iff_eq, beq_eq_false_iff_ne, ne_eq, Int.not_lt, Int.not_le, Option.isSome_some, Option.isNone_none, Option.isSome_none, Option.isNone_some, Classical.not_not] at h8
                  refine VC.skip ?_
                  refine Post.nextC ?_
                  refine VC.seq ?_
                  refine VC.region ?_
                  refine V.move rfl rfl rfl ?_
                  refine V.move rfl rfl rfl ?_
                  refine V.move rfl rfl rfl ?_
                  refine V.indexO rfl rfl rfl rfl (by omega) ?_
                  refine V.fieldAddr 1 9 rfl rfl rfl rfl rfl ?_
                  apply V.loadC (c := C) rfl rfl rfl rfl
                  · repeat' constructor
                  · exact hc 1 _ rfl
                  refine V.bin rfl rfl rfl rfl (bin_stadd _ _ (by first | omega | (simp only [List.length_append, List.length_cons, List.length_nil]; omega))) ?_
                  refine V.assign rfl rfl rfl ?_
                  refine V.nil ?_
                  refine Post.nextC ?_
                  refine VC.region ?_
                  refine V.assign rfl rfl rfl ?_
                  refine V.nil ?_
                  refine Post.blockNormal (Post.nextC ?_)
                  refine VC.region ?_
                  refine V.move rfl rfl rfl ?_
                  refine V.bin rfl rfl rfl rfl (bin_addI (by omega)) ?_
                  refine V.assign rfl rfl rfl ?_
                  refine V.nil ?_
                  refine Post.round (i + 1, false, acc ++ x.text) ?_ ?_ ?_ ?_
                  · show ((i + 1) ≤ l.length) ∧ ((acc ++ x.text).length ≤ (i + 1) * 100002) ∧ (showGo false l = (showGo (!(false)) (l.drop (i + 1))).map ((acc ++ x.text) ++ ·))
                    exact ⟨by omega, by simp only [List.length_append]; omega, show_next (by rw [hI, drop_cons hxi]) (showGo_tok (by assumption) (by assumption) (by simp_all))⟩
                  · show l.length - (i + 1) < l.length - i
                    omega
                  · exact ⟨rfl, rfl, rfl, rfl, trivial⟩
                  · repeat' constructor
              · try simp only [decide_eq_true_eq, decide_eq_false_iff_not, Bool.not_eq_true', Bool.not_eq_false', Bool.not_eq_eq_eq_not, Bool.not_true, Bool.not_false, beq_iff_eq, beq_eq_false_iff_ne, ne_eq, Int.not_lt, Int.not_le, Option.isSome_some, Option.isNone_none, Option.isSome_none, Option.isNone_some, Classical.not_not] at h7
                refine V.skip rfl rfl ?_
                refine V.skip rfl rfl ?_
                refine V.skip rfl rfl ?_
                refine V.skip rfl rfl ?_
                refine V.skip rfl rfl ?_
                refine V.skip rfl rfl ?_
                refine V.pickF rfl rfl rfl rfl ?_
                refine V.nil ?_
                refine Post.nextC ?_
                refine VC.condF rfl ?_
                refine VC.skip ?_
                refine Post.nextC ?_
                refine VC.seq ?_
                refine VC.region ?_
                refine V.move rfl rfl rfl ?_
                refine V.move rfl rfl rfl ?_
                refine V.move rfl rfl rfl ?_
                refine V.indexO rfl rfl rfl rfl (by omega) ?_
                refine V.fieldAddr 1 9 rfl rfl rfl rfl rfl ?_
                apply V.loadC (c := C) rfl rfl rfl rfl
                · repeat' constructor
                · exact hc 1 _ rfl
                refine V.bin rfl rfl rfl rfl (bin_stadd _ _ (by first | omega | (simp only [List.length_append, List.length_cons, List.length_nil]; omega))) ?_
                refine V.assign rfl rfl rfl ?_
                refine V.nil ?_
                refine Post.nextC ?_
                refine VC.region ?_
                refine V.assign rfl rfl rfl ?_
                refine V.nil ?_
                refine Post.blockNormal (Post.nextC ?_)
                refine VC.region ?_
                refine V.move rfl rfl rfl ?_
                refine V.bin rfl rfl rfl rfl (bin_addI (by omega)) ?_
                refine V.assign rfl rfl rfl ?_
                refine V.nil ?_
                refine Post.round (i + 1, false, acc ++ x.text) ?_ ?_ ?_ ?_
                · show ((i + 1) ≤ l.length) ∧ ((acc ++ x.text).length ≤ (i + 1) * 100002) ∧ (showGo false l = (showGo (!(false)) (l.drop (i + 1))).map ((acc ++ x.text) ++ ·))
                  exact ⟨by omega, by simp only [List.length_append]; omega, show_next (by rw [hI, drop_cons hxi]) (showGo_tok (by assumption) (by assumption) (by simp_all))⟩
                · show l.length - (i + 1) < l.length - i
                  omega
                · exact ⟨rfl, rfl, rfl, rfl, trivial⟩
                · repeat' constructor
            · try simp only [decide_eq_true_eq, decide_eq_false_iff_not, Bool.not_eq_true', Bool.not_eq_false', Bool.not_eq_eq_eq_not, Bool.not_true, Bool.not_false, beq_iff_eq, beq_eq_false_iff_ne, ne_eq, Int.not_lt, Int.not_le, Option.isSome_some, Option.isNone_none, Option.isSome_none, Option.isNone_some, Classical.not_not] at h6
              refine V.skip rfl rfl ?_
              refine V.skip rfl rfl ?_
              refine V.skip rfl rfl ?_
              refine V.skip rfl rfl ?_
              refine V.skip rfl rfl ?_
              refine V.skip rfl rfl ?_
              refine V.pickF rfl rfl rfl rfl ?_
              refine V.move rfl rfl rfl ?_
              refine V.skip rfl rfl ?_
              refine V.skip rfl rfl ?_
              refine V.skip rfl rfl ?_
              refine V.skip rfl rfl ?_
              refine V.skip rfl rfl ?_
              refine V.skip rfl rfl ?_
              refine V.pickF rfl rfl rfl rfl ?_
              refine V.nil ?_
              refine Post.nextC ?_
              refine VC.condF rfl ?_
              refine VC.skip ?_
              refine Post.nextC ?_
              refine VC.seq ?_
              refine VC.region ?_
              refine V.move rfl rfl rfl ?_
              refine V.move rfl rfl rfl ?_
              refine V.move rfl rfl rfl ?_
              refine V.indexO rfl rfl rfl rfl (by omega) ?_
              refine V.fieldAddr 1 9 rfl rfl rfl rfl rfl ?_
              apply V.loadC (c := C) rfl rfl rfl rfl
              · repeat' constructor
              · exact hc 1 _ rfl
              refine V.bin rfl rfl rfl rfl (bin_stadd _ _ (by first | omega | (simp only [List.length_append, List.length_cons, List.length_nil]; omega))) ?_
              refine V.assign rfl rfl rfl ?_
              refine V.nil ?_
              refine Post.nextC ?_
              refine VC.region ?_
              refine V.assign rfl rfl rfl ?_
              refine V.nil ?_
              refine Post.blockNormal (Post.nextC ?_)
              refine VC.region ?_
              refine V.move rfl rfl rfl ?_
              refine V.bin rfl rfl rfl rfl (bin_addI (by omega)) ?_
              refine V.assign rfl rfl rfl ?_
              refine V.nil ?_
              refine Post.round (i + 1, false, acc ++ x.text) ?_ ?_ ?_ ?_
              · show ((i + 1) ≤ l.length) ∧ ((acc ++ x.text).length ≤ (i + 1) * 100002) ∧ (showGo false l = (showGo (!(false)) (l.drop (i + 1))).map ((acc ++ x.text) ++ ·))
                exact ⟨by omega, by simp only [List.length_append]; omega, show_next (by rw [hI, drop_cons hxi]) (showGo_tok (by assumption) (by assumption) (by simp_all))⟩
              · show l.length - (i + 1) < l.length - i
                omega
              · exact ⟨rfl, rfl, rfl, rfl, trivial⟩
              · repeat' constructor
      · try simp only [decide_eq_true_eq, decide_eq_false_iff_not, Bool.not_eq_true', Bool.not_eq_false', Bool.not_eq_eq_eq_not, Bool.not_true, Bool.not_false, beq_iff_eq, beq_eq_false_iff_ne, ne_eq, Int.not_lt, Int.not_le, Option.isSome_some, Option.isNone_none, Option.isSome_none, Option.isNone_some, Classical.not_not] at h3
        refine V.skip rfl rfl ?_
        refine V.skip rfl rfl ?_
        refine V.skip rfl rfl ?_
        refine V.skip rfl rfl ?_
        refine V.skip rfl rfl ?_
        refine V.skip rfl rfl ?_
        refine V.pickF rfl rfl rfl rfl ?_
        refine V.pickF rfl rfl rfl rfl ?_
        refine V.nil ?_
        refine Post.nextC ?_
        refine VC.condF rfl ?_
        refine VC.skip ?_
        refine Post.nextC ?_
        refine VC.seq ?_
        refine VC.seq ?_
        refine VC.region ?_
        refine V.move rfl rfl rfl ?_
        refine V.move rfl rfl rfl ?_
        refine V.indexO rfl rfl rfl rfl (by omega) ?_
        refine V.fieldAddr 0 3 rfl rfl rfl rfl rfl ?_
        apply V.loadC (c := C) rfl rfl rfl rfl
        · repeat' constructor
        · exact hc 0 _ rfl
        refine V.bin rfl rfl rfl rfl (bin_eql _ _ _) ?_
        refine V.nil ?_
        refine Post.nextC ?_
        refine VC.cond rfl (fun h9 => ?_) (fun h9 => ?_)
        · try simp only [decide_eq_true_eq, decide_eq_false_iff_not, Bool.not_eq_true', Bool.not_eq_false', Bool.not_eq_eq_eq_not, Bool.not_true, Bool.not_false, beq_iff_eq, beq_eq_false_iff_ne, ne_eq, Int.not_lt, Int.not_le, Option.isSome_some, Option.isNone_none, Option.isSome_none, Option.isNone_some, Classical.not_not] at h9
          refine VC.seq ?_
          refine VC.region ?_
          refine V.move rfl rfl rfl ?_
          refine V.buildSlice1 (l := [byv 10]) rfl rfl rfl rfl rfl rfl rfl (fun b1 => ?_)
          apply V.str (l := [10]) rfl rfl rfl
          · right; repeat' constructor
          · exact Rd.block _ _ _ _ [byv 10] rfl (by omega)
          refine V.bin rfl rfl rfl rfl (bin_stadd _ _ (by first | omega | (simp only [List.length_append, List.length_cons, List.length_nil]; omega))) ?_
          refine V.assign rfl rfl rfl ?_
          refine V.nil ?_
          refine Post.nextC ?_
          refine VC.seq ?_
          refine VC.region ?_
          refine V.assign rfl rfl rfl ?_
          refine V.nil ?_
          refine Post.nextC ?_
          refine VC.exit ?_
          refine Post.thenExit (Post.blockHit (Post.nextC ?_))
          refine VC.region ?_
          refine V.move rfl rfl rfl ?_
          refine V.bin rfl rfl rfl rfl (bin_addI (by omega)) ?_
          refine V.assign rfl rfl rfl ?_
          refine V.nil ?_
          refine Post.round (i + 1, true, acc ++ [10]) ?_ ?_ ?_ ?_
          · show ((i + 1) ≤ l.length) ∧ ((acc ++ [10]).length ≤ (i + 1) * 100002) ∧ (showGo false l = (showGo (!(true)) (l.drop (i + 1))).map ((acc ++ [10]) ++ ·))
            exact ⟨by omega, by simp only [List.length_append, List.length_cons, List.length_nil]; omega, show_next (by rw [hI, drop_cons hxi]) (showGo_line (by assumption) (by assumption) (by simp_all))⟩
          · show l.length - (i + 1) < l.length - i
            omega
          · exact ⟨rfl, rfl, rfl, rfl, trivial⟩
          · repeat' constructor
        · try simp only [decide_eq_true_eq, decide_eq_false_iff_not, Bool.not_eq_true', Bool.not_eq_false', Bool.not_eq_eq_eq_not, Bool.not_true, Bool.not_false, beq_iff_eq, beq_eq_false_iff_ne, ne_eq, Int.not_lt, Int.not_le, Option.isSome_some, Option.isNone_none, Option.isSome_none, Option.isNone_some, Classical.not_not] at h9
          refine VC.skip ?_
          refine Post.nextC ?_
          refine VC.seq ?_
          refine VC.seq ?_
          refine VC.region ?_
          refine V.move rfl rfl rfl ?_
          refine V.not rfl rfl rfl ?_
          refine V.move rfl rfl rfl ?_
          refine V.split (t := 42) rfl (fun h10 => ?_) (fun h10 => ?_)
          · try simp only [decide_eq_true_eq, decide_eq_false_iff_not, Bool.not_eq_true', Bool.not_eq_false', Bool.not_eq_eq_eq_not, Bool.not_true, Bool.not_false, beq_iff_eq, beq_eq_false_iff_ne, ne_eq, Int.not_lt, Int.not_le, Option.isSome_some, Option.isNone_none, Option.isSome_none, Option.isNone_some, Classical.not_not] at h10
            refine V.move rfl rfl rfl ?_
            refine V.move rfl rfl rfl ?_
            refine V.indexO rfl rfl rfl rfl (by omega) ?_
            refine V.fieldAddr 1 9 rfl rfl rfl rfl rfl ?_
            apply V.loadC (c := C) rfl rfl rfl rfl
            · repeat' constructor
            · exact hc 1 _ rfl
            refine V.bin rfl rfl rfl rfl (bin_stneq _ _) ?_
            refine V.pickT rfl rfl rfl rfl ?_
            refine V.move rfl rfl rfl ?_
            refine V.split (t := 50) rfl (fun h11 => ?_) (fun h11 => ?_)
            · try simp only [decide_eq_true_eq, decide_eq_false_iff_not, Bool.not_eq_true', Bool.not_eq_false', Bool.not_eq_eq_eq_not, Bool.not_true, Bool.not_false, beq_iff_eq, beq_eq_false_iff_ne, ne_eq, Int.not_lt, Int.not_le, Option.isSome_some, Option.isNone_none, Option.isSome_none, Option.isNone_some, Classical.not_not] at h11
              refine V.move rfl rfl rfl ?_
              refine V.move rfl rfl rfl ?_
              refine V.indexO rfl rfl rfl rfl (by omega) ?_
              refine V.fieldAddr 1 9 rfl rfl rfl rfl rfl ?_
              apply V.loadC (c := C) rfl rfl rfl rfl
              · repeat' constructor
              · exact hc 1 _ rfl
              refine V.bin rfl rfl rfl rfl (bin_stneq _ _) ?_
              refine V.pickT rfl rfl rfl rfl ?_
              refine V.nil ?_
              refine Post.nextC ?_
              refine VC.cond rfl (fun h12 => ?_) (fun h12 => ?_)
              · try simp only [decide_eq_true_eq, decide_eq_false_iff_not, Bool.not_eq_true', Bool.not_eq_false', Bool.not_eq_eq_eq_not, Bool.not_true, Bool.not_false, beq_iff_eq, beq_eq_false_iff_ne, ne_eq, Int.not_lt, Int.not_le, Option.isSome_some, Option.isNone_none, Option.isSome_none, Option.isNone_some, Classical.not_not] at h12
                refine VC.region ?_
                refine V.move rfl rfl rfl ?_
                refine V.bin rfl rfl rfl rfl (bin_stadd _ _ (by first | omega | (simp only [List.length_append, List.length_cons, List.length_nil]; omega))) ?_
                refine V.assign rfl rfl rfl ?_
                refine V.nil ?_
                refine Post.nextC ?_
                refine VC.seq ?_
                refine VC.region ?_
                refine V.move rfl rfl rfl ?_
                refine V.move rfl rfl rfl ?_
                refine V.move rfl rfl rfl ?_
                refine V.indexO rfl rfl rfl rfl (by omega) ?_
                refine V.fieldAddr 1 9 rfl rfl rfl rfl rfl ?_
                apply V.loadC (c := C) rfl rfl rfl rfl
                · repeat' constructor
                · exact hc 1 _ rfl
                refine V.bin rfl rfl rfl rfl (bin_stadd _ _ (by first | omega | (simp only [List.length_append, List.length_cons, List.length_nil]; omega))) ?_
                refine V.assign rfl rfl rfl ?_
                refine V.nil ?_
                refine Post.nextC ?_
                refine VC.region ?_
                refine V.assign rfl rfl rfl ?_
                refine V.nil ?_
                refine Post.blockNormal (Post.nextC ?_)
                refine VC.region ?_
                refine V.move rfl rfl rfl ?_
                refine V.bin rfl rfl rfl rfl (bin_addI (by omega)) ?_
                refine V.assign rfl rfl rfl ?_
                refine V.nil ?_
                refine Post.round (i + 1, false, (acc ++ [32]) ++ x.text) ?_ ?_ ?_ ?_
                · show ((i + 1) ≤ l.length) ∧ (((acc ++ [32]) ++ x.text).length ≤ (i + 1) * 100002) ∧ (showGo false l = (showGo (!(false)) (l.drop (i + 1))).map (((acc ++ [32]) ++ x.text) ++ ·))
                  refine ⟨by omega, by simp only [List.length_append, List.length_cons, List.length_nil]; omega, ?_⟩
                  rw [List.append_assoc]
                  exact show_next (by rw [hI, drop_cons hxi]) (showGo_sep (by assumption) (by assumption) ⟨by simp_all, by assumption, by assumption⟩)
                · show l.length - (i + 1) < l.length - i
                  omega
                · exact ⟨rfl, rfl, rfl, rfl, trivial⟩
                · repeat' constructor
              · try simp only [decide_eq_true_eq, decide_eq_false_iff_not, Bool.not_eq_true', Bool.not_eq_false', Bool.not_eq_eq_eq_not, Bool.not_true, Bool.not_false, beq_iff_eq, beq_eq_false_iff_ne, ne_eq, Int.not_lt, Int.not_le, Option.isSome_some, Option.isNone_none, Option.isSome_none, Option.isNone_some, Classical.not_not] at h12
                refine VC.skip ?_
                refine Post.nextC ?_
                refine VC.seq ?_
                refine VC.region ?_
                refine V.move rfl rfl rfl ?_
                refine V.move rfl rfl rfl ?_
                refine V.move rfl rfl rfl ?_
                refine V.indexO rfl rfl rfl rfl (by omega) ?_
                refine V.fieldAddr 1 9 rfl rfl rfl rfl rfl ?_
                apply V.loadC (c := C) rfl rfl rfl rfl
                · repeat' constructor
                · exact hc 1 _ rfl
                refine V.bin rfl rfl rfl rfl (bin_stadd _ _ (by first | omega | (simp only [List.length_append, List.length_cons, List.length_nil]; omega))) ?_
                refine V.assign rfl rfl rfl ?_
                refine V.nil ?_
                refine Post.nextC ?_
                refine VC.region ?_
                refine V.assign rfl rfl rfl ?_
                refine V.nil ?_
                refine Post.blockNormal (Post.nextC ?_)
                refine VC.region ?_
                refine V.move rfl rfl rfl ?_
                refine V.bin rfl rfl rfl rfl (bin_addI (by omega)) ?_
                refine V.assign rfl rfl rfl ?_
                refine V.nil ?_
                refine Post.round (i + 1, false, acc ++ x.text) ?_ ?_ ?_ ?_
                · show ((i + 1) ≤ l.length) ∧ ((acc ++ x.text).length ≤ (i + 1) * 100002) ∧ (showGo false l = (showGo (!(false)) (l.drop (i + 1))).map ((acc ++ x.text) ++ ·))
                  exact ⟨by omega, by simp only [List.length_append]; omega, show_next (by rw [hI, drop_cons hxi]) (showGo_tok (by assumption) (by assumption) (by simp_all))⟩
                · show l.length - (i + 1) < l.length - i
                  omega
                · exact ⟨rfl, rfl, rfl, rfl, trivial⟩
                · repeat' constructor
            · try simp only [decide_eq_true_eq, decide_eq_false_iff_not, Bool.not_eq_true', Bool.not_eq_false', Bool.not_eq_eq_eq_not, Bool.not_true, Bool.not_false, beq_iff_eq, beq_eq_false_iff_ne, ne_eq, Int.not_lt, Int.not_le, Option.isSome_some, Option.isNone_none, Option.isSome_none, Option.isNone_some, Classical.not_not] at h11
              refine V.skip rfl rfl ?_
              refine V.skip rfl rfl ?_
              refine V.skip rfl rfl ?_
              refine V.skip rfl rfl ?_
              refine V.skip rfl rfl ?_
              refine V.skip rfl rfl ?_
              refine V.pickF rfl rfl rfl rfl ?_
              refine V.nil ?_
              refine Post.nextC ?_
              refine VC.condF rfl ?_
              refine VC.skip ?_
              refine Post.nextC ?_
              refine VC.seq ?_
              refine VC.region ?_
              refine V.move rfl rfl rfl ?_
              refine V.move rfl rfl rfl ?_
              refine V.move rfl rfl rfl ?_
              refine V.indexO rfl rfl rfl rfl (by omega) ?_
              refine V.fieldAddr 1 9 rfl rfl rfl rfl rfl ?_
              apply V.loadC (c := C) rfl rfl rfl rfl
              · repeat' constructor
              · exact hc 1 _ rfl
              refine V.bin rfl rfl rfl rfl (bin_stadd _ _ (by first | omega | (simp only [List.length_append, List.length_cons, List.length_nil]; omega))) ?_
              refine V.assign rfl rfl rfl ?_
              refine V.nil ?_
              refine Post.nextC ?_
              refine VC.region ?_
              refine V.assign rfl rfl rfl ?_
              refine V.nil ?_
              refine Post.blockNormal (Post.nextC ?_)
              refine VC.region ?_
              refine V.move rfl rfl rfl ?_
              refine V.bin rfl rfl rfl rfl (bin_addI (by omega)) ?_
              refine V.assign rfl rfl rfl ?_
              refine V.nil ?_
              refine Post.round (i + 1, false, acc ++ x.text) ?_ ?_ ?_ ?_
              · show ((i + 1) ≤ l.length) ∧ ((acc ++ x.text).length ≤ (i + 1) * 100002) ∧ (showGo false l = (showGo (!(false)) (l.drop (i + 1))).map ((acc ++ x.text) ++ ·))
                exact ⟨by omega, by simp only [List.length_append]; omega, show_next (by rw [hI, drop_cons hxi]) (showGo_tok (by assumption) (by assumption) (by simp_all))⟩
              · show l.length - (i + 1) < l.length - i
                omega
              · exact ⟨rfl, rfl, rfl, rfl, trivial⟩
              · repeat' constructor
          · try simp only [decide_eq_true_eq, decide_eq_false_iff_not, Bool.not_eq_true', Bool.not_eq_false', Bool.not_eq_eq_eq_not, Bool.not_true, Bool.not_false, beq_iff_eq, beq_eq_false_iff_ne, ne_eq, Int.not_lt, Int.not_le, Option.isSome_some, Option.isNone_none, Option.isSome_none, Option.isNone_some, Classical.not_not] at h10
            refine V.skip rfl rfl ?_
            refine V.skip rfl rfl ?_
            refine V.skip rfl rfl ?_
            refine V.skip rfl rfl ?_
            refine V.skip rfl rfl ?_
            refine V.skip rfl rfl ?_
            refine V.pickF rfl rfl rfl rfl ?_
            refine V.move rfl rfl rfl ?_
            refine V.skip rfl rfl ?_
            refine V.skip rfl rfl ?_
            refine V.skip rfl rfl ?_
            refine V.skip rfl rfl ?_
            refine V.skip rfl rfl ?_
            refine V.skip rfl rfl ?_
            refine V.pickF rfl rfl rfl rfl ?_
            refine V.nil ?_
            refine Post.nextC ?_
            refine VC.condF rfl ?_
            refine VC.skip ?_
            refine Post.nextC ?_
            refine VC.seq ?_
            refine VC.region ?_
            refine V.move rfl rfl rfl ?_
            refine V.move rfl rfl rfl ?_
            refine V.move rfl rfl rfl ?_
            refine V.indexO rfl rfl rfl rfl (by omega) ?_
            refine V.fieldAddr 1 9 rfl rfl rfl rfl rfl ?_
            apply V.loadC (c := C) rfl rfl rfl rfl
            · repeat' constructor
            · exact hc 1 _ rfl
            refine V.bin rfl rfl rfl rfl (bin_stadd _ _ (by first | omega | (simp only [List.length_append, List.length_cons, List.length_nil]; omega))) ?_
            refine V.assign rfl rfl rfl ?_
            refine V.nil ?_
            refine Post.nextC ?_
            refine VC.region ?_
            refine V.assign rfl rfl rfl ?_
            refine V.nil ?_
            refine Post.blockNormal (Post.nextC ?_)
            refine VC.region ?_
            refine V.move rfl rfl rfl ?_
            refine V.bin rfl rfl rfl rfl (bin_addI (by omega)) ?_
            refine V.assign rfl rfl rfl ?_
            refine V.nil ?_
            refine Post.round (i + 1, false, acc ++ x.text) ?_ ?_ ?_ ?_
            · show ((i + 1) ≤ l.length) ∧ ((acc ++ x.text).length ≤ (i + 1) * 100002) ∧ (showGo false l = (showGo (!(false)) (l.drop (i + 1))).map ((acc ++ x.text) ++ ·))
              exact ⟨by omega, by simp only [List.length_append]; omega, show_next (by rw [hI, drop_cons hxi]) (showGo_tok (by assumption) (by assumption) (by simp_all))⟩
            · show l.length - (i + 1) < l.length - i
              omega
            · exact ⟨rfl, rfl, rfl, rfl, trivial⟩
            · repeat' constructor
  · try simp only [decide_eq_true_eq, decide_eq_false_iff_not, Bool.not_eq_true', Bool.not_eq_false', Bool.not_eq_eq_eq_not, Bool.not_true, Bool.not_false, beq_iff_eq, beq_eq_false_iff_ne, ne_eq, Int.not_lt, Int.not_le, Option.isSome_some, Option.isNone_none, Option.isSome_none, Option.isNone_some, Classical.not_not] at h1
    refine VC.exit ?_
    refine Post.thenExit (Post.thenExit (Post.blockHit (Post.nextC ?_)))
    refine VC.seq ?_
    refine VC.seq ?_
    refine VC.region ?_
    refine V.move rfl rfl rfl ?_
    refine V.not rfl rfl rfl ?_
    refine V.nil ?_
    refine Post.nextC ?_
    refine VC.cond rfl (fun h13 => ?_) (fun h13 => ?_)
    · try simp only [decide_eq_true_eq, decide_eq_false_iff_not, Bool.not_eq_true', Bool.not_eq_false', Bool.not_eq_eq_eq_not, Bool.not_true, Bool.not_false, beq_iff_eq, beq_eq_false_iff_ne, ne_eq, Int.not_lt, Int.not_le, Option.isSome_some, Option.isNone_none, Option.isSome_none, Option.isNone_some, Classical.not_not] at h13
      refine VC.seq ?_
      refine VC.region ?_
      refine V.assign rfl rfl rfl ?_
      refine V.assign rfl rfl rfl ?_
      refine V.nil ?_
      refine Post.nextC ?_
      refine VC.ret ?_
      refine Post.thenRet (?_)
      apply Post.ret2 rfl rfl rfl 
      · obtain rfl : i = l.length := by omega
        have hb : fst = false := by assumption
        have e : showGo false l = none := by rw [hI, List.drop_length, hb]; rfl
        rw [e]
        exact ⟨rfl, rfl⟩
      · repeat' constructor
    · try simp only [decide_eq_true_eq, decide_eq_false_iff_not, Bool.not_eq_true', Bool.not_eq_false', Bool.not_eq_eq_eq_not, Bool.not_true, Bool.not_false, beq_iff_eq, beq_eq_false_iff_ne, ne_eq, Int.not_lt, Int.not_le, Option.isSome_some, Option.isNone_none, Option.isSome_none, Option.isNone_some, Classical.not_not] at h13
      refine VC.skip ?_
      refine Post.nextC ?_
      refine VC.seq ?_
      refine VC.region ?_
      refine V.move rfl rfl rfl ?_
      refine V.assign rfl rfl rfl ?_
      refine V.assign rfl rfl rfl ?_
      refine V.nil ?_
      refine Post.nextC ?_
      refine VC.ret ?_
      apply Post.ret2 rfl rfl rfl 
      · obtain rfl : i = l.length := by omega
        have hb : fst = true := by assumption
        have e : showGo false l = some acc := by rw [hI, List.drop_length, hb]; simp [showGo]
        rw [e]
        exact ⟨rfl, rfl⟩
      · repeat' constructor

theorem c22 {w0 : World} {C : Chunk} {v : Value} {l : List Tok} (hr : Rd w0 C 5 v l.length (toks l)) (hl : l.length ≤ 1000000) : CtR Pg w0 22 #[v] [C] (fun u H => ∃ co D vs, Own 37 1 co u (linesGo l []).length vs ∧ LinesAt w0 D (linesGo l []) vs ∧ H = [co, D, C]) := by
  obtain ⟨ad, cp, rfl, _⟩ := id hr
  refine Ct.of_body Go.Proofs.Tryd.func22 rfl 30 rfl rfl (fun R => ?_)
  refine VC.seq ?_
  refine VC.region ?_
  refine V.assign rfl rfl rfl ?_
  refine V.nil ?_
  refine Post.nextC ?_
  refine VC.seq ?_
  refine VC.region ?_
  refine V.assign rfl rfl rfl ?_
  refine V.nil ?_
  refine Post.nextC ?_
  refine VC.seq ?_
  refine VC.region ?_
  refine V.assign rfl rfl rfl ?_
  refine V.nil ?_
  refine Post.nextC ?_
  refine VC.seq ?_
  refine VC.seq ?_
  refine VC.region ?_
  refine V.assign rfl rfl rfl ?_
  refine V.nil ?_
  refine Post.nextC ?_
  refine VC.block ?_
  refine VC.loop (σ := (Nat) × (List (List Tok)) × (List Tok) × (Value) × (Chunk) × (Chunk) × (Value) × (Chunk) × (List Value)) (fun zz => [(0, .slice ad l.length cp), (3, zz.2.2.2.1), (4, zz.2.2.2.2.2.2.1), (5, .int .i64 (zz.1 : Int))]) (fun zz => zz.2.2.2.2.1 :: zz.2.2.2.2.2.1 :: zz.2.2.2.2.2.2.2.1 :: C :: R) (fun zz => (zz.1 ≤ l.length) ∧ (zz.2.1.length ≤ zz.1) ∧ (zz.2.2.1.length ≤ zz.1) ∧ (Own 37 1 zz.2.2.2.2.1 zz.2.2.2.1 zz.2.1.length zz.2.2.2.2.2.2.2.2) ∧ (LinesAt w0 zz.2.2.2.2.2.1 zz.2.1 zz.2.2.2.2.2.2.2.2) ∧ (Own 41 5 zz.2.2.2.2.2.2.2.1 zz.2.2.2.2.2.2.1 zz.2.2.1.length (toks zz.2.2.1)) ∧ (linesGo l [] = zz.2.1 ++ linesGo (l.drop zz.1) zz.2.2.1)) (fun zz => l.length - zz.1) (0, [], [], .slice none 0 0, [], [], .slice none 0 0, [], []) (⟨Nat.zero_le _, Nat.le_refl _, Nat.le_refl _, Own.nil _ _, LinesAt.nil _ _, Own.nil _ _, rfl⟩) ?_ ?_ ?_
  · exact ⟨rfl, rfl, rfl, rfl, trivial⟩
  · repeat' constructor
  rintro ⟨i, ls, one, vo, co, D, v1, c1, vs⟩ ⟨(hi : i ≤ l.length), (hls : ls.length ≤ i), (hone : one.length ≤ i), (hVo : Own 37 1 co vo ls.length vs), (hD : LinesAt w0 D ls vs), (hO : Own 41 5 c1 v1 one.length (toks one)), (hI : linesGo l [] = ls ++ linesGo (l.drop i) one)⟩
  refine VC.sub (E' := [(0, .slice ad l.length cp), (3, vo), (4, v1), (5, .int .i64 (i : Int))]) (H' := co :: D :: c1 :: C :: R) ⟨rfl, rfl, rfl, rfl, trivial⟩ (by repeat' constructor) ?_
  refine VC.seq ?_
  refine VC.seq ?_
  refine VC.region ?_
  refine V.move rfl rfl rfl ?_
  refine V.move rfl rfl rfl ?_
  refine V.len rfl rfl rfl ?_
  refine V.bin rfl rfl rfl rfl (bin_lss _ _ _) ?_
  refine V.nil ?_
  refine Post.nextC ?_
  refine VC.cond rfl (fun h1 => ?_) (fun h1 => ?_)
  · try simp only [decide_eq_true_eq, decide_eq_false_iff_not, Bool.not_eq_true', Bool.not_eq_false', Bool.not_eq_eq_eq_not, Bool.not_true, Bool.not_false, beq_iff_eq, beq_eq_false_iff_ne, ne_eq, Int.not_lt, Int.not_le, Option.isSome_some, Option.isNone_none, Option.isSome_none, Option.isNone_some, Classical.not_not] at h1
    refine VC.skip ?_
    refine Post.nextC ?_
    refine VC.seq ?_
    refine VC.block ?_
    refine VC.seq ?_
    refine VC.region ?_
    obtain ⟨x, hxi⟩ := getc (t := l) (i := i) (by assumption)
    obtain ⟨_, bb, oo, cp2, e, hc⟩ := hr.item (f := Tok.cells) (i := i) tok5 (by omega) hxi
    simp only [Value.slice.injEq] at e
    obtain ⟨rfl, _, rfl⟩ := e
    refine V.move rfl rfl rfl ?_
    refine V.move rfl rfl rfl ?_
    refine V.move rfl rfl rfl ?_
    refine V.indexO rfl rfl rfl rfl (by omega) ?_
    apply V.loadNC (c := C) (vs := x.cells) rfl rfl rfl rfl
    · repeat' constructor
    · rfl
    · exact fun j u hu => by rw [add_addr]; exact hc j u hu
    refine V.buildSlice1 (l := x.cells) rfl rfl rfl rfl rfl rfl rfl (fun b4 => ?_)
    apply V.append1 rfl rfl rfl rfl rfl rfl (news := x.cells) (ho := hO) (hb := by omega) (h63 := by simp only [maxLen]; omega)
    case hp => repeat' constructor
    case hl => rfl
    case h1 => rfl
    intro v2 c2 ho1
    refine V.assign rfl rfl rfl ?_
    refine V.nil ?_
    refine Post.nextC ?_
    refine VC.seq ?_
    refine VC.region ?_
    have hO2 : Own 41 5 c2 v2 (one ++ [x]).length (toks (one ++ [x])) := by simpa [toks_snoc] using ho1
    obtain ⟨ad2, cp2, rfl, _⟩ := id (hO2.rd (w0 := w0))
    refine V.move rfl rfl rfl ?_
    refine V.move rfl rfl rfl ?_
    refine V.indexO rfl rfl rfl rfl (by omega) ?_
    refine V.fieldAddr 0 3 rfl rfl rfl rfl rfl ?_
    apply V.loadC (c := C) rfl rfl rfl rfl
    · repeat' constructor
    · exact hc 0 _ rfl
    refine V.bin rfl rfl rfl rfl (bin_eql _ _ _) ?_
    refine V.nil ?_
    refine Post.nextC ?_
    refine VC.cond rfl (fun h2 => ?_) (fun h2 => ?_)
    · try simp only [decide_eq_true_eq, decide_eq_false_iff_not, Bool.not_eq_true', Bool.not_eq_false', Bool.not_eq_eq_eq_not, Bool.not_true, Bool.not_false, beq_iff_eq, beq_eq_false_iff_ne, ne_eq, Int.not_lt, Int.not_le, Option.isSome_some, Option.isNone_none, Option.isSome_none, Option.isNone_some, Classical.not_not] at h2
      refine VC.seq ?_
      refine VC.region ?_
      refine V.move rfl rfl rfl ?_
      refine V.move rfl rfl rfl ?_
      refine V.buildSlice1 (l := [.slice ad2 (one ++ [x]).length cp2]) rfl rfl rfl rfl rfl rfl rfl (fun b5 => ?_)
      apply V.append1 rfl rfl rfl rfl rfl rfl (news := [.slice ad2 (one ++ [x]).length cp2]) (ho := hVo) (hb := by omega) (h63 := by simp only [maxLen]; omega)
      case hp => repeat' constructor
      case hl => rfl
      case h1 => rfl
      intro v3 c3 ho3
      refine V.assign rfl rfl rfl ?_
      refine V.nil ?_
      refine Post.nextC ?_
      refine VC.region ?_
      refine V.assign rfl rfl rfl ?_
      refine V.nil ?_
      refine Post.blockNormal (Post.nextC ?_)
      refine VC.region ?_
      refine V.move rfl rfl rfl ?_
      refine V.bin rfl rfl rfl rfl (bin_addI (by omega)) ?_
      refine V.assign rfl rfl rfl ?_
      refine V.nil ?_
      refine Post.round (i + 1, ls ++ [one ++ [x]], [], v3, c3, D ++ c2, .slice none 0 0, [], vs ++ [.slice ad2 (one ++ [x]).length cp2]) ?_ ?_ ?_ ?_
      · show ((i + 1) ≤ l.length) ∧ ((ls ++ [one ++ [x]]).length ≤ (i + 1)) ∧ (([]).length ≤ (i + 1)) ∧ (Own 37 1 (c3) (v3) (ls ++ [one ++ [x]]).length (vs ++ [.slice ad2 (one ++ [x]).length cp2])) ∧ (LinesAt w0 (D ++ c2) (ls ++ [one ++ [x]]) (vs ++ [.slice ad2 (one ++ [x]).length cp2])) ∧ (Own 41 5 ([]) (.slice none 0 0) ([]).length (toks ([]))) ∧ (linesGo l [] = (ls ++ [one ++ [x]]) ++ linesGo (l.drop (i + 1)) ([]))
        exact ⟨by omega, by simp; omega, by simp, by simpa using ho3, hD.snoc hO2.rd, Own.nil _ _, by rw [hI, drop_cons hxi, linesGo_line (by assumption)]; simp⟩
      · show l.length - (i + 1) < l.length - i
        omega
      · exact ⟨rfl, rfl, rfl, rfl, trivial⟩
      · repeat' constructor
    · try simp only [decide_eq_true_eq, decide_eq_false_iff_not, Bool.not_eq_true', Bool.not_eq_false', Bool.not_eq_eq_eq_not, Bool.not_true, Bool.not_false, beq_iff_eq, beq_eq_false_iff_ne, ne_eq, Int.not_lt, Int.not_le, Option.isSome_some, Option.isNone_none, Option.isSome_none, Option.isNone_some, Classical.not_not] at h2
      refine VC.skip ?_
      refine Post.blockNormal (Post.nextC ?_)
      refine VC.region ?_
      refine V.move rfl rfl rfl ?_
      refine V.bin rfl rfl rfl rfl (bin_addI (by omega)) ?_
      refine V.assign rfl rfl rfl ?_
      refine V.nil ?_
      refine Post.round (i + 1, ls, one ++ [x], vo, co, D, .slice ad2 (one ++ [x]).length cp2, c2, vs) ?_ ?_ ?_ ?_
      · show ((i + 1) ≤ l.length) ∧ ((ls).length ≤ (i + 1)) ∧ ((one ++ [x]).length ≤ (i + 1)) ∧ (Own 37 1 (co) (vo) (ls).length (vs)) ∧ (LinesAt w0 (D) (ls) (vs)) ∧ (Own 41 5 (c2) (.slice ad2 (one ++ [x]).length cp2) (one ++ [x]).length (toks (one ++ [x]))) ∧ (linesGo l [] = (ls) ++ linesGo (l.drop (i + 1)) (one ++ [x]))
        exact ⟨by omega, by omega, by simp; omega, hVo, hD, hO2, by rw [hI, drop_cons hxi, linesGo_on (by assumption)]⟩
      · show l.length - (i + 1) < l.length - i
        omega
      · exact ⟨rfl, rfl, rfl, rfl, trivial⟩
      · repeat' constructor
  · try simp only [decide_eq_true_eq, decide_eq_false_iff_not, Bool.not_eq_true', Bool.not_eq_false', Bool.not_eq_eq_eq_not, Bool.not_true, Bool.not_false, beq_iff_eq, beq_eq_false_iff_ne, ne_eq, Int.not_lt, Int.not_le, Option.isSome_some, Option.isNone_none, Option.isSome_none, Option.isNone_some, Classical.not_not] at h1
    refine VC.exit ?_
    refine Post.thenExit (Post.thenExit (Post.blockHit (Post.nextC ?_)))
    refine VC.seq ?_
    refine VC.region ?_
    refine V.move rfl rfl rfl ?_
    refine V.assign rfl rfl rfl ?_
    refine V.nil ?_
    refine Post.nextC ?_
    refine VC.ret ?_
    apply Post.ret1 rfl rfl 
    · obtain rfl : i = l.length := by omega
      have e : linesGo l [] = ls := by rw [hI, List.drop_length]; simp [linesGo]
      rw [e]
      exact ⟨co, D, vs, hVo, hD, rfl⟩
    · repeat' constructor

end Go.Proofs.Ln
