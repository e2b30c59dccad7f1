/- Contracts of functions of the given program, each proved by walking its code: part of the proof of this claim; no condition beyond those that each theorem names. -/
import Derived.Test.YtfclhhhnngkdlaaDoorLnRead
import Derived.Test.YtfclhhhnngkdlaaDoorLnBld
set_option linter.unusedVariables false
set_option linter.unusedSimpArgs false
namespace Go.Proofs.Ln
open Go Go.RowKit Go.Proofs.Eng
def legal (t : List UInt8) : Bool := decide (t.length ≤ 24) && decide ((t.takeWhile inName).length = t.length) && (match t with | [] => false | c :: _ => small c)
/-- is a token such as Scan tells, but for its place? -/
def right (x : Tok) : Bool :=
  if x.kind = 1 then legal x.text && decide (x.number = 0)
  else if x.kind = 2 then decide (0 < (numb x.text).1) && decide ((numb x.text).1 = x.text.length) && decide (((numb x.text).2 : Int) = x.number)
  else if x.kind = 3 then (match x.text with | [c] => isMark c | _ => false) && decide (x.number = 0)
  else decide (x.kind = 4) && decide (x.text = []) && decide (x.number = 0)
/-- the text of tokens; b: the line has begun -/
def showGo : Bool → List Tok → Option (List UInt8)
  | b, [] => if b then none else some []
  | b, x :: r => if right x = false ∨ (x.kind = 4 ∧ b = false) then none
    else if x.kind = 4 then (showGo false r).map (10 :: ·)
    else (showGo true r).map ((if b = true ∧ x.text ≠ [44] ∧ x.text ≠ [58] then [32] else []) ++ x.text ++ ·)
theorem showGo_bad {b : Bool} {x : Tok} {r : List Tok} (h : right x = false ∨ (x.kind = 4 ∧ b = false)) : showGo b (x :: r) = none := by simp only [showGo]; rw [if_pos h]
theorem showGo_line {b : Bool} {x : Tok} {r : List Tok} (h : right x = true) (h4 : x.kind = 4) (hb : b = true) : showGo b (x :: r) = (showGo false r).map ([10] ++ ·) := by
  simp only [showGo]; rw [if_neg (by simp [h, hb]), if_pos h4]; rfl
theorem showGo_sep {b : Bool} {x : Tok} {r : List Tok} (h : right x = true) (h4 : ¬ x.kind = 4) (hb : b = true ∧ x.text ≠ [44] ∧ x.text ≠ [58]) : showGo b (x :: r) = (showGo true r).map (([32] ++ x.text) ++ ·) := by
  simp only [showGo]; rw [if_neg (by simp [h, h4]), if_neg h4, if_pos hb]
theorem showGo_tok {b : Bool} {x : Tok} {r : List Tok} (h : right x = true) (h4 : ¬ x.kind = 4) (hb : ¬ (b = true ∧ x.text ≠ [44] ∧ x.text ≠ [58])) : showGo b (x :: r) = (showGo true r).map (x.text ++ ·) := by
  simp only [showGo]; rw [if_neg (by simp [h, h4]), if_neg h4, if_neg hb]; rfl
theorem show_next {o : Option (List UInt8)} {b b' : Bool} {x : Tok} {r : List Tok} {acc t : List UInt8} (h : o = (showGo b (x :: r)).map (acc ++ ·)) (h2 : showGo b (x :: r) = (showGo b' r).map (t ++ ·)) : o = (showGo b' r).map ((acc ++ t) ++ ·) := by
  rw [h, h2, Option.map_map]
  congr 1
  funext z
  simp
theorem legal_small {t : List UInt8} {c : UInt8} (h1 : (t.length : Int) ≤ 24) (h2 : ((t.takeWhile inName).length : Int) = t.length) (h0 : t[0]? = some c) : legal t = small c := by
  unfold legal
  cases t with
  | nil => cases h0
  | cons a t =>
    obtain rfl : a = c := by simpa using h0
    rw [decide_eq_true (by omega), decide_eq_true (by omega)]
    simp
theorem legal_not {t : List UInt8} (h : 24 < (t.length : Int) ∨ ¬ ((t.takeWhile inName).length : Int) = t.length ∨ t = []) : legal t = false := by
  unfold legal
  rcases h with h | h | h
  · rw [decide_eq_false (by omega)]; simp
  · rw [decide_eq_false (p := (t.takeWhile inName).length = t.length) (by omega)]; simp
  · subst h; simp
theorem right1 {x : Tok} (h : x.kind = 1) : right x = (legal x.text && decide (x.number = 0)) := by unfold right; rw [if_pos h]
theorem right2 {x : Tok} (h : x.kind = 2) : right x = (decide (0 < (numb x.text).1) && decide ((numb x.text).1 = x.text.length) && decide (((numb x.text).2 : Int) = x.number)) := by unfold right; rw [if_neg (by omega), if_pos h]
theorem right3 {x : Tok} (h : x.kind = 3) : right x = ((match x.text with | [c] => isMark c | _ => false) && decide (x.number = 0)) := by unfold right; rw [if_neg (by omega), if_neg (by omega), if_pos h]
theorem right4 {x : Tok} (h1 : ¬ x.kind = 1) (h2 : ¬ x.kind = 2) (h3 : ¬ x.kind = 3) : right x = (decide (x.kind = 4) && decide (x.text = []) && decide (x.number = 0)) := by unfold right; rw [if_neg h1, if_neg h2, if_neg h3]
theorem right3y {x : Tok} {c : UInt8} (h : x.kind = 3) (hc : x.text = [c]) : right x = (isMark c && decide (x.number = 0)) := by rw [right3 h, hc]
theorem right3n {x : Tok} (h : x.kind = 3) (hc : ¬ (x.text.length : Int) = 1) : right x = false := by
  rw [right3 h]
  split
  · rename_i c hc'; rw [hc'] at hc; simp at hc
  · rfl

theorem c68 {w0 : World} {t : List UInt8} (hl : t.length ≤ 100000) : CtR Pg w0 68 #[st t] [] (fun u H => u = .bool (legal t) ∧ H = []) := by
  refine Ct.of_body Go.Proofs.Tryd.func68 rfl 22 rfl rfl (fun R => ?_)
  refine VC.seq ?_
  refine VC.region ?_
  refine V.assign rfl rfl rfl ?_
  refine V.nil ?_
  refine Post.nextC ?_
  refine VC.seq ?_
  refine VC.region ?_
  refine V.move rfl rfl rfl ?_
  refine V.lenSt rfl rfl rfl ?_
  refine V.bin rfl rfl rfl rfl (bin_leq _ _ _) ?_
  refine V.move rfl rfl rfl ?_
  refine V.split (t := 6) rfl (fun h1 => ?_) (fun h1 => ?_)
  · try simp only [decide_eq_true_eq, decide_eq_false_iff_not, Bool.not_eq_true', Bool.not_eq_false', Bool.not_eq_eq_eq_not, Bool.not_true, Bool.not_false, beq_iff_eq, beq_eq_false_iff_ne, ne_eq, Int.not_lt, Int.not_le, Option.isSome_some, Option.isNone_none, Option.isSome_none, Option.isNone_some, Classical.not_not] at h1
    refine V.move rfl rfl rfl ?_
    apply V.call rfl rfl rfl (hc := c54 (k := 58) (p := inName) (t := t) (fun c => c58) (by omega))
    · repeat' constructor
    rintro v Ho ⟨rfl, rfl⟩
    refine V.move rfl rfl rfl ?_
    refine V.lenSt rfl rfl rfl ?_
    refine V.bin rfl rfl rfl rfl (bin_eql _ _ _) ?_
    refine V.pickT rfl rfl rfl rfl ?_
    refine V.move rfl rfl rfl ?_
    refine V.split (t := 13) rfl (fun h2 => ?_) (fun h2 => ?_)
    · try simp only [decide_eq_true_eq, decide_eq_false_iff_not, Bool.not_eq_true', Bool.not_eq_false', Bool.not_eq_eq_eq_not, Bool.not_true, Bool.not_false, beq_iff_eq, beq_eq_false_iff_ne, ne_eq, Int.not_lt, Int.not_le, Option.isSome_some, Option.isNone_none, Option.isSome_none, Option.isNone_some, Classical.not_not] at h2
      refine V.move rfl rfl rfl ?_
      refine V.bin rfl rfl rfl rfl (bin_stneq _ _) ?_
      refine V.pickT rfl rfl rfl rfl ?_
      refine V.move rfl rfl rfl ?_
      refine V.split (t := 17) rfl (fun h3 => ?_) (fun h3 => ?_)
      · try simp only [decide_eq_true_eq, decide_eq_false_iff_not, Bool.not_eq_true', Bool.not_eq_false', Bool.not_eq_eq_eq_not, Bool.not_true, Bool.not_false, beq_iff_eq, beq_eq_false_iff_ne, ne_eq, Int.not_lt, Int.not_le, Option.isSome_some, Option.isNone_none, Option.isSome_none, Option.isNone_some, Classical.not_not] at h3
        refine V.move rfl rfl rfl ?_
        obtain ⟨c, hc⟩ : ∃ c, t[0]? = some c := by
          cases t with
          | nil => exact absurd rfl (by assumption)
          | cons a r => exact ⟨a, rfl⟩
        refine V.indexSt (i := 0) (c := c) rfl rfl rfl rfl hc ?_
        apply V.call rfl rfl rfl (hc := c57)
        · repeat' constructor
        rintro v Ho ⟨rfl, rfl⟩
        refine V.pickT rfl rfl rfl rfl ?_
        refine V.assign rfl rfl rfl ?_
        refine V.nil ?_
        refine Post.nextC ?_
        refine VC.ret ?_
        apply Post.ret1 rfl rfl 
        · refine ⟨?_, rfl⟩
          congr 1
          first
            | (rw [legal_small (by omega) (by omega) hc])
            | (rw [legal_not (by first | (left; omega) | (right; left; omega) | (right; right; assumption))])
        · repeat' constructor
      · try simp only [decide_eq_true_eq, decide_eq_false_iff_not, Bool.not_eq_true', Bool.not_eq_false', Bool.not_eq_eq_eq_not, Bool.not_true, Bool.not_false, beq_iff_eq, beq_eq_false_iff_ne, ne_eq, Int.not_lt, Int.not_le, Option.isSome_some, Option.isNone_none, Option.isSome_none, Option.isNone_some, Classical.not_not] at h3
        refine V.skip rfl rfl ?_
        refine V.skip rfl rfl ?_
        refine V.skip rfl rfl ?_
        refine V.pickF rfl rfl rfl rfl ?_
        refine V.assign rfl rfl rfl ?_
        refine V.nil ?_
        refine Post.nextC ?_
        refine VC.ret ?_
        apply Post.ret1 rfl rfl 
        · refine ⟨?_, rfl⟩
          congr 1
          first
            | (rw [legal_small (by omega) (by omega) hc])
            | (rw [legal_not (by first | (left; omega) | (right; left; omega) | (right; right; assumption))])
        · repeat' constructor
    · try simp only [decide_eq_true_eq, decide_eq_false_iff_not, Bool.not_eq_true', Bool.not_eq_false', Bool.not_eq_eq_eq_not, Bool.not_true, Bool.not_false, beq_iff_eq, beq_eq_false_iff_ne, ne_eq, Int.not_lt, Int.not_le, Option.isSome_some, Option.isNone_none, Option.isSome_none, Option.isNone_some, Classical.not_not] at h2
      refine V.skip rfl rfl ?_
      refine V.skip rfl rfl ?_
      refine V.pickF rfl rfl rfl rfl ?_
      refine V.move rfl rfl rfl ?_
      refine V.skip rfl rfl ?_
      refine V.skip rfl rfl ?_
      refine V.skip rfl rfl ?_
      refine V.pickF rfl rfl rfl rfl ?_
      refine V.assign rfl rfl rfl ?_
      refine V.nil ?_
      refine Post.nextC ?_
      refine VC.ret ?_
      apply Post.ret1 rfl rfl 
      · refine ⟨?_, rfl⟩
        congr 1
        first
          | (rw [legal_small (by omega) (by omega) hc])
          | (rw [legal_not (by first | (left; omega) | (right; left; omega) | (right; right; assumption))])
      · repeat' constructor
  · try simp only [decide_eq_true_eq, decide_eq_false_iff_not, Bool.not_eq_true', Bool.not_eq_false', Bool.not_eq_eq_eq_not, Bool.not_true, Bool.not_false, beq_iff_eq, beq_eq_false_iff_ne, ne_eq, Int.not_lt, Int.not_le, Option.isSome_some, Option.isNone_none, Option.isSome_none, Option.isNone_some, Classical.not_not] at h1
    refine V.skip rfl rfl ?_
    refine V.skip rfl rfl ?_
    refine V.skip rfl rfl ?_
    refine V.skip rfl rfl ?_
    refine V.skip rfl rfl ?_
    refine V.pickF rfl rfl rfl rfl ?_
    refine V.move rfl rfl rfl ?_
    refine V.skip rfl rfl ?_
    refine V.skip rfl rfl ?_
    refine V.pickF rfl rfl rfl rfl ?_
    refine V.move rfl rfl rfl ?_
    refine V.skip rfl rfl ?_
    refine V.skip rfl rfl ?_
    refine V.skip rfl rfl ?_
    refine V.pickF rfl rfl rfl rfl ?_
    refine V.assign rfl rfl rfl ?_
    refine V.nil ?_
    refine Post.nextC ?_
    refine VC.ret ?_
    apply Post.ret1 rfl rfl 
    · refine ⟨?_, rfl⟩
      congr 1
      first
        | (rw [legal_small (by omega) (by omega) hc])
        | (rw [legal_not (by first | (left; omega) | (right; left; omega) | (right; right; assumption))])
    · repeat' constructor

theorem c81 {w0 : World} {a : UInt8} : CtR Pg w0 81 #[st [44, 58, 60, 62, 61, 40, 41], st [a]] [] (fun u H => u = .int .i64 (Lib.indexByte [44, 58, 60, 62, 61, 40, 41] a) ∧ H = []) := by
  refine Ct.of_body Go.Proofs.Tryd.func81 rfl 143 rfl rfl (fun R => ?_)
  refine VC.seq ?_
  refine VC.region ?_
  refine V.assign rfl rfl rfl ?_
  refine V.nil ?_
  refine Post.nextC ?_
  refine VC.seq ?_
  refine VC.region ?_
  refine V.move rfl rfl rfl ?_
  refine V.lenSt rfl rfl rfl ?_
  refine V.assign rfl rfl rfl ?_
  refine V.nil ?_
  refine Post.nextC ?_
  refine VC.seq ?_
  refine VC.block ?_
  refine VC.seq ?_
  refine VC.region ?_
  refine V.move rfl rfl rfl ?_
  refine V.bin rfl rfl rfl rfl (bin_eql _ _ _) ?_
  refine V.know (t := 18) (y := .bool false) rfl (rfl) ?_
  refine V.move rfl rfl rfl ?_
  refine V.move rfl rfl rfl ?_
  refine V.move rfl rfl rfl ?_
  refine V.bin rfl rfl rfl rfl (bin_steql _ _) ?_
  refine V.know (t := 22) (y := .bool false) rfl (by simp) ?_
  refine V.pickF rfl rfl rfl rfl ?_
  refine V.assign rfl rfl rfl ?_
  refine V.nil ?_
  refine Post.nextC ?_
  refine VC.condF rfl ?_
  refine VC.seq ?_
  refine VC.region ?_
  refine V.move rfl rfl rfl ?_
  refine V.bin rfl rfl rfl rfl (bin_eql _ _ _) ?_
  refine V.know (t := 26) (y := .bool true) rfl (rfl) ?_
  refine V.assign rfl rfl rfl ?_
  refine V.nil ?_
  refine Post.nextC ?_
  refine VC.condT rfl ?_
  refine VC.seq ?_
  refine VC.region ?_
  refine V.move rfl rfl rfl ?_
  refine V.move rfl rfl rfl ?_
  refine V.indexSt (i := 0) (c := a) rfl rfl rfl rfl rfl ?_
  apply V.call rfl rfl rfl (hc := c67)
  · repeat' constructor
  rintro v Ho ⟨rfl, rfl⟩
  refine V.assign rfl rfl rfl ?_
  refine V.nil ?_
  refine Post.nextC ?_
  refine VC.ret ?_
  refine Post.blockRet (Post.thenRet (?_))
  apply Post.ret1 rfl rfl 
  · exact ⟨rfl, rfl⟩
  · repeat' constructor

theorem c75 {w0 : World} {a : UInt8} : CtR Pg w0 75 #[st [44, 58, 60, 62, 61, 40, 41], st [a]] [] (fun u H => u = .int .i64 (Lib.indexByte [44, 58, 60, 62, 61, 40, 41] a) ∧ H = []) := by
  refine Ct.of_body Go.Proofs.Tryd.func75 rfl 8 rfl rfl (fun R => ?_)
  refine VC.seq ?_
  refine VC.region ?_
  refine V.assign rfl rfl rfl ?_
  refine V.nil ?_
  refine Post.nextC ?_
  refine VC.seq ?_
  refine VC.region ?_
  refine V.move rfl rfl rfl ?_
  refine V.move rfl rfl rfl ?_
  apply V.call rfl rfl rfl (hc := c81)
  · repeat' constructor
  rintro v Ho ⟨rfl, rfl⟩
  refine V.assign rfl rfl rfl ?_
  refine V.nil ?_
  refine Post.nextC ?_
  refine VC.ret ?_
  apply Post.ret1 rfl rfl 
  · exact ⟨rfl, rfl⟩
  · repeat' constructor

theorem c69 {w0 : World} {a : UInt8} : CtR Pg w0 69 #[st [44, 58, 60, 62, 61, 40, 41], st [a]] [] (fun u H => u = .bool (isMark a) ∧ H = []) := by
  refine Ct.of_body Go.Proofs.Tryd.func69 rfl 9 rfl rfl (fun R => ?_)
  refine VC.seq ?_
  refine VC.region ?_
  refine V.assign rfl rfl rfl ?_
  refine V.nil ?_
  refine Post.nextC ?_
  refine VC.seq ?_
  refine VC.region ?_
  refine V.move rfl rfl rfl ?_
  refine V.move rfl rfl rfl ?_
  apply V.call rfl rfl rfl (hc := c75)
  · repeat' constructor
  rintro v Ho ⟨rfl, rfl⟩
  refine V.bin rfl rfl rfl rfl (bin_geq _ _ _) ?_
  refine V.assign rfl rfl rfl ?_
  refine V.nil ?_
  refine Post.nextC ?_
  refine VC.ret ?_
  apply Post.ret1 rfl rfl 
  · rw [← mark_ix]
    exact ⟨rfl, rfl⟩
  · repeat' constructor

theorem c63 {w0 : World} {x : Tok} (hl : x.text.length ≤ 100000) : CtR Pg w0 63 #[tokV x] [] (fun u H => u = .bool (right x) ∧ H = []) := by
  refine Ct.of_body Go.Proofs.Tryd.func63 rfl 69 rfl rfl (fun R => ?_)
  refine VC.seq ?_
  refine VC.region ?_
  refine V.box rfl rfl rfl rfl (fun b1 => ?_)
  refine V.assign rfl rfl rfl ?_
  refine V.nil ?_
  refine Post.nextC ?_
  refine VC.seq ?_
  refine VC.region ?_
  refine V.assign rfl rfl rfl ?_
  refine V.assign rfl rfl rfl ?_
  refine V.nil ?_
  refine Post.nextC ?_
  refine VC.seq ?_
  refine VC.seq ?_
  refine VC.region ?_
  refine V.fieldAddr 0 3 rfl rfl rfl rfl rfl ?_
  apply V.loadL rfl rfl rfl rfl
  · repeat' constructor
  · repeat' constructor
  refine V.nil ?_
  refine Post.nextC ?_
  refine VC.block ?_
  refine VC.seq ?_
  refine VC.region ?_
  refine V.bin rfl rfl rfl rfl (bin_eql _ _ _) ?_
  refine V.assign rfl rfl rfl ?_
  refine V.nil ?_
  refine Post.nextC ?_
  refine VC.cond rfl (fun h1 => ?_) (fun h1 => ?_)
  · try simp only [decide_eq_true_eq, decide_eq_false_iff_not, Bool.not_eq_true', Bool.not_eq_false', Bool.not_eq_eq_eq_not, Bool.not_true, Bool.not_false, beq_iff_eq, beq_eq_false_iff_ne, ne_eq, Int.not_lt, Int.not_le, Option.isSome_some, Option.isNone_none, Option.isSome_none, Option.isNone_some, Classical.not_not] at h1
    refine VC.seq ?_
    refine VC.region ?_
    refine V.fieldAddr 1 9 rfl rfl rfl rfl rfl ?_
    apply V.loadL rfl rfl rfl rfl
    · repeat' constructor
    · repeat' constructor
    apply V.call rfl rfl rfl (hc := c68 hl)
    · repeat' constructor
    rintro v Ho ⟨rfl, rfl⟩
    refine V.move rfl rfl rfl ?_
    refine V.split (t := 12) rfl (fun h2 => ?_) (fun h2 => ?_)
    · try simp only [decide_eq_true_eq, decide_eq_false_iff_not, Bool.not_eq_true', Bool.not_eq_false', Bool.not_eq_eq_eq_not, Bool.not_true, Bool.not_false, beq_iff_eq, beq_eq_false_iff_ne, ne_eq, Int.not_lt, Int.not_le, Option.isSome_some, Option.isNone_none, Option.isSome_none, Option.isNone_some, Classical.not_not] at h2
      refine V.fieldAddr 2 3 rfl rfl rfl rfl rfl ?_
      apply V.loadL rfl rfl rfl rfl
      · repeat' constructor
      · repeat' constructor
      refine V.bin rfl rfl rfl rfl (bin_eql _ _ _) ?_
      refine V.pickT rfl rfl rfl rfl ?_
      refine V.assign rfl rfl rfl ?_
      refine V.nil ?_
      refine Post.nextC ?_
      refine VC.ret ?_
      refine Post.blockRet (Post.thenRet (?_))
      apply Post.ret1 rfl rfl 
      · refine ⟨?_, rfl⟩
        rw [right1 (by assumption)]
        simp_all
      · repeat' constructor
    · try simp only [decide_eq_true_eq, decide_eq_false_iff_not, Bool.not_eq_true', Bool.not_eq_false', Bool.not_eq_eq_eq_not, Bool.not_true, Bool.not_false, beq_iff_eq, beq_eq_false_iff_ne, ne_eq, Int.not_lt, Int.not_le, Option.isSome_some, Option.isNone_none, Option.isSome_none, Option.isNone_some, Classical.not_not] at h2
      refine V.skip rfl rfl ?_
      refine V.skip rfl rfl ?_
      refine V.skip rfl rfl ?_
      refine V.pickF rfl rfl rfl rfl ?_
      refine V.assign rfl rfl rfl ?_
      refine V.nil ?_
      refine Post.nextC ?_
      refine VC.ret ?_
      refine Post.blockRet (Post.thenRet (?_))
      apply Post.ret1 rfl rfl 
      · refine ⟨?_, rfl⟩
        rw [right1 (by assumption)]
        simp_all
      · repeat' constructor
  · try simp only [decide_eq_true_eq, decide_eq_false_iff_not, Bool.not_eq_true', Bool.not_eq_false', Bool.not_eq_eq_eq_not, Bool.not_true, Bool.not_false, beq_iff_eq, beq_eq_false_iff_ne, ne_eq, Int.not_lt, Int.not_le, Option.isSome_some, Option.isNone_none, Option.isSome_none, Option.isNone_some, Classical.not_not] at h1
    refine VC.seq ?_
    refine VC.region ?_
    refine V.bin rfl rfl rfl rfl (bin_eql _ _ _) ?_
    refine V.assign rfl rfl rfl ?_
    refine V.nil ?_
    refine Post.nextC ?_
    refine VC.cond rfl (fun h3 => ?_) (fun h3 => ?_)
    · try simp only [decide_eq_true_eq, decide_eq_false_iff_not, Bool.not_eq_true', Bool.not_eq_false', Bool.not_eq_eq_eq_not, Bool.not_true, Bool.not_false, beq_iff_eq, beq_eq_false_iff_ne, ne_eq, Int.not_lt, Int.not_le, Option.isSome_some, Option.isNone_none, Option.isSome_none, Option.isNone_some, Classical.not_not] at h3
      refine VC.seq ?_
      refine VC.region ?_
      refine V.fieldAddr 1 9 rfl rfl rfl rfl rfl ?_
      apply V.loadL rfl rfl rfl rfl
      · repeat' constructor
      · repeat' constructor
      apply V.call rfl rfl rfl (hc := c60 hl)
      · repeat' constructor
      rintro v Ho ⟨rfl, rfl⟩
      refine V.move rfl rfl rfl ?_
      refine V.extract rfl rfl rfl rfl ?_
      refine V.extract rfl rfl rfl rfl ?_
      refine V.assign rfl rfl rfl ?_
      refine V.assign rfl rfl rfl ?_
      refine V.nil ?_
      refine Post.nextC ?_
      refine VC.seq ?_
      refine VC.region ?_
      refine V.move rfl rfl rfl ?_
      refine V.bin rfl rfl rfl rfl (bin_gtr _ _ _) ?_
      refine V.move rfl rfl rfl ?_
      refine V.split (t := 27) rfl (fun h4 => ?_) (fun h4 => ?_)
      · try simp only [decide_eq_true_eq, decide_eq_false_iff_not, Bool.not_eq_true', Bool.not_eq_false', Bool.not_eq_eq_eq_not, Bool.not_true, Bool.not_false, beq_iff_eq, beq_eq_false_iff_ne, ne_eq, Int.not_lt, Int.not_le, Option.isSome_some, Option.isNone_none, Option.isSome_none, Option.isNone_some, Classical.not_not] at h4
        refine V.move rfl rfl rfl ?_
        refine V.fieldAddr 1 9 rfl rfl rfl rfl rfl ?_
        apply V.loadL rfl rfl rfl rfl
        · repeat' constructor
        · repeat' constructor
        refine V.lenSt rfl rfl rfl ?_
        refine V.bin rfl rfl rfl rfl (bin_eql _ _ _) ?_
        refine V.pickT rfl rfl rfl rfl ?_
        refine V.move rfl rfl rfl ?_
        refine V.split (t := 34) rfl (fun h5 => ?_) (fun h5 => ?_)
        · try simp only [decide_eq_true_eq, decide_eq_false_iff_not, Bool.not_eq_true', Bool.not_eq_false', Bool.not_eq_eq_eq_not, Bool.not_true, Bool.not_false, beq_iff_eq, beq_eq_false_iff_ne, ne_eq, Int.not_lt, Int.not_le, Option.isSome_some, Option.isNone_none, Option.isSome_none, Option.isNone_some, Classical.not_not] at h5
          refine V.move rfl rfl rfl ?_
          refine V.fieldAddr 2 3 rfl rfl rfl rfl rfl ?_
          apply V.loadL rfl rfl rfl rfl
          · repeat' constructor
          · repeat' constructor
          refine V.bin rfl rfl rfl rfl (bin_eql _ _ _) ?_
          refine V.pickT rfl rfl rfl rfl ?_
          refine V.assign rfl rfl rfl ?_
          refine V.nil ?_
          refine Post.nextC ?_
          refine VC.ret ?_
          refine Post.blockRet (Post.thenRet (?_))
          apply Post.ret1 rfl rfl 
          · refine ⟨?_, rfl⟩
            rw [right2 (by assumption)]
            simp_all <;> (intros; omega)
          · repeat' constructor
        · try simp only [decide_eq_true_eq, decide_eq_false_iff_not, Bool.not_eq_true', Bool.not_eq_false', Bool.not_eq_eq_eq_not, Bool.not_true, Bool.not_false, beq_iff_eq, beq_eq_false_iff_ne, ne_eq, Int.not_lt, Int.not_le, Option.isSome_some, Option.isNone_none, Option.isSome_none, Option.isNone_some, Classical.not_not] at h5
          refine V.skip rfl rfl ?_
          refine V.skip rfl rfl ?_
          refine V.skip rfl rfl ?_
          refine V.skip rfl rfl ?_
          refine V.pickF rfl rfl rfl rfl ?_
          refine V.assign rfl rfl rfl ?_
          refine V.nil ?_
          refine Post.nextC ?_
          refine VC.ret ?_
          refine Post.blockRet (Post.thenRet (?_))
          apply Post.ret1 rfl rfl 
          · refine ⟨?_, rfl⟩
            rw [right2 (by assumption)]
            simp_all <;> (intros; omega)
          · repeat' constructor
      · try simp only [decide_eq_true_eq, decide_eq_false_iff_not, Bool.not_eq_true', Bool.not_eq_false', Bool.not_eq_eq_eq_not, Bool.not_true, Bool.not_false, beq_iff_eq, beq_eq_false_iff_ne, ne_eq, Int.not_lt, Int.not_le, Option.isSome_some, Option.isNone_none, Option.isSome_none, Option.isNone_some, Classical.not_not] at h4
        refine V.skip rfl rfl ?_
        refine V.skip rfl rfl ?_
        refine V.skip rfl rfl ?_
        refine V.skip rfl rfl ?_
        refine V.skip rfl rfl ?_
        refine V.pickF rfl rfl rfl rfl ?_
        refine V.move rfl rfl rfl ?_
        refine V.skip rfl rfl ?_
        refine V.skip rfl rfl ?_
        refine V.skip rfl rfl ?_
        refine V.skip rfl rfl ?_
        refine V.pickF rfl rfl rfl rfl ?_
        refine V.assign rfl rfl rfl ?_
        refine V.nil ?_
        refine Post.nextC ?_
        refine VC.ret ?_
        refine Post.blockRet (Post.thenRet (?_))
        apply Post.ret1 rfl rfl 
        · refine ⟨?_, rfl⟩
          rw [right2 (by assumption)]
          simp_all <;> (intros; omega)
        · repeat' constructor
    · try simp only [decide_eq_true_eq, decide_eq_false_iff_not, Bool.not_eq_true', Bool.not_eq_false', Bool.not_eq_eq_eq_not, Bool.not_true, Bool.not_false, beq_iff_eq, beq_eq_false_iff_ne, ne_eq, Int.not_lt, Int.not_le, Option.isSome_some, Option.isNone_none, Option.isSome_none, Option.isNone_some, Classical.not_not] at h3
      refine VC.seq ?_
      refine VC.region ?_
      refine V.bin rfl rfl rfl rfl (bin_eql _ _ _) ?_
      refine V.assign rfl rfl rfl ?_
      refine V.nil ?_
      refine Post.nextC ?_
      refine VC.cond rfl (fun h6 => ?_) (fun h6 => ?_)
      · try simp only [decide_eq_true_eq, decide_eq_false_iff_not, Bool.not_eq_true', Bool.not_eq_false', Bool.not_eq_eq_eq_not, Bool.not_true, Bool.not_false, beq_iff_eq, beq_eq_false_iff_ne, ne_eq, Int.not_lt, Int.not_le, Option.isSome_some, Option.isNone_none, Option.isSome_none, Option.isNone_some, Classical.not_not] at h6
        refine VC.seq ?_
        refine VC.region ?_
        refine V.fieldAddr 1 9 rfl rfl rfl rfl rfl ?_
        apply V.loadL rfl rfl rfl rfl
        · repeat' constructor
        · repeat' constructor
        refine V.lenSt rfl rfl rfl ?_
        refine V.bin rfl rfl rfl rfl (bin_eql _ _ _) ?_
        refine V.move rfl rfl rfl ?_
        refine V.split (t := 46) rfl (fun h7 => ?_) (fun h7 => ?_)
        · try simp only [decide_eq_true_eq, decide_eq_false_iff_not, Bool.not_eq_true', Bool.not_eq_false', Bool.not_eq_eq_eq_not, Bool.not_true, Bool.not_false, beq_iff_eq, beq_eq_false_iff_ne, ne_eq, Int.not_lt, Int.not_le, Option.isSome_some, Option.isNone_none, Option.isSome_none, Option.isNone_some, Classical.not_not] at h7
          refine V.fieldAddr 1 9 rfl rfl rfl rfl rfl ?_
          apply V.loadL rfl rfl rfl rfl
          · repeat' constructor
          · repeat' constructor
          obtain ⟨c, hc⟩ : ∃ c, x.text = [c] := List.length_eq_one_iff.1 (by omega)
          rw [hc]
          apply V.call rfl rfl rfl (hc := c69 (a := c))
          · repeat' constructor
          rintro v Ho ⟨rfl, rfl⟩
          refine V.pickT rfl rfl rfl rfl ?_
          refine V.move rfl rfl rfl ?_
          refine V.split (t := 51) rfl (fun h8 => ?_) (fun h8 => ?_)
          · try simp only [decide_eq_true_eq, decide_eq_false_iff_not, Bool.not_eq_true', Bool.not_eq_false', Bool.not_eq_eq_eq_not, Bool.not_true, Bool.not_false, beq_iff_eq, beq_eq_false_iff_ne, ne_eq, Int.not_lt, Int.not_le, Option.isSome_some, Option.isNone_none, Option.isSome_none, Option.isNone_some, Classical.not_not] at h8
            refine V.fieldAddr 2 3 rfl rfl rfl rfl rfl ?_
            apply V.loadL rfl rfl rfl rfl
            · repeat' constructor
            · repeat' constructor
            refine V.bin rfl rfl rfl rfl (bin_eql _ _ _) ?_
            refine V.pickT rfl rfl rfl rfl ?_
            refine V.assign rfl rfl rfl ?_
            refine V.nil ?_
            refine Post.nextC ?_
            refine VC.ret ?_
            refine Post.blockRet (Post.thenRet (?_))
            apply Post.ret1 rfl rfl 
            · refine ⟨?_, rfl⟩
              first
                | (rw [right3n (by assumption) (by assumption)]; done)
                | (rw [right3y (by assumption) hc]; simp_all)
            · repeat' constructor
          · try simp only [decide_eq_true_eq, decide_eq_false_iff_not, Bool.not_eq_true', Bool.not_eq_false', Bool.not_eq_eq_eq_not, Bool.not_true, Bool.not_false, beq_iff_eq, beq_eq_false_iff_ne, ne_eq, Int.not_lt, Int.not_le, Option.isSome_some, Option.isNone_none, Option.isSome_none, Option.isNone_some, Classical.not_not] at h8
            refine V.skip rfl rfl ?_
            refine V.skip rfl rfl ?_
            refine V.skip rfl rfl ?_
            refine V.pickF rfl rfl rfl rfl ?_
            refine V.assign rfl rfl rfl ?_
            refine V.nil ?_
            refine Post.nextC ?_
            refine VC.ret ?_
            refine Post.blockRet (Post.thenRet (?_))
            apply Post.ret1 rfl rfl 
            · refine ⟨?_, rfl⟩
              first
                | (rw [right3n (by assumption) (by assumption)]; done)
                | (rw [right3y (by assumption) hc]; simp_all)
            · repeat' constructor
        · try simp only [decide_eq_true_eq, decide_eq_false_iff_not, Bool.not_eq_true', Bool.not_eq_false', Bool.not_eq_eq_eq_not, Bool.not_true, Bool.not_false, beq_iff_eq, beq_eq_false_iff_ne, ne_eq, Int.not_lt, Int.not_le, Option.isSome_some, Option.isNone_none, Option.isSome_none, Option.isNone_some, Classical.not_not] at h7
          refine V.skip rfl rfl ?_
          refine V.skip rfl rfl ?_
          refine V.skip rfl rfl ?_
          refine V.pickF rfl rfl rfl rfl ?_
          refine V.move rfl rfl rfl ?_
          refine V.skip rfl rfl ?_
          refine V.skip rfl rfl ?_
          refine V.skip rfl rfl ?_
          refine V.pickF rfl rfl rfl rfl ?_
          refine V.assign rfl rfl rfl ?_
          refine V.nil ?_
          refine Post.nextC ?_
          refine VC.ret ?_
          refine Post.blockRet (Post.thenRet (?_))
          apply Post.ret1 rfl rfl 
          · refine ⟨?_, rfl⟩
            first
              | (rw [right3n (by assumption) (by assumption)]; done)
              | (rw [right3y (by assumption) hc]; simp_all)
          · repeat' constructor
      · try simp only [decide_eq_true_eq, decide_eq_false_iff_not, Bool.not_eq_true', Bool.not_eq_false', Bool.not_eq_eq_eq_not, Bool.not_true, Bool.not_false, beq_iff_eq, beq_eq_false_iff_ne, ne_eq, Int.not_lt, Int.not_le, Option.isSome_some, Option.isNone_none, Option.isSome_none, Option.isNone_some, Classical.not_not] at h6
        refine VC.skip ?_
        refine Post.blockNormal (Post.nextC ?_)
        refine VC.seq ?_
        refine VC.region ?_
        refine V.fieldAddr 0 3 rfl rfl rfl rfl rfl ?_
        apply V.loadL rfl rfl rfl rfl
        · repeat' constructor
        · repeat' constructor
        refine V.bin rfl rfl rfl rfl (bin_eql _ _ _) ?_
        refine V.move rfl rfl rfl ?_
        refine V.split (t := 59) rfl (fun h9 => ?_) (fun h9 => ?_)
        · try simp only [decide_eq_true_eq, decide_eq_false_iff_not, Bool.not_eq_true', Bool.not_eq_false', Bool.not_eq_eq_eq_not, Bool.not_true, Bool.not_false, beq_iff_eq, beq_eq_false_iff_ne, ne_eq, Int.not_lt, Int.not_le, Option.isSome_some, Option.isNone_none, Option.isSome_none, Option.isNone_some, Classical.not_not] at h9
          refine V.fieldAddr 1 9 rfl rfl rfl rfl rfl ?_
          apply V.loadL rfl rfl rfl rfl
          · repeat' constructor
          · repeat' constructor
          refine V.bin rfl rfl rfl rfl (bin_steql _ _) ?_
          refine V.pickT rfl rfl rfl rfl ?_
          refine V.move rfl rfl rfl ?_
          refine V.split (t := 64) rfl (fun h10 => ?_) (fun h10 => ?_)
          · try simp only [decide_eq_true_eq, decide_eq_false_iff_not, Bool.not_eq_true', Bool.not_eq_false', Bool.not_eq_eq_eq_not, Bool.not_true, Bool.not_false, beq_iff_eq, beq_eq_false_iff_ne, ne_eq, Int.not_lt, Int.not_le, Option.isSome_some, Option.isNone_none, Option.isSome_none, Option.isNone_some, Classical.not_not] at h10
            refine V.fieldAddr 2 3 rfl rfl rfl rfl rfl ?_
            apply V.loadL rfl rfl rfl rfl
            · repeat' constructor
            · repeat' constructor
            refine V.bin rfl rfl rfl rfl (bin_eql _ _ _) ?_
            refine V.pickT rfl rfl rfl rfl ?_
            refine V.assign rfl rfl rfl ?_
            refine V.nil ?_
            refine Post.nextC ?_
            refine VC.ret ?_
            apply Post.ret1 rfl rfl 
            · refine ⟨?_, rfl⟩
              rw [right4 (by assumption) (by assumption) (by assumption)]
              simp_all
            · repeat' constructor
          · try simp only [decide_eq_true_eq, decide_eq_false_iff_not, Bool.not_eq_true', Bool.not_eq_false', Bool.not_eq_eq_eq_not, Bool.not_true, Bool.not_false, beq_iff_eq, beq_eq_false_iff_ne, ne_eq, Int.not_lt, Int.not_le, Option.isSome_some, Option.isNone_none, Option.isSome_none, Option.isNone_some, Classical.not_not] at h10
            refine V.skip rfl rfl ?_
            refine V.skip rfl rfl ?_
            refine V.skip rfl rfl ?_
            refine V.pickF rfl rfl rfl rfl ?_
            refine V.assign rfl rfl rfl ?_
            refine V.nil ?_
            refine Post.nextC ?_
            refine VC.ret ?_
            apply Post.ret1 rfl rfl 
            · refine ⟨?_, rfl⟩
              rw [right4 (by assumption) (by assumption) (by assumption)]
              simp_all
            · repeat' constructor
        · try simp only [decide_eq_true_eq, decide_eq_false_iff_not, Bool.not_eq_true', Bool.not_eq_false', Bool.not_eq_eq_eq_not, Bool.not_true, Bool.not_false, beq_iff_eq, beq_eq_false_iff_ne, ne_eq, Int.not_lt, Int.not_le, Option.isSome_some, Option.isNone_none, Option.isSome_none, Option.isNone_some, Classical.not_not] at h9
          refine V.skip rfl rfl ?_
          refine V.skip rfl rfl ?_
          refine V.skip rfl rfl ?_
          refine V.pickF rfl rfl rfl rfl ?_
          refine V.move rfl rfl rfl ?_
          refine V.skip rfl rfl ?_
          refine V.skip rfl rfl ?_
          refine V.skip rfl rfl ?_
          refine V.pickF rfl rfl rfl rfl ?_
          refine V.assign rfl rfl rfl ?_
          refine V.nil ?_
          refine Post.nextC ?_
          refine VC.ret ?_
          apply Post.ret1 rfl rfl 
          · refine ⟨?_, rfl⟩
            rw [right4 (by assumption) (by assumption) (by assumption)]
            simp_all
          · repeat' constructor

theorem c42 {w0 : World} {C : Chunk} {v : Value} {l : List Tok} (hr : Rd w0 C 5 v l.length (toks l)) (hx : ∀ x ∈ l, x.text.length ≤ 100000) (hl : l.length ≤ 1000000) : CtR Pg w0 42 #[v] [C] (fun u H => u = (match showGo false l with | none => .tuple #[st [], .int .i64 3] | some t => .tuple #[st t, .int .i64 0]) ∧ H = [C]) := by
  obtain ⟨ad, cp, rfl, _⟩ := id hr
  refine Ct.of_body Go.Proofs.Tryd.func42 rfl 51 rfl rfl (fun R => ?_)
  refine VC.seq ?_
  refine VC.region ?_
  refine V.assign rfl rfl rfl ?_
  refine V.assign rfl rfl rfl ?_
  refine V.nil ?_
  refine Post.nextC ?_
  refine VC.seq ?_
  refine VC.region ?_
  refine V.alloc (l := [.pointer none, .slice none 0 0]) rfl rfl rfl (fun b1 => ?_)
  refine V.nil ?_
  refine Post.nextC ?_
  refine VC.seq ?_
  refine VC.region ?_
  refine V.assign rfl rfl rfl ?_
  refine V.nil ?_
  refine Post.nextC ?_
  refine VC.seq ?_
  refine VC.seq ?_
  refine VC.region ?_
  refine V.move rfl rfl rfl ?_
  refine V.len rfl rfl rfl ?_
  refine V.move rfl rfl rfl ?_
  refine V.nil ?_
  refine Post.nextC ?_
  refine VC.block ?_
  refine VC.loop (σ := Nat × Bool × List UInt8 × Value × Value × Chunk) (fun x => [(2, st []), (3, .int .i64 0), (4, pt b1), (5, .bool x.2.1), (8, .slice ad l.length cp), (9, .int .i64 (l.length : Int)), (10, .int .i64 (x.1 : Int))]) (fun x => bdB b1 x.2.2.2.1 x.2.2.2.2.1 :: x.2.2.2.2.2 :: C :: R) (fun x => Bd b1 x.2.2.2.1 x.2.2.2.2.1 x.2.2.2.2.2 x.2.2.1 ∧ x.1 ≤ l.length ∧ x.2.2.1.length ≤ x.1 * 100002 ∧ showGo false l = (showGo x.2.1 (l.drop x.1)).map (x.2.2.1 ++ ·)) (fun x => l.length - x.1) (0, false, [], .pointer none, .slice none 0 0, []) ⟨Bd.start _, Nat.zero_le _, by simp, by simp⟩ ?_ ?_ ?_
  · exact ⟨rfl, rfl, rfl, rfl, rfl, rfl, rfl, trivial⟩
  · repeat' constructor
  rintro ⟨i, b, acc, p, bv, c⟩ ⟨(hB : Bd b1 p bv c acc), (hi : i ≤ l.length), (ha : acc.length ≤ i * 100002), (hI : showGo false l = (showGo b (l.drop i)).map (acc ++ ·))⟩
  refine VC.seq ?_
  refine VC.region ?_
  refine V.bin rfl rfl rfl rfl (bin_lss _ _ _) ?_
  refine V.nil ?_
  refine Post.nextC ?_
  refine VC.seq ?_
  refine VC.cond rfl (fun h1 => ?_) (fun h1 => ?_)
  · try simp only [decide_eq_true_eq, decide_eq_false_iff_not, Bool.not_eq_true', Bool.not_eq_false', Bool.not_eq_eq_eq_not, Bool.not_true, Bool.not_false, beq_iff_eq, beq_eq_false_iff_ne, ne_eq, Int.not_lt, Int.not_le, Option.isSome_some, Option.isNone_none, Option.isSome_none, Option.isNone_some, Classical.not_not] at h1
    refine VC.skip ?_
    refine Post.nextC ?_
    refine VC.seq ?_
    refine VC.block ?_
    refine VC.seq ?_
    refine VC.region ?_
    obtain ⟨x, hxi⟩ : ∃ x, l[i]? = some x := ⟨l[i]'(by omega), List.getElem?_eq_getElem _⟩
    have hxl : x.text.length ≤ 100000 := hx x (List.mem_of_getElem? hxi)
    obtain ⟨_, bb, oo, cp2, e, hc⟩ := hr.item (f := Tok.cells) (i := i) tok5 (by omega) hxi
    simp only [Value.slice.injEq] at e
    obtain ⟨rfl, _, rfl⟩ := e
    refine V.indexO rfl rfl rfl rfl (by omega) ?_
    apply V.loadNC (c := C) (vs := x.cells) rfl rfl rfl rfl
    · repeat' constructor
    · rfl
    · exact fun j u hu => by rw [add_addr]; exact hc j u hu
    refine V.alloc (l := [.int .i64 0, .string ByteArray.empty, .int .i64 0, .int .i64 0, .int .i64 0]) rfl rfl rfl (fun b2 => ?_)
    apply V.storeAll rfl rfl rfl rfl
    · repeat' constructor
    · exact rfl
    · exact rfl
    refine V.nil ?_
    refine Post.nextC ?_
    refine VC.seq ?_
    refine VC.block ?_
    refine VC.seq ?_
    refine VC.region ?_
    apply V.loadAll rfl rfl rfl rfl
    · repeat' constructor
    · exact rfl
    apply V.call rfl rfl rfl (hc := c63 hxl)
    · repeat' constructor
    rintro v Ho ⟨rfl, rfl⟩
    refine V.not rfl rfl rfl ?_
    refine V.move rfl rfl rfl ?_
    refine V.split (t := 18) rfl (fun h2 => ?_) (fun h2 => ?_)
    · try simp only [decide_eq_true_eq, decide_eq_false_iff_not, Bool.not_eq_true', Bool.not_eq_false', Bool.not_eq_eq_eq_not, Bool.not_true, Bool.not_false, beq_iff_eq, beq_eq_false_iff_ne, ne_eq, Int.not_lt, Int.not_le, Option.isSome_some, Option.isNone_none, Option.isSome_none, Option.isNone_some, Classical.not_not] at h2
      refine V.skip rfl rfl ?_
      refine V.skip rfl rfl ?_
      refine V.skip rfl rfl ?_
      refine V.skip rfl rfl ?_
      refine V.skip rfl rfl ?_
      refine V.skip rfl rfl ?_
      refine V.skip rfl rfl ?_
      refine V.pickT rfl rfl rfl rfl ?_
      refine V.assign rfl rfl rfl ?_
      refine V.nil ?_
      refine Post.nextC ?_
      refine VC.condT rfl ?_
      refine VC.seq ?_
      refine VC.region ?_
      refine V.assign rfl rfl rfl ?_
      refine V.assign rfl rfl rfl ?_
      refine V.nil ?_
      refine Post.nextC ?_
      refine VC.ret ?_
      refine Post.blockRet (Post.thenRet (Post.blockRet (Post.thenRet (Post.thenRet (Post.blockRet (Post.thenRet (?_)))))))
      apply Post.ret2 rfl rfl rfl 
      · have e : showGo false l = none := by rw [hI, drop_cons hxi, showGo_bad (by first | (left; assumption) | (right; exact ⟨by assumption, by assumption⟩))]; rfl
        rw [e]
        exact ⟨rfl, rfl⟩
      · repeat' constructor
    · try simp only [decide_eq_true_eq, decide_eq_false_iff_not, Bool.not_eq_true', Bool.not_eq_false', Bool.not_eq_eq_eq_not, Bool.not_true, Bool.not_false, beq_iff_eq, beq_eq_false_iff_ne, ne_eq, Int.not_lt, Int.not_le, Option.isSome_some, Option.isNone_none, Option.isSome_none, Option.isNone_some, Classical.not_not] at h2
      refine V.fieldAddr 0 3 rfl rfl rfl rfl rfl ?_
      apply V.loadL rfl rfl rfl rfl
      · repeat' constructor
      · repeat' constructor
      refine V.bin rfl rfl rfl rfl (bin_eql _ _ _) ?_
      refine V.move rfl rfl rfl ?_
      refine V.split (t := 22) rfl (fun h3 => ?_) (fun h3 => ?_)
      · try simp only [decide_eq_true_eq, decide_eq_false_iff_not, Bool.not_eq_true', Bool.not_eq_false', Bool.not_eq_eq_eq_not, Bool.not_true, Bool.not_false, beq_iff_eq, beq_eq_false_iff_ne, ne_eq, Int.not_lt, Int.not_le, Option.isSome_some, Option.isNone_none, Option.isSome_none, Option.isNone_some, Classical.not_not] at h3
        refine V.move rfl rfl rfl ?_
        refine V.not rfl rfl rfl ?_
        refine V.pickT rfl rfl rfl rfl ?_
        refine V.pickF rfl rfl rfl rfl ?_
        refine V.assign rfl rfl rfl ?_
        refine V.nil ?_
        refine Post.nextC ?_
        refine VC.cond rfl (fun h4 => ?_) (fun h4 => ?_)
        · try simp only [decide_eq_true_eq, decide_eq_false_iff_not, Bool.not_eq_true', Bool.not_eq_false', Bool.not_eq_eq_eq_not, Bool.not_true, Bool.not_false, beq_iff_eq, beq_eq_false_iff_ne, ne_eq, Int.not_lt, Int.not_le, Option.isSome_some, Option.isNone_none, Option.isSome_none, Option.isNone_some, Classical.not_not] at h4
          refine VC.seq ?_
          refine VC.region ?_
          refine V.assign rfl rfl rfl ?_
          refine V.assign rfl rfl rfl ?_
          refine V.nil ?_
          refine Post.nextC ?_
          refine VC.ret ?_
          refine Post.blockRet (Post.thenRet (Post.blockRet (Post.thenRet (Post.thenRet (Post.blockRet (Post.thenRet (?_)))))))
          apply Post.ret2 rfl rfl rfl 
          · have e : showGo false l = none := by rw [hI, drop_cons hxi, showGo_bad (by first | (left; assumption) | (right; exact ⟨by assumption, by assumption⟩))]; rfl
            rw [e]
            exact ⟨rfl, rfl⟩
          · repeat' constructor
        · try simp only [decide_eq_true_eq, decide_eq_false_iff_not, Bool.not_eq_true', Bool.not_eq_false', Bool.not_eq_eq_eq_not, Bool.not_true, Bool.not_false, beq_iff_eq, beq_eq_false_iff_ne, ne_eq, Int.not_lt, Int.not_le, Option.isSome_some, Option.isNone_none, Option.isSome_none, Option.isNone_some, Classical.not_not] at h4
          refine VC.seq ?_
          refine VC.region ?_
          refine V.fieldAddr 0 3 rfl rfl rfl rfl rfl ?_
          apply V.loadL rfl rfl rfl rfl
          · repeat' constructor
          · repeat' constructor
          refine V.bin rfl rfl rfl rfl (bin_eql _ _ _) ?_
          refine V.assign rfl rfl rfl ?_
          refine V.nil ?_
          refine Post.nextC ?_
          refine VC.cond rfl (fun h5 => ?_) (fun h5 => ?_)
          · try simp only [decide_eq_true_eq, decide_eq_false_iff_not, Bool.not_eq_true', Bool.not_eq_false', Bool.not_eq_eq_eq_not, Bool.not_true, Bool.not_false, beq_iff_eq, beq_eq_false_iff_ne, ne_eq, Int.not_lt, Int.not_le, Option.isSome_some, Option.isNone_none, Option.isSome_none, Option.isNone_some, Classical.not_not] at h5
            refine VC.seq ?_
            refine VC.region ?_
            apply V.call rfl rfl rfl (hc := c64 (a := 10) hB (by omega))
            · repeat' constructor
            rintro v Ho ⟨v1, c1, hB1, rfl, rfl⟩
            refine V.nil ?_
            refine Post.nextC ?_
            refine VC.seq ?_
            refine VC.region ?_
            refine V.assign rfl rfl rfl ?_
            refine V.nil ?_
            refine Post.nextC ?_
            refine VC.exit ?_
            refine Post.blockMiss rfl (Post.thenExit (Post.blockHit (Post.nextC ?_)))
            refine VC.region ?_
            refine V.bin rfl rfl rfl rfl (bin_addI (by omega)) ?_
            refine V.move rfl rfl rfl ?_
            refine V.nil ?_
            refine Post.round (i + 1, false, acc ++ [10], pt b1, v1, c1) ?_ ?_ ?_ ?_
            · first
                | contradiction
                | exact ⟨hB1, by omega, by simp only [List.length_append, List.length_cons, List.length_nil]; omega, show_next (by rw [hI, drop_cons hxi]) (showGo_line (by assumption) (by assumption) (by assumption))⟩
            · show l.length - (i + 1) < l.length - i
              omega
            · exact ⟨rfl, rfl, rfl, rfl, rfl, rfl, rfl, trivial⟩
            · repeat' constructor
          · try simp only [decide_eq_true_eq, decide_eq_false_iff_not, Bool.not_eq_true', Bool.not_eq_false', Bool.not_eq_eq_eq_not, Bool.not_true, Bool.not_false, beq_iff_eq, beq_eq_false_iff_ne, ne_eq, Int.not_lt, Int.not_le, Option.isSome_some, Option.isNone_none, Option.isSome_none, Option.isNone_some, Classical.not_not] at h5
            refine VC.seq ?_
            refine VC.region ?_
            refine V.move rfl rfl rfl ?_
            refine V.move rfl rfl rfl ?_
            refine V.split (t := 34) rfl (fun h6 => ?_) (fun h6 => ?_)
            · try simp only [decide_eq_true_eq, decide_eq_false_iff_not, Bool.not_eq_true', Bool.not_eq_false', Bool.not_eq_eq_eq_not, Bool.not_true, Bool.not_false, beq_iff_eq, beq_eq_false_iff_ne, ne_eq, Int.not_lt, Int.not_le, Option.isSome_some, Option.isNone_none, Option.isSome_none, Option.isNone_some, Classical.not_not] at h6
              refine V.fieldAddr 1 9 rfl rfl rfl rfl rfl ?_
              apply V.loadL rfl rfl rfl rfl
              · repeat' constructor
              · repeat' constructor
              refine V.bin rfl rfl rfl rfl (bin_stneq _ _) ?_
              refine V.pickT rfl rfl rfl rfl ?_
              refine V.move rfl rfl rfl ?_
              refine V.split (t := 39) rfl (fun h7 => ?_) (fun h7 => ?_)
              · try simp only [decide_eq_true_eq, decide_eq_false_iff_not, Bool.not_eq_true', Bool.not_eq_false', Bool.not_eq_eq_eq_not, Bool.not_true, Bool.not_false, beq_iff_eq, beq_eq_false_iff_ne, ne_eq, Int.not_lt, Int.not_le, Option.isSome_some, Option.isNone_none, Option.isSome_none, Option.isNone_some, Classical.not_not] at h7
                refine V.fieldAddr 1 9 rfl rfl rfl rfl rfl ?_
                apply V.loadL rfl rfl rfl rfl
                · repeat' constructor
                · repeat' constructor
                refine V.bin rfl rfl rfl rfl (bin_stneq _ _) ?_
                refine V.pickT rfl rfl rfl rfl ?_
                refine V.assign rfl rfl rfl ?_
                refine V.nil ?_
                refine Post.nextC ?_
                refine VC.cond rfl (fun h8 => ?_) (fun h8 => ?_)
                · try simp only [decide_eq_true_eq, decide_eq_false_iff_not, Bool.not_eq_true', Bool.not_eq_false', Bool.not_eq_eq_eq_not, Bool.not_true, Bool.not_false, beq_iff_eq, beq_eq_false_iff_ne, ne_eq, Int.not_lt, Int.not_le, Option.isSome_some, Option.isNone_none, Option.isSome_none, Option.isNone_some, Classical.not_not] at h8
                  refine VC.region ?_
                  apply V.call rfl rfl rfl (hc := c64 (a := 32) hB (by omega))
                  · repeat' constructor
                  rintro v Ho ⟨v1, c1, hB1, rfl, rfl⟩
                  refine V.nil ?_
                  refine Post.blockNormal (Post.nextC ?_)
                  refine VC.seq ?_
                  refine VC.region ?_
                  refine V.fieldAddr 1 9 rfl rfl rfl rfl rfl ?_
                  apply V.loadL rfl rfl rfl rfl
                  · repeat' constructor
                  · repeat' constructor
                  apply V.call rfl rfl rfl (hc := c28 hB1 (by simp only [List.length_append, List.length_cons, List.length_nil]; omega))
                  · repeat' constructor
                  rintro v Ho ⟨v2, c2, hB2, rfl, rfl⟩
                  refine V.nil ?_
                  refine Post.nextC ?_
                  refine VC.region ?_
                  refine V.assign rfl rfl rfl ?_
                  refine V.nil ?_
                  refine Post.blockNormal (Post.nextC ?_)
                  refine VC.region ?_
                  refine V.bin rfl rfl rfl rfl (bin_addI (by omega)) ?_
                  refine V.move rfl rfl rfl ?_
                  refine V.nil ?_
                  refine Post.round (i + 1, true, (acc ++ [32]) ++ x.text, pt b1, v2, c2) ?_ ?_ ?_ ?_
                  · refine ⟨hB2, by omega, by simp only [List.length_append, List.length_cons, List.length_nil]; omega, ?_⟩
                    rw [List.append_assoc]
                    exact show_next (by rw [hI, drop_cons hxi]) (showGo_sep (by assumption) (by assumption) ⟨by assumption, by assumption, by assumption⟩)
                  · show l.length - (i + 1) < l.length - i
                    omega
                  · exact ⟨rfl, rfl, rfl, rfl, rfl, rfl, rfl, trivial⟩
                  · repeat' constructor
                · try simp only [decide_eq_true_eq, decide_eq_false_iff_not, Bool.not_eq_true', Bool.not_eq_false', Bool.not_eq_eq_eq_not, Bool.not_true, Bool.not_false, beq_iff_eq, beq_eq_false_iff_ne, ne_eq, Int.not_lt, Int.not_le, Option.isSome_some, Option.isNone_none, Option.isSome_none, Option.isNone_some, Classical.not_not] at h8
                  refine VC.skip ?_
                  refine Post.blockNormal (Post.nextC ?_)
                  refine VC.seq ?_
                  refine VC.region ?_
                  refine V.fieldAddr 1 9 rfl rfl rfl rfl rfl ?_
                  apply V.loadL rfl rfl rfl rfl
                  · repeat' constructor
                  · repeat' constructor
                  apply V.call rfl rfl rfl (hc := c28 hB (by omega))
                  · repeat' constructor
                  rintro v Ho ⟨v1, c1, hB1, rfl, rfl⟩
                  refine V.nil ?_
                  refine Post.nextC ?_
                  refine VC.region ?_
                  refine V.assign rfl rfl rfl ?_
                  refine V.nil ?_
                  refine Post.blockNormal (Post.nextC ?_)
                  refine VC.region ?_
                  refine V.bin rfl rfl rfl rfl (bin_addI (by omega)) ?_
                  refine V.move rfl rfl rfl ?_
                  refine V.nil ?_
                  refine Post.round (i + 1, true, acc ++ x.text, pt b1, v1, c1) ?_ ?_ ?_ ?_
                  · exact ⟨hB1, by omega, by simp only [List.length_append]; omega, show_next (by rw [hI, drop_cons hxi]) (showGo_tok (by assumption) (by assumption) (by simp_all))⟩
                  · show l.length - (i + 1) < l.length - i
                    omega
                  · exact ⟨rfl, rfl, rfl, rfl, rfl, rfl, rfl, trivial⟩
                  · repeat' constructor
              · try simp only [decide_eq_true_eq, decide_eq_false_iff_not, Bool.not_eq_true', Bool.not_eq_false', Bool.not_eq_eq_eq_not, Bool.not_true, Bool.not_false, beq_iff_eq, beq_eq_false_iff_ne, ne_eq, Int.not_lt, Int.not_le, Option.isSome_some, Option.isNone_none, Option.isSome_none, Option.isNone_some, Classical.not_not] at h7
                refine V.skip rfl rfl ?_
                refine V.skip rfl rfl ?_
                refine V.skip rfl rfl ?_
                refine V.pickF rfl rfl rfl rfl ?_
                refine V.assign rfl rfl rfl ?_
                refine V.nil ?_
                refine Post.nextC ?_
                refine VC.condF rfl ?_
                refine VC.skip ?_
                refine Post.blockNormal (Post.nextC ?_)
                refine VC.seq ?_
                refine VC.region ?_
                refine V.fieldAddr 1 9 rfl rfl rfl rfl rfl ?_
                apply V.loadL rfl rfl rfl rfl
                · repeat' constructor
                · repeat' constructor
                apply V.call rfl rfl rfl (hc := c28 hB (by omega))
                · repeat' constructor
                rintro v Ho ⟨v1, c1, hB1, rfl, rfl⟩
                refine V.nil ?_
                refine Post.nextC ?_
                refine VC.region ?_
                refine V.assign rfl rfl rfl ?_
                refine V.nil ?_
                refine Post.blockNormal (Post.nextC ?_)
                refine VC.region ?_
                refine V.bin rfl rfl rfl rfl (bin_addI (by omega)) ?_
                refine V.move rfl rfl rfl ?_
                refine V.nil ?_
                refine Post.round (i + 1, true, acc ++ x.text, pt b1, v1, c1) ?_ ?_ ?_ ?_
                · exact ⟨hB1, by omega, by simp only [List.length_append]; omega, show_next (by rw [hI, drop_cons hxi]) (showGo_tok (by assumption) (by assumption) (by simp_all))⟩
                · show l.length - (i + 1) < l.length - i
                  omega
                · exact ⟨rfl, rfl, rfl, rfl, rfl, rfl, rfl, trivial⟩
                · repeat' constructor
            · try simp only [decide_eq_true_eq, decide_eq_false_iff_not, Bool.not_eq_true', Bool.not_eq_false', Bool.not_eq_eq_eq_not, Bool.not_true, Bool.not_false, beq_iff_eq, beq_eq_false_iff_ne, ne_eq, Int.not_lt, Int.not_le, Option.isSome_some, Option.isNone_none, Option.isSome_none, Option.isNone_some, Classical.not_not] at h6
              refine V.skip rfl rfl ?_
              refine V.skip rfl rfl ?_
              refine V.skip rfl rfl ?_
              refine V.pickF rfl rfl rfl rfl ?_
              refine V.move rfl rfl rfl ?_
              refine V.skip rfl rfl ?_
              refine V.skip rfl rfl ?_
              refine V.skip rfl rfl ?_
              refine V.pickF rfl rfl rfl rfl ?_
              refine V.assign rfl rfl rfl ?_
              refine V.nil ?_
              refine Post.nextC ?_
              refine VC.condF rfl ?_
              refine VC.skip ?_
              refine Post.blockNormal (Post.nextC ?_)
              refine VC.seq ?_
              refine VC.region ?_
              refine V.fieldAddr 1 9 rfl rfl rfl rfl rfl ?_
              apply V.loadL rfl rfl rfl rfl
              · repeat' constructor
              · repeat' constructor
              apply V.call rfl rfl rfl (hc := c28 hB (by omega))
              · repeat' constructor
              rintro v Ho ⟨v1, c1, hB1, rfl, rfl⟩
              refine V.nil ?_
              refine Post.nextC ?_
              refine VC.region ?_
              refine V.assign rfl rfl rfl ?_
              refine V.nil ?_
              refine Post.blockNormal (Post.nextC ?_)
              refine VC.region ?_
              refine V.bin rfl rfl rfl rfl (bin_addI (by omega)) ?_
              refine V.move rfl rfl rfl ?_
              refine V.nil ?_
              refine Post.round (i + 1, true, acc ++ x.text, pt b1, v1, c1) ?_ ?_ ?_ ?_
              · exact ⟨hB1, by omega, by simp only [List.length_append]; omega, show_next (by rw [hI, drop_cons hxi]) (showGo_tok (by assumption) (by assumption) (by simp_all))⟩
              · show l.length - (i + 1) < l.length - i
                omega
              · exact ⟨rfl, rfl, rfl, rfl, rfl, rfl, rfl, trivial⟩
              · repeat' constructor
      · try simp only [decide_eq_true_eq, decide_eq_false_iff_not, Bool.not_eq_true', Bool.not_eq_false', Bool.not_eq_eq_eq_not, Bool.not_true, Bool.not_false, beq_iff_eq, beq_eq_false_iff_ne, ne_eq, Int.not_lt, Int.not_le, Option.isSome_some, Option.isNone_none, Option.isSome_none, Option.isNone_some, Classical.not_not] at h3
        refine V.skip rfl rfl ?_
        refine V.skip rfl rfl ?_
        refine V.pickF rfl rfl rfl rfl ?_
        refine V.pickF rfl rfl rfl rfl ?_
        refine V.assign rfl rfl rfl ?_
        refine V.nil ?_
        refine Post.nextC ?_
        refine VC.condF rfl ?_
        refine VC.seq ?_
        refine VC.region ?_
        refine V.fieldAddr 0 3 rfl rfl rfl rfl rfl ?_
        apply V.loadL rfl rfl rfl rfl
        · repeat' constructor
        · repeat' constructor
        refine V.bin rfl rfl rfl rfl (bin_eql _ _ _) ?_
        refine V.assign rfl rfl rfl ?_
        refine V.nil ?_
        refine Post.nextC ?_
        refine VC.cond rfl (fun h9 => ?_) (fun h9 => ?_)
        · try simp only [decide_eq_true_eq, decide_eq_false_iff_not, Bool.not_eq_true', Bool.not_eq_false', Bool.not_eq_eq_eq_not, Bool.not_true, Bool.not_false, beq_iff_eq, beq_eq_false_iff_ne, ne_eq, Int.not_lt, Int.not_le, Option.isSome_some, Option.isNone_none, Option.isSome_none, Option.isNone_some, Classical.not_not] at h9
          refine VC.seq ?_
          refine VC.region ?_
          apply V.call rfl rfl rfl (hc := c64 (a := 10) hB (by omega))
          · repeat' constructor
          rintro v Ho ⟨v1, c1, hB1, rfl, rfl⟩
          refine V.nil ?_
          refine Post.nextC ?_
          refine VC.seq ?_
          refine VC.region ?_
          refine V.assign rfl rfl rfl ?_
          refine V.nil ?_
          refine Post.nextC ?_
          refine VC.exit ?_
          refine Post.blockMiss rfl (Post.thenExit (Post.blockHit (Post.nextC ?_)))
          refine VC.region ?_
          refine V.bin rfl rfl rfl rfl (bin_addI (by omega)) ?_
          refine V.move rfl rfl rfl ?_
          refine V.nil ?_
          refine Post.round (i + 1, false, acc ++ [10], pt b1, v1, c1) ?_ ?_ ?_ ?_
          · first
              | contradiction
              | exact ⟨hB1, by omega, by simp only [List.length_append, List.length_cons, List.length_nil]; omega, show_next (by rw [hI, drop_cons hxi]) (showGo_line (by assumption) (by assumption) (by assumption))⟩
          · show l.length - (i + 1) < l.length - i
            omega
          · exact ⟨rfl, rfl, rfl, rfl, rfl, rfl, rfl, trivial⟩
          · repeat' constructor
        · try simp only [decide_eq_true_eq, decide_eq_false_iff_not, Bool.not_eq_true', Bool.not_eq_false', Bool.not_eq_eq_eq_not, Bool.not_true, Bool.not_false, beq_iff_eq, beq_eq_false_iff_ne, ne_eq, Int.not_lt, Int.not_le, Option.isSome_some, Option.isNone_none, Option.isSome_none, Option.isNone_some, Classical.not_not] at h9
          refine VC.seq ?_
          refine VC.region ?_
          refine V.move rfl rfl rfl ?_
          refine V.move rfl rfl rfl ?_
          refine V.split (t := 34) rfl (fun h10 => ?_) (fun h10 => ?_)
          · try simp only [decide_eq_true_eq, decide_eq_false_iff_not, Bool.not_eq_true', Bool.not_eq_false', Bool.not_eq_eq_eq_not, Bool.not_true, Bool.not_false, beq_iff_eq, beq_eq_false_iff_ne, ne_eq, Int.not_lt, Int.not_le, Option.isSome_some, Option.isNone_none, Option.isSome_none, Option.isNone_some, Classical.not_not] at h10
            refine V.fieldAddr 1 9 rfl rfl rfl rfl rfl ?_
            apply V.loadL rfl rfl rfl rfl
            · repeat' constructor
            · repeat' constructor
            refine V.bin rfl rfl rfl rfl (bin_stneq _ _) ?_
            refine V.pickT rfl rfl rfl rfl ?_
            refine V.move rfl rfl rfl ?_
            refine V.split (t := 39) rfl (fun h11 => ?_) (fun h11 => ?_)
            · try simp only [decide_eq_true_eq, decide_eq_false_iff_not, Bool.not_eq_true', Bool.not_eq_false', Bool.not_eq_eq_eq_not, Bool.not_true, Bool.not_false, beq_iff_eq, beq_eq_false_iff_ne, ne_eq, Int.not_lt, Int.not_le, Option.isSome_some, Option.isNone_none, Option.isSome_none, Option.isNone_some, Classical.not_not] at h11
              refine V.fieldAddr 1 9 rfl rfl rfl rfl rfl ?_
              apply V.loadL rfl rfl rfl rfl
              · repeat' constructor
              · repeat' constructor
              refine V.bin rfl rfl rfl rfl (bin_stneq _ _) ?_
              refine V.pickT rfl rfl rfl rfl ?_
              refine V.assign rfl rfl rfl ?_
              refine V.nil ?_
              refine Post.nextC ?_
              refine VC.cond rfl (fun h12 => ?_) (fun h12 => ?_)
              · try simp only [decide_eq_true_eq, decide_eq_false_iff_not, Bool.not_eq_true', Bool.not_eq_false', Bool.not_eq_eq_eq_not, Bool.not_true, Bool.not_false, beq_iff_eq, beq_eq_false_iff_ne, ne_eq, Int.not_lt, Int.not_le, Option.isSome_some, Option.isNone_none, Option.isSome_none, Option.isNone_some, Classical.not_not] at h12
                refine VC.region ?_
                apply V.call rfl rfl rfl (hc := c64 (a := 32) hB (by omega))
                · repeat' constructor
                rintro v Ho ⟨v1, c1, hB1, rfl, rfl⟩
                refine V.nil ?_
                refine Post.blockNormal (Post.nextC ?_)
                refine VC.seq ?_
                refine VC.region ?_
                refine V.fieldAddr 1 9 rfl rfl rfl rfl rfl ?_
                apply V.loadL rfl rfl rfl rfl
                · repeat' constructor
                · repeat' constructor
                apply V.call rfl rfl rfl (hc := c28 hB1 (by simp only [List.length_append, List.length_cons, List.length_nil]; omega))
                · repeat' constructor
                rintro v Ho ⟨v2, c2, hB2, rfl, rfl⟩
                refine V.nil ?_
                refine Post.nextC ?_
                refine VC.region ?_
                refine V.assign rfl rfl rfl ?_
                refine V.nil ?_
                refine Post.blockNormal (Post.nextC ?_)
                refine VC.region ?_
                refine V.bin rfl rfl rfl rfl (bin_addI (by omega)) ?_
                refine V.move rfl rfl rfl ?_
                refine V.nil ?_
                refine Post.round (i + 1, true, (acc ++ [32]) ++ x.text, pt b1, v2, c2) ?_ ?_ ?_ ?_
                · refine ⟨hB2, by omega, by simp only [List.length_append, List.length_cons, List.length_nil]; omega, ?_⟩
                  rw [List.append_assoc]
                  exact show_next (by rw [hI, drop_cons hxi]) (showGo_sep (by assumption) (by assumption) ⟨by assumption, by assumption, by assumption⟩)
                · show l.length - (i + 1) < l.length - i
                  omega
                · exact ⟨rfl, rfl, rfl, rfl, rfl, rfl, rfl, trivial⟩
                · repeat' constructor
              · try simp only [decide_eq_true_eq, decide_eq_false_iff_not, Bool.not_eq_true', Bool.not_eq_false', Bool.not_eq_eq_eq_not, Bool.not_true, Bool.not_false, beq_iff_eq, beq_eq_false_iff_ne, ne_eq, Int.not_lt, Int.not_le, Option.isSome_some, Option.isNone_none, Option.isSome_none, Option.isNone_some, Classical.not_not] at h12
                refine VC.skip ?_
                refine Post.blockNormal (Post.nextC ?_)
                refine VC.seq ?_
                refine VC.region ?_
                refine V.fieldAddr 1 9 rfl rfl rfl rfl rfl ?_
                apply V.loadL rfl rfl rfl rfl
                · repeat' constructor
                · repeat' constructor
                apply V.call rfl rfl rfl (hc := c28 hB (by omega))
                · repeat' constructor
                rintro v Ho ⟨v1, c1, hB1, rfl, rfl⟩
                refine V.nil ?_
                refine Post.nextC ?_
                refine VC.region ?_
                refine V.assign rfl rfl rfl ?_
                refine V.nil ?_
                refine Post.blockNormal (Post.nextC ?_)
                refine VC.region ?_
                refine V.bin rfl rfl rfl rfl (bin_addI (by omega)) ?_
                refine V.move rfl rfl rfl ?_
                refine V.nil ?_
                refine Post.round (i + 1, true, acc ++ x.text, pt b1, v1, c1) ?_ ?_ ?_ ?_
                · exact ⟨hB1, by omega, by simp only [List.length_append]; omega, show_next (by rw [hI, drop_cons hxi]) (showGo_tok (by assumption) (by assumption) (by simp_all))⟩
                · show l.length - (i + 1) < l.length - i
                  omega
                · exact ⟨rfl, rfl, rfl, rfl, rfl, rfl, rfl, trivial⟩
                · repeat' constructor
            · try simp only [decide_eq_true_eq, decide_eq_false_iff_not, Bool.not_eq_true', Bool.not_eq_false', Bool.not_eq_eq_eq_not, Bool.not_true, Bool.not_false, beq_iff_eq, beq_eq_false_iff_ne, ne_eq, Int.not_lt, Int.not_le, Option.isSome_some, Option.isNone_none, Option.isSome_none, Option.isNone_some, Classical.not_not] at h11
              refine V.skip rfl rfl ?_
              refine V.skip rfl rfl ?_
              refine V.skip rfl rfl ?_
              refine V.pickF rfl rfl rfl rfl ?_
              refine V.assign rfl rfl rfl ?_
              refine V.nil ?_
              refine Post.nextC ?_
              refine VC.condF rfl ?_
              refine VC.skip ?_
              refine Post.blockNormal (Post.nextC ?_)
              refine VC.seq ?_
              refine VC.region ?_
              refine V.fieldAddr 1 9 rfl rfl rfl rfl rfl ?_
              apply V.loadL rfl rfl rfl rfl
              · repeat' constructor
              · repeat' constructor
              apply V.call rfl rfl rfl (hc := c28 hB (by omega))
              · repeat' constructor
              rintro v Ho ⟨v1, c1, hB1, rfl, rfl⟩
              refine V.nil ?_
              refine Post.nextC ?_
              refine VC.region ?_
              refine V.assign rfl rfl rfl ?_
              refine V.nil ?_
              refine Post.blockNormal (Post.nextC ?_)
              refine VC.region ?_
              refine V.bin rfl rfl rfl rfl (bin_addI (by omega)) ?_
              refine V.move rfl rfl rfl ?_
              refine V.nil ?_
              refine Post.round (i + 1, true, acc ++ x.text, pt b1, v1, c1) ?_ ?_ ?_ ?_
              · exact ⟨hB1, by omega, by simp only [List.length_append]; omega, show_next (by rw [hI, drop_cons hxi]) (showGo_tok (by assumption) (by assumption) (by simp_all))⟩
              · show l.length - (i + 1) < l.length - i
                omega
              · exact ⟨rfl, rfl, rfl, rfl, rfl, rfl, rfl, trivial⟩
              · repeat' constructor
          · try simp only [decide_eq_true_eq, decide_eq_false_iff_not, Bool.not_eq_true', Bool.not_eq_false', Bool.not_eq_eq_eq_not, Bool.not_true, Bool.not_false, beq_iff_eq, beq_eq_false_iff_ne, ne_eq, Int.not_lt, Int.not_le, Option.isSome_some, Option.isNone_none, Option.isSome_none, Option.isNone_some, Classical.not_not] at h10
            refine V.skip rfl rfl ?_
            refine V.skip rfl rfl ?_
            refine V.skip rfl rfl ?_
            refine V.pickF rfl rfl rfl rfl ?_
            refine V.move rfl rfl rfl ?_
            refine V.skip rfl rfl ?_
            refine V.skip rfl rfl ?_
            refine V.skip rfl rfl ?_
            refine V.pickF rfl rfl rfl rfl ?_
            refine V.assign rfl rfl rfl ?_
            refine V.nil ?_
            refine Post.nextC ?_
            refine VC.condF rfl ?_
            refine VC.skip ?_
            refine Post.blockNormal (Post.nextC ?_)
            refine VC.seq ?_
            refine VC.region ?_
            refine V.fieldAddr 1 9 rfl rfl rfl rfl rfl ?_
            apply V.loadL rfl rfl rfl rfl
            · repeat' constructor
            · repeat' constructor
            apply V.call rfl rfl rfl (hc := c28 hB (by omega))
            · repeat' constructor
            rintro v Ho ⟨v1, c1, hB1, rfl, rfl⟩
            refine V.nil ?_
            refine Post.nextC ?_
            refine VC.region ?_
            refine V.assign rfl rfl rfl ?_
            refine V.nil ?_
            refine Post.blockNormal (Post.nextC ?_)
            refine VC.region ?_
            refine V.bin rfl rfl rfl rfl (bin_addI (by omega)) ?_
            refine V.move rfl rfl rfl ?_
            refine V.nil ?_
            refine Post.round (i + 1, true, acc ++ x.text, pt b1, v1, c1) ?_ ?_ ?_ ?_
            · exact ⟨hB1, by omega, by simp only [List.length_append]; omega, show_next (by rw [hI, drop_cons hxi]) (showGo_tok (by assumption) (by assumption) (by simp_all))⟩
            · show l.length - (i + 1) < l.length - i
              omega
            · exact ⟨rfl, rfl, rfl, rfl, rfl, rfl, rfl, trivial⟩
            · repeat' constructor
  · try simp only [decide_eq_true_eq, decide_eq_false_iff_not, Bool.not_eq_true', Bool.not_eq_false', Bool.not_eq_eq_eq_not, Bool.not_true, Bool.not_false, beq_iff_eq, beq_eq_false_iff_ne, ne_eq, Int.not_lt, Int.not_le, Option.isSome_some, Option.isNone_none, Option.isSome_none, Option.isNone_some, Classical.not_not] at h1
    refine VC.exit ?_
    refine Post.thenExit (Post.thenExit (Post.blockHit (Post.nextC ?_)))
    refine VC.seq ?_
    refine VC.seq ?_
    refine VC.region ?_
    refine V.move rfl rfl rfl ?_
    refine V.nil ?_
    refine Post.nextC ?_
    refine VC.cond rfl (fun h13 => ?_) (fun h13 => ?_)
    · try simp only [decide_eq_true_eq, decide_eq_false_iff_not, Bool.not_eq_true', Bool.not_eq_false', Bool.not_eq_eq_eq_not, Bool.not_true, Bool.not_false, beq_iff_eq, beq_eq_false_iff_ne, ne_eq, Int.not_lt, Int.not_le, Option.isSome_some, Option.isNone_none, Option.isSome_none, Option.isNone_some, Classical.not_not] at h13
      refine VC.seq ?_
      refine VC.region ?_
      refine V.assign rfl rfl rfl ?_
      refine V.assign rfl rfl rfl ?_
      refine V.nil ?_
      refine Post.nextC ?_
      refine VC.ret ?_
      refine Post.thenRet (?_)
      apply Post.ret2 rfl rfl rfl 
      · obtain rfl : i = l.length := by omega
        have hb : b = true := by assumption
        have e : showGo false l = none := by rw [hI, List.drop_length, hb]; rfl
        rw [e]
        exact ⟨rfl, rfl⟩
      · repeat' constructor
    · try simp only [decide_eq_true_eq, decide_eq_false_iff_not, Bool.not_eq_true', Bool.not_eq_false', Bool.not_eq_eq_eq_not, Bool.not_true, Bool.not_false, beq_iff_eq, beq_eq_false_iff_ne, ne_eq, Int.not_lt, Int.not_le, Option.isSome_some, Option.isNone_none, Option.isSome_none, Option.isNone_some, Classical.not_not] at h13
      refine VC.skip ?_
      refine Post.nextC ?_
      refine VC.seq ?_
      refine VC.region ?_
      apply V.call rfl rfl rfl (hc := c30 hB (by omega))
      · repeat' constructor
      rintro v Ho ⟨rfl, rfl⟩
      refine V.assign rfl rfl rfl ?_
      refine V.assign rfl rfl rfl ?_
      refine V.nil ?_
      refine Post.nextC ?_
      refine VC.ret ?_
      apply Post.ret2 rfl rfl rfl 
      · obtain rfl : i = l.length := by omega
        have hb : b = false := by assumption
        have e : showGo false l = some acc := by rw [hI, List.drop_length, hb]; simp [showGo]
        rw [e]
        exact ⟨rfl, rfl⟩
      · repeat' constructor

end Go.Proofs.Ln
