/- Contracts of functions of the given program, each proved by walking its code: part of the proof of this claim; no condition beyond those that each theorem names. -/
import Derived.Test.YtfclhhhnngkdlaaDoorLnRef5
import Derived.Lib.ItoaMem
set_option linter.unusedVariables false
set_option linter.unusedSimpArgs false
namespace Go.Proofs.Ln
open Go Go.RowKit Go.Proofs.Eng
/-- the errors' words -/
def errs : List (Int × List UInt8) := [(0, [111, 107]), (1, [98, 97, 100, 32, 97, 114, 103, 117, 109, 101, 110, 116]), (2, [116, 111, 111, 32, 98, 105, 103]), (3, [109, 97, 108, 102, 111, 114, 109, 101, 100]), (4, [98, 97, 100, 32, 110, 97, 109, 101]), (5, [116, 119, 105, 99, 101]), (6, [99, 121, 99, 108, 101]), (7, [99, 108, 111, 99, 107]), (20, [110, 111, 32, 115, 117, 99, 104, 32, 117, 115, 101, 114]), (21, [110, 111, 32, 115, 117, 99, 104, 32, 114, 111, 108, 101]), (22, [110, 111, 32, 115, 117, 99, 104, 32, 100, 117, 116, 121]), (23, [110, 111, 32, 115, 117, 99, 104, 32, 102, 108, 111, 119]), (24, [110, 111, 32, 115, 117, 99, 104, 32, 105, 110, 115, 116, 97, 110, 99, 101]), (25, [110, 111, 32, 115, 117, 99, 104, 32, 115, 116, 101, 112]), (26, [110, 111, 32, 115, 117, 99, 104, 32, 108, 105, 110, 107]), (30, [101, 110, 100, 101, 100]), (31, [99, 108, 97, 105, 109, 101, 100]), (32, [116, 111, 111, 32, 101, 97, 114, 108, 121]), (33, [110, 111, 116, 32, 97, 117, 116, 104, 111, 114, 105, 115, 101, 100]), (34, [100, 101, 97, 100, 32, 101, 110, 100]), (35, [110, 111, 116, 32, 99, 108, 97, 105, 109, 101, 100]), (36, [110, 111, 116, 32, 116, 104, 101, 32, 104, 111, 108, 100, 101, 114]), (37, [100, 111, 110, 101]), (50, [110, 111, 32, 112, 111, 119, 101, 114]), (51, [110, 111, 32, 115, 112, 97, 99, 101]), (52, [99, 111, 114, 114, 117, 112, 116]), (60, [110, 111, 32, 115, 117, 99, 104, 32, 99, 97, 108, 108])]
def errWord (e : Int) : List UInt8 := ((errs.find? fun p => decide (p.1 = e)).map (·.2)).getD [117, 110, 107, 110, 111, 119, 110, 32, 101, 114, 114, 111, 114]
/-- a reply's text, but for the number -/
def answerOf (e : Int) (num : List UInt8) (lines : List (List UInt8)) : List UInt8 :=
  if e ≠ 0 then [110, 111, 32] ++ errWord e ++ [10] else ([111, 107, 32] ++ num ++ [10]) ++ lines.flatMap fun l => [124, 32] ++ l ++ [10]
theorem d36 : ∀ i : Fin 10, (([48, 49, 50, 51, 52, 53, 54, 55, 56, 57, 97, 98, 99, 100, 101, 102, 103, 104, 105, 106, 107, 108, 109, 110, 111, 112, 113, 114, 115, 116, 117, 118, 119, 120, 121, 122] : List UInt8).take (i.val + 1)).drop i.val = Lib.decDigits i.val := by
  intro i
  rw [Lib.decDigits_one i.isLt]
  revert i
  decide
def SM : List UInt8 := [48, 48, 48, 49, 48, 50, 48, 51, 48, 52, 48, 53, 48, 54, 48, 55, 48, 56, 48, 57, 49, 48, 49, 49, 49, 50, 49, 51, 49, 52, 49, 53, 49, 54, 49, 55, 49, 56, 49, 57, 50, 48, 50, 49, 50, 50, 50, 51, 50, 52, 50, 53, 50, 54, 50, 55, 50, 56, 50, 57, 51, 48, 51, 49, 51, 50, 51, 51, 51, 52, 51, 53, 51, 54, 51, 55, 51, 56, 51, 57, 52, 48, 52, 49, 52, 50, 52, 51, 52, 52, 52, 53, 52, 54, 52, 55, 52, 56, 52, 57, 53, 48, 53, 49, 53, 50, 53, 51, 53, 52, 53, 53, 53, 54, 53, 55, 53, 56, 53, 57, 54, 48, 54, 49, 54, 50, 54, 51, 54, 52, 54, 53, 54, 54, 54, 55, 54, 56, 54, 57, 55, 48, 55, 49, 55, 50, 55, 51, 55, 52, 55, 53, 55, 54, 55, 55, 55, 56, 55, 57, 56, 48, 56, 49, 56, 50, 56, 51, 56, 52, 56, 53, 56, 54, 56, 55, 56, 56, 56, 57, 57, 48, 57, 49, 57, 50, 57, 51, 57, 52, 57, 53, 57, 54, 57, 55, 57, 56, 57, 57]
theorem SM_len : SM.length = 200 := by decide +kernel
theorem sm_at : ∀ i : Fin 100, 10 ≤ i.val → (SM.take (i.val * 2 + 2)).drop (i.val * 2) = [UInt8.ofNat (48 + i.val / 10), UInt8.ofNat (48 + i.val % 10)] := by decide +kernel
theorem sm_dec {i : Nat} (h1 : ¬ i < 10) (h2 : i < 100) : (SM.take (i * 2 + 2)).drop (i * 2) = Lib.decDigits i := by
  rw [Lib.decDigits_two h1 h2]
  exact sm_at ⟨i, h2⟩ (show 10 ≤ i by omega)
theorem str_one (ls : List (List UInt8)) (i : Nat) (x : List UInt8) (h : ls[i]? = some x) : (ls.map st)[i]? = some (st x) := by rw [List.getElem?_map, h]; rfl
/-- the document's run -/
theorem wake_script : script [117, 115, 101, 114, 32, 97, 110, 110, 10, 99, 108, 97, 105, 109, 32, 97, 110, 110, 32, 97, 115, 107, 32, 51, 10, 111, 114, 103] = ([⟨2, [97, 110, 110], [], [], 0, []⟩, ⟨20, [97, 110, 110], [97, 115, 107], [], 3, []⟩, ⟨38, [], [], [], 0, []⟩], 0, 0, 0) := by kernel_rfl
theorem call_ext {a b : Call} : (decide (a.op = b.op) && (decide (a.a = b.a) && (decide (a.b = b.b) && (decide (a.c = b.c) && (decide (a.n = b.n) && (decide (a.text = b.text) && true)))))) = decide (a = b) := by
  rw [Bool.eq_iff_iff]
  simp only [Bool.and_eq_true, decide_eq_true_eq, and_true]
  constructor
  · rintro ⟨h1, h2, h3, h4, h5, h6⟩
    cases a; cases b
    simp_all
  · rintro rfl
    simp

theorem c27 {w0 : World} {e : Int} : CtR Pg w0 27 #[.int .i64 e] [] (fun u H => u = st (errWord e) ∧ H = []) := by
  refine Ct.of_body Go.Proofs.Tryd.func27 rfl 58 rfl rfl (fun R => ?_)
  refine VC.seq ?_
  refine VC.region ?_
  refine V.assign rfl rfl rfl ?_
  refine V.nil ?_
  refine Post.nextC ?_
  refine VC.seq ?_
  refine VC.seq ?_
  refine VC.region ?_
  refine V.move rfl rfl rfl ?_
  refine V.nil ?_
  refine Post.nextC ?_
  refine VC.block ?_
  refine VC.seq ?_
  refine VC.region ?_
  refine V.bin rfl rfl rfl rfl (bin_eql _ _ _) ?_
  refine V.assign rfl rfl rfl ?_
  refine V.nil ?_
  refine Post.nextC ?_
  refine VC.cond rfl (fun h1 => ?_) (fun h1 => ?_)
  · try simp only [decide_eq_true_eq, decide_eq_false_iff_not, Bool.not_eq_true', Bool.not_eq_false', Bool.not_eq_eq_eq_not, Bool.not_true, Bool.not_false, beq_iff_eq, beq_eq_false_iff_ne, ne_eq, Int.not_lt, Int.not_le, Option.isSome_some, Option.isNone_none, Option.isSome_none, Option.isNone_some, Classical.not_not] at h1
    refine VC.seq ?_
    refine VC.region ?_
    refine V.assign rfl rfl rfl ?_
    refine V.nil ?_
    refine Post.nextC ?_
    refine VC.ret ?_
    refine Post.blockRet (Post.thenRet (?_))
    apply Post.ret1 rfl rfl 
    · obtain rfl : e = 0 := by assumption
      exact ⟨rfl, rfl⟩
    · repeat' constructor
  · try simp only [decide_eq_true_eq, decide_eq_false_iff_not, Bool.not_eq_true', Bool.not_eq_false', Bool.not_eq_eq_eq_not, Bool.not_true, Bool.not_false, beq_iff_eq, beq_eq_false_iff_ne, ne_eq, Int.not_lt, Int.not_le, Option.isSome_some, Option.isNone_none, Option.isSome_none, Option.isNone_some, Classical.not_not] at h1
    refine VC.seq ?_
    refine VC.region ?_
    refine V.bin rfl rfl rfl rfl (bin_eql _ _ _) ?_
    refine V.assign rfl rfl rfl ?_
    refine V.nil ?_
    refine Post.nextC ?_
    refine VC.cond rfl (fun h2 => ?_) (fun h2 => ?_)
    · try simp only [decide_eq_true_eq, decide_eq_false_iff_not, Bool.not_eq_true', Bool.not_eq_false', Bool.not_eq_eq_eq_not, Bool.not_true, Bool.not_false, beq_iff_eq, beq_eq_false_iff_ne, ne_eq, Int.not_lt, Int.not_le, Option.isSome_some, Option.isNone_none, Option.isSome_none, Option.isNone_some, Classical.not_not] at h2
      refine VC.seq ?_
      refine VC.region ?_
      refine V.assign rfl rfl rfl ?_
      refine V.nil ?_
      refine Post.nextC ?_
      refine VC.ret ?_
      refine Post.blockRet (Post.thenRet (?_))
      apply Post.ret1 rfl rfl 
      · obtain rfl : e = 1 := by assumption
        exact ⟨rfl, rfl⟩
      · repeat' constructor
    · try simp only [decide_eq_true_eq, decide_eq_false_iff_not, Bool.not_eq_true', Bool.not_eq_false', Bool.not_eq_eq_eq_not, Bool.not_true, Bool.not_false, beq_iff_eq, beq_eq_false_iff_ne, ne_eq, Int.not_lt, Int.not_le, Option.isSome_some, Option.isNone_none, Option.isSome_none, Option.isNone_some, Classical.not_not] at h2
      refine VC.seq ?_
      refine VC.region ?_
      refine V.bin rfl rfl rfl rfl (bin_eql _ _ _) ?_
      refine V.assign rfl rfl rfl ?_
      refine V.nil ?_
      refine Post.nextC ?_
      refine VC.cond rfl (fun h3 => ?_) (fun h3 => ?_)
      · try simp only [decide_eq_true_eq, decide_eq_false_iff_not, Bool.not_eq_true', Bool.not_eq_false', Bool.not_eq_eq_eq_not, Bool.not_true, Bool.not_false, beq_iff_eq, beq_eq_false_iff_ne, ne_eq, Int.not_lt, Int.not_le, Option.isSome_some, Option.isNone_none, Option.isSome_none, Option.isNone_some, Classical.not_not] at h3
        refine VC.seq ?_
        refine VC.region ?_
        refine V.assign rfl rfl rfl ?_
        refine V.nil ?_
        refine Post.nextC ?_
        refine VC.ret ?_
        refine Post.blockRet (Post.thenRet (?_))
        apply Post.ret1 rfl rfl 
        · obtain rfl : e = 2 := by assumption
          exact ⟨rfl, rfl⟩
        · repeat' constructor
      · try simp only [decide_eq_true_eq, decide_eq_false_iff_not, Bool.not_eq_true', Bool.not_eq_false', Bool.not_eq_eq_eq_not, Bool.not_true, Bool.not_false, beq_iff_eq, beq_eq_false_iff_ne, ne_eq, Int.not_lt, Int.not_le, Option.isSome_some, Option.isNone_none, Option.isSome_none, Option.isNone_some, Classical.not_not] at h3
        refine VC.seq ?_
        refine VC.region ?_
        refine V.bin rfl rfl rfl rfl (bin_eql _ _ _) ?_
        refine V.assign rfl rfl rfl ?_
        refine V.nil ?_
        refine Post.nextC ?_
        refine VC.cond rfl (fun h4 => ?_) (fun h4 => ?_)
        · try simp only [decide_eq_true_eq, decide_eq_false_iff_not, Bool.not_eq_true', Bool.not_eq_false', Bool.not_eq_eq_eq_not, Bool.not_true, Bool.not_false, beq_iff_eq, beq_eq_false_iff_ne, ne_eq, Int.not_lt, Int.not_le, Option.isSome_some, Option.isNone_none, Option.isSome_none, Option.isNone_some, Classical.not_not] at h4
          refine VC.seq ?_
          refine VC.region ?_
          refine V.assign rfl rfl rfl ?_
          refine V.nil ?_
          refine Post.nextC ?_
          refine VC.ret ?_
          refine Post.blockRet (Post.thenRet (?_))
          apply Post.ret1 rfl rfl 
          · obtain rfl : e = 3 := by assumption
            exact ⟨rfl, rfl⟩
          · repeat' constructor
        · try simp only [decide_eq_true_eq, decide_eq_false_iff_not, Bool.not_eq_true', Bool.not_eq_false', Bool.not_eq_eq_eq_not, Bool.not_true, Bool.not_false, beq_iff_eq, beq_eq_false_iff_ne, ne_eq, Int.not_lt, Int.not_le, Option.isSome_some, Option.isNone_none, Option.isSome_none, Option.isNone_some, Classical.not_not] at h4
          refine VC.seq ?_
          refine VC.region ?_
          refine V.bin rfl rfl rfl rfl (bin_eql _ _ _) ?_
          refine V.assign rfl rfl rfl ?_
          refine V.nil ?_
          refine Post.nextC ?_
          refine VC.cond rfl (fun h5 => ?_) (fun h5 => ?_)
          · try simp only [decide_eq_true_eq, decide_eq_false_iff_not, Bool.not_eq_true', Bool.not_eq_false', Bool.not_eq_eq_eq_not, Bool.not_true, Bool.not_false, beq_iff_eq, beq_eq_false_iff_ne, ne_eq, Int.not_lt, Int.not_le, Option.isSome_some, Option.isNone_none, Option.isSome_none, Option.isNone_some, Classical.not_not] at h5
            refine VC.seq ?_
            refine VC.region ?_
            refine V.assign rfl rfl rfl ?_
            refine V.nil ?_
            refine Post.nextC ?_
            refine VC.ret ?_
            refine Post.blockRet (Post.thenRet (?_))
            apply Post.ret1 rfl rfl 
            · obtain rfl : e = 4 := by assumption
              exact ⟨rfl, rfl⟩
            · repeat' constructor
          · try simp only [decide_eq_true_eq, decide_eq_false_iff_not, Bool.not_eq_true', Bool.not_eq_false', Bool.not_eq_eq_eq_not, Bool.not_true, Bool.not_false, beq_iff_eq, beq_eq_false_iff_ne, ne_eq, Int.not_lt, Int.not_le, Option.isSome_some, Option.isNone_none, Option.isSome_none, Option.isNone_some, Classical.not_not] at h5
            refine VC.seq ?_
            refine VC.region ?_
            refine V.bin rfl rfl rfl rfl (bin_eql _ _ _) ?_
            refine V.assign rfl rfl rfl ?_
            refine V.nil ?_
            refine Post.nextC ?_
            refine VC.cond rfl (fun h6 => ?_) (fun h6 => ?_)
            · try simp only [decide_eq_true_eq, decide_eq_false_iff_not, Bool.not_eq_true', Bool.not_eq_false', Bool.not_eq_eq_eq_not, Bool.not_true, Bool.not_false, beq_iff_eq, beq_eq_false_iff_ne, ne_eq, Int.not_lt, Int.not_le, Option.isSome_some, Option.isNone_none, Option.isSome_none, Option.isNone_some, Classical.not_not] at h6
              refine VC.seq ?_
              refine VC.region ?_
              refine V.assign rfl rfl rfl ?_
              refine V.nil ?_
              refine Post.nextC ?_
              refine VC.ret ?_
              refine Post.blockRet (Post.thenRet (?_))
              apply Post.ret1 rfl rfl 
              · obtain rfl : e = 5 := by assumption
                exact ⟨rfl, rfl⟩
              · repeat' constructor
            · try simp only [decide_eq_true_eq, decide_eq_false_iff_not, Bool.not_eq_true', Bool.not_eq_false', Bool.not_eq_eq_eq_not, Bool.not_true, Bool.not_false, beq_iff_eq, beq_eq_false_iff_ne, ne_eq, Int.not_lt, Int.not_le, Option.isSome_some, Option.isNone_none, Option.isSome_none, Option.isNone_some, Classical.not_not] at h6
              refine VC.seq ?_
              refine VC.region ?_
              refine V.bin rfl rfl rfl rfl (bin_eql _ _ _) ?_
              refine V.assign rfl rfl rfl ?_
              refine V.nil ?_
              refine Post.nextC ?_
              refine VC.cond rfl (fun h7 => ?_) (fun h7 => ?_)
              · try simp only [decide_eq_true_eq, decide_eq_false_iff_not, Bool.not_eq_true', Bool.not_eq_false', Bool.not_eq_eq_eq_not, Bool.not_true, Bool.not_false, beq_iff_eq, beq_eq_false_iff_ne, ne_eq, Int.not_lt, Int.not_le, Option.isSome_some, Option.isNone_none, Option.isSome_none, Option.isNone_some, Classical.not_not] at h7
                refine VC.seq ?_
                refine VC.region ?_
                refine V.assign rfl rfl rfl ?_
                refine V.nil ?_
                refine Post.nextC ?_
                refine VC.ret ?_
                refine Post.blockRet (Post.thenRet (?_))
                apply Post.ret1 rfl rfl 
                · obtain rfl : e = 6 := by assumption
                  exact ⟨rfl, rfl⟩
                · repeat' constructor
              · try simp only [decide_eq_true_eq, decide_eq_false_iff_not, Bool.not_eq_true', Bool.not_eq_false', Bool.not_eq_eq_eq_not, Bool.not_true, Bool.not_false, beq_iff_eq, beq_eq_false_iff_ne, ne_eq, Int.not_lt, Int.not_le, Option.isSome_some, Option.isNone_none, Option.isSome_none, Option.isNone_some, Classical.not_not] at h7
                refine VC.seq ?_
                refine VC.region ?_
                refine V.bin rfl rfl rfl rfl (bin_eql _ _ _) ?_
                refine V.assign rfl rfl rfl ?_
                refine V.nil ?_
                refine Post.nextC ?_
                refine VC.cond rfl (fun h8 => ?_) (fun h8 => ?_)
                · try simp only [decide_eq_true_eq, decide_eq_false_iff_not, Bool.not_eq_true', Bool.not_eq_false', Bool.not_eq_eq_eq_not, Bool.not_true, Bool.not_false, beq_iff_eq, beq_eq_false_iff_ne, ne_eq, Int.not_lt, Int.not_le, Option.isSome_some, Option.isNone_none, Option.isSome_none, Option.isNone_some, Classical.not_not] at h8
                  refine VC.seq ?_
                  refine VC.region ?_
                  refine V.assign rfl rfl rfl ?_
                  refine V.nil ?_
                  refine Post.nextC ?_
                  refine VC.ret ?_
                  refine Post.blockRet (Post.thenRet (?_))
                  apply Post.ret1 rfl rfl 
                  · obtain rfl : e = 7 := by assumption
                    exact ⟨rfl, rfl⟩
                  · repeat' constructor
                · try simp only [decide_eq_true_eq, decide_eq_false_iff_not, Bool.not_eq_true', Bool.not_eq_false', Bool.not_eq_eq_eq_not, Bool.not_true, Bool.not_false, beq_iff_eq, beq_eq_false_iff_ne, ne_eq, Int.not_lt, Int.not_le, Option.isSome_some, Option.isNone_none, Option.isSome_none, Option.isNone_some, Classical.not_not] at h8
                  refine VC.seq ?_
                  refine VC.region ?_
                  refine V.bin rfl rfl rfl rfl (bin_eql _ _ _) ?_
                  refine V.assign rfl rfl rfl ?_
                  refine V.nil ?_
                  refine Post.nextC ?_
                  refine VC.cond rfl (fun h9 => ?_) (fun h9 => ?_)
                  · try simp only [decide_eq_true_eq, decide_eq_false_iff_not, Bool.not_eq_true', Bool.not_eq_false', Bool.not_eq_eq_eq_not, Bool.not_true, Bool.not_false, beq_iff_eq, beq_eq_false_iff_ne, ne_eq, Int.not_lt, Int.not_le, Option.isSome_some, Option.isNone_none, Option.isSome_none, Option.isNone_some, Classical.not_not] at h9
                    refine VC.seq ?_
                    refine VC.region ?_
                    refine V.assign rfl rfl rfl ?_
                    refine V.nil ?_
                    refine Post.nextC ?_
                    refine VC.ret ?_
                    refine Post.blockRet (Post.thenRet (?_))
                    apply Post.ret1 rfl rfl 
                    · obtain rfl : e = 20 := by assumption
                      exact ⟨rfl, rfl⟩
                    · repeat' constructor
                  · try simp only [decide_eq_true_eq, decide_eq_false_iff_not, Bool.not_eq_true', Bool.not_eq_false', Bool.not_eq_eq_eq_not, Bool.not_true, Bool.not_false, beq_iff_eq, beq_eq_false_iff_ne, ne_eq, Int.not_lt, Int.not_le, Option.isSome_some, Option.isNone_none, Option.isSome_none, Option.isNone_some, Classical.not_not] at h9
                    refine VC.seq ?_
                    refine VC.region ?_
                    refine V.bin rfl rfl rfl rfl (bin_eql _ _ _) ?_
                    refine V.assign rfl rfl rfl ?_
                    refine V.nil ?_
                    refine Post.nextC ?_
                    refine VC.cond rfl (fun h10 => ?_) (fun h10 => ?_)
                    · try simp only [decide_eq_true_eq, decide_eq_false_iff_not, Bool.not_eq_true', Bool.not_eq_false', Bool.not_eq_eq_eq_not, Bool.not_true, Bool.not_false, beq_iff_eq, beq_eq_false_iff_ne, ne_eq, Int.not_lt, Int.not_le, Option.isSome_some, Option.isNone_none, Option.isSome_none, Option.isNone_some, Classical.not_not] at h10
                      refine VC.seq ?_
                      refine VC.region ?_
                      refine V.assign rfl rfl rfl ?_
                      refine V.nil ?_
                      refine Post.nextC ?_
                      refine VC.ret ?_
                      refine Post.blockRet (Post.thenRet (?_))
                      apply Post.ret1 rfl rfl 
                      · obtain rfl : e = 21 := by assumption
                        exact ⟨rfl, rfl⟩
                      · repeat' constructor
                    · try simp only [decide_eq_true_eq, decide_eq_false_iff_not, Bool.not_eq_true', Bool.not_eq_false', Bool.not_eq_eq_eq_not, Bool.not_true, Bool.not_false, beq_iff_eq, beq_eq_false_iff_ne, ne_eq, Int.not_lt, Int.not_le, Option.isSome_some, Option.isNone_none, Option.isSome_none, Option.isNone_some, Classical.not_not] at h10
                      refine VC.seq ?_
                      refine VC.region ?_
                      refine V.bin rfl rfl rfl rfl (bin_eql _ _ _) ?_
                      refine V.assign rfl rfl rfl ?_
                      refine V.nil ?_
                      refine Post.nextC ?_
                      refine VC.cond rfl (fun h11 => ?_) (fun h11 => ?_)
                      · try simp only [decide_eq_true_eq, decide_eq_false_iff_not, Bool.not_eq_true', Bool.not_eq_false', Bool.not_eq_eq_eq_not, Bool.not_true, Bool.not_false, beq_iff_eq, beq_eq_false_iff_ne, ne_eq, Int.not_lt, Int.not_le, Option.isSome_some, Option.isNone_none, Option.isSome_none, Option.isNone_some, Classical.not_not] at h11
                        refine VC.seq ?_
                        refine VC.region ?_
                        refine V.assign rfl rfl rfl ?_
                        refine V.nil ?_
                        refine Post.nextC ?_
                        refine VC.ret ?_
                        refine Post.blockRet (Post.thenRet (?_))
                        apply Post.ret1 rfl rfl 
                        · obtain rfl : e = 22 := by assumption
                          exact ⟨rfl, rfl⟩
                        · repeat' constructor
                      · try simp only [decide_eq_true_eq, decide_eq_false_iff_not, Bool.not_eq_true', Bool.not_eq_false', Bool.not_eq_eq_eq_not, Bool.not_true, Bool.not_false, beq_iff_eq, beq_eq_false_iff_ne, ne_eq, Int.not_lt, Int.not_le, Option.isSome_some, Option.isNone_none, Option.isSome_none, Option.isNone_some, Classical.not_not] at h11
                        refine VC.seq ?_
                        refine VC.region ?_
                        refine V.bin rfl rfl rfl rfl (bin_eql _ _ _) ?_
                        refine V.assign rfl rfl rfl ?_
                        refine V.nil ?_
                        refine Post.nextC ?_
                        refine VC.cond rfl (fun h12 => ?_) (fun h12 => ?_)
                        · try simp only [decide_eq_true_eq, decide_eq_false_iff_not, Bool.not_eq_true', Bool.not_eq_false', Bool.not_eq_eq_eq_not, Bool.not_true, Bool.not_false, beq_iff_eq, beq_eq_false_iff_ne, ne_eq, Int.not_lt, Int.not_le, Option.isSome_some, Option.isNone_none, Option.isSome_none, Option.isNone_some, Classical.not_not] at h12
                          refine VC.seq ?_
                          refine VC.region ?_
                          refine V.assign rfl rfl rfl ?_
                          refine V.nil ?_
                          refine Post.nextC ?_
                          refine VC.ret ?_
                          refine Post.blockRet (Post.thenRet (?_))
                          apply Post.ret1 rfl rfl 
                          · obtain rfl : e = 23 := by assumption
                            exact ⟨rfl, rfl⟩
                          · repeat' constructor
                        · try simp only [decide_eq_true_eq, decide_eq_false_iff_not, Bool.not_eq_true', Bool.not_eq_false', Bool.not_eq_eq_eq_not, Bool.not_true, Bool.not_false, beq_iff_eq, beq_eq_false_iff_ne, ne_eq, Int.not_lt, Int.not_le, Option.isSome_some, Option.isNone_none, Option.isSome_none, Option.isNone_some, Classical.not_not] at h12
                          refine VC.seq ?_
                          refine VC.region ?_
                          refine V.bin rfl rfl rfl rfl (bin_eql _ _ _) ?_
                          refine V.assign rfl rfl rfl ?_
                          refine V.nil ?_
                          refine Post.nextC ?_
                          refine VC.cond rfl (fun h13 => ?_) (fun h13 => ?_)
                          · try simp only [decide_eq_true_eq, decide_eq_false_iff_not, Bool.not_eq_true', Bool.not_eq_false', Bool.not_eq_eq_eq_not, Bool.not_true, Bool.not_false, beq_iff_eq, beq_eq_false_iff_ne, ne_eq, Int.not_lt, Int.not_le, Option.isSome_some, Option.isNone_none, Option.isSome_none, Option.isNone_some, Classical.not_not] at h13
                            refine VC.seq ?_
                            refine VC.region ?_
                            refine V.assign rfl rfl rfl ?_
                            refine V.nil ?_
                            refine Post.nextC ?_
                            refine VC.ret ?_
                            refine Post.blockRet (Post.thenRet (?_))
                            apply Post.ret1 rfl rfl 
                            · obtain rfl : e = 24 := by assumption
                              exact ⟨rfl, rfl⟩
                            · repeat' constructor
                          · try simp only [decide_eq_true_eq, decide_eq_false_iff_not, Bool.not_eq_true', Bool.not_eq_false', Bool.not_eq_eq_eq_not, Bool.not_true, Bool.not_false, beq_iff_eq, beq_eq_false_iff_ne, ne_eq, Int.not_lt, Int.not_le, Option.isSome_some, Option.isNone_none, Option.isSome_none, Option.isNone_some, Classical.not_not] at h13
                            refine VC.seq ?_
                            refine VC.region ?_
                            refine V.bin rfl rfl rfl rfl (bin_eql _ _ _) ?_
                            refine V.assign rfl rfl rfl ?_
                            refine V.nil ?_
                            refine Post.nextC ?_
                            refine VC.cond rfl (fun h14 => ?_) (fun h14 => ?_)
                            · try simp only [decide_eq_true_eq, decide_eq_false_iff_not, Bool.not_eq_true', Bool.not_eq_false', Bool.not_eq_eq_eq_not, Bool.not_true, Bool.not_false, beq_iff_eq, beq_eq_false_iff_ne, ne_eq, Int.not_lt, Int.not_le, Option.isSome_some, Option.isNone_none, Option.isSome_none, Option.isNone_some, Classical.not_not] at h14
                              refine VC.seq ?_
                              refine VC.region ?_
                              refine V.assign rfl rfl rfl ?_
                              refine V.nil ?_
                              refine Post.nextC ?_
                              refine VC.ret ?_
                              refine Post.blockRet (Post.thenRet (?_))
                              apply Post.ret1 rfl rfl 
                              · obtain rfl : e = 25 := by assumption
                                exact ⟨rfl, rfl⟩
                              · repeat' constructor
                            · try simp only [decide_eq_true_eq, decide_eq_false_iff_not, Bool.not_eq_true', Bool.not_eq_false', Bool.not_eq_eq_eq_not, Bool.not_true, Bool.not_false, beq_iff_eq, beq_eq_false_iff_ne, ne_eq, Int.not_lt, Int.not_le, Option.isSome_some, Option.isNone_none, Option.isSome_none, Option.isNone_some, Classical.not_not] at h14
                              refine VC.seq ?_
                              refine VC.region ?_
                              refine V.bin rfl rfl rfl rfl (bin_eql _ _ _) ?_
                              refine V.assign rfl rfl rfl ?_
                              refine V.nil ?_
                              refine Post.nextC ?_
                              refine VC.cond rfl (fun h15 => ?_) (fun h15 => ?_)
                              · try simp only [decide_eq_true_eq, decide_eq_false_iff_not, Bool.not_eq_true', Bool.not_eq_false', Bool.not_eq_eq_eq_not, Bool.not_true, Bool.not_false, beq_iff_eq, beq_eq_false_iff_ne, ne_eq, Int.not_lt, Int.not_le, Option.isSome_some, Option.isNone_none, Option.isSome_none, Option.isNone_some, Classical.not_not] at h15
                                refine VC.seq ?_
                                refine VC.region ?_
                                refine V.assign rfl rfl rfl ?_
                                refine V.nil ?_
                                refine Post.nextC ?_
                                refine VC.ret ?_
                                refine Post.blockRet (Post.thenRet (?_))
                                apply Post.ret1 rfl rfl 
                                · obtain rfl : e = 26 := by assumption
                                  exact ⟨rfl, rfl⟩
                                · repeat' constructor
                              · try simp only [decide_eq_true_eq, decide_eq_false_iff_not, Bool.not_eq_true', Bool.not_eq_false', Bool.not_eq_eq_eq_not, Bool.not_true, Bool.not_false, beq_iff_eq, beq_eq_false_iff_ne, ne_eq, Int.not_lt, Int.not_le, Option.isSome_some, Option.isNone_none, Option.isSome_none, Option.isNone_some, Classical.not_not] at h15
                                refine VC.seq ?_
                                refine VC.region ?_
                                refine V.bin rfl rfl rfl rfl (bin_eql _ _ _) ?_
                                refine V.assign rfl rfl rfl ?_
                                refine V.nil ?_
                                refine Post.nextC ?_
                                refine VC.cond rfl (fun h16 => ?_) (fun h16 => ?_)
                                · try simp only [decide_eq_true_eq, decide_eq_false_iff_not, Bool.not_eq_true', Bool.not_eq_false', Bool.not_eq_eq_eq_not, Bool.not_true, Bool.not_false, beq_iff_eq, beq_eq_false_iff_ne, ne_eq, Int.not_lt, Int.not_le, Option.isSome_some, Option.isNone_none, Option.isSome_none, Option.isNone_some, Classical.not_not] at h16
                                  refine VC.seq ?_
                                  refine VC.region ?_
                                  refine V.assign rfl rfl rfl ?_
                                  refine V.nil ?_
                                  refine Post.nextC ?_
                                  refine VC.ret ?_
                                  refine Post.blockRet (Post.thenRet (?_))
                                  apply Post.ret1 rfl rfl 
                                  · obtain rfl : e = 30 := by assumption
                                    exact ⟨rfl, rfl⟩
                                  · repeat' constructor
                                · try simp only [decide_eq_true_eq, decide_eq_false_iff_not, Bool.not_eq_true', Bool.not_eq_false', Bool.not_eq_eq_eq_not, Bool.not_true, Bool.not_false, beq_iff_eq, beq_eq_false_iff_ne, ne_eq, Int.not_lt, Int.not_le, Option.isSome_some, Option.isNone_none, Option.isSome_none, Option.isNone_some, Classical.not_not] at h16
                                  refine VC.seq ?_
                                  refine VC.region ?_
                                  refine V.bin rfl rfl rfl rfl (bin_eql _ _ _) ?_
                                  refine V.assign rfl rfl rfl ?_
                                  refine V.nil ?_
                                  refine Post.nextC ?_
                                  refine VC.cond rfl (fun h17 => ?_) (fun h17 => ?_)
                                  · try simp only [decide_eq_true_eq, decide_eq_false_iff_not, Bool.not_eq_true', Bool.not_eq_false', Bool.not_eq_eq_eq_not, Bool.not_true, Bool.not_false, beq_iff_eq, beq_eq_false_iff_ne, ne_eq, Int.not_lt, Int.not_le, Option.isSome_some, Option.isNone_none, Option.isSome_none, Option.isNone_some, Classical.not_not] at h17
                                    refine VC.seq ?_
                                    refine VC.region ?_
                                    refine V.assign rfl rfl rfl ?_
                                    refine V.nil ?_
                                    refine Post.nextC ?_
                                    refine VC.ret ?_
                                    refine Post.blockRet (Post.thenRet (?_))
                                    apply Post.ret1 rfl rfl 
                                    · obtain rfl : e = 31 := by assumption
                                      exact ⟨rfl, rfl⟩
                                    · repeat' constructor
                                  · try simp only [decide_eq_true_eq, decide_eq_false_iff_not, Bool.not_eq_true', Bool.not_eq_false', Bool.not_eq_eq_eq_not, Bool.not_true, Bool.not_false, beq_iff_eq, beq_eq_false_iff_ne, ne_eq, Int.not_lt, Int.not_le, Option.isSome_some, Option.isNone_none, Option.isSome_none, Option.isNone_some, Classical.not_not] at h17
                                    refine VC.seq ?_
                                    refine VC.region ?_
                                    refine V.bin rfl rfl rfl rfl (bin_eql _ _ _) ?_
                                    refine V.assign rfl rfl rfl ?_
                                    refine V.nil ?_
                                    refine Post.nextC ?_
                                    refine VC.cond rfl (fun h18 => ?_) (fun h18 => ?_)
                                    · try simp only [decide_eq_true_eq, decide_eq_false_iff_not, Bool.not_eq_true', Bool.not_eq_false', Bool.not_eq_eq_eq_not, Bool.not_true, Bool.not_false, beq_iff_eq, beq_eq_false_iff_ne, ne_eq, Int.not_lt, Int.not_le, Option.isSome_some, Option.isNone_none, Option.isSome_none, Option.isNone_some, Classical.not_not] at h18
                                      refine VC.seq ?_
                                      refine VC.region ?_
                                      refine V.assign rfl rfl rfl ?_
                                      refine V.nil ?_
                                      refine Post.nextC ?_
                                      refine VC.ret ?_
                                      refine Post.blockRet (Post.thenRet (?_))
                                      apply Post.ret1 rfl rfl 
                                      · obtain rfl : e = 32 := by assumption
                                        exact ⟨rfl, rfl⟩
                                      · repeat' constructor
                                    · try simp only [decide_eq_true_eq, decide_eq_false_iff_not, Bool.not_eq_true', Bool.not_eq_false', Bool.not_eq_eq_eq_not, Bool.not_true, Bool.not_false, beq_iff_eq, beq_eq_false_iff_ne, ne_eq, Int.not_lt, Int.not_le, Option.isSome_some, Option.isNone_none, Option.isSome_none, Option.isNone_some, Classical.not_not] at h18
                                      refine VC.seq ?_
                                      refine VC.region ?_
                                      refine V.bin rfl rfl rfl rfl (bin_eql _ _ _) ?_
                                      refine V.assign rfl rfl rfl ?_
                                      refine V.nil ?_
                                      refine Post.nextC ?_
                                      refine VC.cond rfl (fun h19 => ?_) (fun h19 => ?_)
                                      · try simp only [decide_eq_true_eq, decide_eq_false_iff_not, Bool.not_eq_true', Bool.not_eq_false', Bool.not_eq_eq_eq_not, Bool.not_true, Bool.not_false, beq_iff_eq, beq_eq_false_iff_ne, ne_eq, Int.not_lt, Int.not_le, Option.isSome_some, Option.isNone_none, Option.isSome_none, Option.isNone_some, Classical.not_not] at h19
                                        refine VC.seq ?_
                                        refine VC.region ?_
                                        refine V.assign rfl rfl rfl ?_
                                        refine V.nil ?_
                                        refine Post.nextC ?_
                                        refine VC.ret ?_
                                        refine Post.blockRet (Post.thenRet (?_))
                                        apply Post.ret1 rfl rfl 
                                        · obtain rfl : e = 33 := by assumption
                                          exact ⟨rfl, rfl⟩
                                        · repeat' constructor
                                      · try simp only [decide_eq_true_eq, decide_eq_false_iff_not, Bool.not_eq_true', Bool.not_eq_false', Bool.not_eq_eq_eq_not, Bool.not_true, Bool.not_false, beq_iff_eq, beq_eq_false_iff_ne, ne_eq, Int.not_lt, Int.not_le, Option.isSome_some, Option.isNone_none, Option.isSome_none, Option.isNone_some, Classical.not_not] at h19
                                        refine VC.seq ?_
                                        refine VC.region ?_
                                        refine V.bin rfl rfl rfl rfl (bin_eql _ _ _) ?_
                                        refine V.assign rfl rfl rfl ?_
                                        refine V.nil ?_
                                        refine Post.nextC ?_
                                        refine VC.cond rfl (fun h20 => ?_) (fun h20 => ?_)
                                        · try simp only [decide_eq_true_eq, decide_eq_false_iff_not, Bool.not_eq_true', Bool.not_eq_false', Bool.not_eq_eq_eq_not, Bool.not_true, Bool.not_false, beq_iff_eq, beq_eq_false_iff_ne, ne_eq, Int.not_lt, Int.not_le, Option.isSome_some, Option.isNone_none, Option.isSome_none, Option.isNone_some, Classical.not_not] at h20
                                          refine VC.seq ?_
                                          refine VC.region ?_
                                          refine V.assign rfl rfl rfl ?_
                                          refine V.nil ?_
                                          refine Post.nextC ?_
                                          refine VC.ret ?_
                                          refine Post.blockRet (Post.thenRet (?_))
                                          apply Post.ret1 rfl rfl 
                                          · obtain rfl : e = 34 := by assumption
                                            exact ⟨rfl, rfl⟩
                                          · repeat' constructor
                                        · try simp only [decide_eq_true_eq, decide_eq_false_iff_not, Bool.not_eq_true', Bool.not_eq_false', Bool.not_eq_eq_eq_not, Bool.not_true, Bool.not_false, beq_iff_eq, beq_eq_false_iff_ne, ne_eq, Int.not_lt, Int.not_le, Option.isSome_some, Option.isNone_none, Option.isSome_none, Option.isNone_some, Classical.not_not] at h20
                                          refine VC.seq ?_
                                          refine VC.region ?_
                                          refine V.bin rfl rfl rfl rfl (bin_eql _ _ _) ?_
                                          refine V.assign rfl rfl rfl ?_
                                          refine V.nil ?_
                                          refine Post.nextC ?_
                                          refine VC.cond rfl (fun h21 => ?_) (fun h21 => ?_)
                                          · try simp only [decide_eq_true_eq, decide_eq_false_iff_not, Bool.not_eq_true', Bool.not_eq_false', Bool.not_eq_eq_eq_not, Bool.not_true, Bool.not_false, beq_iff_eq, beq_eq_false_iff_ne, ne_eq, Int.not_lt, Int.not_le, Option.isSome_some, Option.isNone_none, Option.isSome_none, Option.isNone_some, Classical.not_not] at h21
                                            refine VC.seq ?_
                                            refine VC.region ?_
                                            refine V.assign rfl rfl rfl ?_
                                            refine V.nil ?_
                                            refine Post.nextC ?_
                                            refine VC.ret ?_
                                            refine Post.blockRet (Post.thenRet (?_))
                                            apply Post.ret1 rfl rfl 
                                            · obtain rfl : e = 35 := by assumption
                                              exact ⟨rfl, rfl⟩
                                            · repeat' constructor
                                          · try simp only [decide_eq_true_eq, decide_eq_false_iff_not, Bool.not_eq_true', Bool.not_eq_false', Bool.not_eq_eq_eq_not, Bool.not_true, Bool.not_false, beq_iff_eq, beq_eq_false_iff_ne, ne_eq, Int.not_lt, Int.not_le, Option.isSome_some, Option.isNone_none, Option.isSome_none, Option.isNone_some, Classical.not_not] at h21
                                            refine VC.seq ?_
                                            refine VC.region ?_
                                            refine V.bin rfl rfl rfl rfl (bin_eql _ _ _) ?_
                                            refine V.assign rfl rfl rfl ?_
                                            refine V.nil ?_
                                            refine Post.nextC ?_
                                            refine VC.cond rfl (fun h22 => ?_) (fun h22 => ?_)
                                            · try simp only [decide_eq_true_eq, decide_eq_false_iff_not, Bool.not_eq_true', Bool.not_eq_false', Bool.not_eq_eq_eq_not, Bool.not_true, Bool.not_false, beq_iff_eq, beq_eq_false_iff_ne, ne_eq, Int.not_lt, Int.not_le, Option.isSome_some, Option.isNone_none, Option.isSome_none, Option.isNone_some, Classical.not_not] at h22
                                              refine VC.seq ?_
                                              refine VC.region ?_
                                              refine V.assign rfl rfl rfl ?_
                                              refine V.nil ?_
                                              refine Post.nextC ?_
                                              refine VC.ret ?_
                                              refine Post.blockRet (Post.thenRet (?_))
                                              apply Post.ret1 rfl rfl 
                                              · obtain rfl : e = 36 := by assumption
                                                exact ⟨rfl, rfl⟩
                                              · repeat' constructor
                                            · try simp only [decide_eq_true_eq, decide_eq_false_iff_not, Bool.not_eq_true', Bool.not_eq_false', Bool.not_eq_eq_eq_not, Bool.not_true, Bool.not_false, beq_iff_eq, beq_eq_false_iff_ne, ne_eq, Int.not_lt, Int.not_le, Option.isSome_some, Option.isNone_none, Option.isSome_none, Option.isNone_some, Classical.not_not] at h22
                                              refine VC.seq ?_
                                              refine VC.region ?_
                                              refine V.bin rfl rfl rfl rfl (bin_eql _ _ _) ?_
                                              refine V.assign rfl rfl rfl ?_
                                              refine V.nil ?_
                                              refine Post.nextC ?_
                                              refine VC.cond rfl (fun h23 => ?_) (fun h23 => ?_)
                                              · try simp only [decide_eq_true_eq, decide_eq_false_iff_not, Bool.not_eq_true', Bool.not_eq_false', Bool.not_eq_eq_eq_not, Bool.not_true, Bool.not_false, beq_iff_eq, beq_eq_false_iff_ne, ne_eq, Int.not_lt, Int.not_le, Option.isSome_some, Option.isNone_none, Option.isSome_none, Option.isNone_some, Classical.not_not] at h23
                                                refine VC.seq ?_
                                                refine VC.region ?_
                                                refine V.assign rfl rfl rfl ?_
                                                refine V.nil ?_
                                                refine Post.nextC ?_
                                                refine VC.ret ?_
                                                refine Post.blockRet (Post.thenRet (?_))
                                                apply Post.ret1 rfl rfl 
                                                · obtain rfl : e = 37 := by assumption
                                                  exact ⟨rfl, rfl⟩
                                                · repeat' constructor
                                              · try simp only [decide_eq_true_eq, decide_eq_false_iff_not, Bool.not_eq_true', Bool.not_eq_false', Bool.not_eq_eq_eq_not, Bool.not_true, Bool.not_false, beq_iff_eq, beq_eq_false_iff_ne, ne_eq, Int.not_lt, Int.not_le, Option.isSome_some, Option.isNone_none, Option.isSome_none, Option.isNone_some, Classical.not_not] at h23
                                                refine VC.seq ?_
                                                refine VC.region ?_
                                                refine V.bin rfl rfl rfl rfl (bin_eql _ _ _) ?_
                                                refine V.assign rfl rfl rfl ?_
                                                refine V.nil ?_
                                                refine Post.nextC ?_
                                                refine VC.cond rfl (fun h24 => ?_) (fun h24 => ?_)
                                                · try simp only [decide_eq_true_eq, decide_eq_false_iff_not, Bool.not_eq_true', Bool.not_eq_false', Bool.not_eq_eq_eq_not, Bool.not_true, Bool.not_false, beq_iff_eq, beq_eq_false_iff_ne, ne_eq, Int.not_lt, Int.not_le, Option.isSome_some, Option.isNone_none, Option.isSome_none, Option.isNone_some, Classical.not_not] at h24
                                                  refine VC.seq ?_
                                                  refine VC.region ?_
                                                  refine V.assign rfl rfl rfl ?_
                                                  refine V.nil ?_
                                                  refine Post.nextC ?_
                                                  refine VC.ret ?_
                                                  refine Post.blockRet (Post.thenRet (?_))
                                                  apply Post.ret1 rfl rfl 
                                                  · obtain rfl : e = 50 := by assumption
                                                    exact ⟨rfl, rfl⟩
                                                  · repeat' constructor
                                                · try simp only [decide_eq_true_eq, decide_eq_false_iff_not, Bool.not_eq_true', Bool.not_eq_false', Bool.not_eq_eq_eq_not, Bool.not_true, Bool.not_false, beq_iff_eq, beq_eq_false_iff_ne, ne_eq, Int.not_lt, Int.not_le, Option.isSome_some, Option.isNone_none, Option.isSome_none, Option.isNone_some, Classical.not_not] at h24
                                                  refine VC.seq ?_
                                                  refine VC.region ?_
                                                  refine V.bin rfl rfl rfl rfl (bin_eql _ _ _) ?_
                                                  refine V.assign rfl rfl rfl ?_
                                                  refine V.nil ?_
                                                  refine Post.nextC ?_
                                                  refine VC.cond rfl (fun h25 => ?_) (fun h25 => ?_)
                                                  · try simp only [decide_eq_true_eq, decide_eq_false_iff_not, Bool.not_eq_true', Bool.not_eq_false', Bool.not_eq_eq_eq_not, Bool.not_true, Bool.not_false, beq_iff_eq, beq_eq_false_iff_ne, ne_eq, Int.not_lt, Int.not_le, Option.isSome_some, Option.isNone_none, Option.isSome_none, Option.isNone_some, Classical.not_not] at h25
                                                    refine VC.seq ?_
                                                    refine VC.region ?_
                                                    refine V.assign rfl rfl rfl ?_
                                                    refine V.nil ?_
                                                    refine Post.nextC ?_
                                                    refine VC.ret ?_
                                                    refine Post.blockRet (Post.thenRet (?_))
                                                    apply Post.ret1 rfl rfl 
                                                    · obtain rfl : e = 51 := by assumption
                                                      exact ⟨rfl, rfl⟩
                                                    · repeat' constructor
                                                  · try simp only [decide_eq_true_eq, decide_eq_false_iff_not, Bool.not_eq_true', Bool.not_eq_false', Bool.not_eq_eq_eq_not, Bool.not_true, Bool.not_false, beq_iff_eq, beq_eq_false_iff_ne, ne_eq, Int.not_lt, Int.not_le, Option.isSome_some, Option.isNone_none, Option.isSome_none, Option.isNone_some, Classical.not_not] at h25
                                                    refine VC.seq ?_
                                                    refine VC.region ?_
                                                    refine V.bin rfl rfl rfl rfl (bin_eql _ _ _) ?_
                                                    refine V.assign rfl rfl rfl ?_
                                                    refine V.nil ?_
                                                    refine Post.nextC ?_
                                                    refine VC.cond rfl (fun h26 => ?_) (fun h26 => ?_)
                                                    · try simp only [decide_eq_true_eq, decide_eq_false_iff_not, Bool.not_eq_true', Bool.not_eq_false', Bool.not_eq_eq_eq_not, Bool.not_true, Bool.not_false, beq_iff_eq, beq_eq_false_iff_ne, ne_eq, Int.not_lt, Int.not_le, Option.isSome_some, Option.isNone_none, Option.isSome_none, Option.isNone_some, Classical.not_not] at h26
                                                      refine VC.seq ?_
                                                      refine VC.region ?_
                                                      refine V.assign rfl rfl rfl ?_
                                                      refine V.nil ?_
                                                      refine Post.nextC ?_
                                                      refine VC.ret ?_
                                                      refine Post.blockRet (Post.thenRet (?_))
                                                      apply Post.ret1 rfl rfl 
                                                      · obtain rfl : e = 52 := by assumption
                                                        exact ⟨rfl, rfl⟩
                                                      · repeat' constructor
                                                    · try simp only [decide_eq_true_eq, decide_eq_false_iff_not, Bool.not_eq_true', Bool.not_eq_false', Bool.not_eq_eq_eq_not, Bool.not_true, Bool.not_false, beq_iff_eq, beq_eq_false_iff_ne, ne_eq, Int.not_lt, Int.not_le, Option.isSome_some, Option.isNone_none, Option.isSome_none, Option.isNone_some, Classical.not_not] at h26
                                                      refine VC.seq ?_
                                                      refine VC.region ?_
                                                      refine V.bin rfl rfl rfl rfl (bin_eql _ _ _) ?_
                                                      refine V.assign rfl rfl rfl ?_
                                                      refine V.nil ?_
                                                      refine Post.nextC ?_
                                                      refine VC.cond rfl (fun h27 => ?_) (fun h27 => ?_)
                                                      · try simp only [decide_eq_true_eq, decide_eq_false_iff_not, Bool.not_eq_true', Bool.not_eq_false', Bool.not_eq_eq_eq_not, Bool.not_true, Bool.not_false, beq_iff_eq, beq_eq_false_iff_ne, ne_eq, Int.not_lt, Int.not_le, Option.isSome_some, Option.isNone_none, Option.isSome_none, Option.isNone_some, Classical.not_not] at h27
                                                        refine VC.seq ?_
                                                        refine VC.region ?_
                                                        refine V.assign rfl rfl rfl ?_
                                                        refine V.nil ?_
                                                        refine Post.nextC ?_
                                                        refine VC.ret ?_
                                                        refine Post.blockRet (Post.thenRet (?_))
                                                        apply Post.ret1 rfl rfl 
                                                        · obtain rfl : e = 60 := by assumption
                                                          exact ⟨rfl, rfl⟩
                                                        · repeat' constructor
                                                      · try simp only [decide_eq_true_eq, decide_eq_false_iff_not, Bool.not_eq_true', Bool.not_eq_false', Bool.not_eq_eq_eq_not, Bool.not_true, Bool.not_false, beq_iff_eq, beq_eq_false_iff_ne, ne_eq, Int.not_lt, Int.not_le, Option.isSome_some, Option.isNone_none, Option.isSome_none, Option.isNone_some, Classical.not_not] at h27
                                                        refine VC.skip ?_
                                                        refine Post.blockNormal (Post.nextC ?_)
                                                        refine VC.seq ?_
                                                        refine VC.region ?_
                                                        refine V.assign rfl rfl rfl ?_
                                                        refine V.nil ?_
                                                        refine Post.nextC ?_
                                                        refine VC.ret ?_
                                                        apply Post.ret1 rfl rfl 
                                                        · refine ⟨?_, rfl⟩
                                                          have hn : errs.find? (fun p => decide (p.1 = e)) = none := by
                                                            rw [List.find?_eq_none]
                                                            intro p hp
                                                            simp only [errs, List.mem_cons, List.not_mem_nil, or_false] at hp
                                                            simp only [decide_eq_true_eq]
                                                            rcases hp with rfl | rfl | rfl | rfl | rfl | rfl | rfl | rfl | rfl | rfl | rfl | rfl | rfl | rfl | rfl | rfl | rfl | rfl | rfl | rfl | rfl | rfl | rfl | rfl | rfl | rfl | rfl <;> (dsimp only; omega)
                                                          rw [errWord, hn]
                                                          rfl
                                                        · repeat' constructor

theorem c70 {w0 : World} {i : Nat} (hi : i < 100) : CtR Pg w0 70 #[.int .i64 (i : Int)] [] (fun u H => u = st (Lib.decDigits i) ∧ H = []) := by
  refine Ct.of_body Go.Proofs.Tryd.func70 rfl 15 rfl rfl (fun R => ?_)
  refine VC.seq ?_
  refine VC.region ?_
  refine V.assign rfl rfl rfl ?_
  refine V.nil ?_
  refine Post.nextC ?_
  refine VC.seq ?_
  refine VC.seq ?_
  refine VC.region ?_
  refine V.move rfl rfl rfl ?_
  refine V.bin rfl rfl rfl rfl (bin_lss _ _ _) ?_
  refine V.nil ?_
  refine Post.nextC ?_
  refine VC.cond rfl (fun h1 => ?_) (fun h1 => ?_)
  · try simp only [decide_eq_true_eq, decide_eq_false_iff_not, Bool.not_eq_true', Bool.not_eq_false', Bool.not_eq_eq_eq_not, Bool.not_true, Bool.not_false, beq_iff_eq, beq_eq_false_iff_ne, ne_eq, Int.not_lt, Int.not_le, Option.isSome_some, Option.isNone_none, Option.isSome_none, Option.isNone_some, Classical.not_not] at h1
    refine VC.seq ?_
    refine VC.region ?_
    refine V.move rfl rfl rfl ?_
    refine V.move rfl rfl rfl ?_
    refine V.bin rfl rfl rfl rfl (bin_addI (by omega)) ?_
    refine V.know (t := 7) (y := .int .i64 ((i + 1 : Nat) : Int)) rfl (by first | rfl | (congr 1; omega)) ?_
    refine V.sliceStLH (i := i) (j := i + 1) rfl rfl rfl rfl rfl (by omega) (show i + 1 ≤ 36 by omega) ?_
    refine V.assign rfl rfl rfl ?_
    refine V.nil ?_
    refine Post.nextC ?_
    refine VC.ret ?_
    refine Post.thenRet (?_)
    apply Post.ret1 rfl rfl 
    · exact ⟨congrArg st (d36 ⟨i, by omega⟩), rfl⟩
    · repeat' constructor
  · try simp only [decide_eq_true_eq, decide_eq_false_iff_not, Bool.not_eq_true', Bool.not_eq_false', Bool.not_eq_eq_eq_not, Bool.not_true, Bool.not_false, beq_iff_eq, beq_eq_false_iff_ne, ne_eq, Int.not_lt, Int.not_le, Option.isSome_some, Option.isNone_none, Option.isSome_none, Option.isNone_some, Classical.not_not] at h1
    refine VC.skip ?_
    refine Post.nextC ?_
    refine VC.seq ?_
    refine VC.region ?_
    refine V.move rfl rfl rfl ?_
    refine V.bin rfl rfl rfl rfl (bin_mulI (by omega)) ?_
    refine V.know (t := 10) (y := .int .i64 ((i * 2 : Nat) : Int)) rfl (by first | rfl | (congr 1; omega)) ?_
    refine V.move rfl rfl rfl ?_
    refine V.bin rfl rfl rfl rfl (bin_mulI (by omega)) ?_
    refine V.know (t := 12) (y := .int .i64 ((i * 2 : Nat) : Int)) rfl (by first | rfl | (congr 1; omega)) ?_
    refine V.bin rfl rfl rfl rfl (bin_addI (by omega)) ?_
    refine V.know (t := 13) (y := .int .i64 ((i * 2 + 2 : Nat) : Int)) rfl (by first | rfl | (congr 1; omega)) ?_
    refine V.sliceStLH (l := SM) (i := i * 2) (j := i * 2 + 2) rfl rfl rfl rfl rfl (by omega) (by rw [SM_len]; omega) ?_
    refine V.assign rfl rfl rfl ?_
    refine V.nil ?_
    refine Post.nextC ?_
    refine VC.ret ?_
    apply Post.ret1 rfl rfl 
    · exact ⟨congrArg st (sm_dec (by omega) hi), rfl⟩
    · repeat' constructor

theorem c66s {w0 : World} {i : Nat} (hi : i < 100) : CtR Pg w0 66 #[.int .i64 (i : Int), .int .i64 10] [] (fun u H => u = st (Lib.decDigits i) ∧ H = []) := by
  refine Ct.of_body Go.Proofs.Tryd.func66 rfl 54 rfl rfl (fun R => ?_)
  refine VC.seq ?_
  refine VC.region ?_
  refine V.assign rfl rfl rfl ?_
  refine V.nil ?_
  refine Post.nextC ?_
  refine VC.seq ?_
  refine VC.seq ?_
  refine VC.region ?_
  refine V.move rfl rfl rfl ?_
  refine V.bin rfl rfl rfl rfl (bin_eql _ _ _) ?_
  refine V.know (t := 11) (y := .bool true) rfl (rfl) ?_
  refine V.nil ?_
  refine Post.nextC ?_
  refine VC.condT rfl ?_
  refine VC.seq ?_
  refine VC.seq ?_
  refine VC.region ?_
  refine V.move rfl rfl rfl ?_
  refine V.bin rfl rfl rfl rfl (bin_leq _ _ _) ?_
  refine V.know (t := 13) (y := .bool true) rfl (by rw [decide_eq_true (by omega)]) ?_
  refine V.move rfl rfl rfl ?_
  refine V.move rfl rfl rfl ?_
  refine V.bin rfl rfl rfl rfl (bin_lss _ _ _) ?_
  refine V.know (t := 16) (y := .bool true) rfl (by rw [decide_eq_true (by omega)]) ?_
  refine V.pickT rfl rfl rfl rfl ?_
  refine V.nil ?_
  refine Post.nextC ?_
  refine VC.condT rfl ?_
  refine VC.seq ?_
  refine VC.region ?_
  refine V.move rfl rfl rfl ?_
  apply V.call rfl rfl rfl (hc := c70 hi)
  · repeat' constructor
  rintro vq Ho ⟨rfl, rfl⟩
  refine V.assign rfl rfl rfl ?_
  refine V.nil ?_
  refine Post.nextC ?_
  refine VC.ret ?_
  refine Post.thenRet (Post.thenRet (?_))
  apply Post.ret1 rfl rfl 
  · exact ⟨rfl, rfl⟩
  · repeat' constructor

theorem c52s {w0 : World} {i : Nat} (hi : i < 100) : CtR Pg w0 52 #[.int .i64 (i : Int)] [] (fun u H => u = st (Lib.decDigits i) ∧ H = []) := by
  refine Ct.of_body Go.Proofs.Tryd.func52 rfl 5 rfl rfl (fun R => ?_)
  refine VC.seq ?_
  refine VC.region ?_
  refine V.assign rfl rfl rfl ?_
  refine V.nil ?_
  refine Post.nextC ?_
  refine VC.seq ?_
  refine VC.region ?_
  refine V.move rfl rfl rfl ?_
  apply V.call rfl rfl rfl (hc := c66s hi)
  · repeat' constructor
  rintro vq Ho ⟨rfl, rfl⟩
  refine V.assign rfl rfl rfl ?_
  refine V.nil ?_
  refine Post.nextC ?_
  refine VC.ret ?_
  apply Post.ret1 rfl rfl 
  · exact ⟨rfl, rfl⟩
  · repeat' constructor

theorem c29s {w0 : World} {i : Nat} (hi : i < 100) : CtR Pg w0 29 #[.int .i64 (i : Int)] [] (fun u H => u = st (Lib.decDigits i) ∧ H = []) := by
  refine Ct.of_body Go.Proofs.Tryd.func29 rfl 5 rfl rfl (fun R => ?_)
  refine VC.seq ?_
  refine VC.region ?_
  refine V.assign rfl rfl rfl ?_
  refine V.nil ?_
  refine Post.nextC ?_
  refine VC.seq ?_
  refine VC.region ?_
  refine V.move rfl rfl rfl ?_
  apply V.call rfl rfl rfl (hc := c52s hi)
  · repeat' constructor
  rintro vq Ho ⟨rfl, rfl⟩
  refine V.assign rfl rfl rfl ?_
  refine V.nil ?_
  refine Post.nextC ?_
  refine VC.ret ?_
  apply Post.ret1 rfl rfl 
  · exact ⟨rfl, rfl⟩
  · repeat' constructor

theorem c29_3 {w0 : World} : CtR Pg w0 29 #[.int .i64 3] [] (fun u H => u = st [51] ∧ H = []) := by
  have h := c29s (w0 := w0) (i := 3) (by omega)
  rw [Lib.decDigits_one (by omega)] at h
  exact h

theorem c13 {w0 : World} {e n : Int} {num : List UInt8} {lines : List (List UInt8)} {v : Value} {C : Chunk} (hI : CtR Pg w0 29 #[.int .i64 n] [] (fun u H => u = st num ∧ H = [])) (hr : Rd w0 C 1 v lines.length (lines.map st)) (hsz : (answerOf 0 num lines).length ≤ 140737488355328) : CtR Pg w0 13 #[.agg #[.int .i64 e, .int .i64 n, v]] [C] (fun u H => u = st (answerOf e num lines) ∧ H = [C]) := by
  obtain ⟨ad, cp, rfl, hl1, hl2, _⟩ := id hr
  simp only [maxLen] at hl2
  have hpre : ∀ k, (([111, 107, 32] ++ num ++ [10] : List UInt8) ++ (lines.take k).flatMap fun l => [124, 32] ++ l ++ [10]).length ≤ 140737488355328 := fun k => by
    refine Nat.le_trans ?_ hsz
    unfold answerOf
    rw [if_neg (by simp)]
    generalize ([111, 107, 32] ++ num ++ [10] : List UInt8) = P
    rw [List.length_append, List.length_append]
    refine Nat.add_le_add_left ?_ _
    conv => rhs; rw [← List.take_append_drop k lines, List.flatMap_append, List.length_append]
    exact Nat.le_add_right _ _
  have hp0 := hpre 0
  simp only [List.take_zero, List.flatMap_nil, List.append_nil, List.length_append, List.length_cons, List.length_nil] at hp0
  have hew : (errWord e).length ≤ 1000 := by
    unfold errWord
    cases hf : errs.find? (fun p => decide (p.1 = e)) with
    | none => decide
    | some p =>
      have hm := List.mem_of_find?_eq_some hf
      have hall : ∀ p ∈ errs, p.2.length ≤ 1000 := by decide
      exact hall p hm
  refine Ct.of_body Go.Proofs.Tryd.func13 rfl 33 rfl rfl (fun R => ?_)
  refine VC.seq ?_
  refine VC.region ?_
  refine V.box rfl rfl rfl rfl (fun b1 => ?_)
  refine V.assign rfl rfl rfl ?_
  refine V.nil ?_
  refine Post.nextC ?_
  refine VC.seq ?_
  refine VC.seq ?_
  refine VC.region ?_
  refine V.fieldAddr 0 23 rfl rfl rfl rfl rfl ?_
  apply V.loadL rfl rfl rfl rfl
  · repeat' constructor
  · repeat' constructor
  refine V.bin rfl rfl rfl rfl (bin_neq _ _ _) ?_
  refine V.nil ?_
  refine Post.nextC ?_
  refine VC.cond rfl (fun h1 => ?_) (fun h1 => ?_)
  · try simp only [decide_eq_true_eq, decide_eq_false_iff_not, Bool.not_eq_true', Bool.not_eq_false', Bool.not_eq_eq_eq_not, Bool.not_true, Bool.not_false, beq_iff_eq, beq_eq_false_iff_ne, ne_eq, Int.not_lt, Int.not_le, Option.isSome_some, Option.isNone_none, Option.isSome_none, Option.isNone_some, Classical.not_not] at h1
    refine VC.seq ?_
    refine VC.region ?_
    refine V.fieldAddr 0 23 rfl rfl rfl rfl rfl ?_
    apply V.loadL rfl rfl rfl rfl
    · repeat' constructor
    · repeat' constructor
    apply V.call rfl rfl rfl (hc := c27 (e := e))
    · repeat' constructor
    rintro vq Ho ⟨rfl, rfl⟩
    refine V.bin rfl rfl rfl rfl (bin_stadd _ _ (by first | omega | (simp only [List.length_append, List.length_cons, List.length_nil]; omega))) ?_
    refine V.bin rfl rfl rfl rfl (bin_stadd _ _ (by first | omega | (simp only [List.length_append, List.length_cons, List.length_nil]; omega))) ?_
    refine V.assign rfl rfl rfl ?_
    refine V.nil ?_
    refine Post.nextC ?_
    refine VC.ret ?_
    refine Post.thenRet (?_)
    apply Post.ret1 rfl rfl 
    · have he : ¬ e = 0 := by assumption
      exact ⟨by rw [answerOf, if_pos he], rfl⟩
    · repeat' constructor
  · try simp only [decide_eq_true_eq, decide_eq_false_iff_not, Bool.not_eq_true', Bool.not_eq_false', Bool.not_eq_eq_eq_not, Bool.not_true, Bool.not_false, beq_iff_eq, beq_eq_false_iff_ne, ne_eq, Int.not_lt, Int.not_le, Option.isSome_some, Option.isNone_none, Option.isSome_none, Option.isNone_some, Classical.not_not] at h1
    refine VC.skip ?_
    refine Post.nextC ?_
    refine VC.seq ?_
    refine VC.region ?_
    refine V.alloc (l := [.pointer none, .slice none 0 0]) rfl rfl rfl (fun b2 => ?_)
    refine V.nil ?_
    refine Post.nextC ?_
    refine VC.seq ?_
    refine VC.region ?_
    refine V.fieldAddr 1 3 rfl rfl rfl rfl rfl ?_
    apply V.loadL rfl rfl rfl rfl
    · repeat' constructor
    · repeat' constructor
    apply V.call rfl rfl rfl (hc := hI)
    · repeat' constructor
    rintro vq Ho ⟨rfl, rfl⟩
    refine V.bin rfl rfl rfl rfl (bin_stadd _ _ (by first | omega | (simp only [List.length_append, List.length_cons, List.length_nil]; omega))) ?_
    refine V.bin rfl rfl rfl rfl (bin_stadd _ _ (by first | omega | (simp only [List.length_append, List.length_cons, List.length_nil]; omega))) ?_
    apply V.call rfl rfl rfl (hc := c28 (Bd.start b2) (by simp only [List.length_append, List.length_cons, List.length_nil]; omega))
    · repeat' constructor
    rintro vq Ho ⟨v1, c1, hB1, rfl, rfl⟩
    refine V.nil ?_
    refine Post.nextC ?_
    refine VC.seq ?_
    refine VC.seq ?_
    refine VC.region ?_
    refine V.fieldAddr 2 32 rfl rfl rfl rfl rfl ?_
    apply V.loadL rfl rfl rfl rfl
    · repeat' constructor
    · repeat' constructor
    refine V.len rfl rfl rfl ?_
    refine V.move rfl rfl rfl ?_
    refine V.nil ?_
    refine Post.nextC ?_
    refine VC.block ?_
    refine VC.loop (σ := (Nat) × (List UInt8) × (Value) × (Chunk)) (fun zz => [(3, pt b2), (21, .slice ad lines.length cp), (22, .int .i64 (lines.length : Int)), (23, .int .i64 (zz.1 : Int))]) (fun zz => bdB b2 (pt b2) zz.2.2.1 :: zz.2.2.2 :: C :: R) (fun zz => (zz.1 ≤ lines.length) ∧ (Bd b2 (pt b2) zz.2.2.1 zz.2.2.2 zz.2.1) ∧ (zz.2.1 = ([111, 107, 32] ++ num ++ [10]) ++ (lines.take zz.1).flatMap fun l => [124, 32] ++ l ++ [10])) (fun zz => lines.length - zz.1) (0, [111, 107, 32] ++ num ++ [10], v1, c1) (⟨Nat.zero_le _, hB1, by simp⟩) ?_ ?_ ?_
    · exact ⟨rfl, rfl, rfl, rfl, trivial⟩
    · repeat' constructor
    rintro ⟨i, acc, bv, bc⟩ ⟨(hi : i ≤ lines.length), (hB : Bd b2 (pt b2) bv bc acc), (hacc : acc = ([111, 107, 32] ++ num ++ [10]) ++ (lines.take i).flatMap fun l => [124, 32] ++ l ++ [10])⟩
    refine VC.sub (E' := [(3, pt b2), (21, .slice ad lines.length cp), (22, .int .i64 (lines.length : Int)), (23, .int .i64 (i : Int))]) (H' := bdB b2 (pt b2) bv :: bc :: C :: R) ⟨rfl, rfl, rfl, rfl, trivial⟩ (by repeat' constructor) ?_
    have hal : acc.length ≤ 140737488355328 := by rw [hacc]; exact hpre i
    refine VC.seq ?_
    refine VC.region ?_
    refine V.bin rfl rfl rfl rfl (bin_lss _ _ _) ?_
    refine V.nil ?_
    refine Post.nextC ?_
    refine VC.seq ?_
    refine VC.cond rfl (fun h2 => ?_) (fun h2 => ?_)
    · try simp only [decide_eq_true_eq, decide_eq_false_iff_not, Bool.not_eq_true', Bool.not_eq_false', Bool.not_eq_eq_eq_not, Bool.not_true, Bool.not_false, beq_iff_eq, beq_eq_false_iff_ne, ne_eq, Int.not_lt, Int.not_le, Option.isSome_some, Option.isNone_none, Option.isSome_none, Option.isNone_some, Classical.not_not] at h2
      refine VC.skip ?_
      refine Post.nextC ?_
      refine VC.seq ?_
      refine VC.block ?_
      refine VC.seq ?_
      refine VC.region ?_
      obtain ⟨x, hx⟩ := getc (t := lines) (i := i) (by assumption)
      obtain ⟨_, bo, oo, cp2, ee, hcel⟩ := Rd.at1' hr (i := i) (str_one lines i x hx)
      simp only [Value.slice.injEq] at ee
      obtain ⟨rfl, _, rfl⟩ := ee
      have hpk := hpre (i + 1)
      rw [List.take_add_one, hx, List.flatMap_append, ← List.append_assoc, ← hacc] at hpk
      simp only [Option.toList_some, List.flatMap_cons, List.flatMap_nil, List.append_nil] at hpk
      refine V.indexO rfl rfl rfl rfl (by omega) ?_
      apply V.loadC (c := C) rfl rfl rfl rfl
      · repeat' constructor
      · exact hcel
      refine V.assign rfl rfl rfl ?_
      refine V.nil ?_
      refine Post.nextC ?_
      refine VC.region ?_
      refine V.move rfl rfl rfl ?_
      refine V.bin rfl rfl rfl rfl (bin_stadd _ _ (by simp only [List.length_append, List.length_cons, List.length_nil] at hpk ⊢; omega)) ?_
      refine V.bin rfl rfl rfl rfl (bin_stadd _ _ (by simp only [List.length_append, List.length_cons, List.length_nil] at hpk ⊢; omega)) ?_
      apply V.call rfl rfl rfl (hc := c28 hB (by simp only [List.length_append, List.length_cons, List.length_nil] at hpk ⊢; omega))
      · repeat' constructor
      rintro vq Ho ⟨v2, c2, hB2, rfl, rfl⟩
      refine V.nil ?_
      refine Post.blockNormal (Post.nextC ?_)
      refine VC.region ?_
      refine V.bin rfl rfl rfl rfl (bin_addI (by omega)) ?_
      refine V.move rfl rfl rfl ?_
      refine V.nil ?_
      refine Post.round (i + 1, acc ++ ([124, 32] ++ x ++ [10]), v2, c2) ?_ ?_ ?_ ?_
      · show ((i + 1) ≤ lines.length) ∧ (Bd b2 (pt b2) (v2) (c2) (acc ++ ([124, 32] ++ x ++ [10]))) ∧ ((acc ++ ([124, 32] ++ x ++ [10])) = ([111, 107, 32] ++ num ++ [10]) ++ (lines.take (i + 1)).flatMap fun l => [124, 32] ++ l ++ [10])
        exact ⟨by omega, hB2, by rw [hacc, List.take_add_one, hx, List.flatMap_append]; simp⟩
      · show lines.length - (i + 1) < lines.length - i
        omega
      · exact ⟨rfl, rfl, rfl, rfl, trivial⟩
      · repeat' constructor
    · try simp only [decide_eq_true_eq, decide_eq_false_iff_not, Bool.not_eq_true', Bool.not_eq_false', Bool.not_eq_eq_eq_not, Bool.not_true, Bool.not_false, beq_iff_eq, beq_eq_false_iff_ne, ne_eq, Int.not_lt, Int.not_le, Option.isSome_some, Option.isNone_none, Option.isSome_none, Option.isNone_some, Classical.not_not] at h2
      refine VC.exit ?_
      refine Post.thenExit (Post.thenExit (Post.blockHit (Post.nextC ?_)))
      refine VC.seq ?_
      refine VC.region ?_
      apply V.call rfl rfl rfl (hc := c30 hB (by omega))
      · repeat' constructor
      rintro vq Ho ⟨rfl, rfl⟩
      refine V.assign rfl rfl rfl ?_
      refine V.nil ?_
      refine Post.nextC ?_
      refine VC.ret ?_
      apply Post.ret1 rfl rfl 
      · obtain rfl : i = lines.length := by omega
        obtain rfl : e = 0 := by assumption
        exact ⟨by rw [hacc, List.take_length, answerOf, if_neg (by simp)], rfl⟩
      · repeat' constructor

theorem c11 {w0 : World} {C D : Chunk} {v u : Value} {l m : List Call} (hr : Rd w0 C 6 v l.length (callsC l)) (hs : Rd w0 D 6 u m.length (callsC m)) : CtR Pg w0 11 #[v, u] [C, D] (fun z H => z = .bool (decide (l = m)) ∧ H = [C, D]) := by
  obtain ⟨ad, cp, rfl, hl1, hl2, _⟩ := id hr
  obtain ⟨ad2, cp2, rfl, hm1, hm2, _⟩ := id hs
  simp only [maxLen] at hl2 hm2
  refine Ct.of_body Go.Proofs.Tryd.func11 rfl 26 rfl rfl (fun R => ?_)
  refine VC.seq ?_
  refine VC.region ?_
  refine V.assign rfl rfl rfl ?_
  refine V.nil ?_
  refine Post.nextC ?_
  refine VC.seq ?_
  refine VC.seq ?_
  refine VC.region ?_
  refine V.move rfl rfl rfl ?_
  refine V.len rfl rfl rfl ?_
  refine V.move rfl rfl rfl ?_
  refine V.len rfl rfl rfl ?_
  refine V.bin rfl rfl rfl rfl (bin_neq _ _ _) ?_
  refine V.nil ?_
  refine Post.nextC ?_
  refine VC.cond rfl (fun h1 => ?_) (fun h1 => ?_)
  · try simp only [decide_eq_true_eq, decide_eq_false_iff_not, Bool.not_eq_true', Bool.not_eq_false', Bool.not_eq_eq_eq_not, Bool.not_true, Bool.not_false, beq_iff_eq, beq_eq_false_iff_ne, ne_eq, Int.not_lt, Int.not_le, Option.isSome_some, Option.isNone_none, Option.isSome_none, Option.isNone_some, Classical.not_not] at h1
    refine VC.seq ?_
    refine VC.region ?_
    refine V.assign rfl rfl rfl ?_
    refine V.nil ?_
    refine Post.nextC ?_
    refine VC.ret ?_
    refine Post.thenRet (?_)
    apply Post.ret1 rfl rfl 
    · have hne : ¬ l = m := fun h => by subst h; exact absurd rfl (by assumption)
      rw [decide_eq_false hne]
      exact ⟨rfl, rfl⟩
    · repeat' constructor
  · try simp only [decide_eq_true_eq, decide_eq_false_iff_not, Bool.not_eq_true', Bool.not_eq_false', Bool.not_eq_eq_eq_not, Bool.not_true, Bool.not_false, beq_iff_eq, beq_eq_false_iff_ne, ne_eq, Int.not_lt, Int.not_le, Option.isSome_some, Option.isNone_none, Option.isSome_none, Option.isNone_some, Classical.not_not] at h1
    refine VC.skip ?_
    refine Post.nextC ?_
    refine VC.seq ?_
    refine VC.seq ?_
    refine VC.region ?_
    refine V.assign rfl rfl rfl ?_
    refine V.nil ?_
    refine Post.nextC ?_
    refine VC.block ?_
    refine VC.loop (σ := (Nat)) (fun zz => [(0, .slice ad l.length cp), (1, .slice ad2 m.length cp2), (5, .int .i64 (zz : Int))]) (fun zz => C :: D :: R) (fun zz => (zz ≤ l.length) ∧ (l.take zz = m.take zz)) (fun zz => l.length - zz) (0) (⟨Nat.zero_le _, by simp⟩) ?_ ?_ ?_
    · exact ⟨rfl, rfl, rfl, trivial⟩
    · repeat' constructor
    rintro i ⟨(hi : i ≤ l.length), (hI : l.take i = m.take i)⟩
    refine VC.sub (E' := [(0, .slice ad l.length cp), (1, .slice ad2 m.length cp2), (5, .int .i64 (i : Int))]) (H' := C :: D :: R) ⟨rfl, rfl, rfl, trivial⟩ (by repeat' constructor) ?_
    refine VC.seq ?_
    refine VC.seq ?_
    refine VC.region ?_
    refine V.move rfl rfl rfl ?_
    refine V.move rfl rfl rfl ?_
    refine V.len rfl rfl rfl ?_
    refine V.bin rfl rfl rfl rfl (bin_lss _ _ _) ?_
    refine V.nil ?_
    refine Post.nextC ?_
    refine VC.cond rfl (fun h2 => ?_) (fun h2 => ?_)
    · try simp only [decide_eq_true_eq, decide_eq_false_iff_not, Bool.not_eq_true', Bool.not_eq_false', Bool.not_eq_eq_eq_not, Bool.not_true, Bool.not_false, beq_iff_eq, beq_eq_false_iff_ne, ne_eq, Int.not_lt, Int.not_le, Option.isSome_some, Option.isNone_none, Option.isSome_none, Option.isNone_some, Classical.not_not] at h2
      refine VC.skip ?_
      refine Post.nextC ?_
      refine VC.seq ?_
      refine VC.block ?_
      refine VC.seq ?_
      refine VC.draw mixed (by kernel_rfl) ?_
      obtain ⟨x, xx⟩ := getc (t := l) (i := i) (by omega)
      obtain ⟨_, bA, oA, cpA, e, hx⟩ := hr.item (f := Call.cells) (i := i) call6 (by omega) xx
      simp only [Value.slice.injEq] at e
      obtain ⟨rfl, _, rfl⟩ := e
      obtain ⟨y, yx⟩ := getc (t := m) (i := i) (by omega)
      obtain ⟨_, bB, oB, cpB, e, hy⟩ := hs.item (f := Call.cells) (i := i) call6 (by omega) yx
      simp only [Value.slice.injEq] at e
      obtain ⟨rfl, _, rfl⟩ := e
      refine V.move rfl rfl rfl ?_
      refine V.move rfl rfl rfl ?_
      refine V.indexO rfl rfl rfl rfl (by omega) ?_
      apply V.loadNC (c := C) (vs := x.cells) rfl rfl rfl rfl
      · repeat' constructor
      · rfl
      · exact fun j u hu => by rw [add_addr]; exact hx j u hu
      refine V.move rfl rfl rfl ?_
      refine V.move rfl rfl rfl ?_
      refine V.indexO rfl rfl rfl rfl (by omega) ?_
      apply V.loadNC (c := D) (vs := y.cells) rfl rfl rfl rfl
      · repeat' constructor
      · rfl
      · exact fun j u hu => by rw [add_addr]; exact hy j u hu
      refine V.bin rfl rfl rfl rfl (bin_neqS (.int rfl u3 rfl rfl (.str rfl u9 rfl rfl (.str rfl u9 rfl rfl (.str rfl u9 rfl rfl (.int rfl u3 rfl rfl (.str rfl u9 rfl rfl (.nil)))))))) ?_
      rw [call_ext]
      refine V.nil ?_
      refine Post.nextC ?_
      refine VC.cond rfl (fun h3 => ?_) (fun h3 => ?_)
      · try simp only [decide_eq_true_eq, decide_eq_false_iff_not, Bool.not_eq_true', Bool.not_eq_false', Bool.not_eq_eq_eq_not, Bool.not_true, Bool.not_false, beq_iff_eq, beq_eq_false_iff_ne, ne_eq, Int.not_lt, Int.not_le, Option.isSome_some, Option.isNone_none, Option.isSome_none, Option.isNone_some, Classical.not_not] at h3
        refine VC.seq ?_
        refine VC.region ?_
        refine V.assign rfl rfl rfl ?_
        refine V.nil ?_
        refine Post.nextC ?_
        refine VC.ret ?_
        refine Post.blockRet (Post.thenRet (Post.thenRet (Post.blockRet (Post.thenRet (?_)))))
        apply Post.ret1 rfl rfl 
        · have hxy : ¬ x = y := by assumption
          have hne : ¬ l = m := fun h => by subst h; rw [xx] at yx; exact hxy (Option.some.inj yx)
          rw [decide_eq_false hne]
          exact ⟨rfl, rfl⟩
        · repeat' constructor
      · try simp only [decide_eq_true_eq, decide_eq_false_iff_not, Bool.not_eq_true', Bool.not_eq_false', Bool.not_eq_eq_eq_not, Bool.not_true, Bool.not_false, beq_iff_eq, beq_eq_false_iff_ne, ne_eq, Int.not_lt, Int.not_le, Option.isSome_some, Option.isNone_none, Option.isSome_none, Option.isNone_some, Classical.not_not] at h3
        refine VC.skip ?_
        refine Post.blockNormal (Post.nextC ?_)
        refine VC.region ?_
        refine V.move rfl rfl rfl ?_
        refine V.bin rfl rfl rfl rfl (bin_addI (by omega)) ?_
        refine V.assign rfl rfl rfl ?_
        refine V.nil ?_
        refine Post.round (i + 1) ?_ ?_ ?_ ?_
        · show ((i + 1) ≤ l.length) ∧ (l.take (i + 1) = m.take (i + 1))
          have hxy : x = y := by assumption
          exact ⟨by omega, by rw [List.take_add_one, List.take_add_one, hI, xx, yx, hxy]⟩
        · show l.length - (i + 1) < l.length - i
          omega
        · exact ⟨rfl, rfl, rfl, trivial⟩
        · repeat' constructor
    · try simp only [decide_eq_true_eq, decide_eq_false_iff_not, Bool.not_eq_true', Bool.not_eq_false', Bool.not_eq_eq_eq_not, Bool.not_true, Bool.not_false, beq_iff_eq, beq_eq_false_iff_ne, ne_eq, Int.not_lt, Int.not_le, Option.isSome_some, Option.isNone_none, Option.isSome_none, Option.isNone_some, Classical.not_not] at h2
      refine VC.exit ?_
      refine Post.thenExit (Post.thenExit (Post.blockHit (Post.nextC ?_)))
      refine VC.seq ?_
      refine VC.region ?_
      refine V.assign rfl rfl rfl ?_
      refine V.nil ?_
      refine Post.nextC ?_
      refine VC.ret ?_
      apply Post.ret1 rfl rfl 
      · obtain rfl : i = l.length := by omega
        have he : l = m := by
          rw [List.take_length] at hI
          rw [hI, List.take_of_length_le (by omega)]
        rw [decide_eq_true he]
        exact ⟨rfl, rfl⟩
      · repeat' constructor

theorem c12 {w0 : World} : CtR Pg w0 12 #[] [] (fun u H => u = .bool true ∧ H = []) := by
  refine Ct.of_body Go.Proofs.Tryd.func12 rfl 28 rfl rfl (fun R => ?_)
  refine VC.seq ?_
  refine VC.region ?_
  refine V.assign rfl rfl rfl ?_
  refine V.nil ?_
  refine Post.nextC ?_
  refine VC.seq ?_
  refine VC.region ?_
  apply V.call rfl rfl rfl (hc := c9 (t := [117, 115, 101, 114, 32, 97, 110, 110, 10, 99, 108, 97, 105, 109, 32, 97, 110, 110, 32, 97, 115, 107, 32, 51, 10, 111, 114, 103]))
  · repeat' constructor
  rintro vq Ho ⟨v1, c1, ho1, rfl, rfl⟩
  rw [wake_script] at ho1 ⊢
  obtain ⟨_, bb, oo, cp, rfl, hc⟩ := (ho1.rd (w0 := w0)).item (f := Call.cells) (i := 1) call6 (by omega) rfl
  refine V.move rfl rfl rfl ?_
  refine V.extract rfl rfl rfl rfl ?_
  refine V.extract rfl rfl rfl rfl ?_
  refine V.alloc (l := [.int .i64 0, .int .i64 0, .int .i64 0]) rfl rfl rfl (fun b1 => ?_)
  refine V.assign rfl rfl rfl ?_
  apply V.storeAll rfl rfl rfl rfl
  · repeat' constructor
  · exact rfl
  · exact rfl
  refine V.nil ?_
  refine Post.nextC ?_
  refine VC.seq ?_
  refine VC.region ?_
  apply V.loadAll rfl rfl rfl rfl
  · repeat' constructor
  · exact rfl
  refine V.buildS [] (l := [.int .i64 0, .int .i64 0, .int .i64 0]) rfl rfl rfl rfl rfl ?_
  refine V.bin rfl rfl rfl rfl (bin_eqlS (.int rfl u23 rfl rfl (.int rfl u3 rfl rfl (.int rfl u3 rfl rfl (.nil))))) ?_
  refine V.know (t := 9) (y := .bool true) rfl (rfl) ?_
  refine V.move rfl rfl rfl ?_
  refine V.move rfl rfl rfl ?_
  refine V.len rfl rfl rfl ?_
  refine V.bin rfl rfl rfl rfl (bin_eql _ _ _) ?_
  refine V.know (t := 13) (y := .bool true) rfl (rfl) ?_
  refine V.pickT rfl rfl rfl rfl ?_
  refine V.move rfl rfl rfl ?_
  refine V.move rfl rfl rfl ?_
  refine V.indexO (i := 1) rfl rfl rfl rfl (by omega) ?_
  apply V.loadNC (c := c1) (vs := (⟨20, [97, 110, 110], [97, 115, 107], [], 3, []⟩ : Call).cells) rfl rfl rfl rfl
  · repeat' constructor
  · rfl
  · exact fun j u hu => by rw [add_addr]; exact hc j u hu
  refine V.buildS [(0, _), (1, _), (2, _), (4, _)] (l := [_, _, _, .string ByteArray.empty, _, .string ByteArray.empty]) rfl rfl rfl rfl rfl ?_
  refine V.bin rfl rfl rfl rfl (bin_eqlS (.int rfl u3 rfl rfl (.str rfl u9 rfl rfl (.str rfl u9 rfl rfl (.str rfl u9 rfl rfl (.int rfl u3 rfl rfl (.str rfl u9 rfl rfl (.nil)))))))) ?_
  refine V.know (t := 20) (y := .bool true) rfl (congrArg Value.bool (by decide)) ?_
  refine V.pickT rfl rfl rfl rfl ?_
  refine V.move rfl rfl rfl ?_
  refine V.buildSlice1 (l := [st [97, 32, 98]]) rfl rfl rfl rfl rfl rfl rfl (fun b3 => ?_)
  refine V.buildS [(1, _), (2, _)] (l := [.int .i64 0, _, _]) rfl rfl rfl rfl rfl ?_
  apply V.call rfl rfl rfl (hc := c13 (e := 0) (n := 3) (num := [51]) (lines := [[97, 32, 98]]) c29_3 (Rd.blockN _ _ _ _ _ _ rfl (by decide)) (by decide))
  · repeat' constructor
  rintro vq Ho ⟨rfl, rfl⟩
  refine V.bin rfl rfl rfl rfl (bin_steql _ _) ?_
  refine V.know (t := 26) (y := .bool true) rfl (congrArg Value.bool (by decide)) ?_
  refine V.pickT rfl rfl rfl rfl ?_
  refine V.assign rfl rfl rfl ?_
  refine V.nil ?_
  refine Post.nextC ?_
  refine VC.ret ?_
  apply Post.ret1 rfl rfl 
  · exact ⟨rfl, rfl⟩
  · repeat' constructor

end Go.Proofs.Ln
