/- Contracts of functions of the given program, each proved by walking its code: part of the proof of this claim; no condition beyond those that each theorem names. -/
import Derived.Test.YtfclhhhnngkdlaaDoorLnPlace
import Derived.Test.YtfclhhhnngkdlaaDoorLnLaw3
set_option linter.unusedVariables false
set_option linter.unusedSimpArgs false
namespace Go.Proofs.Ln
open Go Go.RowKit Go.Proofs.Eng
theorem c6 {w0 : World} {t : List UInt8} : CtR Pg w0 6 #[st t] [] (fun u H => u = .bool true ∧ H = []) := by
  refine Ct.of_body Go.Proofs.Tryd.func6 rfl 76 rfl rfl (fun R => ?_)
  refine VC.seq ?_
  refine VC.region ?_
  refine V.assign rfl rfl rfl ?_
  refine V.nil ?_
  refine Post.nextC ?_
  refine VC.seq ?_
  refine VC.region ?_
  refine V.move rfl rfl rfl ?_
  apply V.call rfl rfl rfl (hc := c15 (t := t))
  · repeat' constructor
  rintro vq Ho ⟨v1, c1, ho1, rfl, rfl⟩
  obtain ⟨ad1, cp1, rfl, hl1, hl2, _⟩ := id (ho1.rd (w0 := w0))
  simp only [maxLen] at hl2
  refine V.move rfl rfl rfl ?_
  refine V.extract rfl rfl rfl rfl ?_
  refine V.extract rfl rfl rfl rfl ?_
  refine V.alloc (l := [.int .i64 0, .int .i64 0, .int .i64 0]) rfl rfl rfl (fun b1 => ?_)
  refine V.assign rfl rfl rfl ?_
  apply V.storeAll rfl rfl rfl rfl
  · repeat' constructor
  · exact rfl
  · exact rfl
  refine V.nil ?_
  refine Post.nextC ?_
  refine VC.seq ?_
  refine VC.region ?_
  refine V.move rfl rfl rfl ?_
  apply V.call rfl rfl rfl (hc := c9 (t := t))
  · repeat' constructor
  rintro vq Ho ⟨v2, c2, ho2, rfl, rfl⟩
  obtain ⟨ad2, cp2, rfl, _⟩ := id (ho2.rd (w0 := w0))
  refine V.move rfl rfl rfl ?_
  refine V.extract rfl rfl rfl rfl ?_
  refine V.extract rfl rfl rfl rfl ?_
  refine V.alloc (l := [.int .i64 0, .int .i64 0, .int .i64 0]) rfl rfl rfl (fun b2 => ?_)
  refine V.assign rfl rfl rfl ?_
  apply V.storeAll rfl rfl rfl rfl
  · repeat' constructor
  · exact rfl
  · exact rfl
  refine V.nil ?_
  refine Post.nextC ?_
  refine VC.seq ?_
  refine VC.seq ?_
  refine VC.region ?_
  refine V.fieldAddr 0 23 rfl rfl rfl rfl rfl ?_
  apply V.loadL rfl rfl rfl rfl
  · repeat' constructor
  · repeat' constructor
  refine V.bin rfl rfl rfl rfl (bin_neq _ _ _) ?_
  refine V.nil ?_
  refine Post.nextC ?_
  refine VC.cond rfl (fun h1 => ?_) (fun h1 => ?_)
  · try simp only [decide_eq_true_eq, decide_eq_false_iff_not, Bool.not_eq_true', Bool.not_eq_false', Bool.not_eq_eq_eq_not, Bool.not_true, Bool.not_false, beq_iff_eq, beq_eq_false_iff_ne, ne_eq, Int.not_lt, Int.not_le, Option.isSome_some, Option.isNone_none, Option.isSome_none, Option.isNone_some, Classical.not_not] at h1
    refine VC.seq ?_
    refine VC.region ?_
    have hsb := script_bad (t := t) (by assumption)
    apply V.loadAll rfl rfl rfl rfl
    · repeat' constructor
    · exact rfl
    apply V.loadAll rfl rfl rfl rfl
    · repeat' constructor
    · exact rfl
    refine V.bin rfl rfl rfl rfl (bin_eqlS (.int rfl u23 rfl rfl (.int rfl u3 rfl rfl (.int rfl u3 rfl rfl (.nil))))) ?_
    refine V.know (t := 23) (y := .bool true) rfl (congrArg Value.bool (by rw [hsb]; exact fault_same _ _ _)) ?_
    refine V.move rfl rfl rfl ?_
    refine V.move rfl rfl rfl ?_
    refine V.len rfl rfl rfl ?_
    refine V.bin rfl rfl rfl rfl (bin_eql _ _ _) ?_
    refine V.know (t := 27) (y := .bool true) rfl (congrArg Value.bool (by rw [hsb]; rfl)) ?_
    refine V.pickT rfl rfl rfl rfl ?_
    refine V.move rfl rfl rfl ?_
    apply V.call rfl rfl rfl (hc := c12)
    · repeat' constructor
    rintro vq Ho ⟨rfl, rfl⟩
    refine V.pickT rfl rfl rfl rfl ?_
    refine V.assign rfl rfl rfl ?_
    refine V.nil ?_
    refine Post.nextC ?_
    refine VC.ret ?_
    refine Post.thenRet (?_)
    apply Post.ret1 rfl rfl 
    · exact ⟨rfl, rfl⟩
    · repeat' constructor
  · try simp only [decide_eq_true_eq, decide_eq_false_iff_not, Bool.not_eq_true', Bool.not_eq_false', Bool.not_eq_eq_eq_not, Bool.not_true, Bool.not_false, beq_iff_eq, beq_eq_false_iff_ne, ne_eq, Int.not_lt, Int.not_le, Option.isSome_some, Option.isNone_none, Option.isSome_none, Option.isNone_some, Classical.not_not] at h1
    refine VC.skip ?_
    refine Post.nextC ?_
    refine VC.seq ?_
    refine VC.seq ?_
    refine VC.region ?_
    refine V.fieldAddr 0 23 rfl rfl rfl rfl rfl ?_
    apply V.loadL rfl rfl rfl rfl
    · repeat' constructor
    · repeat' constructor
    refine V.bin rfl rfl rfl rfl (bin_eql _ _ _) ?_
    refine V.nil ?_
    refine Post.nextC ?_
    refine VC.cond rfl (fun h2 => ?_) (fun h2 => ?_)
    · try simp only [decide_eq_true_eq, decide_eq_false_iff_not, Bool.not_eq_true', Bool.not_eq_false', Bool.not_eq_eq_eq_not, Bool.not_true, Bool.not_false, beq_iff_eq, beq_eq_false_iff_ne, ne_eq, Int.not_lt, Int.not_le, Option.isSome_some, Option.isNone_none, Option.isSome_none, Option.isNone_some, Classical.not_not] at h2
      refine VC.seq ?_
      refine VC.region ?_
      have hsf := script_fine (t := t) (by assumption) (by assumption)
      apply V.loadAll rfl rfl rfl rfl
      · repeat' constructor
      · exact rfl
      refine V.buildS [] (l := [.int .i64 0, .int .i64 0, .int .i64 0]) rfl rfl rfl rfl rfl ?_
      refine V.bin rfl rfl rfl rfl (bin_eqlS (.int rfl u23 rfl rfl (.int rfl u3 rfl rfl (.int rfl u3 rfl rfl (.nil))))) ?_
      refine V.know (t := 37) (y := .bool true) rfl (congrArg Value.bool (by rw [hsf]; rfl)) ?_
      refine V.move rfl rfl rfl ?_
      apply V.call rfl rfl rfl (hc := c12)
      · repeat' constructor
      rintro vq Ho ⟨rfl, rfl⟩
      refine V.pickT rfl rfl rfl rfl ?_
      refine V.assign rfl rfl rfl ?_
      refine V.nil ?_
      refine Post.nextC ?_
      refine VC.ret ?_
      refine Post.thenRet (?_)
      apply Post.ret1 rfl rfl 
      · exact ⟨rfl, rfl⟩
      · repeat' constructor
    · try simp only [decide_eq_true_eq, decide_eq_false_iff_not, Bool.not_eq_true', Bool.not_eq_false', Bool.not_eq_eq_eq_not, Bool.not_true, Bool.not_false, beq_iff_eq, beq_eq_false_iff_ne, ne_eq, Int.not_lt, Int.not_le, Option.isSome_some, Option.isNone_none, Option.isSome_none, Option.isNone_some, Classical.not_not] at h2
      refine VC.skip ?_
      refine Post.nextC ?_
      refine VC.seq ?_
      refine VC.seq ?_
      refine VC.region ?_
      obtain ⟨p1, p2, pi, px, pix, pl, pc⟩ := script_place (t := t) (by assumption) (by assumption)
      refine V.assign rfl rfl rfl ?_
      refine V.nil ?_
      refine Post.nextC ?_
      refine VC.block ?_
      refine VC.loop (σ := (Nat)) (fun zz => [(3, .slice ad1 (scan t).1.length cp1), (5, .slice ad2 (script t).1.length cp2), (6, pt b2), (7, .int .i64 (zz : Int))]) (fun zz => c1 :: c2 :: [(b2, .cells #[.int .i64 (script t).2.1, .int .i64 (script t).2.2.1, .int .i64 (script t).2.2.2] 25 (0, 0))] :: R) (fun zz => (zz ≤ (scan t).1.length) ∧ (zz ≤ pi)) (fun zz => (scan t).1.length - zz) (0) (⟨Nat.zero_le _, Nat.zero_le _⟩) ?_ ?_ ?_
      · exact ⟨rfl, rfl, rfl, rfl, trivial⟩
      · repeat' constructor
      rintro i ⟨(hi : i ≤ (scan t).1.length), (hI : i ≤ pi)⟩
      refine VC.sub (E' := [(3, .slice ad1 (scan t).1.length cp1), (5, .slice ad2 (script t).1.length cp2), (6, pt b2), (7, .int .i64 (i : Int))]) (H' := c1 :: c2 :: [(b2, .cells #[.int .i64 (script t).2.1, .int .i64 (script t).2.2.1, .int .i64 (script t).2.2.2] 25 (0, 0))] :: R) ⟨rfl, rfl, rfl, rfl, trivial⟩ (by repeat' constructor) ?_
      refine VC.seq ?_
      refine VC.seq ?_
      refine VC.region ?_
      refine V.move rfl rfl rfl ?_
      refine V.move rfl rfl rfl ?_
      refine V.len rfl rfl rfl ?_
      refine V.bin rfl rfl rfl rfl (bin_lss _ _ _) ?_
      refine V.nil ?_
      refine Post.nextC ?_
      refine VC.cond rfl (fun h3 => ?_) (fun h3 => ?_)
      · try simp only [decide_eq_true_eq, decide_eq_false_iff_not, Bool.not_eq_true', Bool.not_eq_false', Bool.not_eq_eq_eq_not, Bool.not_true, Bool.not_false, beq_iff_eq, beq_eq_false_iff_ne, ne_eq, Int.not_lt, Int.not_le, Option.isSome_some, Option.isNone_none, Option.isSome_none, Option.isNone_some, Classical.not_not] at h3
        refine VC.skip ?_
        refine Post.nextC ?_
        refine VC.seq ?_
        refine VC.block ?_
        refine VC.seq ?_
        refine VC.draw mixed (by kernel_rfl) ?_
        obtain ⟨x, hx⟩ := getc (t := (scan t).1) (i := i) (by assumption)
        obtain ⟨_, bo, oo, cp3, e, hc⟩ := (ho1.rd (w0 := w0)).item (f := Tok.cells) (i := i) tok5 (by omega) hx
        simp only [Value.slice.injEq] at e
        obtain ⟨rfl, _, rfl⟩ := e
        refine V.move rfl rfl rfl ?_
        refine V.move rfl rfl rfl ?_
        refine V.indexO rfl rfl rfl rfl (by omega) ?_
        refine V.fieldAddr 3 3 rfl rfl rfl rfl rfl ?_
        apply V.loadC (c := c1) rfl rfl rfl rfl
        · repeat' constructor
        · exact hc 3 _ rfl
        refine V.fieldAddr 1 3 rfl rfl rfl rfl rfl ?_
        apply V.loadL rfl rfl rfl rfl
        · repeat' constructor
        · repeat' constructor
        refine V.bin rfl rfl rfl rfl (bin_eql _ _ _) ?_
        refine V.move rfl rfl rfl ?_
        refine V.split (t := 55) rfl (fun h4 => ?_) (fun h4 => ?_)
        · try simp only [decide_eq_true_eq, decide_eq_false_iff_not, Bool.not_eq_true', Bool.not_eq_false', Bool.not_eq_eq_eq_not, Bool.not_true, Bool.not_false, beq_iff_eq, beq_eq_false_iff_ne, ne_eq, Int.not_lt, Int.not_le, Option.isSome_some, Option.isNone_none, Option.isSome_none, Option.isNone_some, Classical.not_not] at h4
          refine V.move rfl rfl rfl ?_
          refine V.move rfl rfl rfl ?_
          refine V.indexO rfl rfl rfl rfl (by omega) ?_
          refine V.fieldAddr 4 3 rfl rfl rfl rfl rfl ?_
          apply V.loadC (c := c1) rfl rfl rfl rfl
          · repeat' constructor
          · exact hc 4 _ rfl
          refine V.fieldAddr 2 3 rfl rfl rfl rfl rfl ?_
          apply V.loadL rfl rfl rfl rfl
          · repeat' constructor
          · repeat' constructor
          refine V.bin rfl rfl rfl rfl (bin_eql _ _ _) ?_
          refine V.pickT rfl rfl rfl rfl ?_
          refine V.nil ?_
          refine Post.nextC ?_
          refine VC.cond rfl (fun h5 => ?_) (fun h5 => ?_)
          · try simp only [decide_eq_true_eq, decide_eq_false_iff_not, Bool.not_eq_true', Bool.not_eq_false', Bool.not_eq_eq_eq_not, Bool.not_true, Bool.not_false, beq_iff_eq, beq_eq_false_iff_ne, ne_eq, Int.not_lt, Int.not_le, Option.isSome_some, Option.isNone_none, Option.isSome_none, Option.isNone_some, Classical.not_not] at h5
            refine VC.seq ?_
            refine VC.region ?_
            refine V.move rfl rfl rfl ?_
            refine V.len rfl rfl rfl ?_
            refine V.bin rfl rfl rfl rfl (bin_eql _ _ _) ?_
            refine V.know (t := 67) (y := .bool true) rfl (congrArg Value.bool (by rw [p1]; rfl)) ?_
            refine V.move rfl rfl rfl ?_
            refine V.fieldAddr 0 23 rfl rfl rfl rfl rfl ?_
            apply V.loadL rfl rfl rfl rfl
            · repeat' constructor
            · repeat' constructor
            refine V.bin rfl rfl rfl rfl (bin_eql _ _ _) ?_
            refine V.know (t := 71) (y := .bool true) rfl (congrArg Value.bool (by rw [p2]; rfl)) ?_
            refine V.pickT rfl rfl rfl rfl ?_
            refine V.move rfl rfl rfl ?_
            apply V.call rfl rfl rfl (hc := c12)
            · repeat' constructor
            rintro vq Ho ⟨rfl, rfl⟩
            refine V.pickT rfl rfl rfl rfl ?_
            refine V.assign rfl rfl rfl ?_
            refine V.nil ?_
            refine Post.nextC ?_
            refine VC.ret ?_
            refine Post.blockRet (Post.thenRet (Post.thenRet (Post.blockRet (Post.thenRet (?_)))))
            apply Post.ret1 rfl rfl 
            · exact ⟨rfl, rfl⟩
            · repeat' constructor
          · try simp only [decide_eq_true_eq, decide_eq_false_iff_not, Bool.not_eq_true', Bool.not_eq_false', Bool.not_eq_eq_eq_not, Bool.not_true, Bool.not_false, beq_iff_eq, beq_eq_false_iff_ne, ne_eq, Int.not_lt, Int.not_le, Option.isSome_some, Option.isNone_none, Option.isSome_none, Option.isNone_some, Classical.not_not] at h5
            refine VC.skip ?_
            refine Post.blockNormal (Post.nextC ?_)
            refine VC.region ?_
            refine V.move rfl rfl rfl ?_
            refine V.bin rfl rfl rfl rfl (bin_addI (by omega)) ?_
            refine V.assign rfl rfl rfl ?_
            refine V.nil ?_
            refine Post.round (i + 1) ?_ ?_ ?_ ?_
            · show ((i + 1) ≤ (scan t).1.length) ∧ ((i + 1) ≤ pi)
              refine ⟨by omega, ?_⟩
              rcases Nat.lt_or_ge i pi with h | h
              · exact h
              · exfalso
                obtain rfl : i = pi := by omega
                rw [pix] at hx
                obtain rfl := Option.some.inj hx
                first
                  | exact absurd pl (by assumption)
                  | exact absurd pc (by assumption)
            · show (scan t).1.length - (i + 1) < (scan t).1.length - i
              omega
            · exact ⟨rfl, rfl, rfl, rfl, trivial⟩
            · repeat' constructor
        · try simp only [decide_eq_true_eq, decide_eq_false_iff_not, Bool.not_eq_true', Bool.not_eq_false', Bool.not_eq_eq_eq_not, Bool.not_true, Bool.not_false, beq_iff_eq, beq_eq_false_iff_ne, ne_eq, Int.not_lt, Int.not_le, Option.isSome_some, Option.isNone_none, Option.isSome_none, Option.isNone_some, Classical.not_not] at h4
          refine V.skip rfl rfl ?_
          refine V.skip rfl rfl ?_
          refine V.skip rfl rfl ?_
          refine V.skip rfl rfl ?_
          refine V.skip rfl rfl ?_
          refine V.skip rfl rfl ?_
          refine V.skip rfl rfl ?_
          refine V.skip rfl rfl ?_
          refine V.pickF rfl rfl rfl rfl ?_
          refine V.nil ?_
          refine Post.nextC ?_
          refine VC.condF rfl ?_
          refine VC.skip ?_
          refine Post.blockNormal (Post.nextC ?_)
          refine VC.region ?_
          refine V.move rfl rfl rfl ?_
          refine V.bin rfl rfl rfl rfl (bin_addI (by omega)) ?_
          refine V.assign rfl rfl rfl ?_
          refine V.nil ?_
          refine Post.round (i + 1) ?_ ?_ ?_ ?_
          · show ((i + 1) ≤ (scan t).1.length) ∧ ((i + 1) ≤ pi)
            refine ⟨by omega, ?_⟩
            rcases Nat.lt_or_ge i pi with h | h
            · exact h
            · exfalso
              obtain rfl : i = pi := by omega
              rw [pix] at hx
              obtain rfl := Option.some.inj hx
              first
                | exact absurd pl (by assumption)
                | exact absurd pc (by assumption)
          · show (scan t).1.length - (i + 1) < (scan t).1.length - i
            omega
          · exact ⟨rfl, rfl, rfl, rfl, trivial⟩
          · repeat' constructor
      · try simp only [decide_eq_true_eq, decide_eq_false_iff_not, Bool.not_eq_true', Bool.not_eq_false', Bool.not_eq_eq_eq_not, Bool.not_true, Bool.not_false, beq_iff_eq, beq_eq_false_iff_ne, ne_eq, Int.not_lt, Int.not_le, Option.isSome_some, Option.isNone_none, Option.isSome_none, Option.isNone_some, Classical.not_not] at h3
        exfalso
        have := (List.getElem?_eq_some_iff.1 pix).1
        omega

end Go.Proofs.Ln
