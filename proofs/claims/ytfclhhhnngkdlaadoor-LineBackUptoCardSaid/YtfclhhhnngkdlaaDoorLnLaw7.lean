/- Contracts of functions of the given program, each proved by walking its code: part of the proof of this claim; no condition beyond those that each theorem names. -/
import Derived.Test.YtfclhhhnngkdlaaDoorLnShow3
import Derived.Test.YtfclhhhnngkdlaaDoorLnLaw4
set_option linter.unusedVariables false
set_option linter.unusedSimpArgs false
namespace Go.Proofs.Ln
open Go Go.RowKit Go.Proofs.Eng
theorem c7 {w0 : World} {c : Call} (hsz : c.a.length + c.b.length ≤ 100000000) (hn : -9223372036854775808 ≤ c.n ∧ c.n ≤ 9223372036854775807) (hT : ∀ i, i < 20 → Cel w0 [] ⟨0, i, none⟩ (.int .u64 ((10 ^ i : Nat) : Int))) : CtR Pg w0 7 #[callV c] [] (fun u H => u = .bool true ∧ H = []) := by
  refine Ct.of_body Go.Proofs.Tryd.func7 rfl 38 rfl rfl (fun R => ?_)
  refine VC.seq ?_
  refine VC.region ?_
  refine V.box rfl rfl rfl rfl (fun b1 => ?_)
  refine V.assign rfl rfl rfl ?_
  refine V.nil ?_
  refine Post.nextC ?_
  refine VC.seq ?_
  refine VC.region ?_
  apply V.loadAll rfl rfl rfl rfl
  · repeat' constructor
  · exact rfl
  apply V.call rfl rfl rfl (hc := c16 hsz hn hT)
  · repeat' constructor
  rintro vq Ho ⟨rfl, rfl⟩
  refine V.move rfl rfl rfl ?_
  refine V.extract rfl rfl rfl rfl ?_
  refine V.extract rfl rfl rfl rfl ?_
  refine V.assign rfl rfl rfl ?_
  refine V.assign rfl rfl rfl ?_
  refine V.nil ?_
  refine Post.nextC ?_
  refine VC.seq ?_
  refine VC.region ?_
  apply V.loadAll rfl rfl rfl rfl
  · repeat' constructor
  · exact rfl
  apply V.call rfl rfl rfl (hc := c17 hsz hn)
  · repeat' constructor
  rintro vq Ho ⟨rfl, rfl⟩
  refine V.move rfl rfl rfl ?_
  refine V.extract rfl rfl rfl rfl ?_
  refine V.extract rfl rfl rfl rfl ?_
  refine V.assign rfl rfl rfl ?_
  refine V.assign rfl rfl rfl ?_
  refine V.nil ?_
  refine Post.nextC ?_
  refine VC.seq ?_
  refine VC.seq ?_
  refine VC.region ?_
  refine V.move rfl rfl rfl ?_
  refine V.not rfl rfl rfl ?_
  refine V.nil ?_
  refine Post.nextC ?_
  refine VC.cond rfl (fun h1 => ?_) (fun h1 => ?_)
  · try simp only [decide_eq_true_eq, decide_eq_false_iff_not, Bool.not_eq_true', Bool.not_eq_false', Bool.not_eq_eq_eq_not, Bool.not_true, Bool.not_false, beq_iff_eq, beq_eq_false_iff_ne, ne_eq, Int.not_lt, Int.not_le, Option.isSome_some, Option.isNone_none, Option.isSome_none, Option.isNone_some, Classical.not_not] at h1
    refine VC.seq ?_
    refine VC.region ?_
    have hs : showOf c = ([], 3) := by rw [show_ref, if_neg (by simp_all)]
    refine V.move rfl rfl rfl ?_
    refine V.bin rfl rfl rfl rfl (bin_eql _ _ _) ?_
    refine V.move rfl rfl rfl ?_
    refine V.know (t := 21) (y := .bool true) rfl (congrArg Value.bool (by rw [hs]; rfl)) ?_
    refine V.move rfl rfl rfl ?_
    refine V.bin rfl rfl rfl rfl (bin_steql _ _) ?_
    refine V.pickT rfl rfl rfl rfl ?_
    refine V.move rfl rfl rfl ?_
    refine V.know (t := 25) (y := .bool true) rfl (congrArg Value.bool (by rw [hs]; rfl)) ?_
    apply V.call rfl rfl rfl (hc := c12)
    · repeat' constructor
    rintro vq Ho ⟨rfl, rfl⟩
    refine V.pickT rfl rfl rfl rfl ?_
    refine V.assign rfl rfl rfl ?_
    refine V.nil ?_
    refine Post.nextC ?_
    refine VC.ret ?_
    refine Post.thenRet (?_)
    apply Post.ret1 rfl rfl 
    · exact ⟨rfl, rfl⟩
    · repeat' constructor
  · try simp only [decide_eq_true_eq, decide_eq_false_iff_not, Bool.not_eq_true', Bool.not_eq_false', Bool.not_eq_eq_eq_not, Bool.not_true, Bool.not_false, beq_iff_eq, beq_eq_false_iff_ne, ne_eq, Int.not_lt, Int.not_le, Option.isSome_some, Option.isNone_none, Option.isSome_none, Option.isNone_some, Classical.not_not] at h1
    refine VC.skip ?_
    refine Post.nextC ?_
    refine VC.seq ?_
    refine VC.region ?_
    have hs : showOf c = ((showRef c).1, 0) := by rw [show_ref, if_pos (by simp_all)]
    refine V.move rfl rfl rfl ?_
    refine V.bin rfl rfl rfl rfl (bin_eql _ _ _) ?_
    refine V.move rfl rfl rfl ?_
    refine V.know (t := 30) (y := .bool true) rfl (congrArg Value.bool (by rw [hs]; rfl)) ?_
    refine V.move rfl rfl rfl ?_
    refine V.move rfl rfl rfl ?_
    refine V.bin rfl rfl rfl rfl (bin_steql _ _) ?_
    refine V.pickT rfl rfl rfl rfl ?_
    refine V.move rfl rfl rfl ?_
    refine V.know (t := 35) (y := .bool true) rfl (congrArg Value.bool (by rw [hs]; exact decide_eq_true rfl)) ?_
    apply V.call rfl rfl rfl (hc := c12)
    · repeat' constructor
    rintro vq Ho ⟨rfl, rfl⟩
    refine V.pickT rfl rfl rfl rfl ?_
    refine V.assign rfl rfl rfl ?_
    refine V.nil ?_
    refine Post.nextC ?_
    refine VC.ret ?_
    apply Post.ret1 rfl rfl 
    · exact ⟨rfl, rfl⟩
    · repeat' constructor

theorem c8 {w0 : World} {c : Call} {t : List UInt8} (hsz : c.a.length + c.b.length ≤ 100000000) (hn : -9223372036854775808 ≤ c.n ∧ c.n ≤ 9223372036854775807) (hT : ∀ i, i < 20 → Cel w0 [] ⟨0, i, none⟩ (.int .u64 ((10 ^ i : Nat) : Int))) : CtR Pg w0 8 #[callV c, st t] [] (fun u H => u = .bool true ∧ H = []) := by
  refine Ct.of_body Go.Proofs.Tryd.func8 rfl 112 rfl rfl (fun R => ?_)
  refine VC.seq ?_
  refine VC.region ?_
  refine V.box rfl rfl rfl rfl (fun b1 => ?_)
  refine V.assign rfl rfl rfl ?_
  refine V.nil ?_
  refine Post.nextC ?_
  refine VC.seq ?_
  refine VC.region ?_
  apply V.loadAll rfl rfl rfl rfl
  · repeat' constructor
  · exact rfl
  apply V.call rfl rfl rfl (hc := c16 hsz hn hT)
  · repeat' constructor
  rintro vq Ho ⟨rfl, rfl⟩
  refine V.move rfl rfl rfl ?_
  refine V.extract rfl rfl rfl rfl ?_
  refine V.extract rfl rfl rfl rfl ?_
  refine V.assign rfl rfl rfl ?_
  refine V.assign rfl rfl rfl ?_
  refine V.nil ?_
  refine Post.nextC ?_
  refine VC.seq ?_
  refine VC.seq ?_
  refine VC.region ?_
  refine V.move rfl rfl rfl ?_
  refine V.bin rfl rfl rfl rfl (bin_eql _ _ _) ?_
  refine V.nil ?_
  refine Post.nextC ?_
  refine VC.cond rfl (fun h1 => ?_) (fun h1 => ?_)
  · try simp only [decide_eq_true_eq, decide_eq_false_iff_not, Bool.not_eq_true', Bool.not_eq_false', Bool.not_eq_eq_eq_not, Bool.not_true, Bool.not_false, beq_iff_eq, beq_eq_false_iff_ne, ne_eq, Int.not_lt, Int.not_le, Option.isSome_some, Option.isNone_none, Option.isSome_none, Option.isNone_some, Classical.not_not] at h1
    refine VC.seq ?_
    refine VC.region ?_
    refine V.move rfl rfl rfl ?_
    apply V.call rfl rfl rfl (hc := c9 (t := (showOf c).1))
    · repeat' constructor
    rw [showOf_zero (by assumption)]
    rintro vq Ho ⟨v1, c1, ho1, rfl, rfl⟩
    obtain ⟨_, bo1, oo1, cpo1, e1, hx1⟩ := (ho1.rd (w0 := w0)).item (f := Call.cells) (i := 0) (x := c) call6 (by decide) rfl
    obtain rfl := e1
    refine V.move rfl rfl rfl ?_
    refine V.extract rfl rfl rfl rfl ?_
    refine V.extract rfl rfl rfl rfl ?_
    refine V.alloc (l := [.int .i64 0, .int .i64 0, .int .i64 0]) rfl rfl rfl (fun b2 => ?_)
    refine V.assign rfl rfl rfl ?_
    apply V.storeAll rfl rfl rfl rfl
    · repeat' constructor
    · exact rfl
    · exact rfl
    refine V.nil ?_
    refine Post.nextC ?_
    refine VC.seq ?_
    refine VC.draw mixed (by kernel_rfl) ?_
    refine V.fieldAddr 0 23 rfl rfl rfl rfl rfl ?_
    apply V.loadL rfl rfl rfl rfl
    · repeat' constructor
    · repeat' constructor
    refine V.bin rfl rfl rfl rfl (bin_neq _ _ _) ?_
    refine V.move rfl rfl rfl ?_
    refine V.know (t := 32) (y := .bool false) rfl (rfl) ?_
    refine V.move rfl rfl rfl ?_
    refine V.len rfl rfl rfl ?_
    refine V.bin rfl rfl rfl rfl (bin_neq _ _ _) ?_
    refine V.pickF rfl rfl rfl rfl ?_
    refine V.move rfl rfl rfl ?_
    refine V.know (t := 37) (y := .bool false) rfl (rfl) ?_
    refine V.move rfl rfl rfl ?_
    refine V.indexO (i := 0) rfl rfl rfl rfl (by omega) ?_
    apply V.loadNC (c := c1) (vs := c.cells) rfl rfl rfl rfl
    · repeat' constructor
    · rfl
    · exact fun j u hu => by rw [add_addr]; exact hx1 j u hu
    apply V.loadAll rfl rfl rfl rfl
    · repeat' constructor
    · exact rfl
    refine V.bin rfl rfl rfl rfl (bin_neqS (.int rfl u3 rfl rfl (.str rfl u9 rfl rfl (.str rfl u9 rfl rfl (.str rfl u9 rfl rfl (.int rfl u3 rfl rfl (.str rfl u9 rfl rfl (.nil)))))))) ?_
    rw [call_ext]
    refine V.pickF rfl rfl rfl rfl ?_
    refine V.nil ?_
    refine Post.nextC ?_
    refine VC.cond rfl (fun h2 => ?_) (fun h2 => ?_)
    · try simp only [decide_eq_true_eq, decide_eq_false_iff_not, Bool.not_eq_true', Bool.not_eq_false', Bool.not_eq_eq_eq_not, Bool.not_true, Bool.not_false, beq_iff_eq, beq_eq_false_iff_ne, ne_eq, Int.not_lt, Int.not_le, Option.isSome_some, Option.isNone_none, Option.isSome_none, Option.isNone_some, Classical.not_not] at h2
      simp_all
    · try simp only [decide_eq_true_eq, decide_eq_false_iff_not, Bool.not_eq_true', Bool.not_eq_false', Bool.not_eq_eq_eq_not, Bool.not_true, Bool.not_false, beq_iff_eq, beq_eq_false_iff_ne, ne_eq, Int.not_lt, Int.not_le, Option.isSome_some, Option.isNone_none, Option.isSome_none, Option.isNone_some, Classical.not_not] at h2
      refine VC.skip ?_
      refine Post.nextC ?_
      refine VC.seq ?_
      refine VC.region ?_
      refine V.move rfl rfl rfl ?_
      apply V.call rfl rfl rfl (hc := c9 (t := t))
      · repeat' constructor
      rintro vq Ho ⟨v2, c2, ho2, rfl, rfl⟩
      obtain ⟨ad2, cp2, rfl, hl1, hl2, _⟩ := id (ho2.rd (w0 := w0))
      simp only [maxLen] at hl2
      have hsl := script_len t
      refine V.move rfl rfl rfl ?_
      refine V.extract rfl rfl rfl rfl ?_
      refine V.extract rfl rfl rfl rfl ?_
      refine V.alloc (l := [.int .i64 0, .int .i64 0, .int .i64 0]) rfl rfl rfl (fun b3 => ?_)
      refine V.assign rfl rfl rfl ?_
      apply V.storeAll rfl rfl rfl rfl
      · repeat' constructor
      · exact rfl
      · exact rfl
      refine V.nil ?_
      refine Post.nextC ?_
      refine VC.seq ?_
      refine VC.seq ?_
      refine VC.region ?_
      refine V.fieldAddr 0 23 rfl rfl rfl rfl rfl ?_
      apply V.loadL rfl rfl rfl rfl
      · repeat' constructor
      · repeat' constructor
      refine V.bin rfl rfl rfl rfl (bin_neq _ _ _) ?_
      refine V.nil ?_
      refine Post.nextC ?_
      refine VC.cond rfl (fun h3 => ?_) (fun h3 => ?_)
      · try simp only [decide_eq_true_eq, decide_eq_false_iff_not, Bool.not_eq_true', Bool.not_eq_false', Bool.not_eq_eq_eq_not, Bool.not_true, Bool.not_false, beq_iff_eq, beq_eq_false_iff_ne, ne_eq, Int.not_lt, Int.not_le, Option.isSome_some, Option.isNone_none, Option.isSome_none, Option.isNone_some, Classical.not_not] at h3
        refine VC.seq ?_
        refine VC.region ?_
        refine V.move rfl rfl rfl ?_
        refine V.len rfl rfl rfl ?_
        refine V.bin rfl rfl rfl rfl (bin_eql _ _ _) ?_
        refine V.move rfl rfl rfl ?_
        refine V.know (t := 55) (y := .bool true) rfl (congrArg Value.bool (by rw [script_empty (by assumption)]; rfl)) ?_
        apply V.call rfl rfl rfl (hc := c12)
        · repeat' constructor
        rintro vq Ho ⟨rfl, rfl⟩
        refine V.pickT rfl rfl rfl rfl ?_
        refine V.assign rfl rfl rfl ?_
        refine V.nil ?_
        refine Post.nextC ?_
        refine VC.ret ?_
        refine Post.thenRet (?_)
        apply Post.ret1 rfl rfl 
        · exact ⟨rfl, rfl⟩
        · repeat' constructor
      · try simp only [decide_eq_true_eq, decide_eq_false_iff_not, Bool.not_eq_true', Bool.not_eq_false', Bool.not_eq_eq_eq_not, Bool.not_true, Bool.not_false, beq_iff_eq, beq_eq_false_iff_ne, ne_eq, Int.not_lt, Int.not_le, Option.isSome_some, Option.isNone_none, Option.isSome_none, Option.isNone_some, Classical.not_not] at h3
        refine VC.skip ?_
        refine Post.nextC ?_
        refine VC.seq ?_
        refine VC.region ?_
        refine V.assign rfl rfl rfl ?_
        refine V.nil ?_
        refine Post.nextC ?_
        refine VC.seq ?_
        refine VC.seq ?_
        refine VC.region ?_
        refine V.assign rfl rfl rfl ?_
        refine V.nil ?_
        refine Post.nextC ?_
        refine VC.block ?_
        refine VC.loop (σ := (Nat) × (List UInt8)) (fun zz => [(9, .slice ad2 (script t).1.length cp2), (11, st zz.2), (12, .int .i64 (zz.1 : Int))]) (fun zz => c2 :: R) (fun zz => (zz.1 ≤ (script t).1.length) ∧ (Sofar ((script t).1.take zz.1) zz.2)) (fun zz => (script t).1.length - zz.1) (0, []) (⟨Nat.zero_le _, by rw [List.take_zero]; exact Sofar.nil⟩) ?_ ?_ ?_
        · exact ⟨rfl, rfl, rfl, trivial⟩
        · repeat' constructor
        rintro ⟨i, all⟩ ⟨(hi : i ≤ (script t).1.length), (hF : Sofar ((script t).1.take i) all)⟩
        refine VC.sub (E' := [(9, .slice ad2 (script t).1.length cp2), (11, st all), (12, .int .i64 (i : Int))]) (H' := c2 :: R) ⟨rfl, rfl, rfl, trivial⟩ (by repeat' constructor) ?_
        refine VC.seq ?_
        refine VC.seq ?_
        refine VC.region ?_
        refine V.move rfl rfl rfl ?_
        refine V.move rfl rfl rfl ?_
        refine V.len rfl rfl rfl ?_
        refine V.bin rfl rfl rfl rfl (bin_lss _ _ _) ?_
        refine V.nil ?_
        refine Post.nextC ?_
        refine VC.cond rfl (fun h4 => ?_) (fun h4 => ?_)
        · try simp only [decide_eq_true_eq, decide_eq_false_iff_not, Bool.not_eq_true', Bool.not_eq_false', Bool.not_eq_eq_eq_not, Bool.not_true, Bool.not_false, beq_iff_eq, beq_eq_false_iff_ne, ne_eq, Int.not_lt, Int.not_le, Option.isSome_some, Option.isNone_none, Option.isSome_none, Option.isNone_some, Classical.not_not] at h4
          refine VC.skip ?_
          refine Post.nextC ?_
          refine VC.seq ?_
          refine VC.block ?_
          refine VC.seq ?_
          refine VC.region ?_
          obtain ⟨x, xx⟩ := getc (t := (script t).1) (i := i) (by omega)
          obtain ⟨_, bA, oA, cpA, e, hx⟩ := (ho2.rd (w0 := w0)).item (f := Call.cells) (i := i) call6 (by omega) xx
          simp only [Value.slice.injEq] at e
          obtain ⟨rfl, _, rfl⟩ := e
          have hsd := script_said x (List.mem_of_getElem? xx)
          have hsm := hsd.small
          have hss := show_said hsd
          refine V.move rfl rfl rfl ?_
          refine V.move rfl rfl rfl ?_
          refine V.indexO rfl rfl rfl rfl (by omega) ?_
          apply V.loadNC (c := c2) (vs := x.cells) rfl rfl rfl rfl
          · repeat' constructor
          · rfl
          · exact fun j u hu => by rw [add_addr]; exact hx j u hu
          apply V.call rfl rfl rfl (hc := c16 (c := x) (by omega) (by omega) hT)
          · repeat' constructor
          rintro vq Ho ⟨rfl, rfl⟩
          refine V.move rfl rfl rfl ?_
          refine V.extract rfl rfl rfl rfl ?_
          refine V.extract rfl rfl rfl rfl ?_
          refine V.assign rfl rfl rfl ?_
          refine V.assign rfl rfl rfl ?_
          refine V.nil ?_
          refine Post.nextC ?_
          refine VC.seq ?_
          refine VC.seq ?_
          refine VC.region ?_
          refine V.move rfl rfl rfl ?_
          refine V.bin rfl rfl rfl rfl (bin_neq _ _ _) ?_
          refine V.nil ?_
          refine Post.nextC ?_
          refine VC.cond rfl (fun h5 => ?_) (fun h5 => ?_)
          · try simp only [decide_eq_true_eq, decide_eq_false_iff_not, Bool.not_eq_true', Bool.not_eq_false', Bool.not_eq_eq_eq_not, Bool.not_true, Bool.not_false, beq_iff_eq, beq_eq_false_iff_ne, ne_eq, Int.not_lt, Int.not_le, Option.isSome_some, Option.isNone_none, Option.isSome_none, Option.isNone_some, Classical.not_not] at h5
            refine VC.seq ?_
            refine VC.region ?_
            have hlong : 65536 < x.text.length := by
              rcases hss with h | h
              · exact absurd h.1 (by assumption)
              · exact h.2
            refine V.move rfl rfl rfl ?_
            refine V.move rfl rfl rfl ?_
            refine V.indexO rfl rfl rfl rfl (by omega) ?_
            refine V.fieldAddr 5 9 rfl rfl rfl rfl rfl ?_
            apply V.loadC (c := c2) rfl rfl rfl rfl
            · repeat' constructor
            · exact hx 5 _ rfl
            refine V.lenSt rfl rfl rfl ?_
            refine V.bin rfl rfl rfl rfl (bin_gtr _ _ _) ?_
            refine V.move rfl rfl rfl ?_
            refine V.know (t := 81) (y := .bool true) rfl (congrArg Value.bool (decide_eq_true (by omega))) ?_
            apply V.call rfl rfl rfl (hc := c12)
            · repeat' constructor
            rintro vq Ho ⟨rfl, rfl⟩
            refine V.pickT rfl rfl rfl rfl ?_
            refine V.assign rfl rfl rfl ?_
            refine V.nil ?_
            refine Post.nextC ?_
            refine VC.ret ?_
            refine Post.thenRet (Post.blockRet (Post.thenRet (Post.thenRet (Post.blockRet (Post.thenRet (?_))))))
            apply Post.ret1 rfl rfl 
            · exact ⟨rfl, rfl⟩
            · repeat' constructor
          · try simp only [decide_eq_true_eq, decide_eq_false_iff_not, Bool.not_eq_true', Bool.not_eq_false', Bool.not_eq_eq_eq_not, Bool.not_true, Bool.not_false, beq_iff_eq, beq_eq_false_iff_ne, ne_eq, Int.not_lt, Int.not_le, Option.isSome_some, Option.isNone_none, Option.isSome_none, Option.isNone_some, Classical.not_not] at h5
            refine VC.skip ?_
            refine Post.nextC ?_
            refine VC.region ?_
            obtain ⟨M, hM, hMl⟩ : ∃ L, Tells x L (showOf x).1 ∧ (showOf x).1.length ≤ 65536 := by
              rcases hss with h | h
              · exact h.2
              · exact absurd (by assumption) h.1
            have hall := hF.len
            rw [List.length_take] at hall
            refine V.move rfl rfl rfl ?_
            refine V.move rfl rfl rfl ?_
            refine V.bin rfl rfl rfl rfl (bin_stadd _ _ (by first | omega | (simp only [List.length_append, List.length_cons, List.length_nil]; omega))) ?_
            refine V.assign rfl rfl rfl ?_
            refine V.nil ?_
            refine Post.blockNormal (Post.nextC ?_)
            refine VC.region ?_
            refine V.move rfl rfl rfl ?_
            refine V.bin rfl rfl rfl rfl (bin_addI (by omega)) ?_
            refine V.assign rfl rfl rfl ?_
            refine V.nil ?_
            refine Post.round (i + 1, all ++ (showOf x).1) ?_ ?_ ?_ ?_
            · show ((i + 1) ≤ (script t).1.length) ∧ (Sofar ((script t).1.take (i + 1)) (all ++ (showOf x).1))
              exact ⟨by omega, by rw [List.take_add_one, xx]; exact hF.snoc hM hMl⟩
            · show (script t).1.length - (i + 1) < (script t).1.length - i
              omega
            · exact ⟨rfl, rfl, rfl, trivial⟩
            · repeat' constructor
        · try simp only [decide_eq_true_eq, decide_eq_false_iff_not, Bool.not_eq_true', Bool.not_eq_false', Bool.not_eq_eq_eq_not, Bool.not_true, Bool.not_false, beq_iff_eq, beq_eq_false_iff_ne, ne_eq, Int.not_lt, Int.not_le, Option.isSome_some, Option.isNone_none, Option.isSome_none, Option.isNone_some, Classical.not_not] at h4
          refine VC.exit ?_
          refine Post.thenExit (Post.thenExit (Post.blockHit (Post.nextC ?_)))
          refine VC.seq ?_
          refine VC.region ?_
          refine V.move rfl rfl rfl ?_
          apply V.call rfl rfl rfl (hc := c9 (t := all))
          · repeat' constructor
          rintro vq Ho ⟨v3, c3, ho3, rfl, rfl⟩
          obtain ⟨ad3, cp3, rfl, _⟩ := id (ho3.rd (w0 := w0))
          refine V.move rfl rfl rfl ?_
          refine V.extract rfl rfl rfl rfl ?_
          refine V.extract rfl rfl rfl rfl ?_
          refine V.alloc (l := [.int .i64 0, .int .i64 0, .int .i64 0]) rfl rfl rfl (fun b4 => ?_)
          refine V.assign rfl rfl rfl ?_
          apply V.storeAll rfl rfl rfl rfl
          · repeat' constructor
          · exact rfl
          · exact rfl
          refine V.nil ?_
          refine Post.nextC ?_
          refine VC.seq ?_
          refine VC.seq ?_
          refine VC.region ?_
          refine V.move rfl rfl rfl ?_
          refine V.lenSt rfl rfl rfl ?_
          refine V.bin rfl rfl rfl rfl (bin_gtr _ _ _) ?_
          refine V.nil ?_
          refine Post.nextC ?_
          refine VC.cond rfl (fun h6 => ?_) (fun h6 => ?_)
          · try simp only [decide_eq_true_eq, decide_eq_false_iff_not, Bool.not_eq_true', Bool.not_eq_false', Bool.not_eq_eq_eq_not, Bool.not_true, Bool.not_false, beq_iff_eq, beq_eq_false_iff_ne, ne_eq, Int.not_lt, Int.not_le, Option.isSome_some, Option.isNone_none, Option.isSome_none, Option.isNone_some, Classical.not_not] at h6
            refine VC.seq ?_
            refine VC.region ?_
            have hs3 := script_long (t := all) (by omega)
            refine V.fieldAddr 0 23 rfl rfl rfl rfl rfl ?_
            apply V.loadL rfl rfl rfl rfl
            · repeat' constructor
            · repeat' constructor
            refine V.bin rfl rfl rfl rfl (bin_eql _ _ _) ?_
            refine V.move rfl rfl rfl ?_
            refine V.know (t := 98) (y := .bool true) rfl (congrArg Value.bool (by rw [hs3]; rfl)) ?_
            apply V.call rfl rfl rfl (hc := c12)
            · repeat' constructor
            rintro vq Ho ⟨rfl, rfl⟩
            refine V.pickT rfl rfl rfl rfl ?_
            refine V.assign rfl rfl rfl ?_
            refine V.nil ?_
            refine Post.nextC ?_
            refine VC.ret ?_
            refine Post.thenRet (?_)
            apply Post.ret1 rfl rfl 
            · exact ⟨rfl, rfl⟩
            · repeat' constructor
          · try simp only [decide_eq_true_eq, decide_eq_false_iff_not, Bool.not_eq_true', Bool.not_eq_false', Bool.not_eq_eq_eq_not, Bool.not_true, Bool.not_false, beq_iff_eq, beq_eq_false_iff_ne, ne_eq, Int.not_lt, Int.not_le, Option.isSome_some, Option.isNone_none, Option.isSome_none, Option.isNone_some, Classical.not_not] at h6
            refine VC.skip ?_
            refine Post.nextC ?_
            refine VC.seq ?_
            refine VC.region ?_
            obtain rfl : i = (script t).1.length := by omega
            rw [List.take_length] at hF
            have hs3 := hF.script (by omega)
            refine V.fieldAddr 0 23 rfl rfl rfl rfl rfl ?_
            apply V.loadL rfl rfl rfl rfl
            · repeat' constructor
            · repeat' constructor
            refine V.bin rfl rfl rfl rfl (bin_eql _ _ _) ?_
            refine V.move rfl rfl rfl ?_
            refine V.know (t := 104) (y := .bool true) rfl (congrArg Value.bool (by rw [hs3]; rfl)) ?_
            refine V.move rfl rfl rfl ?_
            refine V.move rfl rfl rfl ?_
            apply V.call rfl rfl rfl (hc := c11 (ho2.rd (w0 := w0)) (ho3.rd (w0 := w0)))
            · repeat' constructor
            rintro vq Ho ⟨rfl, rfl⟩
            refine V.pickT rfl rfl rfl rfl ?_
            refine V.move rfl rfl rfl ?_
            refine V.know (t := 109) (y := .bool true) rfl (congrArg Value.bool (by rw [hs3]; exact decide_eq_true rfl)) ?_
            apply V.call rfl rfl rfl (hc := c12)
            · repeat' constructor
            rintro vq Ho ⟨rfl, rfl⟩
            refine V.pickT rfl rfl rfl rfl ?_
            refine V.assign rfl rfl rfl ?_
            refine V.nil ?_
            refine Post.nextC ?_
            refine VC.ret ?_
            apply Post.ret1 rfl rfl 
            · exact ⟨rfl, rfl⟩
            · repeat' constructor
  · try simp only [decide_eq_true_eq, decide_eq_false_iff_not, Bool.not_eq_true', Bool.not_eq_false', Bool.not_eq_eq_eq_not, Bool.not_true, Bool.not_false, beq_iff_eq, beq_eq_false_iff_ne, ne_eq, Int.not_lt, Int.not_le, Option.isSome_some, Option.isNone_none, Option.isSome_none, Option.isNone_some, Classical.not_not] at h1
    refine VC.skip ?_
    refine Post.nextC ?_
    refine VC.seq ?_
    refine VC.region ?_
    refine V.move rfl rfl rfl ?_
    apply V.call rfl rfl rfl (hc := c9 (t := t))
    · repeat' constructor
    rintro vq Ho ⟨v2, c2, ho2, rfl, rfl⟩
    obtain ⟨ad2, cp2, rfl, hl1, hl2, _⟩ := id (ho2.rd (w0 := w0))
    simp only [maxLen] at hl2
    have hsl := script_len t
    refine V.move rfl rfl rfl ?_
    refine V.extract rfl rfl rfl rfl ?_
    refine V.extract rfl rfl rfl rfl ?_
    refine V.alloc (l := [.int .i64 0, .int .i64 0, .int .i64 0]) rfl rfl rfl (fun b5 => ?_)
    refine V.assign rfl rfl rfl ?_
    apply V.storeAll rfl rfl rfl rfl
    · repeat' constructor
    · exact rfl
    · exact rfl
    refine V.nil ?_
    refine Post.nextC ?_
    refine VC.seq ?_
    refine VC.seq ?_
    refine VC.region ?_
    refine V.fieldAddr 0 23 rfl rfl rfl rfl rfl ?_
    apply V.loadL rfl rfl rfl rfl
    · repeat' constructor
    · repeat' constructor
    refine V.bin rfl rfl rfl rfl (bin_neq _ _ _) ?_
    refine V.nil ?_
    refine Post.nextC ?_
    refine VC.cond rfl (fun h7 => ?_) (fun h7 => ?_)
    · try simp only [decide_eq_true_eq, decide_eq_false_iff_not, Bool.not_eq_true', Bool.not_eq_false', Bool.not_eq_eq_eq_not, Bool.not_true, Bool.not_false, beq_iff_eq, beq_eq_false_iff_ne, ne_eq, Int.not_lt, Int.not_le, Option.isSome_some, Option.isNone_none, Option.isSome_none, Option.isNone_some, Classical.not_not] at h7
      refine VC.seq ?_
      refine VC.region ?_
      refine V.move rfl rfl rfl ?_
      refine V.len rfl rfl rfl ?_
      refine V.bin rfl rfl rfl rfl (bin_eql _ _ _) ?_
      refine V.move rfl rfl rfl ?_
      refine V.know (t := 55) (y := .bool true) rfl (congrArg Value.bool (by rw [script_empty (by assumption)]; rfl)) ?_
      apply V.call rfl rfl rfl (hc := c12)
      · repeat' constructor
      rintro vq Ho ⟨rfl, rfl⟩
      refine V.pickT rfl rfl rfl rfl ?_
      refine V.assign rfl rfl rfl ?_
      refine V.nil ?_
      refine Post.nextC ?_
      refine VC.ret ?_
      refine Post.thenRet (?_)
      apply Post.ret1 rfl rfl 
      · exact ⟨rfl, rfl⟩
      · repeat' constructor
    · try simp only [decide_eq_true_eq, decide_eq_false_iff_not, Bool.not_eq_true', Bool.not_eq_false', Bool.not_eq_eq_eq_not, Bool.not_true, Bool.not_false, beq_iff_eq, beq_eq_false_iff_ne, ne_eq, Int.not_lt, Int.not_le, Option.isSome_some, Option.isNone_none, Option.isSome_none, Option.isNone_some, Classical.not_not] at h7
      refine VC.skip ?_
      refine Post.nextC ?_
      refine VC.seq ?_
      refine VC.region ?_
      refine V.assign rfl rfl rfl ?_
      refine V.nil ?_
      refine Post.nextC ?_
      refine VC.seq ?_
      refine VC.seq ?_
      refine VC.region ?_
      refine V.assign rfl rfl rfl ?_
      refine V.nil ?_
      refine Post.nextC ?_
      refine VC.block ?_
      refine VC.loop (σ := (Nat) × (List UInt8)) (fun zz => [(9, .slice ad2 (script t).1.length cp2), (11, st zz.2), (12, .int .i64 (zz.1 : Int))]) (fun zz => c2 :: R) (fun zz => (zz.1 ≤ (script t).1.length) ∧ (Sofar ((script t).1.take zz.1) zz.2)) (fun zz => (script t).1.length - zz.1) (0, []) (⟨Nat.zero_le _, by rw [List.take_zero]; exact Sofar.nil⟩) ?_ ?_ ?_
      · exact ⟨rfl, rfl, rfl, trivial⟩
      · repeat' constructor
      rintro ⟨i, all⟩ ⟨(hi : i ≤ (script t).1.length), (hF : Sofar ((script t).1.take i) all)⟩
      refine VC.sub (E' := [(9, .slice ad2 (script t).1.length cp2), (11, st all), (12, .int .i64 (i : Int))]) (H' := c2 :: R) ⟨rfl, rfl, rfl, trivial⟩ (by repeat' constructor) ?_
      refine VC.seq ?_
      refine VC.seq ?_
      refine VC.region ?_
      refine V.move rfl rfl rfl ?_
      refine V.move rfl rfl rfl ?_
      refine V.len rfl rfl rfl ?_
      refine V.bin rfl rfl rfl rfl (bin_lss _ _ _) ?_
      refine V.nil ?_
      refine Post.nextC ?_
      refine VC.cond rfl (fun h8 => ?_) (fun h8 => ?_)
      · try simp only [decide_eq_true_eq, decide_eq_false_iff_not, Bool.not_eq_true', Bool.not_eq_false', Bool.not_eq_eq_eq_not, Bool.not_true, Bool.not_false, beq_iff_eq, beq_eq_false_iff_ne, ne_eq, Int.not_lt, Int.not_le, Option.isSome_some, Option.isNone_none, Option.isSome_none, Option.isNone_some, Classical.not_not] at h8
        refine VC.skip ?_
        refine Post.nextC ?_
        refine VC.seq ?_
        refine VC.block ?_
        refine VC.seq ?_
        refine VC.region ?_
        obtain ⟨x, xx⟩ := getc (t := (script t).1) (i := i) (by omega)
        obtain ⟨_, bA, oA, cpA, e, hx⟩ := (ho2.rd (w0 := w0)).item (f := Call.cells) (i := i) call6 (by omega) xx
        simp only [Value.slice.injEq] at e
        obtain ⟨rfl, _, rfl⟩ := e
        have hsd := script_said x (List.mem_of_getElem? xx)
        have hsm := hsd.small
        have hss := show_said hsd
        refine V.move rfl rfl rfl ?_
        refine V.move rfl rfl rfl ?_
        refine V.indexO rfl rfl rfl rfl (by omega) ?_
        apply V.loadNC (c := c2) (vs := x.cells) rfl rfl rfl rfl
        · repeat' constructor
        · rfl
        · exact fun j u hu => by rw [add_addr]; exact hx j u hu
        apply V.call rfl rfl rfl (hc := c16 (c := x) (by omega) (by omega) hT)
        · repeat' constructor
        rintro vq Ho ⟨rfl, rfl⟩
        refine V.move rfl rfl rfl ?_
        refine V.extract rfl rfl rfl rfl ?_
        refine V.extract rfl rfl rfl rfl ?_
        refine V.assign rfl rfl rfl ?_
        refine V.assign rfl rfl rfl ?_
        refine V.nil ?_
        refine Post.nextC ?_
        refine VC.seq ?_
        refine VC.seq ?_
        refine VC.region ?_
        refine V.move rfl rfl rfl ?_
        refine V.bin rfl rfl rfl rfl (bin_neq _ _ _) ?_
        refine V.nil ?_
        refine Post.nextC ?_
        refine VC.cond rfl (fun h9 => ?_) (fun h9 => ?_)
        · try simp only [decide_eq_true_eq, decide_eq_false_iff_not, Bool.not_eq_true', Bool.not_eq_false', Bool.not_eq_eq_eq_not, Bool.not_true, Bool.not_false, beq_iff_eq, beq_eq_false_iff_ne, ne_eq, Int.not_lt, Int.not_le, Option.isSome_some, Option.isNone_none, Option.isSome_none, Option.isNone_some, Classical.not_not] at h9
          refine VC.seq ?_
          refine VC.region ?_
          have hlong : 65536 < x.text.length := by
            rcases hss with h | h
            · exact absurd h.1 (by assumption)
            · exact h.2
          refine V.move rfl rfl rfl ?_
          refine V.move rfl rfl rfl ?_
          refine V.indexO rfl rfl rfl rfl (by omega) ?_
          refine V.fieldAddr 5 9 rfl rfl rfl rfl rfl ?_
          apply V.loadC (c := c2) rfl rfl rfl rfl
          · repeat' constructor
          · exact hx 5 _ rfl
          refine V.lenSt rfl rfl rfl ?_
          refine V.bin rfl rfl rfl rfl (bin_gtr _ _ _) ?_
          refine V.move rfl rfl rfl ?_
          refine V.know (t := 81) (y := .bool true) rfl (congrArg Value.bool (decide_eq_true (by omega))) ?_
          apply V.call rfl rfl rfl (hc := c12)
          · repeat' constructor
          rintro vq Ho ⟨rfl, rfl⟩
          refine V.pickT rfl rfl rfl rfl ?_
          refine V.assign rfl rfl rfl ?_
          refine V.nil ?_
          refine Post.nextC ?_
          refine VC.ret ?_
          refine Post.thenRet (Post.blockRet (Post.thenRet (Post.thenRet (Post.blockRet (Post.thenRet (?_))))))
          apply Post.ret1 rfl rfl 
          · exact ⟨rfl, rfl⟩
          · repeat' constructor
        · try simp only [decide_eq_true_eq, decide_eq_false_iff_not, Bool.not_eq_true', Bool.not_eq_false', Bool.not_eq_eq_eq_not, Bool.not_true, Bool.not_false, beq_iff_eq, beq_eq_false_iff_ne, ne_eq, Int.not_lt, Int.not_le, Option.isSome_some, Option.isNone_none, Option.isSome_none, Option.isNone_some, Classical.not_not] at h9
          refine VC.skip ?_
          refine Post.nextC ?_
          refine VC.region ?_
          obtain ⟨M, hM, hMl⟩ : ∃ L, Tells x L (showOf x).1 ∧ (showOf x).1.length ≤ 65536 := by
            rcases hss with h | h
            · exact h.2
            · exact absurd (by assumption) h.1
          have hall := hF.len
          rw [List.length_take] at hall
          refine V.move rfl rfl rfl ?_
          refine V.move rfl rfl rfl ?_
          refine V.bin rfl rfl rfl rfl (bin_stadd _ _ (by first | omega | (simp only [List.length_append, List.length_cons, List.length_nil]; omega))) ?_
          refine V.assign rfl rfl rfl ?_
          refine V.nil ?_
          refine Post.blockNormal (Post.nextC ?_)
          refine VC.region ?_
          refine V.move rfl rfl rfl ?_
          refine V.bin rfl rfl rfl rfl (bin_addI (by omega)) ?_
          refine V.assign rfl rfl rfl ?_
          refine V.nil ?_
          refine Post.round (i + 1, all ++ (showOf x).1) ?_ ?_ ?_ ?_
          · show ((i + 1) ≤ (script t).1.length) ∧ (Sofar ((script t).1.take (i + 1)) (all ++ (showOf x).1))
            exact ⟨by omega, by rw [List.take_add_one, xx]; exact hF.snoc hM hMl⟩
          · show (script t).1.length - (i + 1) < (script t).1.length - i
            omega
          · exact ⟨rfl, rfl, rfl, trivial⟩
          · repeat' constructor
      · try simp only [decide_eq_true_eq, decide_eq_false_iff_not, Bool.not_eq_true', Bool.not_eq_false', Bool.not_eq_eq_eq_not, Bool.not_true, Bool.not_false, beq_iff_eq, beq_eq_false_iff_ne, ne_eq, Int.not_lt, Int.not_le, Option.isSome_some, Option.isNone_none, Option.isSome_none, Option.isNone_some, Classical.not_not] at h8
        refine VC.exit ?_
        refine Post.thenExit (Post.thenExit (Post.blockHit (Post.nextC ?_)))
        refine VC.seq ?_
        refine VC.region ?_
        refine V.move rfl rfl rfl ?_
        apply V.call rfl rfl rfl (hc := c9 (t := all))
        · repeat' constructor
        rintro vq Ho ⟨v3, c3, ho3, rfl, rfl⟩
        obtain ⟨ad3, cp3, rfl, _⟩ := id (ho3.rd (w0 := w0))
        refine V.move rfl rfl rfl ?_
        refine V.extract rfl rfl rfl rfl ?_
        refine V.extract rfl rfl rfl rfl ?_
        refine V.alloc (l := [.int .i64 0, .int .i64 0, .int .i64 0]) rfl rfl rfl (fun b6 => ?_)
        refine V.assign rfl rfl rfl ?_
        apply V.storeAll rfl rfl rfl rfl
        · repeat' constructor
        · exact rfl
        · exact rfl
        refine V.nil ?_
        refine Post.nextC ?_
        refine VC.seq ?_
        refine VC.seq ?_
        refine VC.region ?_
        refine V.move rfl rfl rfl ?_
        refine V.lenSt rfl rfl rfl ?_
        refine V.bin rfl rfl rfl rfl (bin_gtr _ _ _) ?_
        refine V.nil ?_
        refine Post.nextC ?_
        refine VC.cond rfl (fun h10 => ?_) (fun h10 => ?_)
        · try simp only [decide_eq_true_eq, decide_eq_false_iff_not, Bool.not_eq_true', Bool.not_eq_false', Bool.not_eq_eq_eq_not, Bool.not_true, Bool.not_false, beq_iff_eq, beq_eq_false_iff_ne, ne_eq, Int.not_lt, Int.not_le, Option.isSome_some, Option.isNone_none, Option.isSome_none, Option.isNone_some, Classical.not_not] at h10
          refine VC.seq ?_
          refine VC.region ?_
          have hs3 := script_long (t := all) (by omega)
          refine V.fieldAddr 0 23 rfl rfl rfl rfl rfl ?_
          apply V.loadL rfl rfl rfl rfl
          · repeat' constructor
          · repeat' constructor
          refine V.bin rfl rfl rfl rfl (bin_eql _ _ _) ?_
          refine V.move rfl rfl rfl ?_
          refine V.know (t := 98) (y := .bool true) rfl (congrArg Value.bool (by rw [hs3]; rfl)) ?_
          apply V.call rfl rfl rfl (hc := c12)
          · repeat' constructor
          rintro vq Ho ⟨rfl, rfl⟩
          refine V.pickT rfl rfl rfl rfl ?_
          refine V.assign rfl rfl rfl ?_
          refine V.nil ?_
          refine Post.nextC ?_
          refine VC.ret ?_
          refine Post.thenRet (?_)
          apply Post.ret1 rfl rfl 
          · exact ⟨rfl, rfl⟩
          · repeat' constructor
        · try simp only [decide_eq_true_eq, decide_eq_false_iff_not, Bool.not_eq_true', Bool.not_eq_false', Bool.not_eq_eq_eq_not, Bool.not_true, Bool.not_false, beq_iff_eq, beq_eq_false_iff_ne, ne_eq, Int.not_lt, Int.not_le, Option.isSome_some, Option.isNone_none, Option.isSome_none, Option.isNone_some, Classical.not_not] at h10
          refine VC.skip ?_
          refine Post.nextC ?_
          refine VC.seq ?_
          refine VC.region ?_
          obtain rfl : i = (script t).1.length := by omega
          rw [List.take_length] at hF
          have hs3 := hF.script (by omega)
          refine V.fieldAddr 0 23 rfl rfl rfl rfl rfl ?_
          apply V.loadL rfl rfl rfl rfl
          · repeat' constructor
          · repeat' constructor
          refine V.bin rfl rfl rfl rfl (bin_eql _ _ _) ?_
          refine V.move rfl rfl rfl ?_
          refine V.know (t := 104) (y := .bool true) rfl (congrArg Value.bool (by rw [hs3]; rfl)) ?_
          refine V.move rfl rfl rfl ?_
          refine V.move rfl rfl rfl ?_
          apply V.call rfl rfl rfl (hc := c11 (ho2.rd (w0 := w0)) (ho3.rd (w0 := w0)))
          · repeat' constructor
          rintro vq Ho ⟨rfl, rfl⟩
          refine V.pickT rfl rfl rfl rfl ?_
          refine V.move rfl rfl rfl ?_
          refine V.know (t := 109) (y := .bool true) rfl (congrArg Value.bool (by rw [hs3]; exact decide_eq_true rfl)) ?_
          apply V.call rfl rfl rfl (hc := c12)
          · repeat' constructor
          rintro vq Ho ⟨rfl, rfl⟩
          refine V.pickT rfl rfl rfl rfl ?_
          refine V.assign rfl rfl rfl ?_
          refine V.nil ?_
          refine Post.nextC ?_
          refine VC.ret ?_
          apply Post.ret1 rfl rfl 
          · exact ⟨rfl, rfl⟩
          · repeat' constructor

end Go.Proofs.Ln
