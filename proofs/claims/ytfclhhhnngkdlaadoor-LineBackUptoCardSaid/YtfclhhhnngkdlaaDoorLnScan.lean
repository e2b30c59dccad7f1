/- Contracts of functions of the given program, each proved by walking its code: part of the proof of this claim; no condition beyond those that each theorem names. -/
import Derived.Test.YtfclhhhnngkdlaaDoorLnLex
set_option linter.unusedVariables false
set_option linter.unusedSimpArgs false
namespace Go.Proofs.Ln
open Go Go.RowKit Go.Proofs.Eng
/-- the scanner's tokens, and all within M bytes -/
def Sc.fits (s : Sc) (M : Nat) : Prop := s.l.length + s.t.length ≤ M ∧ 1 ≤ s.line ∧ s.line + s.t.length ≤ M + 1 ∧ 1 ≤ s.col ∧ s.col + s.t.length ≤ M + 1
theorem Sc.fits_pass {s : Sc} {M n : Nat} (h : s.fits M) (hn : n ≤ s.t.length) : (s.pass n).fits M := by
  obtain ⟨h1, h2, h3, h4, h5⟩ := h
  simp only [Sc.fits, Sc.pass, List.length_drop]
  omega
theorem Sc.fits_tell {s : Sc} {M n : Nat} {k v : Int} (h : s.fits M) (hn : n ≤ s.t.length) (h1 : 1 ≤ n) : (s.tell k n v).fits M := by
  obtain ⟨h1, h2, h3, h4, h5⟩ := h
  simp only [Sc.fits, Sc.tell, List.length_drop, List.length_append, List.length_cons, List.length_nil]
  omega
theorem Sc.fits_ends {s : Sc} {M : Nat} (h : s.fits M) (hn : 1 ≤ s.t.length) : s.ends.fits M := by
  obtain ⟨h1, h2, h3, h4, h5⟩ := h
  simp only [Sc.fits, Sc.ends, List.length_drop]
  split <;> (try simp only [List.length_append, List.length_cons, List.length_nil]) <;> omega
theorem takeWhile_pos {c : UInt8} {r : List UInt8} {p : UInt8 → Bool} (h : p c = true) : 1 ≤ ((c :: r).takeWhile p).length := by simp [List.takeWhile_cons_of_pos h]
theorem takeWhile_le (t : List UInt8) (p : UInt8 → Bool) : (t.takeWhile p).length ≤ t.length := (List.takeWhile_sublist _).length_le
theorem numb_le (t : List UInt8) : (numb t).1 ≤ t.length := by
  unfold numb
  split
  · simp
  · exact takeWhile_le _ _
/-- a step that goes well goes on, and all stays within the text -/
theorem Sc.step_fits {s : Sc} {c : UInt8} {r : List UInt8} {M : Nat} (ht : s.t = c :: r) (h : s.fits M) (h0 : (s.step c).2 = 0) : (s.step c).1.fits M ∧ (s.step c).1.t.length < s.t.length := by
  have hl : 1 ≤ s.t.length := by simp [ht]
  have pass : ∀ n, 1 ≤ n → n ≤ s.t.length → (s.pass n).fits M ∧ (s.pass n).t.length < s.t.length := fun n h1 h2 => ⟨Sc.fits_pass h h2, by simp only [Sc.pass, List.length_drop]; omega⟩
  have tell : ∀ k n v, 1 ≤ n → n ≤ s.t.length → (s.tell k n v).fits M ∧ (s.tell k n v).t.length < s.t.length := fun k n v h1 h2 => ⟨Sc.fits_tell h h2 h1, by simp only [Sc.tell, List.length_drop]; omega⟩
  revert h0
  unfold Sc.step
  split
  · exact fun _ => pass 1 (by omega) (by omega)
  · split
    · exact fun _ => pass _ (by rw [ht]; apply takeWhile_pos; simp; omega) (takeWhile_le _ _)
    · split
      · exact fun _ => ⟨Sc.fits_ends h (by omega), by simp only [Sc.ends, List.length_drop]; omega⟩
      · split
        · rename_i hs
          split
          · intro h0; cases h0
          · exact fun _ => tell _ _ _ (by rw [ht]; apply takeWhile_pos; simp [inName, hs]) (takeWhile_le _ _)
        · split
          · split
            · intro h0; cases h0
            · exact fun _ => tell _ _ _ (by omega) (numb_le _)
          · split
            · exact fun _ => tell _ _ _ (by omega) (by omega)
            · intro h0; cases h0

theorem c56 {w0 : World} {sp M : Nat} {s : Sc} {v : Value} {cT : Chunk} (ho : Own 41 5 cT v s.l.length (toks s.l)) (ht : 1 ≤ s.t.length) (hf : s.fits M) (hM : M ≤ 100000) : CtR Pg w0 56 #[.pointer (some ⟨sp, 0, none⟩)] [scB sp s.t s.line s.col v s.any, cT] (fun u H => ∃ v1 c1, Own 41 5 c1 v1 (s.ends).l.length (toks (s.ends).l) ∧ H = [scB sp (s.ends).t (s.ends).line (s.ends).col v1 (s.ends).any, c1]) := by
  obtain ⟨f1, f2, f3, f4, f5⟩ := hf
  obtain ⟨t, line, col, any, l⟩ := s
  cases any with
  | true =>
    refine (c56t ho ht (by dsimp only at *; omega) (by dsimp only at *; omega) (by dsimp only at *; omega)).ret_mono ?_
    rintro _ H ⟨v1, c1, h1, rfl⟩
    exact ⟨v1, c1, by simpa [Sc.ends] using h1, rfl⟩
  | false =>
    refine (Ct.frame [cT] (c56f (v := v) ht (by dsimp only at *; omega) (by dsimp only at *; omega))).ret_mono ?_
    rintro _ H ⟨Ho, rfl, rfl⟩
    exact ⟨v, cT, ho, rfl⟩

theorem c32 {w0 : World} {sp M : Nat} {s : Sc} {v : Value} {cT : Chunk} {c : UInt8} {r : List UInt8} (ho : Own 41 5 cT v s.l.length (toks s.l)) (ht : s.t = c :: r) (hf : s.fits M) (hM : M ≤ 100000) : CtR Pg w0 32 #[.pointer (some ⟨sp, 0, none⟩)] [scB sp s.t s.line s.col v s.any, cT] (fun u H => u = .int .i64 (s.step c).2 ∧ ∃ v1 c1, Own 41 5 c1 v1 ((s.step c).1).l.length (toks ((s.step c).1).l) ∧ H = [scB sp ((s.step c).1).t ((s.step c).1).line ((s.step c).1).col v1 ((s.step c).1).any, c1]) := by
  have hl : 1 ≤ s.t.length := by simp [ht]
  have htl := hf.1
  obtain ⟨f1, f2, f3, f4, f5⟩ := id hf
  have hN := takeWhile_le s.t inName
  have hC := takeWhile_le s.t (fun c => decide (c.toNat ≠ 10))
  obtain ⟨m, hm⟩ : ∃ m, (s.t.takeWhile fun c => decide (c.toNat ≠ 10)).length = m := ⟨_, rfl⟩
  rw [hm] at hC
  have hD := numb_le s.t
  have hfin : ∀ (s' : Sc) (e : Int) (v1 : Value) (c1 : Chunk) (n : Nat) (l' : List Tok), s.step c = (s', e) → s'.l = l' → n = l'.length → Own 41 5 c1 v1 n (toks l') → ((.int .i64 e : Value) = .int .i64 (s.step c).2 ∧ ∃ v2 c2, Own 41 5 c2 v2 (s.step c).1.l.length (toks (s.step c).1.l) ∧ [scB sp s'.t s'.line s'.col v1 s'.any, c1] = [scB sp (s.step c).1.t (s.step c).1.line (s.step c).1.col v2 (s.step c).1.any, c2]) := by
    intro s' e v1 c1 n l' h1 h2 h3 h4
    rw [h1]
    subst h2; subst h3
    exact ⟨rfl, v1, c1, h4, rfl⟩
  refine Ct.of_body Go.Proofs.Tryd.func32 rfl 72 rfl rfl (fun R => ?_)
  refine VC.seq ?_
  refine VC.region ?_
  refine V.assign rfl rfl rfl ?_
  refine V.nil ?_
  refine Post.nextC ?_
  refine VC.seq ?_
  refine VC.region ?_
  refine V.move rfl rfl rfl ?_
  refine V.nilCheck rfl rfl rfl ?_
  refine V.fieldAddr 0 9 rfl rfl rfl rfl rfl ?_
  apply V.loadL rfl rfl rfl rfl
  · repeat' constructor
  · repeat' constructor
  refine V.indexSt (i := 0) (c := c) rfl rfl rfl rfl (by rw [ht]; rfl) ?_
  refine V.assign rfl rfl rfl ?_
  refine V.nil ?_
  refine Post.nextC ?_
  refine VC.seq ?_
  refine VC.block ?_
  refine VC.seq ?_
  refine VC.region ?_
  refine V.move rfl rfl rfl ?_
  refine V.bin rfl rfl rfl rfl (bin_eql _ _ _) ?_
  refine V.move rfl rfl rfl ?_
  refine V.split (t := 15) rfl (fun h1 => ?_) (fun h1 => ?_)
  · try simp only [decide_eq_true_eq, decide_eq_false_iff_not, Bool.not_eq_true', Bool.not_eq_false', Bool.not_eq_eq_eq_not, Bool.not_true, Bool.not_false, beq_iff_eq, beq_eq_false_iff_ne, ne_eq, Int.not_lt, Int.not_le, Option.isSome_some, Option.isNone_none, Option.isSome_none, Option.isNone_some, Classical.not_not] at h1
    refine V.skip rfl rfl ?_
    refine V.skip rfl rfl ?_
    refine V.pickT rfl rfl rfl rfl ?_
    refine V.assign rfl rfl rfl ?_
    refine V.nil ?_
    refine Post.nextC ?_
    refine VC.condT rfl ?_
    refine VC.region ?_
    refine V.move rfl rfl rfl ?_
    apply V.call rfl rfl rfl (hc := c53 (sp := sp) (t := s.t) (line := s.line) (col := s.col) (v := v) (any := s.any) (n := 1) (by omega) (by omega) (by omega))
    · repeat' constructor
    rintro v2 Ho rfl
    refine V.nil ?_
    refine Post.blockNormal (Post.nextC ?_)
    refine VC.seq ?_
    refine VC.region ?_
    refine V.assign rfl rfl rfl ?_
    refine V.nil ?_
    refine Post.nextC ?_
    refine VC.ret ?_
    apply Post.ret1 rfl rfl 
    · exact hfin (s.pass 1) 0 v cT _ _ (step1 (by omega)) rfl rfl ho
    · repeat' constructor
  · try simp only [decide_eq_true_eq, decide_eq_false_iff_not, Bool.not_eq_true', Bool.not_eq_false', Bool.not_eq_eq_eq_not, Bool.not_true, Bool.not_false, beq_iff_eq, beq_eq_false_iff_ne, ne_eq, Int.not_lt, Int.not_le, Option.isSome_some, Option.isNone_none, Option.isSome_none, Option.isNone_some, Classical.not_not] at h1
    refine V.move rfl rfl rfl ?_
    refine V.bin rfl rfl rfl rfl (bin_eql _ _ _) ?_
    refine V.pickF rfl rfl rfl rfl ?_
    refine V.assign rfl rfl rfl ?_
    refine V.nil ?_
    refine Post.nextC ?_
    refine VC.cond rfl (fun h2 => ?_) (fun h2 => ?_)
    · try simp only [decide_eq_true_eq, decide_eq_false_iff_not, Bool.not_eq_true', Bool.not_eq_false', Bool.not_eq_eq_eq_not, Bool.not_true, Bool.not_false, beq_iff_eq, beq_eq_false_iff_ne, ne_eq, Int.not_lt, Int.not_le, Option.isSome_some, Option.isNone_none, Option.isSome_none, Option.isNone_some, Classical.not_not] at h2
      refine VC.region ?_
      refine V.move rfl rfl rfl ?_
      apply V.call rfl rfl rfl (hc := c53 (sp := sp) (t := s.t) (line := s.line) (col := s.col) (v := v) (any := s.any) (n := 1) (by omega) (by omega) (by omega))
      · repeat' constructor
      rintro v2 Ho rfl
      refine V.nil ?_
      refine Post.blockNormal (Post.nextC ?_)
      refine VC.seq ?_
      refine VC.region ?_
      refine V.assign rfl rfl rfl ?_
      refine V.nil ?_
      refine Post.nextC ?_
      refine VC.ret ?_
      apply Post.ret1 rfl rfl 
      · exact hfin (s.pass 1) 0 v cT _ _ (step1 (by omega)) rfl rfl ho
      · repeat' constructor
    · try simp only [decide_eq_true_eq, decide_eq_false_iff_not, Bool.not_eq_true', Bool.not_eq_false', Bool.not_eq_eq_eq_not, Bool.not_true, Bool.not_false, beq_iff_eq, beq_eq_false_iff_ne, ne_eq, Int.not_lt, Int.not_le, Option.isSome_some, Option.isNone_none, Option.isSome_none, Option.isNone_some, Classical.not_not] at h2
      refine VC.seq ?_
      refine VC.region ?_
      refine V.move rfl rfl rfl ?_
      refine V.bin rfl rfl rfl rfl (bin_eql _ _ _) ?_
      refine V.assign rfl rfl rfl ?_
      refine V.nil ?_
      refine Post.nextC ?_
      refine VC.cond rfl (fun h3 => ?_) (fun h3 => ?_)
      · try simp only [decide_eq_true_eq, decide_eq_false_iff_not, Bool.not_eq_true', Bool.not_eq_false', Bool.not_eq_eq_eq_not, Bool.not_true, Bool.not_false, beq_iff_eq, beq_eq_false_iff_ne, ne_eq, Int.not_lt, Int.not_le, Option.isSome_some, Option.isNone_none, Option.isSome_none, Option.isNone_some, Classical.not_not] at h3
        refine VC.region ?_
        refine V.move rfl rfl rfl ?_
        refine V.move rfl rfl rfl ?_
        refine V.nilCheck rfl rfl rfl ?_
        refine V.fieldAddr 0 9 rfl rfl rfl rfl rfl ?_
        apply V.loadL rfl rfl rfl rfl
        · repeat' constructor
        · repeat' constructor
        apply V.call rfl rfl rfl (hc := c54 (k := 55) (p := fun c => decide (c.toNat ≠ 10)) (t := s.t) (fun c => c55) (by omega))
        · repeat' constructor
        rintro v2 Ho ⟨rfl, rfl⟩
        rw [hm]
        apply V.call rfl rfl rfl (hc := c53 (sp := sp) (t := s.t) (line := s.line) (col := s.col) (v := v) (any := s.any) (n := m) (by omega) (by omega) (by omega))
        · repeat' constructor
        rintro v2 Ho rfl
        refine V.nil ?_
        refine Post.blockNormal (Post.nextC ?_)
        refine VC.seq ?_
        refine VC.region ?_
        refine V.assign rfl rfl rfl ?_
        refine V.nil ?_
        refine Post.nextC ?_
        refine VC.ret ?_
        apply Post.ret1 rfl rfl 
        · exact hfin (s.pass m) 0 v cT _ _ (by rw [step2 (by omega), hm]) rfl rfl ho
        · repeat' constructor
      · try simp only [decide_eq_true_eq, decide_eq_false_iff_not, Bool.not_eq_true', Bool.not_eq_false', Bool.not_eq_eq_eq_not, Bool.not_true, Bool.not_false, beq_iff_eq, beq_eq_false_iff_ne, ne_eq, Int.not_lt, Int.not_le, Option.isSome_some, Option.isNone_none, Option.isSome_none, Option.isNone_some, Classical.not_not] at h3
        refine VC.seq ?_
        refine VC.region ?_
        refine V.move rfl rfl rfl ?_
        refine V.bin rfl rfl rfl rfl (bin_eql _ _ _) ?_
        refine V.assign rfl rfl rfl ?_
        refine V.nil ?_
        refine Post.nextC ?_
        refine VC.cond rfl (fun h4 => ?_) (fun h4 => ?_)
        · try simp only [decide_eq_true_eq, decide_eq_false_iff_not, Bool.not_eq_true', Bool.not_eq_false', Bool.not_eq_eq_eq_not, Bool.not_true, Bool.not_false, beq_iff_eq, beq_eq_false_iff_ne, ne_eq, Int.not_lt, Int.not_le, Option.isSome_some, Option.isNone_none, Option.isSome_none, Option.isNone_some, Classical.not_not] at h4
          refine VC.region ?_
          refine V.move rfl rfl rfl ?_
          apply V.call rfl rfl rfl (hc := c56 ho hl hf hM)
          · repeat' constructor
          rintro v2 Ho ⟨v1, c1, ho1, rfl⟩
          refine V.nil ?_
          refine Post.blockNormal (Post.nextC ?_)
          refine VC.seq ?_
          refine VC.region ?_
          refine V.assign rfl rfl rfl ?_
          refine V.nil ?_
          refine Post.nextC ?_
          refine VC.ret ?_
          apply Post.ret1 rfl rfl 
          · exact hfin s.ends 0 v1 c1 _ _ (step3 (by omega)) rfl rfl ho1
          · repeat' constructor
        · try simp only [decide_eq_true_eq, decide_eq_false_iff_not, Bool.not_eq_true', Bool.not_eq_false', Bool.not_eq_eq_eq_not, Bool.not_true, Bool.not_false, beq_iff_eq, beq_eq_false_iff_ne, ne_eq, Int.not_lt, Int.not_le, Option.isSome_some, Option.isNone_none, Option.isSome_none, Option.isNone_some, Classical.not_not] at h4
          refine VC.seq ?_
          refine VC.region ?_
          refine V.move rfl rfl rfl ?_
          apply V.call rfl rfl rfl (hc := c57)
          · repeat' constructor
          rintro v2 Ho ⟨rfl, rfl⟩
          refine V.assign rfl rfl rfl ?_
          refine V.nil ?_
          refine Post.nextC ?_
          refine VC.cond rfl (fun h5 => ?_) (fun h5 => ?_)
          · try simp only [decide_eq_true_eq, decide_eq_false_iff_not, Bool.not_eq_true', Bool.not_eq_false', Bool.not_eq_eq_eq_not, Bool.not_true, Bool.not_false, beq_iff_eq, beq_eq_false_iff_ne, ne_eq, Int.not_lt, Int.not_le, Option.isSome_some, Option.isNone_none, Option.isSome_none, Option.isNone_some, Classical.not_not] at h5
            refine VC.seq ?_
            refine VC.region ?_
            refine V.move rfl rfl rfl ?_
            refine V.nilCheck rfl rfl rfl ?_
            refine V.fieldAddr 0 9 rfl rfl rfl rfl rfl ?_
            apply V.loadL rfl rfl rfl rfl
            · repeat' constructor
            · repeat' constructor
            apply V.call rfl rfl rfl (hc := c54 (k := 58) (p := inName) (t := s.t) (fun c => c58) (by omega))
            · repeat' constructor
            rintro v2 Ho ⟨rfl, rfl⟩
            refine V.assign rfl rfl rfl ?_
            refine V.nil ?_
            refine Post.nextC ?_
            refine VC.seq ?_
            refine VC.seq ?_
            refine VC.region ?_
            refine V.move rfl rfl rfl ?_
            refine V.bin rfl rfl rfl rfl (bin_gtr _ _ _) ?_
            refine V.nil ?_
            refine Post.nextC ?_
            refine VC.cond rfl (fun h6 => ?_) (fun h6 => ?_)
            · try simp only [decide_eq_true_eq, decide_eq_false_iff_not, Bool.not_eq_true', Bool.not_eq_false', Bool.not_eq_eq_eq_not, Bool.not_true, Bool.not_false, beq_iff_eq, beq_eq_false_iff_ne, ne_eq, Int.not_lt, Int.not_le, Option.isSome_some, Option.isNone_none, Option.isSome_none, Option.isNone_some, Classical.not_not] at h6
              refine VC.seq ?_
              refine VC.region ?_
              refine V.assign rfl rfl rfl ?_
              refine V.nil ?_
              refine Post.nextC ?_
              refine VC.ret ?_
              refine Post.thenRet (Post.blockRet (Post.thenRet (?_)))
              apply Post.ret1 rfl rfl 
              · exact hfin s 4 v cT _ _ (by rw [step4 (by assumption), if_pos (by omega)]) rfl rfl ho
              · repeat' constructor
            · try simp only [decide_eq_true_eq, decide_eq_false_iff_not, Bool.not_eq_true', Bool.not_eq_false', Bool.not_eq_eq_eq_not, Bool.not_true, Bool.not_false, beq_iff_eq, beq_eq_false_iff_ne, ne_eq, Int.not_lt, Int.not_le, Option.isSome_some, Option.isNone_none, Option.isSome_none, Option.isNone_some, Classical.not_not] at h6
              refine VC.skip ?_
              refine Post.nextC ?_
              refine VC.region ?_
              refine V.move rfl rfl rfl ?_
              refine V.move rfl rfl rfl ?_
              apply V.call rfl rfl rfl (hc := c33 (sp := sp) (t := s.t) (line := s.line) (col := s.col) (any := s.any) (n := (s.t.takeWhile inName).length) (num := 0) (by decide) ho (by omega) (by omega) (by omega) (by omega))
              · repeat' constructor
              rintro v2 Ho ⟨v1, c1, ho1, rfl⟩
              refine V.nil ?_
              refine Post.blockNormal (Post.nextC ?_)
              refine VC.seq ?_
              refine VC.region ?_
              refine V.assign rfl rfl rfl ?_
              refine V.nil ?_
              refine Post.nextC ?_
              refine VC.ret ?_
              apply Post.ret1 rfl rfl 
              · exact hfin (s.tell 1 _ 0) 0 v1 c1 _ _ (by rw [step4 (by assumption), if_neg (by omega)]) rfl (by simp [Sc.tell]) ho1
              · repeat' constructor
          · try simp only [decide_eq_true_eq, decide_eq_false_iff_not, Bool.not_eq_true', Bool.not_eq_false', Bool.not_eq_eq_eq_not, Bool.not_true, Bool.not_false, beq_iff_eq, beq_eq_false_iff_ne, ne_eq, Int.not_lt, Int.not_le, Option.isSome_some, Option.isNone_none, Option.isSome_none, Option.isNone_some, Classical.not_not] at h5
            refine VC.seq ?_
            refine VC.region ?_
            refine V.move rfl rfl rfl ?_
            apply V.call rfl rfl rfl (hc := c59)
            · repeat' constructor
            rintro v2 Ho ⟨rfl, rfl⟩
            refine V.assign rfl rfl rfl ?_
            refine V.nil ?_
            refine Post.nextC ?_
            refine VC.cond rfl (fun h7 => ?_) (fun h7 => ?_)
            · try simp only [decide_eq_true_eq, decide_eq_false_iff_not, Bool.not_eq_true', Bool.not_eq_false', Bool.not_eq_eq_eq_not, Bool.not_true, Bool.not_false, beq_iff_eq, beq_eq_false_iff_ne, ne_eq, Int.not_lt, Int.not_le, Option.isSome_some, Option.isNone_none, Option.isSome_none, Option.isNone_some, Classical.not_not] at h7
              refine VC.seq ?_
              refine VC.region ?_
              refine V.move rfl rfl rfl ?_
              refine V.nilCheck rfl rfl rfl ?_
              refine V.fieldAddr 0 9 rfl rfl rfl rfl rfl ?_
              apply V.loadL rfl rfl rfl rfl
              · repeat' constructor
              · repeat' constructor
              apply V.call rfl rfl rfl (hc := c60 (t := s.t) (by omega))
              · repeat' constructor
              rintro v2 Ho ⟨rfl, rfl⟩
              refine V.move rfl rfl rfl ?_
              refine V.extract rfl rfl rfl rfl ?_
              refine V.extract rfl rfl rfl rfl ?_
              refine V.assign rfl rfl rfl ?_
              refine V.assign rfl rfl rfl ?_
              refine V.nil ?_
              refine Post.nextC ?_
              refine VC.seq ?_
              refine VC.seq ?_
              refine VC.region ?_
              refine V.move rfl rfl rfl ?_
              refine V.bin rfl rfl rfl rfl (bin_eql _ _ _) ?_
              refine V.nil ?_
              refine Post.nextC ?_
              refine VC.cond rfl (fun h8 => ?_) (fun h8 => ?_)
              · try simp only [decide_eq_true_eq, decide_eq_false_iff_not, Bool.not_eq_true', Bool.not_eq_false', Bool.not_eq_eq_eq_not, Bool.not_true, Bool.not_false, beq_iff_eq, beq_eq_false_iff_ne, ne_eq, Int.not_lt, Int.not_le, Option.isSome_some, Option.isNone_none, Option.isSome_none, Option.isNone_some, Classical.not_not] at h8
                refine VC.seq ?_
                refine VC.region ?_
                refine V.assign rfl rfl rfl ?_
                refine V.nil ?_
                refine Post.nextC ?_
                refine VC.ret ?_
                refine Post.thenRet (Post.blockRet (Post.thenRet (?_)))
                apply Post.ret1 rfl rfl 
                · exact hfin s 3 v cT _ _ (by rw [step5 (by assumption), if_pos (by omega)]) rfl rfl ho
                · repeat' constructor
              · try simp only [decide_eq_true_eq, decide_eq_false_iff_not, Bool.not_eq_true', Bool.not_eq_false', Bool.not_eq_eq_eq_not, Bool.not_true, Bool.not_false, beq_iff_eq, beq_eq_false_iff_ne, ne_eq, Int.not_lt, Int.not_le, Option.isSome_some, Option.isNone_none, Option.isSome_none, Option.isNone_some, Classical.not_not] at h8
                refine VC.skip ?_
                refine Post.nextC ?_
                refine VC.region ?_
                refine V.move rfl rfl rfl ?_
                refine V.move rfl rfl rfl ?_
                refine V.move rfl rfl rfl ?_
                apply V.call rfl rfl rfl (hc := c33 (sp := sp) (t := s.t) (line := s.line) (col := s.col) (any := s.any) (n := (numb s.t).1) (num := ((numb s.t).2 : Int)) (by decide) ho (by omega) (by omega) (by omega) (by omega))
                · repeat' constructor
                rintro v2 Ho ⟨v1, c1, ho1, rfl⟩
                refine V.nil ?_
                refine Post.blockNormal (Post.nextC ?_)
                refine VC.seq ?_
                refine VC.region ?_
                refine V.assign rfl rfl rfl ?_
                refine V.nil ?_
                refine Post.nextC ?_
                refine VC.ret ?_
                apply Post.ret1 rfl rfl 
                · exact hfin (s.tell 2 _ _) 0 v1 c1 _ _ (by rw [step5 (by assumption), if_neg (by omega)]) rfl (by simp [Sc.tell]) ho1
                · repeat' constructor
            · try simp only [decide_eq_true_eq, decide_eq_false_iff_not, Bool.not_eq_true', Bool.not_eq_false', Bool.not_eq_eq_eq_not, Bool.not_true, Bool.not_false, beq_iff_eq, beq_eq_false_iff_ne, ne_eq, Int.not_lt, Int.not_le, Option.isSome_some, Option.isNone_none, Option.isSome_none, Option.isNone_some, Classical.not_not] at h7
              refine VC.seq ?_
              refine VC.region ?_
              refine V.move rfl rfl rfl ?_
              apply V.call rfl rfl rfl (hc := c61 (t := [44, 58, 60, 62, 61, 40, 41]))
              · repeat' constructor
              rintro v2 Ho ⟨rfl, rfl⟩
              refine V.bin rfl rfl rfl rfl (bin_geq _ _ _) ?_
              refine V.assign rfl rfl rfl ?_
              refine V.nil ?_
              refine Post.nextC ?_
              refine VC.cond rfl (fun h9 => ?_) (fun h9 => ?_)
              · try simp only [decide_eq_true_eq, decide_eq_false_iff_not, Bool.not_eq_true', Bool.not_eq_false', Bool.not_eq_eq_eq_not, Bool.not_true, Bool.not_false, beq_iff_eq, beq_eq_false_iff_ne, ne_eq, Int.not_lt, Int.not_le, Option.isSome_some, Option.isNone_none, Option.isSome_none, Option.isNone_some, Classical.not_not] at h9
                refine VC.region ?_
                refine V.move rfl rfl rfl ?_
                apply V.call rfl rfl rfl (hc := c33 (sp := sp) (t := s.t) (line := s.line) (col := s.col) (any := s.any) (n := 1) (num := 0) (by decide) ho (by omega) (by omega) (by omega) (by omega))
                · repeat' constructor
                rintro v2 Ho ⟨v1, c1, ho1, rfl⟩
                refine V.nil ?_
                refine Post.blockNormal (Post.nextC ?_)
                refine VC.seq ?_
                refine VC.region ?_
                refine V.assign rfl rfl rfl ?_
                refine V.nil ?_
                refine Post.nextC ?_
                refine VC.ret ?_
                apply Post.ret1 rfl rfl 
                · exact hfin (s.tell 3 1 0) 0 v1 c1 _ _ (by rw [step6 (by omega) (by omega) (by omega) (by assumption) (by assumption), if_pos (by rw [← mark_ix]; simpa using by assumption)]) rfl (by simp [Sc.tell]) ho1
                · repeat' constructor
              · try simp only [decide_eq_true_eq, decide_eq_false_iff_not, Bool.not_eq_true', Bool.not_eq_false', Bool.not_eq_eq_eq_not, Bool.not_true, Bool.not_false, beq_iff_eq, beq_eq_false_iff_ne, ne_eq, Int.not_lt, Int.not_le, Option.isSome_some, Option.isNone_none, Option.isSome_none, Option.isNone_some, Classical.not_not] at h9
                refine VC.seq ?_
                refine VC.region ?_
                refine V.assign rfl rfl rfl ?_
                refine V.nil ?_
                refine Post.nextC ?_
                refine VC.ret ?_
                refine Post.blockRet (Post.thenRet (?_))
                apply Post.ret1 rfl rfl 
                · exact hfin s 3 v cT _ _ (by rw [step6 (by omega) (by omega) (by omega) (by assumption) (by assumption), if_neg (by rw [← mark_ix]; simp only [decide_eq_true_eq]; omega)]) rfl rfl ho
                · repeat' constructor

/-- the scanner goes on till the text's end, or an error -/
def Sc.go : Nat → Sc → Sc × Int
  | 0, s => (s, 0)
  | n + 1, s => match s.t with
    | [] => (s, 0)
    | c :: _ => if (s.step c).2 = 0 then Sc.go n (s.step c).1 else s.step c
theorem Sc.go_nil {s : Sc} (h : s.t = []) (n : Nat) : Sc.go n s = (s, 0) := by
  cases n <;> simp [Sc.go, h]
/-- the tokens of a text, or an error's number and place -/
def scan (t : List UInt8) : List Tok × Int × Int × Int :=
  if 65536 < t.length then ([], 2, 0, 0)
  else if (Sc.go t.length ⟨t, 1, 1, false, []⟩).2 ≠ 0 then ([], (Sc.go t.length ⟨t, 1, 1, false, []⟩).2, (Sc.go t.length ⟨t, 1, 1, false, []⟩).1.line, (Sc.go t.length ⟨t, 1, 1, false, []⟩).1.col)
  else (if (Sc.go t.length ⟨t, 1, 1, false, []⟩).1.any then (Sc.go t.length ⟨t, 1, 1, false, []⟩).1.l ++ [⟨4, [], 0, (Sc.go t.length ⟨t, 1, 1, false, []⟩).1.line, (Sc.go t.length ⟨t, 1, 1, false, []⟩).1.col⟩] else (Sc.go t.length ⟨t, 1, 1, false, []⟩).1.l, 0, 0, 0)
/-- a loop's round of the scanner -/
structure ScI (t : List UInt8) (s : Sc) (v : Value) (c : Chunk) : Prop where
  own : Own 41 5 c v s.l.length (toks s.l)
  fits : s.fits t.length
  go : Sc.go t.length ⟨t, 1, 1, false, []⟩ = Sc.go s.t.length s
theorem ScI.start (t : List UInt8) : ScI t ⟨t, 1, 1, false, []⟩ (.slice none 0 0) [] :=
  ⟨Own.nil _ _, by simp only [Sc.fits, List.length_nil]; omega, rfl⟩
theorem ScI.next {t : List UInt8} {s : Sc} {v v' : Value} {c c' : Chunk} {a : UInt8} {r : List UInt8} (h : ScI t s v c) (ht : s.t = a :: r) (h0 : (s.step a).2 = 0) (ho : Own 41 5 c' v' (s.step a).1.l.length (toks (s.step a).1.l)) : ScI t (s.step a).1 v' c' ∧ (s.step a).1.t.length < s.t.length := by
  obtain ⟨h1, h2⟩ := Sc.step_fits ht h.fits h0
  refine ⟨⟨ho, h1, ?_⟩, h2⟩
  have more : ∀ (n m : Nat) (s : Sc), s.t.length ≤ n → n ≤ m → s.fits t.length → Sc.go m s = Sc.go n s := by
    intro n
    induction n with
    | zero => intro m s hn hm _; rw [Sc.go_nil (List.eq_nil_of_length_eq_zero (by omega)), Sc.go_nil (List.eq_nil_of_length_eq_zero (by omega))]
    | succ n ih =>
      intro m s hn hm hf
      obtain ⟨m, rfl⟩ : ∃ k, m = k + 1 := ⟨m - 1, by omega⟩
      simp only [Sc.go]
      split
      · rfl
      · rename_i c r he
        split
        · rename_i h0
          obtain ⟨h3, h4⟩ := Sc.step_fits he hf h0
          exact ih m _ (by omega) (by omega) h3
        · rfl
  rw [h.go]
  obtain ⟨n, hn⟩ : ∃ n, s.t.length = n + 1 := ⟨r.length, by simp [ht]⟩
  rw [hn]
  simp only [Sc.go, ht]
  rw [if_pos h0]
  exact more _ _ _ (Nat.le_refl _) (by omega) h1
theorem ScI.bad {t : List UInt8} {s : Sc} {v : Value} {c : Chunk} {a : UInt8} {r : List UInt8} (h : ScI t s v c) (ht : s.t = a :: r) (h0 : (s.step a).2 ≠ 0) (hl : t.length ≤ 65536) : scan t = ([], (s.step a).2, (s.step a).1.line, (s.step a).1.col) := by
  have e : Sc.go t.length ⟨t, 1, 1, false, []⟩ = s.step a := by
    rw [h.go]
    obtain ⟨n, hn⟩ : ∃ n, s.t.length = n + 1 := ⟨r.length, by simp [ht]⟩
    rw [hn]
    simp only [Sc.go, ht]
    rw [if_neg h0]
  unfold scan
  rw [if_neg (by omega), e, if_pos h0]
theorem ScI.done {t : List UInt8} {s : Sc} {v : Value} {c : Chunk} (h : ScI t s v c) (ht : s.t = []) (hl : t.length ≤ 65536) : scan t = (if s.any then s.l ++ [⟨4, [], 0, s.line, s.col⟩] else s.l, 0, 0, 0) := by
  have e : Sc.go t.length ⟨t, 1, 1, false, []⟩ = (s, 0) := by rw [h.go, Sc.go_nil ht]
  unfold scan
  rw [if_neg (by omega), e]
  simp
/-- a fault's cells -/
abbrev fau (r : Int × Int × Int) : Value := .agg #[.int .i64 r.1, .int .i64 r.2.1, .int .i64 r.2.2]
theorem scan_big {t : List UInt8} (h : 65536 < t.length) : scan t = ([], 2, 0, 0) := by
  unfold scan
  rw [if_pos h]

theorem c15 {w0 : World} {t : List UInt8} : CtR Pg w0 15 #[st t] [] (fun u H => ∃ v1 c1, Own 41 5 c1 v1 (scan t).1.length (toks (scan t).1) ∧ u = .tuple #[v1, fau (scan t).2] ∧ H = [c1]) := by
  refine Ct.of_body Go.Proofs.Tryd.func15 rfl 43 rfl rfl (fun R => ?_)
  refine VC.seq ?_
  refine VC.region ?_
  refine V.assign rfl rfl rfl ?_
  refine V.alloc (l := [.int .i64 0, .int .i64 0, .int .i64 0]) rfl rfl rfl (fun b1 => ?_)
  refine V.nil ?_
  refine Post.nextC ?_
  refine VC.seq ?_
  refine VC.seq ?_
  refine VC.region ?_
  refine V.move rfl rfl rfl ?_
  refine V.lenSt rfl rfl rfl ?_
  refine V.bin rfl rfl rfl rfl (bin_gtr _ _ _) ?_
  refine V.nil ?_
  refine Post.nextC ?_
  refine VC.cond rfl (fun h1 => ?_) (fun h1 => ?_)
  · try simp only [decide_eq_true_eq, decide_eq_false_iff_not, Bool.not_eq_true', Bool.not_eq_false', Bool.not_eq_eq_eq_not, Bool.not_true, Bool.not_false, beq_iff_eq, beq_eq_false_iff_ne, ne_eq, Int.not_lt, Int.not_le, Option.isSome_some, Option.isNone_none, Option.isSome_none, Option.isNone_some, Classical.not_not] at h1
    refine VC.seq ?_
    refine VC.region ?_
    refine V.buildS [(0, _)] (l := [_, .int .i64 0, .int .i64 0]) rfl rfl rfl rfl rfl ?_
    refine V.assign rfl rfl rfl ?_
    apply V.storeAll rfl rfl rfl rfl
    · repeat' constructor
    · exact rfl
    · exact rfl
    refine V.nil ?_
    refine Post.nextC ?_
    refine VC.ret ?_
    refine Post.thenRet (?_)
    apply Post.retV2 rfl (.tmp rfl) (.all rfl rfl (by repeat' constructor) (by exact rfl))
    · exact ⟨.slice none 0 0, [], by rw [scan_big (by omega)]; exact Own.nil _ _, by rw [scan_big (by omega)] <;> rfl, rfl⟩
    · repeat' constructor
  · try simp only [decide_eq_true_eq, decide_eq_false_iff_not, Bool.not_eq_true', Bool.not_eq_false', Bool.not_eq_eq_eq_not, Bool.not_true, Bool.not_false, beq_iff_eq, beq_eq_false_iff_ne, ne_eq, Int.not_lt, Int.not_le, Option.isSome_some, Option.isNone_none, Option.isSome_none, Option.isNone_some, Classical.not_not] at h1
    refine VC.skip ?_
    refine Post.nextC ?_
    refine VC.seq ?_
    refine VC.region ?_
    refine V.move rfl rfl rfl ?_
    refine V.buildS [(0, _), (1, _), (2, _)] (l := [_, _, _, .slice none 0 0, .bool false]) rfl rfl rfl rfl rfl ?_
    refine V.box rfl rfl rfl rfl (fun b2 => ?_)
    refine V.assign rfl rfl rfl ?_
    refine V.nil ?_
    refine Post.nextC ?_
    refine VC.seq ?_
    refine VC.block ?_
    refine VC.loop (σ := Sc × Value × Chunk) (fun x => [(0, st t), (3, .pointer (some ⟨b1, 0, none⟩)), (4, .pointer (some ⟨b2, 0, none⟩))]) (fun x => scB b2 x.1.t x.1.line x.1.col x.2.1 x.1.any :: x.2.2 :: [(b1, .cells #[.int .i64 0, .int .i64 0, .int .i64 0] 25 (0, 0))] :: R) (fun x => ScI t x.1 x.2.1 x.2.2) (fun x => x.1.t.length) (⟨t, 1, 1, false, []⟩, .slice none 0 0, []) (ScI.start t) ?_ ?_ ?_
    · exact ⟨rfl, rfl, rfl, trivial⟩
    · repeat' constructor
    rintro ⟨s, v, c⟩ (hI : ScI t s v c)
    obtain ⟨f1, f2, f3, f4, f5⟩ := hI.fits
    refine VC.seq ?_
    refine VC.seq ?_
    refine VC.region ?_
    refine V.move rfl rfl rfl ?_
    refine V.nilCheck rfl rfl rfl ?_
    refine V.fieldAddr 0 9 rfl rfl rfl rfl rfl ?_
    apply V.loadL rfl rfl rfl rfl
    · repeat' constructor
    · repeat' constructor
    refine V.bin rfl rfl rfl rfl (bin_stneq _ _) ?_
    refine V.nil ?_
    refine Post.nextC ?_
    refine VC.cond rfl (fun h2 => ?_) (fun h2 => ?_)
    · try simp only [decide_eq_true_eq, decide_eq_false_iff_not, Bool.not_eq_true', Bool.not_eq_false', Bool.not_eq_eq_eq_not, Bool.not_true, Bool.not_false, beq_iff_eq, beq_eq_false_iff_ne, ne_eq, Int.not_lt, Int.not_le, Option.isSome_some, Option.isNone_none, Option.isSome_none, Option.isNone_some, Classical.not_not] at h2
      refine VC.skip ?_
      refine Post.nextC ?_
      refine VC.block ?_
      refine VC.seq ?_
      refine VC.region ?_
      refine V.move rfl rfl rfl ?_
      obtain ⟨a, r, ha⟩ : ∃ a r, s.t = a :: r := by
        cases he : s.t with
        | nil => exact absurd he (by assumption)
        | cons a r => exact ⟨a, r, rfl⟩
      apply V.call rfl rfl rfl (hc := c32 (s := s) (v := v) (cT := c) hI.own ha hI.fits (by omega))
      · repeat' constructor
      rintro v2 Ho ⟨rfl, v1, c1, ho1, rfl⟩
      refine V.assign rfl rfl rfl ?_
      refine V.nil ?_
      refine Post.nextC ?_
      refine VC.seq ?_
      refine VC.region ?_
      refine V.move rfl rfl rfl ?_
      refine V.bin rfl rfl rfl rfl (bin_neq _ _ _) ?_
      refine V.nil ?_
      refine Post.nextC ?_
      refine VC.cond rfl (fun h3 => ?_) (fun h3 => ?_)
      · try simp only [decide_eq_true_eq, decide_eq_false_iff_not, Bool.not_eq_true', Bool.not_eq_false', Bool.not_eq_eq_eq_not, Bool.not_true, Bool.not_false, beq_iff_eq, beq_eq_false_iff_ne, ne_eq, Int.not_lt, Int.not_le, Option.isSome_some, Option.isNone_none, Option.isSome_none, Option.isNone_some, Classical.not_not] at h3
        refine VC.seq ?_
        refine VC.drawTail 11 mixed (by kernel_rfl) ?_
        refine V.move rfl rfl rfl ?_
        refine V.move rfl rfl rfl ?_
        refine V.nilCheck rfl rfl rfl ?_
        refine V.fieldAddr 1 3 rfl rfl rfl rfl rfl ?_
        apply V.loadL rfl rfl rfl rfl
        · repeat' constructor
        · repeat' constructor
        refine V.move rfl rfl rfl ?_
        refine V.nilCheck rfl rfl rfl ?_
        refine V.fieldAddr 2 3 rfl rfl rfl rfl rfl ?_
        apply V.loadL rfl rfl rfl rfl
        · repeat' constructor
        · repeat' constructor
        refine V.buildS [(0, _), (1, _), (2, _)] (l := [_, _, _]) rfl rfl rfl rfl rfl ?_
        refine V.assign rfl rfl rfl ?_
        refine V.nil ?_
        refine Post.tail ?_
        apply V.storeAll rfl rfl rfl rfl
        · repeat' constructor
        · exact rfl
        · exact rfl
        refine V.nil ?_
        refine Post.nextC ?_
        refine VC.ret ?_
        refine Post.blockRet (Post.thenRet (Post.blockRet (Post.thenRet (?_))))
        apply Post.retV2 rfl (.tmp rfl) (.all rfl rfl (by repeat' constructor) (by exact rfl))
        · exact ⟨.slice none 0 0, [], by rw [hI.bad ha (by assumption) (by omega)]; exact Own.nil _ _, by rw [hI.bad ha (by assumption) (by omega)] <;> rfl, rfl⟩
        · repeat' constructor
      · try simp only [decide_eq_true_eq, decide_eq_false_iff_not, Bool.not_eq_true', Bool.not_eq_false', Bool.not_eq_eq_eq_not, Bool.not_true, Bool.not_false, beq_iff_eq, beq_eq_false_iff_ne, ne_eq, Int.not_lt, Int.not_le, Option.isSome_some, Option.isNone_none, Option.isSome_none, Option.isNone_some, Classical.not_not] at h3
        refine VC.skip ?_
        refine Post.blockNormal (Post.round ((s.step a).1, v1, c1) ?_ ?_ ?_ ?_)
        · exact (hI.next ha (by assumption) ho1).1
        · exact (hI.next ha (by assumption) ho1).2
        · exact ⟨rfl, rfl, rfl, trivial⟩
        · repeat' constructor
    · try simp only [decide_eq_true_eq, decide_eq_false_iff_not, Bool.not_eq_true', Bool.not_eq_false', Bool.not_eq_eq_eq_not, Bool.not_true, Bool.not_false, beq_iff_eq, beq_eq_false_iff_ne, ne_eq, Int.not_lt, Int.not_le, Option.isSome_some, Option.isNone_none, Option.isSome_none, Option.isNone_some, Classical.not_not] at h2
      refine VC.exit ?_
      refine Post.thenExit (Post.thenExit (Post.blockHit (Post.nextC ?_)))
      refine VC.seq ?_
      refine VC.seq ?_
      refine VC.region ?_
      refine V.move rfl rfl rfl ?_
      refine V.nilCheck rfl rfl rfl ?_
      refine V.fieldAddr 4 4 rfl rfl rfl rfl rfl ?_
      apply V.loadL rfl rfl rfl rfl
      · repeat' constructor
      · repeat' constructor
      refine V.nil ?_
      refine Post.nextC ?_
      refine VC.cond rfl (fun h4 => ?_) (fun h4 => ?_)
      · try simp only [decide_eq_true_eq, decide_eq_false_iff_not, Bool.not_eq_true', Bool.not_eq_false', Bool.not_eq_eq_eq_not, Bool.not_true, Bool.not_false, beq_iff_eq, beq_eq_false_iff_ne, ne_eq, Int.not_lt, Int.not_le, Option.isSome_some, Option.isNone_none, Option.isSome_none, Option.isNone_some, Classical.not_not] at h4
        refine VC.region ?_
        refine V.move rfl rfl rfl ?_
        apply V.call rfl rfl rfl (hc := c33l (sp := b2) (t := s.t) (line := s.line) (col := s.col) (any := s.any) (kind := 4) (n := 0) (num := 0) rfl hI.own (by omega) (by omega) (by omega) (by omega))
        · repeat' constructor
        rintro v2 Ho ⟨v1, c1, ho1, rfl⟩
        refine V.nil ?_
        refine Post.nextC ?_
        refine VC.seq ?_
        refine VC.region ?_
        refine V.move rfl rfl rfl ?_
        refine V.nilCheck rfl rfl rfl ?_
        refine V.fieldAddr 3 37 rfl rfl rfl rfl rfl ?_
        apply V.loadL rfl rfl rfl rfl
        · repeat' constructor
        · repeat' constructor
        refine V.buildS [] (l := [.int .i64 0, .int .i64 0, .int .i64 0]) rfl rfl rfl rfl rfl ?_
        refine V.assign rfl rfl rfl ?_
        apply V.storeAll rfl rfl rfl rfl
        · repeat' constructor
        · exact rfl
        · exact rfl
        refine V.nil ?_
        refine Post.nextC ?_
        refine VC.ret ?_
        apply Post.retV2 rfl (.tmp rfl) (.all rfl rfl (by repeat' constructor) (by exact rfl))
        · have hany : s.any = true := by assumption
          exact ⟨v1, c1, by rw [hI.done (by assumption) (by omega), hany]; simpa using ho1, by rw [hI.done (by assumption) (by omega)] <;> rfl, rfl⟩
        · repeat' constructor
      · try simp only [decide_eq_true_eq, decide_eq_false_iff_not, Bool.not_eq_true', Bool.not_eq_false', Bool.not_eq_eq_eq_not, Bool.not_true, Bool.not_false, beq_iff_eq, beq_eq_false_iff_ne, ne_eq, Int.not_lt, Int.not_le, Option.isSome_some, Option.isNone_none, Option.isSome_none, Option.isNone_some, Classical.not_not] at h4
        refine VC.skip ?_
        refine Post.nextC ?_
        refine VC.seq ?_
        refine VC.region ?_
        refine V.move rfl rfl rfl ?_
        refine V.nilCheck rfl rfl rfl ?_
        refine V.fieldAddr 3 37 rfl rfl rfl rfl rfl ?_
        apply V.loadL rfl rfl rfl rfl
        · repeat' constructor
        · repeat' constructor
        refine V.buildS [] (l := [.int .i64 0, .int .i64 0, .int .i64 0]) rfl rfl rfl rfl rfl ?_
        refine V.assign rfl rfl rfl ?_
        apply V.storeAll rfl rfl rfl rfl
        · repeat' constructor
        · exact rfl
        · exact rfl
        refine V.nil ?_
        refine Post.nextC ?_
        refine VC.ret ?_
        apply Post.retV2 rfl (.tmp rfl) (.all rfl rfl (by repeat' constructor) (by exact rfl))
        · have hany : s.any = false := by assumption
          exact ⟨v, c, by rw [hI.done (by assumption) (by omega), hany]; exact hI.own, by rw [hI.done (by assumption) (by omega)] <;> rfl, rfl⟩
        · repeat' constructor

end Go.Proofs.Ln
