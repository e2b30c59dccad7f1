/- Contracts of functions of the given program, each proved by walking its code: part of the proof of this claim; no condition beyond those that each theorem names. -/
import Derived.Test.YtfclhhhnngkdlaaDoorLnItoa
set_option linter.unusedVariables false
set_option linter.unusedSimpArgs false
namespace Go.Proofs.Ln
open Go Go.RowKit Go.Proofs.Eng
theorem dec_big {n : Nat} (h : ¬ n < 10) : Lib.decDigits n = Lib.decDigits (n / 10) ++ [UInt8.ofNat (48 + n % 10)] := by rw [Lib.decDigits, dif_neg h]
theorem dec_len (n : Nat) (h : n < 18446744073709551616) : (Lib.decDigits n).length ≤ 20 := by
  rw [Lib.decDigits_length]
  rcases Nat.eq_zero_or_pos n with h0 | h1
  · subst h0; rw [Lib.nDigits_small (by omega)]; omega
  · obtain ⟨n1, n2⟩ := Lib.numDigits_eq n h1 h
    rw [← n1]
    split <;> omega

theorem c31 {w0 : World} (n : Nat) (hn : n < 18446744073709551616) : CtR Pg w0 31 #[.int .u64 (n : Int)] [] (fun r H => r = st (Lib.decDigits n) ∧ H = []) := by
  induction n using Nat.strongRecOn with
  | _ n ih =>
  refine Ct.of_body Go.Proofs.Tryd.func31 rfl 20 rfl rfl (fun R => ?_)
  refine VC.seq ?_
  refine VC.region ?_
  refine V.assign rfl rfl rfl ?_
  refine V.nil ?_
  refine Post.nextC ?_
  refine VC.seq ?_
  refine VC.seq ?_
  refine VC.region ?_
  refine V.move rfl rfl rfl ?_
  refine V.bin rfl rfl rfl rfl (bin_lss _ _ _) ?_
  refine V.nil ?_
  refine Post.nextC ?_
  refine VC.cond rfl (fun h1 => ?_) (fun h1 => ?_)
  · try simp only [decide_eq_true_eq, decide_eq_false_iff_not, Bool.not_eq_true', Bool.not_eq_false', Bool.not_eq_eq_eq_not, Bool.not_true, Bool.not_false, beq_iff_eq, beq_eq_false_iff_ne, ne_eq, Int.not_lt, Int.not_le, Option.isSome_some, Option.isNone_none, Option.isSome_none, Option.isNone_some, Classical.not_not] at h1
    refine VC.seq ?_
    refine VC.region ?_
    refine V.move rfl rfl rfl ?_
    refine V.bin rfl rfl rfl rfl (bin_addN .u64 48 _ (IntWalk.u64_in _ (by omega))) ?_
    refine V.conv _ rfl rfl rfl (IntWalk.u8_in _ (by omega)) ?_
    rw [byv_ofNat (show 48 + n < 256 by omega)]
    refine V.buildSlice1 (l := [byv (UInt8.ofNat (48 + n))]) rfl rfl rfl rfl rfl rfl rfl (fun b1 => ?_)
    apply V.str (l := [UInt8.ofNat (48 + n)]) rfl rfl rfl
    · right; repeat' constructor
    · exact Rd.block _ _ _ _ [byv (UInt8.ofNat (48 + n))] rfl (by omega)
    refine V.assign rfl rfl rfl ?_
    refine V.nil ?_
    refine Post.nextC ?_
    refine VC.ret ?_
    refine Post.thenRet (?_)
    apply Post.ret1 rfl rfl 
    · exact ⟨by rw [Lib.decDigits_one (by omega)], rfl⟩
    · repeat' constructor
  · try simp only [decide_eq_true_eq, decide_eq_false_iff_not, Bool.not_eq_true', Bool.not_eq_false', Bool.not_eq_eq_eq_not, Bool.not_true, Bool.not_false, beq_iff_eq, beq_eq_false_iff_ne, ne_eq, Int.not_lt, Int.not_le, Option.isSome_some, Option.isNone_none, Option.isSome_none, Option.isNone_some, Classical.not_not] at h1
    refine VC.skip ?_
    refine Post.nextC ?_
    refine VC.seq ?_
    refine VC.any ([]) 11 11 mixed rfl ?_
    refine VA.take 0 rfl (by kernel_rfl) (by kernel_rfl) rfl (by kernel_rfl) (by kernel_rfl) (by repeat' constructor) ?_
    refine V.move rfl rfl rfl ?_
    refine V.nil ?_
    refine Post.took ?_
    refine VA.take 1 rfl (by kernel_rfl) (by kernel_rfl) rfl (by kernel_rfl) (by kernel_rfl) (by repeat' constructor) ?_
    refine V.bin rfl rfl rfl rfl (bin_quoN .u64 _ 10 (by omega) (IntWalk.u64_in _ (by omega))) ?_
    refine V.nil ?_
    refine Post.took ?_
    refine VA.take 3 rfl (by kernel_rfl) (by kernel_rfl) rfl (by kernel_rfl) (by kernel_rfl) (by repeat' constructor) ?_
    refine V.move rfl rfl rfl ?_
    refine V.nil ?_
    refine Post.took ?_
    refine VA.take 4 rfl (by kernel_rfl) (by kernel_rfl) rfl (by kernel_rfl) (by kernel_rfl) (by repeat' constructor) ?_
    refine V.bin rfl rfl rfl rfl (bin_remN .u64 _ 10 (by omega)) ?_
    refine V.nil ?_
    refine Post.took ?_
    refine VA.take 5 rfl (by kernel_rfl) (by kernel_rfl) rfl (by kernel_rfl) (by kernel_rfl) (by repeat' constructor) ?_
    refine V.bin rfl rfl rfl rfl (bin_addN .u64 48 _ (IntWalk.u64_in _ (by omega))) ?_
    refine V.nil ?_
    refine Post.took ?_
    refine VA.take 6 rfl (by kernel_rfl) (by kernel_rfl) rfl (by kernel_rfl) (by kernel_rfl) (by repeat' constructor) ?_
    refine V.conv _ rfl rfl rfl (IntWalk.u8_in _ (by omega)) ?_
    rw [byv_ofNat (show 48 + n % 10 < 256 by omega)]
    refine V.nil ?_
    refine Post.took ?_
    refine VA.two 2 7 (by kernel_rfl) rfl rfl ?_ ?_
    ·
      apply V.call rfl rfl rfl (hc := ih (n / 10) (by omega) (by omega))
      · repeat' constructor
      rintro vq Ho ⟨rfl, rfl⟩
      refine V.nil ?_
      refine Post.came (by repeat' constructor) ?_
      refine VA.one 7 (by kernel_rfl) rfl ?_
      refine V.buildSlice1 (l := [byv (UInt8.ofNat (48 + n % 10))]) rfl rfl rfl rfl rfl rfl rfl (fun b2 => ?_)
      refine V.nil ?_
      refine Post.came (by repeat' constructor) ?_
      refine VA.one 8 (by kernel_rfl) rfl ?_
      apply V.str (l := [UInt8.ofNat (48 + n % 10)]) rfl rfl rfl
      · right; repeat' constructor
      · exact Rd.block _ _ _ _ [byv (UInt8.ofNat (48 + n % 10))] rfl (by omega)
      refine V.nil ?_
      refine Post.came (by repeat' constructor) ?_
      refine VA.take 9 rfl (by kernel_rfl) (by kernel_rfl) rfl (by kernel_rfl) (by kernel_rfl) (by repeat' constructor) ?_
      refine V.bin rfl rfl rfl rfl (bin_stadd _ _ (by have := dec_len (n / 10) (by omega); simp only [List.length_cons, List.length_nil]; omega)) ?_
      refine V.nil ?_
      refine Post.took ?_
      refine VA.take 10 rfl (by kernel_rfl) (by kernel_rfl) rfl (by kernel_rfl) (by kernel_rfl) (by repeat' constructor) ?_
      refine V.assign rfl rfl rfl ?_
      refine V.nil ?_
      refine Post.took ?_
      refine VA.done (by kernel_rfl) ?_
      refine Post.nextC ?_
      refine VC.ret ?_
      apply Post.ret1 rfl rfl 
      · exact ⟨by rw [dec_big (n := n) (by omega)], rfl⟩
      · repeat' constructor
    ·
      refine V.buildSlice1 (l := [byv (UInt8.ofNat (48 + n % 10))]) rfl rfl rfl rfl rfl rfl rfl (fun b2 => ?_)
      refine V.nil ?_
      refine Post.came (by repeat' constructor) ?_
      refine VA.two 2 8 (by kernel_rfl) rfl rfl ?_ ?_
      ·
        apply V.call rfl rfl rfl (hc := ih (n / 10) (by omega) (by omega))
        · repeat' constructor
        rintro vq Ho ⟨rfl, rfl⟩
        refine V.nil ?_
        refine Post.came (by repeat' constructor) ?_
        refine VA.one 8 (by kernel_rfl) rfl ?_
        apply V.str (l := [UInt8.ofNat (48 + n % 10)]) rfl rfl rfl
        · right; repeat' constructor
        · exact Rd.block _ _ _ _ [byv (UInt8.ofNat (48 + n % 10))] rfl (by omega)
        refine V.nil ?_
        refine Post.came (by repeat' constructor) ?_
        refine VA.take 9 rfl (by kernel_rfl) (by kernel_rfl) rfl (by kernel_rfl) (by kernel_rfl) (by repeat' constructor) ?_
        refine V.bin rfl rfl rfl rfl (bin_stadd _ _ (by have := dec_len (n / 10) (by omega); simp only [List.length_cons, List.length_nil]; omega)) ?_
        refine V.nil ?_
        refine Post.took ?_
        refine VA.take 10 rfl (by kernel_rfl) (by kernel_rfl) rfl (by kernel_rfl) (by kernel_rfl) (by repeat' constructor) ?_
        refine V.assign rfl rfl rfl ?_
        refine V.nil ?_
        refine Post.took ?_
        refine VA.done (by kernel_rfl) ?_
        refine Post.nextC ?_
        refine VC.ret ?_
        apply Post.ret1 rfl rfl 
        · exact ⟨by rw [dec_big (n := n) (by omega)], rfl⟩
        · repeat' constructor
      ·
        apply V.str (l := [UInt8.ofNat (48 + n % 10)]) rfl rfl rfl
        · right; repeat' constructor
        · exact Rd.block _ _ _ _ [byv (UInt8.ofNat (48 + n % 10))] rfl (by omega)
        refine V.nil ?_
        refine Post.came (by repeat' constructor) ?_
        refine VA.one 2 (by kernel_rfl) rfl ?_
        apply V.call rfl rfl rfl (hc := ih (n / 10) (by omega) (by omega))
        · repeat' constructor
        rintro vq Ho ⟨rfl, rfl⟩
        refine V.nil ?_
        refine Post.came (by repeat' constructor) ?_
        refine VA.take 9 rfl (by kernel_rfl) (by kernel_rfl) rfl (by kernel_rfl) (by kernel_rfl) (by repeat' constructor) ?_
        refine V.bin rfl rfl rfl rfl (bin_stadd _ _ (by have := dec_len (n / 10) (by omega); simp only [List.length_cons, List.length_nil]; omega)) ?_
        refine V.nil ?_
        refine Post.took ?_
        refine VA.take 10 rfl (by kernel_rfl) (by kernel_rfl) rfl (by kernel_rfl) (by kernel_rfl) (by repeat' constructor) ?_
        refine V.assign rfl rfl rfl ?_
        refine V.nil ?_
        refine Post.took ?_
        refine VA.done (by kernel_rfl) ?_
        refine Post.nextC ?_
        refine VC.ret ?_
        apply Post.ret1 rfl rfl 
        · exact ⟨by rw [dec_big (n := n) (by omega)], rfl⟩
        · repeat' constructor

theorem c14 {w0 : World} {e n : Int} {lines : List (List UInt8)} {v : Value} {C : Chunk} (hi : -9223372036854775808 ≤ n ∧ n ≤ 9223372036854775807) (hr : Rd w0 C 1 v lines.length (lines.map st)) (hsz : (answerOf 0 (Lib.itoa n) lines).length ≤ 140737488355328) : CtR Pg w0 14 #[.agg #[.int .i64 e, .int .i64 n, v]] [C] (fun u H => u = st (answerOf e (Lib.itoa n) lines) ∧ H = [C]) := by
  obtain ⟨ad, cp, rfl, hl1, hl2, _⟩ := id hr
  simp only [maxLen] at hl2
  have hpre : ∀ k, (([111, 107, 32] ++ Lib.itoa n ++ [10] : List UInt8) ++ (lines.take k).flatMap fun l => [124, 32] ++ l ++ [10]).length ≤ 140737488355328 := fun k => by
    refine Nat.le_trans ?_ hsz
    unfold answerOf
    rw [if_neg (by simp)]
    generalize ([111, 107, 32] ++ Lib.itoa n ++ [10] : List UInt8) = P
    rw [List.length_append, List.length_append]
    refine Nat.add_le_add_left ?_ _
    conv => rhs; rw [← List.take_append_drop k lines, List.flatMap_append, List.length_append]
    exact Nat.le_add_right _ _
  have hew : (errWord e).length ≤ 1000 := by
    unfold errWord
    cases hf : errs.find? (fun p => decide (p.1 = e)) with
    | none => decide
    | some p =>
      have hm := List.mem_of_find?_eq_some hf
      have hall : ∀ p ∈ errs, p.2.length ≤ 1000 := by decide
      exact hall p hm
  refine Ct.of_body Go.Proofs.Tryd.func14 rfl 52 rfl rfl (fun R => ?_)
  refine VC.seq ?_
  refine VC.region ?_
  refine V.box rfl rfl rfl rfl (fun b1 => ?_)
  refine V.assign rfl rfl rfl ?_
  refine V.nil ?_
  refine Post.nextC ?_
  refine VC.seq ?_
  refine VC.region ?_
  refine V.buildSlice1 (l := [byv 10]) rfl rfl rfl rfl rfl rfl rfl (fun b2 => ?_)
  apply V.str (l := [10]) rfl rfl rfl
  · right; repeat' constructor
  · exact Rd.block _ _ _ _ [byv (10)] rfl (by omega)
  refine V.assign rfl rfl rfl ?_
  refine V.nil ?_
  refine Post.nextC ?_
  refine VC.seq ?_
  refine VC.seq ?_
  refine VC.region ?_
  refine V.fieldAddr 0 23 rfl rfl rfl rfl rfl ?_
  apply V.loadL rfl rfl rfl rfl
  · repeat' constructor
  · repeat' constructor
  refine V.bin rfl rfl rfl rfl (bin_neq _ _ _) ?_
  refine V.nil ?_
  refine Post.nextC ?_
  refine VC.cond rfl (fun h1 => ?_) (fun h1 => ?_)
  · try simp only [decide_eq_true_eq, decide_eq_false_iff_not, Bool.not_eq_true', Bool.not_eq_false', Bool.not_eq_eq_eq_not, Bool.not_true, Bool.not_false, beq_iff_eq, beq_eq_false_iff_ne, ne_eq, Int.not_lt, Int.not_le, Option.isSome_some, Option.isNone_none, Option.isSome_none, Option.isNone_some, Classical.not_not] at h1
    refine VC.seq ?_
    refine VC.region ?_
    refine V.fieldAddr 0 23 rfl rfl rfl rfl rfl ?_
    apply V.loadL rfl rfl rfl rfl
    · repeat' constructor
    · repeat' constructor
    apply V.call rfl rfl rfl (hc := c27 (e := e))
    · repeat' constructor
    rintro vq Ho ⟨rfl, rfl⟩
    refine V.bin rfl rfl rfl rfl (bin_stadd _ _ (by first | omega | (simp only [List.length_append, List.length_cons, List.length_nil]; omega))) ?_
    refine V.move rfl rfl rfl ?_
    refine V.bin rfl rfl rfl rfl (bin_stadd _ _ (by first | omega | (simp only [List.length_append, List.length_cons, List.length_nil]; omega))) ?_
    refine V.assign rfl rfl rfl ?_
    refine V.nil ?_
    refine Post.nextC ?_
    refine VC.ret ?_
    refine Post.thenRet (?_)
    apply Post.ret1 rfl rfl 
    · have he : ¬ e = 0 := by assumption
      exact ⟨by rw [answerOf, if_pos he], rfl⟩
    · repeat' constructor
  · try simp only [decide_eq_true_eq, decide_eq_false_iff_not, Bool.not_eq_true', Bool.not_eq_false', Bool.not_eq_eq_eq_not, Bool.not_true, Bool.not_false, beq_iff_eq, beq_eq_false_iff_ne, ne_eq, Int.not_lt, Int.not_le, Option.isSome_some, Option.isNone_none, Option.isSome_none, Option.isNone_some, Classical.not_not] at h1
    refine VC.skip ?_
    refine Post.nextC ?_
    refine VC.seq ?_
    refine VC.region ?_
    refine V.assign rfl rfl rfl ?_
    refine V.nil ?_
    refine Post.nextC ?_
    refine VC.seq ?_
    refine VC.region ?_
    rcases int_cases n with ⟨u, rfl⟩ | ⟨u, hu1, rfl⟩
    ·
      refine V.fieldAddr 1 3 rfl rfl rfl rfl rfl ?_
      apply V.loadL rfl rfl rfl rfl
      · repeat' constructor
      · repeat' constructor
      rw [Lib.itoa_nonneg] at *
      have hdl := dec_len u (by omega)
      refine V.conv (u : Int) rfl rfl rfl (IntWalk.u64_in _ (by omega)) ?_
      refine V.assign rfl rfl rfl ?_
      refine V.nil ?_
      refine Post.nextC ?_
      refine VC.seq ?_
      refine VC.seq ?_
      refine VC.region ?_
      refine V.fieldAddr 1 3 rfl rfl rfl rfl rfl ?_
      apply V.loadL rfl rfl rfl rfl
      · repeat' constructor
      · repeat' constructor
      refine V.bin rfl rfl rfl rfl (bin_lss _ _ _) ?_
      refine V.know (t := 23) (y := .bool false) rfl (by rw [decide_eq_false (by omega)]) ?_
      refine V.nil ?_
      refine Post.nextC ?_
      refine VC.condF rfl ?_
      refine VC.skip ?_
      refine Post.nextC ?_
      refine VC.seq ?_
      refine VC.region ?_
      refine V.move rfl rfl rfl ?_
      refine V.move rfl rfl rfl ?_
      apply V.call rfl rfl rfl (hc := c31 u (by omega))
      · repeat' constructor
      rintro vq Ho ⟨rfl, rfl⟩
      refine V.bin rfl rfl rfl rfl (bin_stadd _ _ (by simp only [List.length_append, List.length_cons, List.length_nil]; omega)) ?_
      refine V.move rfl rfl rfl ?_
      refine V.bin rfl rfl rfl rfl (bin_stadd _ _ (by simp only [List.length_append, List.length_cons, List.length_nil]; omega)) ?_
      refine V.assign rfl rfl rfl ?_
      refine V.nil ?_
      refine Post.nextC ?_
      refine VC.seq ?_
      refine VC.seq ?_
      refine VC.region ?_
      refine V.assign rfl rfl rfl ?_
      refine V.nil ?_
      refine Post.nextC ?_
      refine VC.block ?_
      refine VC.loop (σ := (Nat) × (List UInt8)) (fun zz => [(1, pt b1), (3, st [10]), (4, st zz.2), (6, .int .i64 (zz.1 : Int))]) (fun zz => [(b1, .cells #[.int .i64 e, .int .i64 (u : Int), .slice ad lines.length cp] 34 (0, 0))] :: C :: R) (fun zz => (zz.1 ≤ lines.length) ∧ (zz.2 = ([111, 107, 32] ++ Lib.decDigits u ++ [10]) ++ (lines.take zz.1).flatMap fun l => [124, 32] ++ l ++ [10])) (fun zz => lines.length - zz.1) (0, [111, 107, 32] ++ Lib.decDigits u ++ [10]) (⟨Nat.zero_le _, by simp⟩) ?_ ?_ ?_
      · exact ⟨rfl, rfl, rfl, rfl, trivial⟩
      · repeat' constructor
      rintro ⟨i, acc⟩ ⟨(hi2 : i ≤ lines.length), (hacc : acc = ([111, 107, 32] ++ Lib.decDigits u ++ [10]) ++ (lines.take i).flatMap fun l => [124, 32] ++ l ++ [10])⟩
      refine VC.sub (E' := [(1, pt b1), (3, st [10]), (4, st acc), (6, .int .i64 (i : Int))]) (H' := [(b1, .cells #[.int .i64 e, .int .i64 (u : Int), .slice ad lines.length cp] 34 (0, 0))] :: C :: R) ⟨rfl, rfl, rfl, rfl, trivial⟩ (by repeat' constructor) ?_
      have hal : acc.length ≤ 140737488355328 := by rw [hacc]; exact hpre i
      refine VC.seq ?_
      refine VC.seq ?_
      refine VC.region ?_
      refine V.move rfl rfl rfl ?_
      refine V.fieldAddr 2 32 rfl rfl rfl rfl rfl ?_
      apply V.loadL rfl rfl rfl rfl
      · repeat' constructor
      · repeat' constructor
      refine V.len rfl rfl rfl ?_
      refine V.bin rfl rfl rfl rfl (bin_lss _ _ _) ?_
      refine V.nil ?_
      refine Post.nextC ?_
      refine VC.cond rfl (fun h2 => ?_) (fun h2 => ?_)
      · try simp only [decide_eq_true_eq, decide_eq_false_iff_not, Bool.not_eq_true', Bool.not_eq_false', Bool.not_eq_eq_eq_not, Bool.not_true, Bool.not_false, beq_iff_eq, beq_eq_false_iff_ne, ne_eq, Int.not_lt, Int.not_le, Option.isSome_some, Option.isNone_none, Option.isSome_none, Option.isNone_some, Classical.not_not] at h2
        refine VC.skip ?_
        refine Post.nextC ?_
        refine VC.seq ?_
        refine VC.block ?_
        refine VC.region ?_
        obtain ⟨x, hx⟩ := getc (t := lines) (i := i) (by assumption)
        obtain ⟨_, bo, oo, cp2, ee, hcel⟩ := Rd.at1' hr (i := i) (str_one lines i x hx)
        simp only [Value.slice.injEq] at ee
        obtain ⟨rfl, _, rfl⟩ := ee
        have hpk := hpre (i + 1)
        rw [List.take_add_one, hx, List.flatMap_append, ← List.append_assoc, ← hacc] at hpk
        simp only [Option.toList_some, List.flatMap_cons, List.flatMap_nil, List.append_nil, List.length_append, List.length_cons, List.length_nil] at hpk
        refine V.move rfl rfl rfl ?_
        refine V.bin rfl rfl rfl rfl (bin_stadd _ _ (by simp only [List.length_append, List.length_cons, List.length_nil]; omega)) ?_
        refine V.fieldAddr 2 32 rfl rfl rfl rfl rfl ?_
        apply V.loadL rfl rfl rfl rfl
        · repeat' constructor
        · repeat' constructor
        refine V.move rfl rfl rfl ?_
        refine V.indexO rfl rfl rfl rfl (by omega) ?_
        apply V.loadC (c := C) rfl rfl rfl rfl
        · repeat' constructor
        · exact hcel
        refine V.bin rfl rfl rfl rfl (bin_stadd _ _ (by simp only [List.length_append, List.length_cons, List.length_nil]; omega)) ?_
        refine V.move rfl rfl rfl ?_
        refine V.bin rfl rfl rfl rfl (bin_stadd _ _ (by simp only [List.length_append, List.length_cons, List.length_nil]; omega)) ?_
        refine V.assign rfl rfl rfl ?_
        refine V.nil ?_
        refine Post.blockNormal (Post.nextC ?_)
        refine VC.region ?_
        refine V.move rfl rfl rfl ?_
        refine V.bin rfl rfl rfl rfl (bin_addI (by omega)) ?_
        refine V.assign rfl rfl rfl ?_
        refine V.nil ?_
        refine Post.round (i + 1, acc ++ [124, 32] ++ x ++ [10]) ?_ ?_ ?_ ?_
        · show ((i + 1) ≤ lines.length) ∧ ((acc ++ [124, 32] ++ x ++ [10]) = ([111, 107, 32] ++ Lib.decDigits u ++ [10]) ++ (lines.take (i + 1)).flatMap fun l => [124, 32] ++ l ++ [10])
          exact ⟨by omega, by rw [hacc, List.take_add_one, hx, List.flatMap_append]; simp⟩
        · show lines.length - (i + 1) < lines.length - i
          omega
        · exact ⟨rfl, rfl, rfl, rfl, trivial⟩
        · repeat' constructor
      · try simp only [decide_eq_true_eq, decide_eq_false_iff_not, Bool.not_eq_true', Bool.not_eq_false', Bool.not_eq_eq_eq_not, Bool.not_true, Bool.not_false, beq_iff_eq, beq_eq_false_iff_ne, ne_eq, Int.not_lt, Int.not_le, Option.isSome_some, Option.isNone_none, Option.isSome_none, Option.isNone_some, Classical.not_not] at h2
        refine VC.exit ?_
        refine Post.thenExit (Post.thenExit (Post.blockHit (Post.nextC ?_)))
        refine VC.seq ?_
        refine VC.region ?_
        refine V.move rfl rfl rfl ?_
        refine V.assign rfl rfl rfl ?_
        refine V.nil ?_
        refine Post.nextC ?_
        refine VC.ret ?_
        apply Post.ret1 rfl rfl 
        · obtain rfl : i = lines.length := by omega
          obtain rfl : e = 0 := by assumption
          exact ⟨by rw [hacc, List.take_length, answerOf, if_neg (by simp)], rfl⟩
        · repeat' constructor
    ·
      refine V.fieldAddr 1 3 rfl rfl rfl rfl rfl ?_
      apply V.loadL rfl rfl rfl rfl
      · repeat' constructor
      · repeat' constructor
      rw [Lib.itoa_neg u hu1] at *
      have hdl := dec_len u (by omega)
      refine V.conv (18446744073709551616 - (u : Int)) rfl rfl rfl (by rw [IntKind.wrap_u64]; omega) ?_
      refine V.assign rfl rfl rfl ?_
      refine V.nil ?_
      refine Post.nextC ?_
      refine VC.seq ?_
      refine VC.seq ?_
      refine VC.region ?_
      refine V.fieldAddr 1 3 rfl rfl rfl rfl rfl ?_
      apply V.loadL rfl rfl rfl rfl
      · repeat' constructor
      · repeat' constructor
      refine V.bin rfl rfl rfl rfl (bin_lss _ _ _) ?_
      refine V.know (t := 23) (y := .bool true) rfl (by rw [decide_eq_true (by omega)]) ?_
      refine V.nil ?_
      refine Post.nextC ?_
      refine VC.condT rfl ?_
      refine VC.seq ?_
      refine VC.region ?_
      refine V.move rfl rfl rfl ?_
      refine V.bin rfl rfl rfl rfl (bin_stadd _ _ (by first | omega | (simp only [List.length_append, List.length_cons, List.length_nil]; omega))) ?_
      refine V.assign rfl rfl rfl ?_
      refine V.nil ?_
      refine Post.nextC ?_
      refine VC.region ?_
      refine V.move rfl rfl rfl ?_
      refine V.negK (u : Int) rfl rfl rfl (by rw [IntKind.wrap_u64]; omega) ?_
      refine V.assign rfl rfl rfl ?_
      refine V.nil ?_
      refine Post.nextC ?_
      refine VC.seq ?_
      refine VC.region ?_
      refine V.move rfl rfl rfl ?_
      refine V.move rfl rfl rfl ?_
      apply V.call rfl rfl rfl (hc := c31 u (by omega))
      · repeat' constructor
      rintro vq Ho ⟨rfl, rfl⟩
      refine V.bin rfl rfl rfl rfl (bin_stadd _ _ (by simp only [List.length_append, List.length_cons, List.length_nil]; omega)) ?_
      refine V.move rfl rfl rfl ?_
      refine V.bin rfl rfl rfl rfl (bin_stadd _ _ (by simp only [List.length_append, List.length_cons, List.length_nil]; omega)) ?_
      refine V.assign rfl rfl rfl ?_
      refine V.nil ?_
      refine Post.nextC ?_
      refine VC.seq ?_
      refine VC.seq ?_
      refine VC.region ?_
      refine V.assign rfl rfl rfl ?_
      refine V.nil ?_
      refine Post.nextC ?_
      refine VC.block ?_
      refine VC.loop (σ := (Nat) × (List UInt8)) (fun zz => [(1, pt b1), (3, st [10]), (4, st zz.2), (6, .int .i64 (zz.1 : Int))]) (fun zz => [(b1, .cells #[.int .i64 e, .int .i64 (-(u : Int)), .slice ad lines.length cp] 34 (0, 0))] :: C :: R) (fun zz => (zz.1 ≤ lines.length) ∧ (zz.2 = ([111, 107, 32] ++ (45 :: Lib.decDigits u) ++ [10]) ++ (lines.take zz.1).flatMap fun l => [124, 32] ++ l ++ [10])) (fun zz => lines.length - zz.1) (0, [111, 107, 32] ++ (45 :: Lib.decDigits u) ++ [10]) (⟨Nat.zero_le _, by simp⟩) ?_ ?_ ?_
      · exact ⟨rfl, rfl, rfl, rfl, trivial⟩
      · repeat' constructor
      rintro ⟨i, acc⟩ ⟨(hi2 : i ≤ lines.length), (hacc : acc = ([111, 107, 32] ++ (45 :: Lib.decDigits u) ++ [10]) ++ (lines.take i).flatMap fun l => [124, 32] ++ l ++ [10])⟩
      refine VC.sub (E' := [(1, pt b1), (3, st [10]), (4, st acc), (6, .int .i64 (i : Int))]) (H' := [(b1, .cells #[.int .i64 e, .int .i64 (-(u : Int)), .slice ad lines.length cp] 34 (0, 0))] :: C :: R) ⟨rfl, rfl, rfl, rfl, trivial⟩ (by repeat' constructor) ?_
      have hal : acc.length ≤ 140737488355328 := by rw [hacc]; exact hpre i
      refine VC.seq ?_
      refine VC.seq ?_
      refine VC.region ?_
      refine V.move rfl rfl rfl ?_
      refine V.fieldAddr 2 32 rfl rfl rfl rfl rfl ?_
      apply V.loadL rfl rfl rfl rfl
      · repeat' constructor
      · repeat' constructor
      refine V.len rfl rfl rfl ?_
      refine V.bin rfl rfl rfl rfl (bin_lss _ _ _) ?_
      refine V.nil ?_
      refine Post.nextC ?_
      refine VC.cond rfl (fun h3 => ?_) (fun h3 => ?_)
      · try simp only [decide_eq_true_eq, decide_eq_false_iff_not, Bool.not_eq_true', Bool.not_eq_false', Bool.not_eq_eq_eq_not, Bool.not_true, Bool.not_false, beq_iff_eq, beq_eq_false_iff_ne, ne_eq, Int.not_lt, Int.not_le, Option.isSome_some, Option.isNone_none, Option.isSome_none, Option.isNone_some, Classical.not_not] at h3
        refine VC.skip ?_
        refine Post.nextC ?_
        refine VC.seq ?_
        refine VC.block ?_
        refine VC.region ?_
        obtain ⟨x, hx⟩ := getc (t := lines) (i := i) (by assumption)
        obtain ⟨_, bo, oo, cp2, ee, hcel⟩ := Rd.at1' hr (i := i) (str_one lines i x hx)
        simp only [Value.slice.injEq] at ee
        obtain ⟨rfl, _, rfl⟩ := ee
        have hpk := hpre (i + 1)
        rw [List.take_add_one, hx, List.flatMap_append, ← List.append_assoc, ← hacc] at hpk
        simp only [Option.toList_some, List.flatMap_cons, List.flatMap_nil, List.append_nil, List.length_append, List.length_cons, List.length_nil] at hpk
        refine V.move rfl rfl rfl ?_
        refine V.bin rfl rfl rfl rfl (bin_stadd _ _ (by simp only [List.length_append, List.length_cons, List.length_nil]; omega)) ?_
        refine V.fieldAddr 2 32 rfl rfl rfl rfl rfl ?_
        apply V.loadL rfl rfl rfl rfl
        · repeat' constructor
        · repeat' constructor
        refine V.move rfl rfl rfl ?_
        refine V.indexO rfl rfl rfl rfl (by omega) ?_
        apply V.loadC (c := C) rfl rfl rfl rfl
        · repeat' constructor
        · exact hcel
        refine V.bin rfl rfl rfl rfl (bin_stadd _ _ (by simp only [List.length_append, List.length_cons, List.length_nil]; omega)) ?_
        refine V.move rfl rfl rfl ?_
        refine V.bin rfl rfl rfl rfl (bin_stadd _ _ (by simp only [List.length_append, List.length_cons, List.length_nil]; omega)) ?_
        refine V.assign rfl rfl rfl ?_
        refine V.nil ?_
        refine Post.blockNormal (Post.nextC ?_)
        refine VC.region ?_
        refine V.move rfl rfl rfl ?_
        refine V.bin rfl rfl rfl rfl (bin_addI (by omega)) ?_
        refine V.assign rfl rfl rfl ?_
        refine V.nil ?_
        refine Post.round (i + 1, acc ++ [124, 32] ++ x ++ [10]) ?_ ?_ ?_ ?_
        · show ((i + 1) ≤ lines.length) ∧ ((acc ++ [124, 32] ++ x ++ [10]) = ([111, 107, 32] ++ (45 :: Lib.decDigits u) ++ [10]) ++ (lines.take (i + 1)).flatMap fun l => [124, 32] ++ l ++ [10])
          exact ⟨by omega, by rw [hacc, List.take_add_one, hx, List.flatMap_append]; simp⟩
        · show lines.length - (i + 1) < lines.length - i
          omega
        · exact ⟨rfl, rfl, rfl, rfl, trivial⟩
        · repeat' constructor
      · try simp only [decide_eq_true_eq, decide_eq_false_iff_not, Bool.not_eq_true', Bool.not_eq_false', Bool.not_eq_eq_eq_not, Bool.not_true, Bool.not_false, beq_iff_eq, beq_eq_false_iff_ne, ne_eq, Int.not_lt, Int.not_le, Option.isSome_some, Option.isNone_none, Option.isSome_none, Option.isNone_some, Classical.not_not] at h3
        refine VC.exit ?_
        refine Post.thenExit (Post.thenExit (Post.blockHit (Post.nextC ?_)))
        refine VC.seq ?_
        refine VC.region ?_
        refine V.move rfl rfl rfl ?_
        refine V.assign rfl rfl rfl ?_
        refine V.nil ?_
        refine Post.nextC ?_
        refine VC.ret ?_
        apply Post.ret1 rfl rfl 
        · obtain rfl : i = lines.length := by omega
          obtain rfl : e = 0 := by assumption
          exact ⟨by rw [hacc, List.take_length, answerOf, if_neg (by simp)], rfl⟩
        · repeat' constructor

end Go.Proofs.Ln
