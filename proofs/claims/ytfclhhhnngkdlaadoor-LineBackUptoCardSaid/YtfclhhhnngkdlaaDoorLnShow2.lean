/- Contracts of functions of the given program, each proved by walking its code: part of the proof of this claim; no condition beyond those that each theorem names. -/
import Derived.Test.YtfclhhhnngkdlaaDoorLnShows
import Derived.Test.YtfclhhhnngkdlaaDoorLnRef5
set_option linter.unusedVariables false
set_option linter.unusedSimpArgs false
namespace Go.Proofs.Ln
open Go Go.RowKit Go.Proofs.Eng
theorem num_len (n : Int) (h : -9223372036854775808 ≤ n ∧ n ≤ 9223372036854775807) : (Lib.itoa n).length ≤ 100 := by
  rcases int_cases n with ⟨u, rfl⟩ | ⟨u, hu, rfl⟩
  · rw [Lib.itoa_nonneg]; have := dec_len u (by omega); omega
  · rw [Lib.itoa_neg u hu]; have := dec_len u (by omega); simp only [List.length_cons]; omega
theorem showOf_yes {c : Call} {t : List UInt8} (h : showText c = some t) (h1 : (script t).1 = [c]) : showOf c = (t, 0) := by unfold showOf; rw [h]; dsimp only; rw [if_pos h1]
theorem showOf_no {c : Call} {t : List UInt8} (h : showText c = some t) (h1 : ¬ (script t).1 = [c]) : showOf c = ([], 3) := by unfold showOf; rw [h]; dsimp only; rw [if_neg h1]
theorem showOf_none {c : Call} (h : showText c = none) : showOf c = ([], 3) := by unfold showOf; rw [h]
theorem like_more {c : Call} {f : Form} {i : Nat} {w : UInt8} (h : f.like[i]? = some w) : ((f.like.take (i + 1)).flatMap fun w => 32 :: (tokOf w c).text) = ((f.like.take i).flatMap fun w => 32 :: (tokOf w c).text) ++ ([32] ++ (tokOf w c).text) := by
  rw [List.take_add_one, h, List.flatMap_append]
  simp
theorem tok_a {c : Call} {w : UInt8} (h : (w.toNat : Int) = 97) : (tokOf w c).text = c.a ∧ fieldOk w c = legal c.a ∧ ∀ d : Call, d.put w (tokOf w c) = { d with a := c.a } := by
  obtain rfl : w = 97 := UInt8.toNat_inj.1 (by simpa using (by omega : w.toNat = 97))
  exact ⟨rfl, rfl, fun d => rfl⟩
theorem tok_b {c : Call} {w : UInt8} (h : (w.toNat : Int) = 98) : (tokOf w c).text = c.b ∧ fieldOk w c = legal c.b ∧ ∀ d : Call, d.put w (tokOf w c) = { d with b := c.b } := by
  obtain rfl : w = 98 := UInt8.toNat_inj.1 (by simpa using (by omega : w.toNat = 98))
  exact ⟨rfl, rfl, fun d => rfl⟩
theorem tok_n {c : Call} {w : UInt8} (h : ¬ (w.toNat : Int) = 97) (h' : ¬ (w.toNat : Int) = 98) : (tokOf w c).text = Lib.itoa c.n ∧ fieldOk w c = (decide (0 ≤ c.n) && decide (c.n ≤ 999999999)) ∧ ∀ d : Call, d.put w (tokOf w c) = { d with n := c.n } := by
  have h1 : ¬ w = 97 := fun e => h (by subst e; rfl)
  have h2 : ¬ w = 98 := fun e => h' (by subst e; rfl)
  refine ⟨?_, ?_, fun d => ?_⟩
  · unfold tokOf; rw [if_neg h1, if_neg h2]
  · unfold fieldOk; rw [if_neg h1, if_neg h2]
  · unfold Call.put tokOf; rw [if_neg h1, if_neg h2, if_neg h1, if_neg h2]
theorem pre_len {c : Call} {f : Form} (hf : f ∈ forms) (hsz : c.a.length + c.b.length ≤ 100000000) (hnl : (Lib.itoa c.n).length ≤ 100) (i : Nat) : (f.word ++ (f.like.take i).flatMap fun w => 32 :: (tokOf w c).text).length ≤ 400000000 := by
  have one : ∀ w, (tokOf w c).text.length ≤ 100000100 := by
    intro w
    unfold tokOf
    split
    · dsimp only; omega
    · split <;> dsimp only <;> omega
  have gen : ∀ l : List UInt8, (l.flatMap fun w => 32 :: (tokOf w c).text).length ≤ 100000101 * l.length := by
    intro l
    induction l with
    | nil => simp
    | cons w l ih =>
      rw [List.flatMap_cons, List.length_append, List.length_cons, List.length_cons]
      have := one w
      omega
  have h1 := gen (f.like.take i)
  have h2 := like_len f hf
  have h3 := (word_legal f hf).2.1
  have h4 : (f.like.take i).length ≤ f.like.length := by rw [List.length_take]; omega
  rw [List.length_append]
  omega

theorem c16 {w0 : World} {c : Call} (hsz : c.a.length + c.b.length ≤ 100000000) (hn : -9223372036854775808 ≤ c.n ∧ c.n ≤ 9223372036854775807) (hT : ∀ i, i < 20 → Cel w0 [] ⟨0, i, none⟩ (.int .u64 ((10 ^ i : Nat) : Int))) : CtR Pg w0 16 #[callV c] [] (fun u H => u = .tuple #[st (showOf c).1, .int .i64 (showOf c).2] ∧ H = []) := by
  have hnl := num_len c.n hn
  refine Ct.of_body Go.Proofs.Tryd.func16 rfl 70 rfl rfl (fun R => ?_)
  refine VC.seq ?_
  refine VC.region ?_
  refine V.box rfl rfl rfl rfl (fun b1 => ?_)
  refine V.assign rfl rfl rfl ?_
  refine V.assign rfl rfl rfl ?_
  refine V.nil ?_
  refine Post.nextC ?_
  refine VC.seq ?_
  refine VC.region ?_
  refine V.fieldAddr 5 9 rfl rfl rfl rfl rfl ?_
  apply V.loadL rfl rfl rfl rfl
  · repeat' constructor
  · repeat' constructor
  refine V.assign rfl rfl rfl ?_
  refine V.nil ?_
  refine Post.nextC ?_
  refine VC.seq ?_
  refine VC.seq ?_
  refine VC.region ?_
  refine V.fieldAddr 0 3 rfl rfl rfl rfl rfl ?_
  apply V.loadL rfl rfl rfl rfl
  · repeat' constructor
  · repeat' constructor
  refine V.bin rfl rfl rfl rfl (bin_neq _ _ _) ?_
  refine V.nil ?_
  refine Post.nextC ?_
  refine VC.cond rfl (fun h1 => ?_) (fun h1 => ?_)
  · try simp only [decide_eq_true_eq, decide_eq_false_iff_not, Bool.not_eq_true', Bool.not_eq_false', Bool.not_eq_eq_eq_not, Bool.not_true, Bool.not_false, beq_iff_eq, beq_eq_false_iff_ne, ne_eq, Int.not_lt, Int.not_le, Option.isSome_some, Option.isNone_none, Option.isSome_none, Option.isNone_some, Classical.not_not] at h1
    refine VC.seq ?_
    refine VC.region ?_
    refine V.makeFunc rfl rfl rfl rfl ?_
    rcases hfd : forms.find? (fun f => decide (f.op = c.op)) with _ | f
    ·
      apply V.call rfl rfl rfl (hc := c34 (k := 35) (p := fun f => decide (f.op = c.op)) (cap := pt b1) (ck := [(b1, .cells c.cells.toArray 43 (0, 0))]) (fun f => c35))
      · repeat' constructor
      rintro vq Ho ⟨rfl, rfl⟩
      rw [hfd]
      refine V.move rfl rfl rfl ?_
      refine V.extract rfl rfl rfl rfl ?_
      refine V.extract rfl rfl rfl rfl ?_
      refine V.alloc (l := [.string ByteArray.empty, .int .i64 0, .string ByteArray.empty]) rfl rfl rfl (fun b2 => ?_)
      apply V.storeAll rfl rfl rfl rfl
      · repeat' constructor
      · exact rfl
      · exact rfl
      refine V.assign rfl rfl rfl ?_
      refine V.nil ?_
      refine Post.nextC ?_
      refine VC.seq ?_
      refine VC.seq ?_
      refine VC.region ?_
      refine V.move rfl rfl rfl ?_
      refine V.not rfl rfl rfl ?_
      refine V.know (t := 22) (y := .bool true) rfl (rfl) ?_
      refine V.nil ?_
      refine Post.nextC ?_
      refine VC.condT rfl ?_
      refine VC.seq ?_
      refine VC.region ?_
      refine V.assign rfl rfl rfl ?_
      refine V.assign rfl rfl rfl ?_
      refine V.nil ?_
      refine Post.nextC ?_
      refine VC.ret ?_
      refine Post.thenRet (Post.thenRet (?_))
      apply Post.ret2 rfl rfl rfl 
      · have hT2 : showText c = none := by unfold showText; rw [if_neg (by omega), hfd]; rfl
        exact ⟨by rw [showOf_none hT2], rfl⟩
      · repeat' constructor
    ·
      apply V.call rfl rfl rfl (hc := c34 (k := 35) (p := fun f => decide (f.op = c.op)) (cap := pt b1) (ck := [(b1, .cells c.cells.toArray 43 (0, 0))]) (fun f => c35))
      · repeat' constructor
      rintro vq Ho ⟨rfl, rfl⟩
      rw [hfd]
      refine V.move rfl rfl rfl ?_
      refine V.extract rfl rfl rfl rfl ?_
      refine V.extract rfl rfl rfl rfl ?_
      refine V.alloc (l := [.string ByteArray.empty, .int .i64 0, .string ByteArray.empty]) rfl rfl rfl (fun b3 => ?_)
      apply V.storeAll rfl rfl rfl rfl
      · repeat' constructor
      · exact rfl
      · exact rfl
      refine V.assign rfl rfl rfl ?_
      refine V.nil ?_
      refine Post.nextC ?_
      refine VC.seq ?_
      refine VC.seq ?_
      refine VC.region ?_
      refine V.move rfl rfl rfl ?_
      refine V.not rfl rfl rfl ?_
      refine V.know (t := 22) (y := .bool false) rfl (rfl) ?_
      refine V.nil ?_
      refine Post.nextC ?_
      refine VC.condF rfl ?_
      refine VC.skip ?_
      refine Post.nextC ?_
      refine VC.seq ?_
      refine VC.region ?_
      obtain ⟨hm, hop⟩ := find_form hfd
      have hll := like_len f hm
      have hwl := (word_legal f hm).2.1
      refine V.fieldAddr 0 9 rfl rfl rfl rfl rfl ?_
      apply V.loadL rfl rfl rfl rfl
      · repeat' constructor
      · repeat' constructor
      refine V.assign rfl rfl rfl ?_
      refine V.nil ?_
      refine Post.nextC ?_
      refine VC.seq ?_
      refine VC.seq ?_
      refine VC.region ?_
      refine V.fieldAddr 2 9 rfl rfl rfl rfl rfl ?_
      apply V.loadL rfl rfl rfl rfl
      · repeat' constructor
      · repeat' constructor
      refine V.rangeSt rfl rfl rfl (fun b4 => ?_)
      refine V.nil ?_
      refine Post.nextC ?_
      refine VC.block ?_
      refine VC.loop (σ := (Nat) × (List UInt8)) (fun zz => [(1, pt b1), (4, st zz.2), (27, pt b4)]) (fun zz => [(b1, .cells c.cells.toArray 43 (0, 0))] :: [(b4, .stringIter ⟨f.like.toArray⟩ zz.1)] :: R) (fun zz => (zz.1 ≤ f.like.length) ∧ (zz.2 = f.word ++ (f.like.take zz.1).flatMap fun w => 32 :: (tokOf w c).text)) (fun zz => f.like.length - zz.1) (0, f.word) (⟨Nat.zero_le _, by simp⟩) ?_ ?_ ?_
      · exact ⟨rfl, rfl, rfl, trivial⟩
      · repeat' constructor
      rintro ⟨i, acc⟩ ⟨(hi : i ≤ f.like.length), (hacc : acc = f.word ++ (f.like.take i).flatMap fun w => 32 :: (tokOf w c).text)⟩
      refine VC.sub (E' := [(1, pt b1), (4, st acc), (27, pt b4)]) (H' := [(b1, .cells c.cells.toArray 43 (0, 0))] :: [(b4, .stringIter ⟨f.like.toArray⟩ i)] :: R) ⟨rfl, rfl, rfl, trivial⟩ (by repeat' constructor) ?_
      have hal : acc.length ≤ 400000000 := by rw [hacc]; exact pre_len hm hsz hnl i
      refine VC.seq ?_
      refine VC.region ?_
      rcases hw : f.like[i]? with _ | w
      ·
        apply V.nextStEnd rfl rfl rfl
        · repeat' constructor
        · exact hw
        refine V.extract rfl rfl rfl rfl ?_
        refine V.know (t := 29) (y := .bool false) rfl (rfl) ?_
        refine V.nil ?_
        refine Post.nextC ?_
        refine VC.seq ?_
        refine VC.condF rfl ?_
        refine VC.exit ?_
        refine Post.thenExit (Post.thenExit (Post.blockHit (Post.nextC ?_)))
        refine VC.region ?_
        have hacc2 : acc ++ [10] = lineText f c := by rw [hacc, List.take_of_length_le (List.getElem?_eq_none_iff.1 hw)]; rfl
        refine V.move rfl rfl rfl ?_
        refine V.bin rfl rfl rfl rfl (bin_stadd _ _ (by simp only [List.length_append, List.length_cons, List.length_nil]; omega)) ?_
        refine V.assign rfl rfl rfl ?_
        refine V.nil ?_
        refine Post.nextC ?_
        refine VC.seq ?_
        refine VC.seq ?_
        refine VC.region ?_
        rw [hacc2]
        have hT2 : showText c = some (lineText f c) := by unfold showText; rw [if_neg (by omega), hfd]; rfl
        refine V.move rfl rfl rfl ?_
        apply V.call rfl rfl rfl (hc := c9 (t := lineText f c))
        · repeat' constructor
        rintro vq Ho ⟨v1, c1, ho1, rfl, rfl⟩
        obtain ⟨ad1, cp1, rfl, hl1, hl2, _⟩ := id (ho1.rd (w0 := w0))
        simp only [maxLen] at hl2
        refine V.move rfl rfl rfl ?_
        refine V.extract rfl rfl rfl rfl ?_
        refine V.extract rfl rfl rfl rfl ?_
        refine V.alloc (l := [.int .i64 0, .int .i64 0, .int .i64 0]) rfl rfl rfl (fun b5 => ?_)
        refine V.assign rfl rfl rfl ?_
        apply V.storeAll rfl rfl rfl rfl
        · repeat' constructor
        · exact rfl
        · exact rfl
        refine V.nil ?_
        refine Post.nextC ?_
        refine VC.seq ?_
        refine VC.draw mixed (by kernel_rfl) ?_
        refine V.move rfl rfl rfl ?_
        refine V.len rfl rfl rfl ?_
        refine V.bin rfl rfl rfl rfl (bin_neq _ _ _) ?_
        refine V.move rfl rfl rfl ?_
        refine V.split (t := 62) rfl (fun h2 => ?_) (fun h2 => ?_)
        · try simp only [decide_eq_true_eq, decide_eq_false_iff_not, Bool.not_eq_true', Bool.not_eq_false', Bool.not_eq_eq_eq_not, Bool.not_true, Bool.not_false, beq_iff_eq, beq_eq_false_iff_ne, ne_eq, Int.not_lt, Int.not_le, Option.isSome_some, Option.isNone_none, Option.isSome_none, Option.isNone_some, Classical.not_not] at h2
          refine V.skip rfl rfl ?_
          refine V.skip rfl rfl ?_
          refine V.skip rfl rfl ?_
          refine V.skip rfl rfl ?_
          refine V.skip rfl rfl ?_
          refine V.pickT rfl rfl rfl rfl ?_
          refine V.nil ?_
          refine Post.nextC ?_
          refine VC.condT rfl ?_
          refine VC.seq ?_
          refine VC.region ?_
          refine V.assign rfl rfl rfl ?_
          refine V.assign rfl rfl rfl ?_
          refine V.nil ?_
          refine Post.nextC ?_
          refine VC.ret ?_
          refine Post.thenRet (?_)
          apply Post.ret2 rfl rfl rfl 
          · exact ⟨by rw [showOf_no hT2 (fun e => by first | (have e2 := congrArg List.length e; simp only [List.length_cons, List.length_nil] at e2; omega) | (rw [hx0] at e; simp only [List.cons.injEq, and_true] at e; exact absurd e (by assumption)))], rfl⟩
          · repeat' constructor
        · try simp only [decide_eq_true_eq, decide_eq_false_iff_not, Bool.not_eq_true', Bool.not_eq_false', Bool.not_eq_eq_eq_not, Bool.not_true, Bool.not_false, beq_iff_eq, beq_eq_false_iff_ne, ne_eq, Int.not_lt, Int.not_le, Option.isSome_some, Option.isNone_none, Option.isSome_none, Option.isNone_some, Classical.not_not] at h2
          have hlen1 : (script (lineText f c)).1.length = 1 := by omega
          obtain ⟨x, hx0⟩ := List.length_eq_one_iff.1 hlen1
          obtain ⟨_, bo, oo, cpo, e, hx⟩ := (ho1.rd (w0 := w0)).item (f := Call.cells) (i := 0) call6 (by omega) (show (script (lineText f c)).1[0]? = some x by rw [hx0]; rfl)
          simp only [Value.slice.injEq] at e
          obtain ⟨rfl, _, rfl⟩ := e
          refine V.move rfl rfl rfl ?_
          refine V.indexO (i := 0) rfl rfl rfl rfl (by omega) ?_
          apply V.loadNC (c := c1) (vs := x.cells) rfl rfl rfl rfl
          · repeat' constructor
          · rfl
          · exact fun j u hu => by rw [add_addr]; exact hx j u hu
          apply V.loadAll rfl rfl rfl rfl
          · repeat' constructor
          · exact rfl
          refine V.bin rfl rfl rfl rfl (bin_neqS (.int rfl u3 rfl rfl (.str rfl u9 rfl rfl (.str rfl u9 rfl rfl (.str rfl u9 rfl rfl (.int rfl u3 rfl rfl (.str rfl u9 rfl rfl (.nil)))))))) ?_
          rw [call_ext]
          refine V.pickF rfl rfl rfl rfl ?_
          refine V.nil ?_
          refine Post.nextC ?_
          refine VC.cond rfl (fun h3 => ?_) (fun h3 => ?_)
          · try simp only [decide_eq_true_eq, decide_eq_false_iff_not, Bool.not_eq_true', Bool.not_eq_false', Bool.not_eq_eq_eq_not, Bool.not_true, Bool.not_false, beq_iff_eq, beq_eq_false_iff_ne, ne_eq, Int.not_lt, Int.not_le, Option.isSome_some, Option.isNone_none, Option.isSome_none, Option.isNone_some, Classical.not_not] at h3
            refine VC.seq ?_
            refine VC.region ?_
            refine V.assign rfl rfl rfl ?_
            refine V.assign rfl rfl rfl ?_
            refine V.nil ?_
            refine Post.nextC ?_
            refine VC.ret ?_
            refine Post.thenRet (?_)
            apply Post.ret2 rfl rfl rfl 
            · exact ⟨by rw [showOf_no hT2 (fun e => by first | (have e2 := congrArg List.length e; simp only [List.length_cons, List.length_nil] at e2; omega) | (rw [hx0] at e; simp only [List.cons.injEq, and_true] at e; exact absurd e (by assumption)))], rfl⟩
            · repeat' constructor
          · try simp only [decide_eq_true_eq, decide_eq_false_iff_not, Bool.not_eq_true', Bool.not_eq_false', Bool.not_eq_eq_eq_not, Bool.not_true, Bool.not_false, beq_iff_eq, beq_eq_false_iff_ne, ne_eq, Int.not_lt, Int.not_le, Option.isSome_some, Option.isNone_none, Option.isSome_none, Option.isNone_some, Classical.not_not] at h3
            refine VC.skip ?_
            refine Post.nextC ?_
            refine VC.seq ?_
            refine VC.region ?_
            refine V.move rfl rfl rfl ?_
            refine V.assign rfl rfl rfl ?_
            refine V.assign rfl rfl rfl ?_
            refine V.nil ?_
            refine Post.nextC ?_
            refine VC.ret ?_
            apply Post.ret2 rfl rfl rfl 
            · obtain rfl : x = c := by simp_all
              exact ⟨by rw [showOf_yes hT2 hx0], rfl⟩
            · repeat' constructor
      ·
        apply V.nextSt rfl rfl rfl
        · repeat' constructor
        · exact hw
        · exact like_ascii hfd w (List.mem_of_getElem? hw)
        refine V.extract rfl rfl rfl rfl ?_
        refine V.know (t := 29) (y := .bool true) rfl (rfl) ?_
        refine V.nil ?_
        refine Post.nextC ?_
        refine VC.seq ?_
        refine VC.condT rfl ?_
        refine VC.skip ?_
        refine Post.nextC ?_
        refine VC.block ?_
        refine VC.seq ?_
        refine VC.region ?_
        refine V.extract rfl rfl rfl rfl ?_
        refine V.assign rfl rfl rfl ?_
        refine V.nil ?_
        refine Post.nextC ?_
        refine VC.seq ?_
        refine VC.region ?_
        refine V.move rfl rfl rfl ?_
        refine V.nil ?_
        refine Post.nextC ?_
        refine VC.block ?_
        refine VC.seq ?_
        refine VC.region ?_
        refine V.bin rfl rfl rfl rfl (bin_eql _ _ _) ?_
        refine V.assign rfl rfl rfl ?_
        refine V.nil ?_
        refine Post.nextC ?_
        refine VC.cond rfl (fun h4 => ?_) (fun h4 => ?_)
        · try simp only [decide_eq_true_eq, decide_eq_false_iff_not, Bool.not_eq_true', Bool.not_eq_false', Bool.not_eq_eq_eq_not, Bool.not_true, Bool.not_false, beq_iff_eq, beq_eq_false_iff_ne, ne_eq, Int.not_lt, Int.not_le, Option.isSome_some, Option.isNone_none, Option.isSome_none, Option.isNone_some, Classical.not_not] at h4
          refine VC.region ?_
          refine V.move rfl rfl rfl ?_
          refine V.fieldAddr 1 9 rfl rfl rfl rfl rfl ?_
          apply V.loadL rfl rfl rfl rfl
          · repeat' constructor
          · repeat' constructor
          refine V.bin rfl rfl rfl rfl (bin_stadd _ _ (by simp only [List.length_append, List.length_cons, List.length_nil]; omega)) ?_
          refine V.bin rfl rfl rfl rfl (bin_stadd _ _ (by simp only [List.length_append, List.length_cons, List.length_nil]; omega)) ?_
          refine V.assign rfl rfl rfl ?_
          refine V.nil ?_
          refine Post.blockNormal (Post.blockNormal (Post.round (i + 1, acc ++ ([32] ++ c.a)) ?_ ?_ ?_ ?_))
          · show ((i + 1) ≤ f.like.length) ∧ ((acc ++ ([32] ++ c.a)) = f.word ++ (f.like.take (i + 1)).flatMap fun w => 32 :: (tokOf w c).text)
            exact ⟨(List.getElem?_eq_some_iff.1 hw).1, by rw [hacc, like_more hw, (tok_a (c := c) (by assumption)).1, List.append_assoc]⟩
          · show f.like.length - (i + 1) < f.like.length - i
            have := (List.getElem?_eq_some_iff.1 hw).1
            show f.like.length - (i + 1) < f.like.length - i
            omega
          · exact ⟨rfl, rfl, rfl, trivial⟩
          · repeat' constructor
        · try simp only [decide_eq_true_eq, decide_eq_false_iff_not, Bool.not_eq_true', Bool.not_eq_false', Bool.not_eq_eq_eq_not, Bool.not_true, Bool.not_false, beq_iff_eq, beq_eq_false_iff_ne, ne_eq, Int.not_lt, Int.not_le, Option.isSome_some, Option.isNone_none, Option.isSome_none, Option.isNone_some, Classical.not_not] at h4
          refine VC.seq ?_
          refine VC.region ?_
          refine V.bin rfl rfl rfl rfl (bin_eql _ _ _) ?_
          refine V.assign rfl rfl rfl ?_
          refine V.nil ?_
          refine Post.nextC ?_
          refine VC.cond rfl (fun h5 => ?_) (fun h5 => ?_)
          · try simp only [decide_eq_true_eq, decide_eq_false_iff_not, Bool.not_eq_true', Bool.not_eq_false', Bool.not_eq_eq_eq_not, Bool.not_true, Bool.not_false, beq_iff_eq, beq_eq_false_iff_ne, ne_eq, Int.not_lt, Int.not_le, Option.isSome_some, Option.isNone_none, Option.isSome_none, Option.isNone_some, Classical.not_not] at h5
            refine VC.region ?_
            refine V.move rfl rfl rfl ?_
            refine V.fieldAddr 2 9 rfl rfl rfl rfl rfl ?_
            apply V.loadL rfl rfl rfl rfl
            · repeat' constructor
            · repeat' constructor
            refine V.bin rfl rfl rfl rfl (bin_stadd _ _ (by simp only [List.length_append, List.length_cons, List.length_nil]; omega)) ?_
            refine V.bin rfl rfl rfl rfl (bin_stadd _ _ (by simp only [List.length_append, List.length_cons, List.length_nil]; omega)) ?_
            refine V.assign rfl rfl rfl ?_
            refine V.nil ?_
            refine Post.blockNormal (Post.blockNormal (Post.round (i + 1, acc ++ ([32] ++ c.b)) ?_ ?_ ?_ ?_))
            · show ((i + 1) ≤ f.like.length) ∧ ((acc ++ ([32] ++ c.b)) = f.word ++ (f.like.take (i + 1)).flatMap fun w => 32 :: (tokOf w c).text)
              exact ⟨(List.getElem?_eq_some_iff.1 hw).1, by rw [hacc, like_more hw, (tok_b (c := c) (by assumption)).1, List.append_assoc]⟩
            · show f.like.length - (i + 1) < f.like.length - i
              have := (List.getElem?_eq_some_iff.1 hw).1
              show f.like.length - (i + 1) < f.like.length - i
              omega
            · exact ⟨rfl, rfl, rfl, trivial⟩
            · repeat' constructor
          · try simp only [decide_eq_true_eq, decide_eq_false_iff_not, Bool.not_eq_true', Bool.not_eq_false', Bool.not_eq_eq_eq_not, Bool.not_true, Bool.not_false, beq_iff_eq, beq_eq_false_iff_ne, ne_eq, Int.not_lt, Int.not_le, Option.isSome_some, Option.isNone_none, Option.isSome_none, Option.isNone_some, Classical.not_not] at h5
            refine VC.region ?_
            refine V.move rfl rfl rfl ?_
            refine V.fieldAddr 4 3 rfl rfl rfl rfl rfl ?_
            apply V.loadL rfl rfl rfl rfl
            · repeat' constructor
            · repeat' constructor
            apply V.call rfl rfl rfl (hc := c29 hn hT)
            · repeat' constructor
            rintro vq Ho ⟨rfl, rfl⟩
            refine V.bin rfl rfl rfl rfl (bin_stadd _ _ (by simp only [List.length_append, List.length_cons, List.length_nil]; omega)) ?_
            refine V.bin rfl rfl rfl rfl (bin_stadd _ _ (by simp only [List.length_append, List.length_cons, List.length_nil]; omega)) ?_
            refine V.assign rfl rfl rfl ?_
            refine V.nil ?_
            refine Post.blockNormal (Post.blockNormal (Post.round (i + 1, acc ++ ([32] ++ Lib.itoa c.n)) ?_ ?_ ?_ ?_))
            · show ((i + 1) ≤ f.like.length) ∧ ((acc ++ ([32] ++ Lib.itoa c.n)) = f.word ++ (f.like.take (i + 1)).flatMap fun w => 32 :: (tokOf w c).text)
              exact ⟨(List.getElem?_eq_some_iff.1 hw).1, by rw [hacc, like_more hw, (tok_n (c := c) (by assumption) (by assumption)).1, List.append_assoc]⟩
            · show f.like.length - (i + 1) < f.like.length - i
              have := (List.getElem?_eq_some_iff.1 hw).1
              show f.like.length - (i + 1) < f.like.length - i
              omega
            · exact ⟨rfl, rfl, rfl, trivial⟩
            · repeat' constructor
  · try simp only [decide_eq_true_eq, decide_eq_false_iff_not, Bool.not_eq_true', Bool.not_eq_false', Bool.not_eq_eq_eq_not, Bool.not_true, Bool.not_false, beq_iff_eq, beq_eq_false_iff_ne, ne_eq, Int.not_lt, Int.not_le, Option.isSome_some, Option.isNone_none, Option.isSome_none, Option.isNone_some, Classical.not_not] at h1
    refine VC.skip ?_
    refine Post.nextC ?_
    refine VC.seq ?_
    refine VC.seq ?_
    refine VC.region ?_
    have hT2 : showText c = some c.text := by unfold showText; rw [if_pos (by omega)]
    refine V.move rfl rfl rfl ?_
    apply V.call rfl rfl rfl (hc := c9 (t := c.text))
    · repeat' constructor
    rintro vq Ho ⟨v1, c1, ho1, rfl, rfl⟩
    obtain ⟨ad1, cp1, rfl, hl1, hl2, _⟩ := id (ho1.rd (w0 := w0))
    simp only [maxLen] at hl2
    refine V.move rfl rfl rfl ?_
    refine V.extract rfl rfl rfl rfl ?_
    refine V.extract rfl rfl rfl rfl ?_
    refine V.alloc (l := [.int .i64 0, .int .i64 0, .int .i64 0]) rfl rfl rfl (fun b6 => ?_)
    refine V.assign rfl rfl rfl ?_
    apply V.storeAll rfl rfl rfl rfl
    · repeat' constructor
    · exact rfl
    · exact rfl
    refine V.nil ?_
    refine Post.nextC ?_
    refine VC.seq ?_
    refine VC.draw mixed (by kernel_rfl) ?_
    refine V.move rfl rfl rfl ?_
    refine V.len rfl rfl rfl ?_
    refine V.bin rfl rfl rfl rfl (bin_neq _ _ _) ?_
    refine V.move rfl rfl rfl ?_
    refine V.split (t := 62) rfl (fun h6 => ?_) (fun h6 => ?_)
    · try simp only [decide_eq_true_eq, decide_eq_false_iff_not, Bool.not_eq_true', Bool.not_eq_false', Bool.not_eq_eq_eq_not, Bool.not_true, Bool.not_false, beq_iff_eq, beq_eq_false_iff_ne, ne_eq, Int.not_lt, Int.not_le, Option.isSome_some, Option.isNone_none, Option.isSome_none, Option.isNone_some, Classical.not_not] at h6
      refine V.skip rfl rfl ?_
      refine V.skip rfl rfl ?_
      refine V.skip rfl rfl ?_
      refine V.skip rfl rfl ?_
      refine V.skip rfl rfl ?_
      refine V.pickT rfl rfl rfl rfl ?_
      refine V.nil ?_
      refine Post.nextC ?_
      refine VC.condT rfl ?_
      refine VC.seq ?_
      refine VC.region ?_
      refine V.assign rfl rfl rfl ?_
      refine V.assign rfl rfl rfl ?_
      refine V.nil ?_
      refine Post.nextC ?_
      refine VC.ret ?_
      refine Post.thenRet (?_)
      apply Post.ret2 rfl rfl rfl 
      · exact ⟨by rw [showOf_no hT2 (fun e => by first | (have e2 := congrArg List.length e; simp only [List.length_cons, List.length_nil] at e2; omega) | (rw [hx0] at e; simp only [List.cons.injEq, and_true] at e; exact absurd e (by assumption)))], rfl⟩
      · repeat' constructor
    · try simp only [decide_eq_true_eq, decide_eq_false_iff_not, Bool.not_eq_true', Bool.not_eq_false', Bool.not_eq_eq_eq_not, Bool.not_true, Bool.not_false, beq_iff_eq, beq_eq_false_iff_ne, ne_eq, Int.not_lt, Int.not_le, Option.isSome_some, Option.isNone_none, Option.isSome_none, Option.isNone_some, Classical.not_not] at h6
      have hlen1 : (script (c.text)).1.length = 1 := by omega
      obtain ⟨x, hx0⟩ := List.length_eq_one_iff.1 hlen1
      obtain ⟨_, bo, oo, cpo, e, hx⟩ := (ho1.rd (w0 := w0)).item (f := Call.cells) (i := 0) call6 (by omega) (show (script (c.text)).1[0]? = some x by rw [hx0]; rfl)
      simp only [Value.slice.injEq] at e
      obtain ⟨rfl, _, rfl⟩ := e
      refine V.move rfl rfl rfl ?_
      refine V.indexO (i := 0) rfl rfl rfl rfl (by omega) ?_
      apply V.loadNC (c := c1) (vs := x.cells) rfl rfl rfl rfl
      · repeat' constructor
      · rfl
      · exact fun j u hu => by rw [add_addr]; exact hx j u hu
      apply V.loadAll rfl rfl rfl rfl
      · repeat' constructor
      · exact rfl
      refine V.bin rfl rfl rfl rfl (bin_neqS (.int rfl u3 rfl rfl (.str rfl u9 rfl rfl (.str rfl u9 rfl rfl (.str rfl u9 rfl rfl (.int rfl u3 rfl rfl (.str rfl u9 rfl rfl (.nil)))))))) ?_
      rw [call_ext]
      refine V.pickF rfl rfl rfl rfl ?_
      refine V.nil ?_
      refine Post.nextC ?_
      refine VC.cond rfl (fun h7 => ?_) (fun h7 => ?_)
      · try simp only [decide_eq_true_eq, decide_eq_false_iff_not, Bool.not_eq_true', Bool.not_eq_false', Bool.not_eq_eq_eq_not, Bool.not_true, Bool.not_false, beq_iff_eq, beq_eq_false_iff_ne, ne_eq, Int.not_lt, Int.not_le, Option.isSome_some, Option.isNone_none, Option.isSome_none, Option.isNone_some, Classical.not_not] at h7
        refine VC.seq ?_
        refine VC.region ?_
        refine V.assign rfl rfl rfl ?_
        refine V.assign rfl rfl rfl ?_
        refine V.nil ?_
        refine Post.nextC ?_
        refine VC.ret ?_
        refine Post.thenRet (?_)
        apply Post.ret2 rfl rfl rfl 
        · exact ⟨by rw [showOf_no hT2 (fun e => by first | (have e2 := congrArg List.length e; simp only [List.length_cons, List.length_nil] at e2; omega) | (rw [hx0] at e; simp only [List.cons.injEq, and_true] at e; exact absurd e (by assumption)))], rfl⟩
        · repeat' constructor
      · try simp only [decide_eq_true_eq, decide_eq_false_iff_not, Bool.not_eq_true', Bool.not_eq_false', Bool.not_eq_eq_eq_not, Bool.not_true, Bool.not_false, beq_iff_eq, beq_eq_false_iff_ne, ne_eq, Int.not_lt, Int.not_le, Option.isSome_some, Option.isNone_none, Option.isSome_none, Option.isNone_some, Classical.not_not] at h7
        refine VC.skip ?_
        refine Post.nextC ?_
        refine VC.seq ?_
        refine VC.region ?_
        refine V.move rfl rfl rfl ?_
        refine V.assign rfl rfl rfl ?_
        refine V.assign rfl rfl rfl ?_
        refine V.nil ?_
        refine Post.nextC ?_
        refine VC.ret ?_
        apply Post.ret2 rfl rfl rfl 
        · obtain rfl : x = c := by simp_all
          exact ⟨by rw [showOf_yes hT2 hx0], rfl⟩
        · repeat' constructor

end Go.Proofs.Ln
