/- Contracts of functions of the given program, each proved by walking its code: part of the proof of this claim; no condition beyond those that each theorem names. -/
import Derived.Test.YtfclhhhnngkdlaaDoorLnShow2
set_option linter.unusedVariables false
set_option linter.unusedSimpArgs false
namespace Go.Proofs.Ln
open Go Go.RowKit Go.Proofs.Eng
theorem c38 {w0 : World} (n : Nat) (hn : n ≤ 999999999) : CtR Pg w0 38 #[.int .i64 (n : Int)] [] (fun r H => r = st (Lib.decDigits n) ∧ H = []) := by
  induction n using Nat.strongRecOn with
  | _ n ih =>
  refine Ct.of_body Go.Proofs.Tryd.func38 rfl 20 rfl rfl (fun R => ?_)
  refine VC.seq ?_
  refine VC.region ?_
  refine V.assign rfl rfl rfl ?_
  refine V.nil ?_
  refine Post.nextC ?_
  refine VC.seq ?_
  refine VC.seq ?_
  refine VC.region ?_
  refine V.move rfl rfl rfl ?_
  refine V.bin rfl rfl rfl rfl (bin_lss _ _ _) ?_
  refine V.nil ?_
  refine Post.nextC ?_
  refine VC.cond rfl (fun h1 => ?_) (fun h1 => ?_)
  · try simp only [decide_eq_true_eq, decide_eq_false_iff_not, Bool.not_eq_true', Bool.not_eq_false', Bool.not_eq_eq_eq_not, Bool.not_true, Bool.not_false, beq_iff_eq, beq_eq_false_iff_ne, ne_eq, Int.not_lt, Int.not_le, Option.isSome_some, Option.isNone_none, Option.isSome_none, Option.isNone_some, Classical.not_not] at h1
    refine VC.seq ?_
    refine VC.region ?_
    refine V.move rfl rfl rfl ?_
    refine V.bin rfl rfl rfl rfl (bin_addI (by omega)) ?_
    refine V.know (t := 6) (y := .int .i64 ((48 + n : Nat) : Int)) rfl (by first | rfl | (congr 1; omega)) ?_
    refine V.conv _ rfl rfl rfl (IntWalk.u8_in _ (by omega)) ?_
    rw [byv_ofNat (show 48 + n < 256 by omega)]
    refine V.buildSlice1 (l := [byv (UInt8.ofNat (48 + n))]) rfl rfl rfl rfl rfl rfl rfl (fun b1 => ?_)
    apply V.str (l := [UInt8.ofNat (48 + n)]) rfl rfl rfl
    · right; repeat' constructor
    · exact Rd.block _ _ _ _ [byv (UInt8.ofNat (48 + n))] rfl (by omega)
    refine V.assign rfl rfl rfl ?_
    refine V.nil ?_
    refine Post.nextC ?_
    refine VC.ret ?_
    refine Post.thenRet (?_)
    apply Post.ret1 rfl rfl 
    · exact ⟨by rw [Lib.decDigits_one (by omega)], rfl⟩
    · repeat' constructor
  · try simp only [decide_eq_true_eq, decide_eq_false_iff_not, Bool.not_eq_true', Bool.not_eq_false', Bool.not_eq_eq_eq_not, Bool.not_true, Bool.not_false, beq_iff_eq, beq_eq_false_iff_ne, ne_eq, Int.not_lt, Int.not_le, Option.isSome_some, Option.isNone_none, Option.isSome_none, Option.isNone_some, Classical.not_not] at h1
    refine VC.skip ?_
    refine Post.nextC ?_
    refine VC.seq ?_
    refine VC.any ([]) 11 11 mixed rfl ?_
    refine VA.take 0 rfl (by kernel_rfl) (by kernel_rfl) rfl (by kernel_rfl) (by kernel_rfl) (by repeat' constructor) ?_
    refine V.move rfl rfl rfl ?_
    refine V.nil ?_
    refine Post.took ?_
    refine VA.take 1 rfl (by kernel_rfl) (by kernel_rfl) rfl (by kernel_rfl) (by kernel_rfl) (by repeat' constructor) ?_
    refine V.bin rfl rfl rfl rfl (bin_quoI (by omega)) ?_
    refine V.know (t := 11) (y := .int .i64 ((n / 10 : Nat) : Int)) rfl (by first | rfl | (congr 1; omega)) ?_
    refine V.nil ?_
    refine Post.took ?_
    refine VA.take 3 rfl (by kernel_rfl) (by kernel_rfl) rfl (by kernel_rfl) (by kernel_rfl) (by repeat' constructor) ?_
    refine V.move rfl rfl rfl ?_
    refine V.nil ?_
    refine Post.took ?_
    refine VA.take 4 rfl (by kernel_rfl) (by kernel_rfl) rfl (by kernel_rfl) (by kernel_rfl) (by repeat' constructor) ?_
    refine V.bin rfl rfl rfl rfl (bin_remI (by omega)) ?_
    refine V.know (t := 14) (y := .int .i64 ((n % 10 : Nat) : Int)) rfl (by first | rfl | (congr 1; omega)) ?_
    refine V.nil ?_
    refine Post.took ?_
    refine VA.take 5 rfl (by kernel_rfl) (by kernel_rfl) rfl (by kernel_rfl) (by kernel_rfl) (by repeat' constructor) ?_
    refine V.bin rfl rfl rfl rfl (bin_addI (by omega)) ?_
    refine V.know (t := 15) (y := .int .i64 ((48 + n % 10 : Nat) : Int)) rfl (by first | rfl | (congr 1; omega)) ?_
    refine V.nil ?_
    refine Post.took ?_
    refine VA.take 6 rfl (by kernel_rfl) (by kernel_rfl) rfl (by kernel_rfl) (by kernel_rfl) (by repeat' constructor) ?_
    refine V.conv _ rfl rfl rfl (IntWalk.u8_in _ (by omega)) ?_
    rw [byv_ofNat (show 48 + n % 10 < 256 by omega)]
    refine V.nil ?_
    refine Post.took ?_
    refine VA.two 2 7 (by kernel_rfl) rfl rfl ?_ ?_
    ·
      apply V.call rfl rfl rfl (hc := ih (n / 10) (by omega) (by omega))
      · repeat' constructor
      rintro vq Ho ⟨rfl, rfl⟩
      refine V.nil ?_
      refine Post.came (by repeat' constructor) ?_
      refine VA.one 7 (by kernel_rfl) rfl ?_
      refine V.buildSlice1 (l := [byv (UInt8.ofNat (48 + n % 10))]) rfl rfl rfl rfl rfl rfl rfl (fun b2 => ?_)
      refine V.nil ?_
      refine Post.came (by repeat' constructor) ?_
      refine VA.one 8 (by kernel_rfl) rfl ?_
      apply V.str (l := [UInt8.ofNat (48 + n % 10)]) rfl rfl rfl
      · right; repeat' constructor
      · exact Rd.block _ _ _ _ [byv (UInt8.ofNat (48 + n % 10))] rfl (by omega)
      refine V.nil ?_
      refine Post.came (by repeat' constructor) ?_
      refine VA.take 9 rfl (by kernel_rfl) (by kernel_rfl) rfl (by kernel_rfl) (by kernel_rfl) (by repeat' constructor) ?_
      refine V.bin rfl rfl rfl rfl (bin_stadd _ _ (by have := dec_len (n / 10) (by omega); simp only [List.length_cons, List.length_nil]; omega)) ?_
      refine V.nil ?_
      refine Post.took ?_
      refine VA.take 10 rfl (by kernel_rfl) (by kernel_rfl) rfl (by kernel_rfl) (by kernel_rfl) (by repeat' constructor) ?_
      refine V.assign rfl rfl rfl ?_
      refine V.nil ?_
      refine Post.took ?_
      refine VA.done (by kernel_rfl) ?_
      refine Post.nextC ?_
      refine VC.ret ?_
      apply Post.ret1 rfl rfl 
      · exact ⟨by rw [dec_big (n := n) (by omega)], rfl⟩
      · repeat' constructor
    ·
      refine V.buildSlice1 (l := [byv (UInt8.ofNat (48 + n % 10))]) rfl rfl rfl rfl rfl rfl rfl (fun b2 => ?_)
      refine V.nil ?_
      refine Post.came (by repeat' constructor) ?_
      refine VA.two 2 8 (by kernel_rfl) rfl rfl ?_ ?_
      ·
        apply V.call rfl rfl rfl (hc := ih (n / 10) (by omega) (by omega))
        · repeat' constructor
        rintro vq Ho ⟨rfl, rfl⟩
        refine V.nil ?_
        refine Post.came (by repeat' constructor) ?_
        refine VA.one 8 (by kernel_rfl) rfl ?_
        apply V.str (l := [UInt8.ofNat (48 + n % 10)]) rfl rfl rfl
        · right; repeat' constructor
        · exact Rd.block _ _ _ _ [byv (UInt8.ofNat (48 + n % 10))] rfl (by omega)
        refine V.nil ?_
        refine Post.came (by repeat' constructor) ?_
        refine VA.take 9 rfl (by kernel_rfl) (by kernel_rfl) rfl (by kernel_rfl) (by kernel_rfl) (by repeat' constructor) ?_
        refine V.bin rfl rfl rfl rfl (bin_stadd _ _ (by have := dec_len (n / 10) (by omega); simp only [List.length_cons, List.length_nil]; omega)) ?_
        refine V.nil ?_
        refine Post.took ?_
        refine VA.take 10 rfl (by kernel_rfl) (by kernel_rfl) rfl (by kernel_rfl) (by kernel_rfl) (by repeat' constructor) ?_
        refine V.assign rfl rfl rfl ?_
        refine V.nil ?_
        refine Post.took ?_
        refine VA.done (by kernel_rfl) ?_
        refine Post.nextC ?_
        refine VC.ret ?_
        apply Post.ret1 rfl rfl 
        · exact ⟨by rw [dec_big (n := n) (by omega)], rfl⟩
        · repeat' constructor
      ·
        apply V.str (l := [UInt8.ofNat (48 + n % 10)]) rfl rfl rfl
        · right; repeat' constructor
        · exact Rd.block _ _ _ _ [byv (UInt8.ofNat (48 + n % 10))] rfl (by omega)
        refine V.nil ?_
        refine Post.came (by repeat' constructor) ?_
        refine VA.one 2 (by kernel_rfl) rfl ?_
        apply V.call rfl rfl rfl (hc := ih (n / 10) (by omega) (by omega))
        · repeat' constructor
        rintro vq Ho ⟨rfl, rfl⟩
        refine V.nil ?_
        refine Post.came (by repeat' constructor) ?_
        refine VA.take 9 rfl (by kernel_rfl) (by kernel_rfl) rfl (by kernel_rfl) (by kernel_rfl) (by repeat' constructor) ?_
        refine V.bin rfl rfl rfl rfl (bin_stadd _ _ (by have := dec_len (n / 10) (by omega); simp only [List.length_cons, List.length_nil]; omega)) ?_
        refine V.nil ?_
        refine Post.took ?_
        refine VA.take 10 rfl (by kernel_rfl) (by kernel_rfl) rfl (by kernel_rfl) (by kernel_rfl) (by repeat' constructor) ?_
        refine V.assign rfl rfl rfl ?_
        refine V.nil ?_
        refine Post.took ?_
        refine VA.done (by kernel_rfl) ?_
        refine Post.nextC ?_
        refine VC.ret ?_
        apply Post.ret1 rfl rfl 
        · exact ⟨by rw [dec_big (n := n) (by omega)], rfl⟩
        · repeat' constructor

theorem showRef_flow {c : Call} (h : c.op = 18) : showRef c = (c.text, decide ((script c.text).2.1 = 0) && decide ((script c.text).1 = [c])) := by unfold showRef; rw [if_pos h]
theorem showRef_none {c : Call} (h : ¬ c.op = 18) (hf : forms.find? (fun g => decide (g.op = c.op)) = none) : showRef c = ([], false) := by unfold showRef; rw [if_neg h, hf]
theorem showRef_form {c : Call} {f : Form} (h : ¬ c.op = 18) (hf : forms.find? (fun g => decide (g.op = c.op)) = some f) (h1 : ∀ w ∈ f.like, fieldOk w c = true) : showRef c = (lineText f c, decide (takes f.like { Call.zero with op := c.op } c = c)) := by unfold showRef; rw [if_neg h, hf]; dsimp only; rw [if_pos (List.all_eq_true.2 h1)]
theorem showRef_bad {c : Call} {f : Form} {w : UInt8} (h : ¬ c.op = 18) (hf : forms.find? (fun g => decide (g.op = c.op)) = some f) (hw : w ∈ f.like) (h1 : fieldOk w c = false) : showRef c = ([], false) := by
  unfold showRef
  rw [if_neg h, hf]
  dsimp only
  rw [if_neg (fun e => by rw [List.all_eq_true.1 e w hw] at h1; cases h1)]
theorem takes_more {c d : Call} {f : Form} {i : Nat} {w : UInt8} (h : f.like[i]? = some w) : takes (f.like.take (i + 1)) d c = (takes (f.like.take i) d c).put w (tokOf w c) := by
  unfold takes
  rw [List.take_add_one, h, List.foldl_append]
  rfl
theorem ok_more {c : Call} {f : Form} {i : Nat} {w : UInt8} (h : f.like[i]? = some w) (h1 : ∀ w ∈ f.like.take i, fieldOk w c = true) (h2 : fieldOk w c = true) : ∀ w ∈ f.like.take (i + 1), fieldOk w c = true := by
  rw [List.take_add_one, h]
  intro v hv
  rcases List.mem_append.1 hv with hv | hv
  · exact h1 v hv
  · obtain rfl : v = w := by simpa using hv
    exact h2

theorem c17 {w0 : World} {c : Call} (hsz : c.a.length + c.b.length ≤ 100000000) (hn : -9223372036854775808 ≤ c.n ∧ c.n ≤ 9223372036854775807) : CtR Pg w0 17 #[callV c] [] (fun u H => u = .tuple #[st (showRef c).1, .bool (showRef c).2] ∧ H = []) := by
  have hnl := num_len c.n hn
  refine Ct.of_body Go.Proofs.Tryd.func17 rfl 129 rfl rfl (fun R => ?_)
  refine VC.seq ?_
  refine VC.region ?_
  refine V.box rfl rfl rfl rfl (fun b1 => ?_)
  refine V.assign rfl rfl rfl ?_
  refine V.assign rfl rfl rfl ?_
  refine V.nil ?_
  refine Post.nextC ?_
  refine VC.seq ?_
  refine VC.seq ?_
  refine VC.region ?_
  refine V.fieldAddr 0 3 rfl rfl rfl rfl rfl ?_
  apply V.loadL rfl rfl rfl rfl
  · repeat' constructor
  · repeat' constructor
  refine V.bin rfl rfl rfl rfl (bin_eql _ _ _) ?_
  refine V.nil ?_
  refine Post.nextC ?_
  refine VC.cond rfl (fun h1 => ?_) (fun h1 => ?_)
  · try simp only [decide_eq_true_eq, decide_eq_false_iff_not, Bool.not_eq_true', Bool.not_eq_false', Bool.not_eq_eq_eq_not, Bool.not_true, Bool.not_false, beq_iff_eq, beq_eq_false_iff_ne, ne_eq, Int.not_lt, Int.not_le, Option.isSome_some, Option.isNone_none, Option.isSome_none, Option.isNone_some, Classical.not_not] at h1
    refine VC.seq ?_
    refine VC.region ?_
    refine V.fieldAddr 5 9 rfl rfl rfl rfl rfl ?_
    apply V.loadL rfl rfl rfl rfl
    · repeat' constructor
    · repeat' constructor
    apply V.call rfl rfl rfl (hc := c10 (t := c.text))
    · repeat' constructor
    rintro vq Ho ⟨v1, c1, ho1, rfl, rfl⟩
    obtain ⟨ad1, cp1, rfl, hl1, hl2, _⟩ := id (ho1.rd (w0 := w0))
    simp only [maxLen] at hl2
    refine V.move rfl rfl rfl ?_
    refine V.extract rfl rfl rfl rfl ?_
    refine V.extract rfl rfl rfl rfl ?_
    refine V.alloc (l := [.int .i64 0, .int .i64 0, .int .i64 0]) rfl rfl rfl (fun b2 => ?_)
    refine V.assign rfl rfl rfl ?_
    apply V.storeAll rfl rfl rfl rfl
    · repeat' constructor
    · exact rfl
    · exact rfl
    refine V.nil ?_
    refine Post.nextC ?_
    refine VC.seq ?_
    refine VC.draw mixed (by kernel_rfl) ?_
    refine V.fieldAddr 5 9 rfl rfl rfl rfl rfl ?_
    apply V.loadL rfl rfl rfl rfl
    · repeat' constructor
    · repeat' constructor
    refine V.fieldAddr 0 23 rfl rfl rfl rfl rfl ?_
    apply V.loadL rfl rfl rfl rfl
    · repeat' constructor
    · repeat' constructor
    refine V.bin rfl rfl rfl rfl (bin_eql _ _ _) ?_
    refine V.move rfl rfl rfl ?_
    refine V.split (t := 25) rfl (fun h2 => ?_) (fun h2 => ?_)
    · try simp only [decide_eq_true_eq, decide_eq_false_iff_not, Bool.not_eq_true', Bool.not_eq_false', Bool.not_eq_eq_eq_not, Bool.not_true, Bool.not_false, beq_iff_eq, beq_eq_false_iff_ne, ne_eq, Int.not_lt, Int.not_le, Option.isSome_some, Option.isNone_none, Option.isSome_none, Option.isNone_some, Classical.not_not] at h2
      refine V.move rfl rfl rfl ?_
      refine V.len rfl rfl rfl ?_
      refine V.bin rfl rfl rfl rfl (bin_eql _ _ _) ?_
      refine V.pickT rfl rfl rfl rfl ?_
      refine V.move rfl rfl rfl ?_
      refine V.split (t := 30) rfl (fun h3 => ?_) (fun h3 => ?_)
      · try simp only [decide_eq_true_eq, decide_eq_false_iff_not, Bool.not_eq_true', Bool.not_eq_false', Bool.not_eq_eq_eq_not, Bool.not_true, Bool.not_false, beq_iff_eq, beq_eq_false_iff_ne, ne_eq, Int.not_lt, Int.not_le, Option.isSome_some, Option.isNone_none, Option.isSome_none, Option.isNone_some, Classical.not_not] at h3
        have hlen1 : (script c.text).1.length = 1 := by omega
        obtain ⟨x, hx0⟩ := List.length_eq_one_iff.1 hlen1
        obtain ⟨_, bo, oo, cpo, e, hx⟩ := (ho1.rd (w0 := w0)).item (f := Call.cells) (i := 0) call6 (by omega) (show (script c.text).1[0]? = some x by rw [hx0]; rfl)
        simp only [Value.slice.injEq] at e
        obtain ⟨rfl, _, rfl⟩ := e
        refine V.move rfl rfl rfl ?_
        refine V.indexO (i := 0) rfl rfl rfl rfl (by omega) ?_
        apply V.loadNC (c := c1) (vs := x.cells) rfl rfl rfl rfl
        · repeat' constructor
        · rfl
        · exact fun j u hu => by rw [add_addr]; exact hx j u hu
        apply V.loadAll rfl rfl rfl rfl
        · repeat' constructor
        · exact rfl
        refine V.bin rfl rfl rfl rfl (bin_eqlS (.int rfl u3 rfl rfl (.str rfl u9 rfl rfl (.str rfl u9 rfl rfl (.str rfl u9 rfl rfl (.int rfl u3 rfl rfl (.str rfl u9 rfl rfl (.nil)))))))) ?_
        rw [call_ext]
        refine V.pickT rfl rfl rfl rfl ?_
        refine V.assign rfl rfl rfl ?_
        refine V.assign rfl rfl rfl ?_
        refine V.nil ?_
        refine Post.nextC ?_
        refine VC.ret ?_
        refine Post.thenRet (?_)
        apply Post.ret2 rfl rfl rfl 
        · rw [showRef_flow (by assumption)]
          first
            | exact ⟨by rw [hx0, decide_eq_true (p := (script c.text).2.1 = 0) (by assumption)]; simp, rfl⟩
            | exact ⟨by rw [decide_eq_false (p := (script c.text).1 = [c]) (fun e => by have e2 := congrArg List.length e; simp only [List.length_cons, List.length_nil] at e2; omega)]; simp, rfl⟩
            | exact ⟨by rw [decide_eq_false (p := (script c.text).2.1 = 0) (by assumption)]; simp, rfl⟩
        · repeat' constructor
      · try simp only [decide_eq_true_eq, decide_eq_false_iff_not, Bool.not_eq_true', Bool.not_eq_false', Bool.not_eq_eq_eq_not, Bool.not_true, Bool.not_false, beq_iff_eq, beq_eq_false_iff_ne, ne_eq, Int.not_lt, Int.not_le, Option.isSome_some, Option.isNone_none, Option.isSome_none, Option.isNone_some, Classical.not_not] at h3
        refine V.skip rfl rfl ?_
        refine V.skip rfl rfl ?_
        refine V.skip rfl rfl ?_
        refine V.skip rfl rfl ?_
        refine V.skip rfl rfl ?_
        refine V.pickF rfl rfl rfl rfl ?_
        refine V.assign rfl rfl rfl ?_
        refine V.assign rfl rfl rfl ?_
        refine V.nil ?_
        refine Post.nextC ?_
        refine VC.ret ?_
        refine Post.thenRet (?_)
        apply Post.ret2 rfl rfl rfl 
        · rw [showRef_flow (by assumption)]
          first
            | exact ⟨by rw [hx0, decide_eq_true (p := (script c.text).2.1 = 0) (by assumption)]; simp, rfl⟩
            | exact ⟨by rw [decide_eq_false (p := (script c.text).1 = [c]) (fun e => by have e2 := congrArg List.length e; simp only [List.length_cons, List.length_nil] at e2; omega)]; simp, rfl⟩
            | exact ⟨by rw [decide_eq_false (p := (script c.text).2.1 = 0) (by assumption)]; simp, rfl⟩
        · repeat' constructor
    · try simp only [decide_eq_true_eq, decide_eq_false_iff_not, Bool.not_eq_true', Bool.not_eq_false', Bool.not_eq_eq_eq_not, Bool.not_true, Bool.not_false, beq_iff_eq, beq_eq_false_iff_ne, ne_eq, Int.not_lt, Int.not_le, Option.isSome_some, Option.isNone_none, Option.isSome_none, Option.isNone_some, Classical.not_not] at h2
      refine V.skip rfl rfl ?_
      refine V.skip rfl rfl ?_
      refine V.skip rfl rfl ?_
      refine V.pickF rfl rfl rfl rfl ?_
      refine V.move rfl rfl rfl ?_
      refine V.skip rfl rfl ?_
      refine V.skip rfl rfl ?_
      refine V.skip rfl rfl ?_
      refine V.skip rfl rfl ?_
      refine V.skip rfl rfl ?_
      refine V.pickF rfl rfl rfl rfl ?_
      refine V.assign rfl rfl rfl ?_
      refine V.assign rfl rfl rfl ?_
      refine V.nil ?_
      refine Post.nextC ?_
      refine VC.ret ?_
      refine Post.thenRet (?_)
      apply Post.ret2 rfl rfl rfl 
      · rw [showRef_flow (by assumption)]
        first
          | exact ⟨by rw [hx0, decide_eq_true (p := (script c.text).2.1 = 0) (by assumption)]; simp, rfl⟩
          | exact ⟨by rw [decide_eq_false (p := (script c.text).1 = [c]) (fun e => by have e2 := congrArg List.length e; simp only [List.length_cons, List.length_nil] at e2; omega)]; simp, rfl⟩
          | exact ⟨by rw [decide_eq_false (p := (script c.text).2.1 = 0) (by assumption)]; simp, rfl⟩
      · repeat' constructor
  · try simp only [decide_eq_true_eq, decide_eq_false_iff_not, Bool.not_eq_true', Bool.not_eq_false', Bool.not_eq_eq_eq_not, Bool.not_true, Bool.not_false, beq_iff_eq, beq_eq_false_iff_ne, ne_eq, Int.not_lt, Int.not_le, Option.isSome_some, Option.isNone_none, Option.isSome_none, Option.isNone_some, Classical.not_not] at h1
    refine VC.skip ?_
    refine Post.nextC ?_
    refine VC.seq ?_
    refine VC.region ?_
    apply V.call rfl rfl rfl (hc := c36)
    · repeat' constructor
    rintro vq Ho ⟨fb, rfl, rfl⟩
    refine V.assign rfl rfl rfl ?_
    refine V.nil ?_
    refine Post.nextC ?_
    refine VC.seq ?_
    refine VC.seq ?_
    refine VC.region ?_
    refine V.assign rfl rfl rfl ?_
    refine V.nil ?_
    refine Post.nextC ?_
    refine VC.block ?_
    refine VC.loop (σ := (Nat)) (fun zz => [(1, pt b1), (6, .slice (some ⟨fb, 0, none⟩) 32 32), (7, .int .i64 (zz : Int))]) (fun zz => [(fb, .cells (shapes.flatMap Form.cells).toArray 88 (0, 0))] :: [(b1, .cells c.cells.toArray 43 (0, 0))] :: R) (fun zz => (zz ≤ 32) ∧ (forms.find? (fun g => decide (g.op = c.op)) = (forms.drop zz).find? (fun g => decide (g.op = c.op)))) (fun zz => 32 - zz) (0) (⟨by omega, by simp⟩) ?_ ?_ ?_
    · exact ⟨rfl, rfl, rfl, trivial⟩
    · repeat' constructor
    rintro j ⟨(hj : j ≤ 32), (hI : forms.find? (fun g => decide (g.op = c.op)) = (forms.drop j).find? (fun g => decide (g.op = c.op)))⟩
    refine VC.sub (E' := [(1, pt b1), (6, .slice (some ⟨fb, 0, none⟩) 32 32), (7, .int .i64 (j : Int))]) (H' := [(fb, .cells (shapes.flatMap Form.cells).toArray 88 (0, 0))] :: [(b1, .cells c.cells.toArray 43 (0, 0))] :: R) ⟨rfl, rfl, rfl, trivial⟩ (by repeat' constructor) ?_
    refine VC.seq ?_
    refine VC.seq ?_
    refine VC.region ?_
    refine V.move rfl rfl rfl ?_
    refine V.move rfl rfl rfl ?_
    refine V.len rfl rfl rfl ?_
    refine V.bin rfl rfl rfl rfl (bin_lss _ _ _) ?_
    refine V.nil ?_
    refine Post.nextC ?_
    refine VC.cond rfl (fun h4 => ?_) (fun h4 => ?_)
    · try simp only [decide_eq_true_eq, decide_eq_false_iff_not, Bool.not_eq_true', Bool.not_eq_false', Bool.not_eq_eq_eq_not, Bool.not_true, Bool.not_false, beq_iff_eq, beq_eq_false_iff_ne, ne_eq, Int.not_lt, Int.not_le, Option.isSome_some, Option.isNone_none, Option.isSome_none, Option.isNone_some, Classical.not_not] at h4
      refine VC.skip ?_
      refine Post.nextC ?_
      refine VC.seq ?_
      refine VC.block ?_
      refine VC.seq ?_
      refine VC.seq ?_
      refine VC.draw mixed (by kernel_rfl) ?_
      obtain ⟨f, hf⟩ : ∃ f, forms[j]? = some f := ⟨forms[j]'(by rw [forms_len]; omega), List.getElem?_eq_getElem _⟩
      obtain ⟨_, bb2, oo2, cp2, e, hg0⟩ := (Rd.blockN (w0 := w0) fb 88 32 3 (0, 0) (shapes.flatMap Form.cells) rfl (by omega)).item (f := Form.cells) (i := j) form3 (by omega) (shapes_get hf)
      simp only [Value.slice.injEq, Option.some.injEq, Addr.mk.injEq] at e
      obtain ⟨⟨rfl, rfl, _⟩, _, rfl⟩ := e
      have hg : ∀ (q : Nat) (u : Value), [st f.word, .int .i64 f.op, st (up f.like)][q]? = some u → Cel w0 [(fb, .cells (shapes.flatMap Form.cells).toArray 88 (0, 0))] ⟨fb, 0 + j * 3 + q, none⟩ u := hg0
      refine V.move rfl rfl rfl ?_
      refine V.move rfl rfl rfl ?_
      refine V.indexO rfl rfl rfl rfl (by omega) ?_
      refine V.fieldAddr 1 3 rfl rfl rfl rfl rfl ?_
      apply V.loadC (c := [(fb, .cells (shapes.flatMap Form.cells).toArray 88 (0, 0))]) rfl rfl rfl rfl
      · repeat' constructor
      · exact hg 1 _ rfl
      refine V.fieldAddr 0 3 rfl rfl rfl rfl rfl ?_
      apply V.loadL rfl rfl rfl rfl
      · repeat' constructor
      · repeat' constructor
      refine V.bin rfl rfl rfl rfl (bin_neq _ _ _) ?_
      refine V.nil ?_
      refine Post.nextC ?_
      refine VC.cond rfl (fun h5 => ?_) (fun h5 => ?_)
      · try simp only [decide_eq_true_eq, decide_eq_false_iff_not, Bool.not_eq_true', Bool.not_eq_false', Bool.not_eq_eq_eq_not, Bool.not_true, Bool.not_false, beq_iff_eq, beq_eq_false_iff_ne, ne_eq, Int.not_lt, Int.not_le, Option.isSome_some, Option.isNone_none, Option.isSome_none, Option.isNone_some, Classical.not_not] at h5
        refine VC.exit ?_
        refine Post.thenExit (Post.blockHit (Post.nextC ?_))
        refine VC.region ?_
        refine V.move rfl rfl rfl ?_
        refine V.bin rfl rfl rfl rfl (bin_addI (by omega)) ?_
        refine V.assign rfl rfl rfl ?_
        refine V.nil ?_
        refine Post.round (j + 1) ?_ ?_ ?_ ?_
        · show ((j + 1) ≤ 32) ∧ (forms.find? (fun g => decide (g.op = c.op)) = (forms.drop (j + 1)).find? (fun g => decide (g.op = c.op)))
          exact ⟨by omega, by rw [hI, drop_cons hf, List.find?_cons_of_neg (by simpa using (by assumption : ¬ f.op = c.op))]⟩
        · show 32 - (j + 1) < 32 - j
          omega
        · exact ⟨rfl, rfl, rfl, trivial⟩
        · repeat' constructor
      · try simp only [decide_eq_true_eq, decide_eq_false_iff_not, Bool.not_eq_true', Bool.not_eq_false', Bool.not_eq_eq_eq_not, Bool.not_true, Bool.not_false, beq_iff_eq, beq_eq_false_iff_ne, ne_eq, Int.not_lt, Int.not_le, Option.isSome_some, Option.isNone_none, Option.isSome_none, Option.isNone_some, Classical.not_not] at h5
        refine VC.skip ?_
        refine Post.nextC ?_
        refine VC.seq ?_
        refine VC.region ?_
        have hfd : forms.find? (fun g => decide (g.op = c.op)) = some f := by rw [hI, drop_cons hf, List.find?_cons_of_pos (by simpa using (by assumption : f.op = c.op))]
        obtain ⟨hm, hop⟩ := find_form hfd
        have hul := up_len f.like
        have hl3 := like_len f hm
        refine V.move rfl rfl rfl ?_
        refine V.move rfl rfl rfl ?_
        refine V.indexO rfl rfl rfl rfl (by omega) ?_
        refine V.fieldAddr 0 9 rfl rfl rfl rfl rfl ?_
        apply V.loadC (c := [(fb, .cells (shapes.flatMap Form.cells).toArray 88 (0, 0))]) rfl rfl rfl rfl
        · repeat' constructor
        · exact hg 0 _ rfl
        refine V.assign rfl rfl rfl ?_
        refine V.nil ?_
        refine Post.nextC ?_
        refine VC.seq ?_
        refine VC.region ?_
        refine V.fieldAddr 0 3 rfl rfl rfl rfl rfl ?_
        apply V.loadL rfl rfl rfl rfl
        · repeat' constructor
        · repeat' constructor
        refine V.buildS [(0, _)] (l := [_, .string ByteArray.empty, .string ByteArray.empty, .string ByteArray.empty, .int .i64 0, .string ByteArray.empty]) rfl rfl rfl rfl rfl ?_
        refine V.alloc (l := [.int .i64 0, .string ByteArray.empty, .string ByteArray.empty, .string ByteArray.empty, .int .i64 0, .string ByteArray.empty]) rfl rfl rfl (fun b3 => ?_)
        apply V.storeAll rfl rfl rfl rfl
        · repeat' constructor
        · exact rfl
        · exact rfl
        refine V.nil ?_
        refine Post.nextC ?_
        refine VC.seq ?_
        refine VC.seq ?_
        refine VC.region ?_
        refine V.assign rfl rfl rfl ?_
        refine V.nil ?_
        refine Post.nextC ?_
        refine VC.block ?_
        refine VC.loop (σ := (Nat) × (List UInt8) × (Call)) (fun zz => [(1, pt b1), (6, .slice (some ⟨fb, 0, none⟩) 32 32), (7, .int .i64 (j : Int)), (8, st zz.2.1), (9, pt b3), (10, .int .i64 (zz.1 : Int))]) (fun zz => [(fb, .cells (shapes.flatMap Form.cells).toArray 88 (0, 0))] :: [(b1, .cells c.cells.toArray 43 (0, 0))] :: [(b3, .cells (zz.2.2).cells.toArray 43 (0, 0))] :: R) (fun zz => (zz.1 ≤ f.like.length) ∧ (zz.2.1 = f.word ++ (f.like.take zz.1).flatMap fun w => 32 :: (tokOf w c).text) ∧ (zz.2.2 = takes (f.like.take zz.1) { Call.zero with op := c.op } c) ∧ (∀ w ∈ f.like.take zz.1, fieldOk w c = true)) (fun zz => f.like.length - zz.1) (0, f.word, { Call.zero with op := c.op }) (⟨Nat.zero_le _, by simp, rfl, fun w hw => by simp at hw⟩) ?_ ?_ ?_
        · exact ⟨rfl, rfl, rfl, rfl, rfl, rfl, trivial⟩
        · repeat' constructor
        rintro ⟨i, acc, d⟩ ⟨(hi : i ≤ f.like.length), (hacc : acc = f.word ++ (f.like.take i).flatMap fun w => 32 :: (tokOf w c).text), (hd : d = takes (f.like.take i) { Call.zero with op := c.op } c), (hok : ∀ w ∈ f.like.take i, fieldOk w c = true)⟩
        refine VC.sub (E' := [(1, pt b1), (6, .slice (some ⟨fb, 0, none⟩) 32 32), (7, .int .i64 (j : Int)), (8, st acc), (9, pt b3), (10, .int .i64 (i : Int))]) (H' := [(fb, .cells (shapes.flatMap Form.cells).toArray 88 (0, 0))] :: [(b1, .cells c.cells.toArray 43 (0, 0))] :: [(b3, .cells (d).cells.toArray 43 (0, 0))] :: R) ⟨rfl, rfl, rfl, rfl, rfl, rfl, trivial⟩ (by repeat' constructor) ?_
        refine VC.seq ?_
        refine VC.seq ?_
        refine VC.region ?_
        refine V.move rfl rfl rfl ?_
        refine V.move rfl rfl rfl ?_
        refine V.move rfl rfl rfl ?_
        refine V.indexO rfl rfl rfl rfl (by omega) ?_
        refine V.fieldAddr 2 9 rfl rfl rfl rfl rfl ?_
        apply V.loadC (c := [(fb, .cells (shapes.flatMap Form.cells).toArray 88 (0, 0))]) rfl rfl rfl rfl
        · repeat' constructor
        · exact hg 2 _ rfl
        refine V.lenSt rfl rfl rfl ?_
        refine V.bin rfl rfl rfl rfl (bin_lss _ _ _) ?_
        refine V.nil ?_
        refine Post.nextC ?_
        refine VC.cond rfl (fun h6 => ?_) (fun h6 => ?_)
        · try simp only [decide_eq_true_eq, decide_eq_false_iff_not, Bool.not_eq_true', Bool.not_eq_false', Bool.not_eq_eq_eq_not, Bool.not_true, Bool.not_false, beq_iff_eq, beq_eq_false_iff_ne, ne_eq, Int.not_lt, Int.not_le, Option.isSome_some, Option.isNone_none, Option.isSome_none, Option.isNone_some, Classical.not_not] at h6
          refine VC.skip ?_
          refine Post.nextC ?_
          refine VC.seq ?_
          refine VC.block ?_
          refine VC.seq ?_
          refine VC.region ?_
          obtain ⟨w, hw⟩ := getc (t := f.like) (i := i) (by omega)
          have hwm := List.mem_of_getElem? hw
          obtain ⟨hwn, hw4⟩ := up_nat (like_letters f hm w hwm)
          have hal : acc.length ≤ 400000000 := by rw [hacc]; exact pre_len hm hsz hnl i
          refine V.move rfl rfl rfl ?_
          refine V.move rfl rfl rfl ?_
          refine V.indexO rfl rfl rfl rfl (by omega) ?_
          refine V.fieldAddr 2 9 rfl rfl rfl rfl rfl ?_
          apply V.loadC (c := [(fb, .cells (shapes.flatMap Form.cells).toArray 88 (0, 0))]) rfl rfl rfl rfl
          · repeat' constructor
          · exact hg 2 _ rfl
          refine V.move rfl rfl rfl ?_
          refine V.indexSt (i := i) (c := w - 32) rfl rfl rfl rfl (up_get hw) ?_
          refine V.nil ?_
          refine Post.nextC ?_
          refine VC.block ?_
          refine VC.seq ?_
          refine VC.region ?_
          refine V.bin rfl rfl rfl rfl (bin_eql _ _ _) ?_
          refine V.assign rfl rfl rfl ?_
          refine V.nil ?_
          refine Post.nextC ?_
          refine VC.cond rfl (fun h7 => ?_) (fun h7 => ?_)
          · try simp only [decide_eq_true_eq, decide_eq_false_iff_not, Bool.not_eq_true', Bool.not_eq_false', Bool.not_eq_eq_eq_not, Bool.not_true, Bool.not_false, beq_iff_eq, beq_eq_false_iff_ne, ne_eq, Int.not_lt, Int.not_le, Option.isSome_some, Option.isNone_none, Option.isSome_none, Option.isNone_some, Classical.not_not] at h7
            refine VC.seq ?_
            refine VC.seq ?_
            refine VC.region ?_
            refine V.fieldAddr 1 9 rfl rfl rfl rfl rfl ?_
            apply V.loadL rfl rfl rfl rfl
            · repeat' constructor
            · repeat' constructor
            apply V.call rfl rfl rfl (hc := c37 (s := c.a))
            · repeat' constructor
            rintro vq Ho ⟨rfl, rfl⟩
            refine V.not rfl rfl rfl ?_
            refine V.nil ?_
            refine Post.nextC ?_
            refine VC.cond rfl (fun h8 => ?_) (fun h8 => ?_)
            · try simp only [decide_eq_true_eq, decide_eq_false_iff_not, Bool.not_eq_true', Bool.not_eq_false', Bool.not_eq_eq_eq_not, Bool.not_true, Bool.not_false, beq_iff_eq, beq_eq_false_iff_ne, ne_eq, Int.not_lt, Int.not_le, Option.isSome_some, Option.isNone_none, Option.isSome_none, Option.isNone_some, Classical.not_not] at h8
              refine VC.seq ?_
              refine VC.region ?_
              refine V.assign rfl rfl rfl ?_
              refine V.assign rfl rfl rfl ?_
              refine V.nil ?_
              refine Post.nextC ?_
              refine VC.ret ?_
              refine Post.thenRet (Post.blockRet (Post.blockRet (Post.thenRet (Post.thenRet (Post.blockRet (Post.thenRet (Post.blockRet (Post.thenRet (Post.thenRet (Post.blockRet (Post.thenRet (?_))))))))))))
              apply Post.ret2 rfl rfl rfl 
              · rw [showRef_bad (by assumption) hfd hwm (by rw [(tok_a (by omega)).2.1]; assumption)]
                exact ⟨rfl, rfl⟩
              · repeat' constructor
            · try simp only [decide_eq_true_eq, decide_eq_false_iff_not, Bool.not_eq_true', Bool.not_eq_false', Bool.not_eq_eq_eq_not, Bool.not_true, Bool.not_false, beq_iff_eq, beq_eq_false_iff_ne, ne_eq, Int.not_lt, Int.not_le, Option.isSome_some, Option.isNone_none, Option.isSome_none, Option.isNone_some, Classical.not_not] at h8
              refine VC.skip ?_
              refine Post.nextC ?_
              refine VC.seq ?_
              refine VC.region ?_
              refine V.move rfl rfl rfl ?_
              refine V.bin rfl rfl rfl rfl (bin_stadd _ _ (by simp only [List.length_append, List.length_cons, List.length_nil]; omega)) ?_
              refine V.fieldAddr 1 9 rfl rfl rfl rfl rfl ?_
              apply V.loadL rfl rfl rfl rfl
              · repeat' constructor
              · repeat' constructor
              refine V.bin rfl rfl rfl rfl (bin_stadd _ _ (by simp only [List.length_append, List.length_cons, List.length_nil]; omega)) ?_
              refine V.assign rfl rfl rfl ?_
              refine V.nil ?_
              refine Post.nextC ?_
              refine VC.region ?_
              refine V.fieldAddr 1 9 rfl rfl rfl rfl rfl ?_
              apply V.loadL rfl rfl rfl rfl
              · repeat' constructor
              · repeat' constructor
              refine V.fieldAddr 1 9 rfl rfl rfl rfl rfl ?_
              apply V.storeL rfl rfl rfl rfl rfl
              · repeat' constructor
              · repeat' constructor
              refine V.nil ?_
              refine Post.blockNormal (Post.blockNormal (Post.nextC ?_))
              refine VC.region ?_
              refine V.move rfl rfl rfl ?_
              refine V.bin rfl rfl rfl rfl (bin_addI (by omega)) ?_
              refine V.assign rfl rfl rfl ?_
              refine V.nil ?_
              refine Post.round (i + 1, acc ++ [32] ++ c.a, { d with a := c.a }) ?_ ?_ ?_ ?_
              · show ((i + 1) ≤ f.like.length) ∧ ((acc ++ [32] ++ c.a) = f.word ++ (f.like.take (i + 1)).flatMap fun w => 32 :: (tokOf w c).text) ∧ (({ d with a := c.a }) = takes (f.like.take (i + 1)) { Call.zero with op := c.op } c) ∧ (∀ w ∈ f.like.take (i + 1), fieldOk w c = true)
                have htk := tok_a (c := c) (w := w) (by omega)
                exact ⟨by omega, by rw [hacc, like_more hw, htk.1]; simp [], by rw [takes_more hw, ← hd, htk.2.2], ok_more hw hok (by rw [htk.2.1]; first | assumption | (simp only [Bool.and_eq_true, decide_eq_true_eq]; omega))⟩
              · show f.like.length - (i + 1) < f.like.length - i
                omega
              · exact ⟨rfl, rfl, rfl, rfl, rfl, rfl, trivial⟩
              · repeat' constructor
          · try simp only [decide_eq_true_eq, decide_eq_false_iff_not, Bool.not_eq_true', Bool.not_eq_false', Bool.not_eq_eq_eq_not, Bool.not_true, Bool.not_false, beq_iff_eq, beq_eq_false_iff_ne, ne_eq, Int.not_lt, Int.not_le, Option.isSome_some, Option.isNone_none, Option.isSome_none, Option.isNone_some, Classical.not_not] at h7
            refine VC.seq ?_
            refine VC.region ?_
            refine V.bin rfl rfl rfl rfl (bin_eql _ _ _) ?_
            refine V.assign rfl rfl rfl ?_
            refine V.nil ?_
            refine Post.nextC ?_
            refine VC.cond rfl (fun h9 => ?_) (fun h9 => ?_)
            · try simp only [decide_eq_true_eq, decide_eq_false_iff_not, Bool.not_eq_true', Bool.not_eq_false', Bool.not_eq_eq_eq_not, Bool.not_true, Bool.not_false, beq_iff_eq, beq_eq_false_iff_ne, ne_eq, Int.not_lt, Int.not_le, Option.isSome_some, Option.isNone_none, Option.isSome_none, Option.isNone_some, Classical.not_not] at h9
              refine VC.seq ?_
              refine VC.seq ?_
              refine VC.region ?_
              refine V.fieldAddr 2 9 rfl rfl rfl rfl rfl ?_
              apply V.loadL rfl rfl rfl rfl
              · repeat' constructor
              · repeat' constructor
              apply V.call rfl rfl rfl (hc := c37 (s := c.b))
              · repeat' constructor
              rintro vq Ho ⟨rfl, rfl⟩
              refine V.not rfl rfl rfl ?_
              refine V.nil ?_
              refine Post.nextC ?_
              refine VC.cond rfl (fun h10 => ?_) (fun h10 => ?_)
              · try simp only [decide_eq_true_eq, decide_eq_false_iff_not, Bool.not_eq_true', Bool.not_eq_false', Bool.not_eq_eq_eq_not, Bool.not_true, Bool.not_false, beq_iff_eq, beq_eq_false_iff_ne, ne_eq, Int.not_lt, Int.not_le, Option.isSome_some, Option.isNone_none, Option.isSome_none, Option.isNone_some, Classical.not_not] at h10
                refine VC.seq ?_
                refine VC.region ?_
                refine V.assign rfl rfl rfl ?_
                refine V.assign rfl rfl rfl ?_
                refine V.nil ?_
                refine Post.nextC ?_
                refine VC.ret ?_
                refine Post.thenRet (Post.blockRet (Post.blockRet (Post.thenRet (Post.thenRet (Post.blockRet (Post.thenRet (Post.blockRet (Post.thenRet (Post.thenRet (Post.blockRet (Post.thenRet (?_))))))))))))
                apply Post.ret2 rfl rfl rfl 
                · rw [showRef_bad (by assumption) hfd hwm (by rw [(tok_b (by omega)).2.1]; assumption)]
                  exact ⟨rfl, rfl⟩
                · repeat' constructor
              · try simp only [decide_eq_true_eq, decide_eq_false_iff_not, Bool.not_eq_true', Bool.not_eq_false', Bool.not_eq_eq_eq_not, Bool.not_true, Bool.not_false, beq_iff_eq, beq_eq_false_iff_ne, ne_eq, Int.not_lt, Int.not_le, Option.isSome_some, Option.isNone_none, Option.isSome_none, Option.isNone_some, Classical.not_not] at h10
                refine VC.skip ?_
                refine Post.nextC ?_
                refine VC.seq ?_
                refine VC.region ?_
                refine V.move rfl rfl rfl ?_
                refine V.bin rfl rfl rfl rfl (bin_stadd _ _ (by simp only [List.length_append, List.length_cons, List.length_nil]; omega)) ?_
                refine V.fieldAddr 2 9 rfl rfl rfl rfl rfl ?_
                apply V.loadL rfl rfl rfl rfl
                · repeat' constructor
                · repeat' constructor
                refine V.bin rfl rfl rfl rfl (bin_stadd _ _ (by simp only [List.length_append, List.length_cons, List.length_nil]; omega)) ?_
                refine V.assign rfl rfl rfl ?_
                refine V.nil ?_
                refine Post.nextC ?_
                refine VC.region ?_
                refine V.fieldAddr 2 9 rfl rfl rfl rfl rfl ?_
                apply V.loadL rfl rfl rfl rfl
                · repeat' constructor
                · repeat' constructor
                refine V.fieldAddr 2 9 rfl rfl rfl rfl rfl ?_
                apply V.storeL rfl rfl rfl rfl rfl
                · repeat' constructor
                · repeat' constructor
                refine V.nil ?_
                refine Post.blockNormal (Post.blockNormal (Post.nextC ?_))
                refine VC.region ?_
                refine V.move rfl rfl rfl ?_
                refine V.bin rfl rfl rfl rfl (bin_addI (by omega)) ?_
                refine V.assign rfl rfl rfl ?_
                refine V.nil ?_
                refine Post.round (i + 1, acc ++ [32] ++ c.b, { d with b := c.b }) ?_ ?_ ?_ ?_
                · show ((i + 1) ≤ f.like.length) ∧ ((acc ++ [32] ++ c.b) = f.word ++ (f.like.take (i + 1)).flatMap fun w => 32 :: (tokOf w c).text) ∧ (({ d with b := c.b }) = takes (f.like.take (i + 1)) { Call.zero with op := c.op } c) ∧ (∀ w ∈ f.like.take (i + 1), fieldOk w c = true)
                  have htk := tok_b (c := c) (w := w) (by omega)
                  exact ⟨by omega, by rw [hacc, like_more hw, htk.1]; simp [], by rw [takes_more hw, ← hd, htk.2.2], ok_more hw hok (by rw [htk.2.1]; first | assumption | (simp only [Bool.and_eq_true, decide_eq_true_eq]; omega))⟩
                · show f.like.length - (i + 1) < f.like.length - i
                  omega
                · exact ⟨rfl, rfl, rfl, rfl, rfl, rfl, trivial⟩
                · repeat' constructor
            · try simp only [decide_eq_true_eq, decide_eq_false_iff_not, Bool.not_eq_true', Bool.not_eq_false', Bool.not_eq_eq_eq_not, Bool.not_true, Bool.not_false, beq_iff_eq, beq_eq_false_iff_ne, ne_eq, Int.not_lt, Int.not_le, Option.isSome_some, Option.isNone_none, Option.isSome_none, Option.isNone_some, Classical.not_not] at h9
              refine VC.seq ?_
              refine VC.seq ?_
              refine VC.region ?_
              refine V.fieldAddr 4 3 rfl rfl rfl rfl rfl ?_
              apply V.loadL rfl rfl rfl rfl
              · repeat' constructor
              · repeat' constructor
              refine V.bin rfl rfl rfl rfl (bin_lss _ _ _) ?_
              refine V.move rfl rfl rfl ?_
              refine V.split (t := 80) rfl (fun h11 => ?_) (fun h11 => ?_)
              · try simp only [decide_eq_true_eq, decide_eq_false_iff_not, Bool.not_eq_true', Bool.not_eq_false', Bool.not_eq_eq_eq_not, Bool.not_true, Bool.not_false, beq_iff_eq, beq_eq_false_iff_ne, ne_eq, Int.not_lt, Int.not_le, Option.isSome_some, Option.isNone_none, Option.isSome_none, Option.isNone_some, Classical.not_not] at h11
                refine V.skip rfl rfl ?_
                refine V.skip rfl rfl ?_
                refine V.skip rfl rfl ?_
                refine V.pickT rfl rfl rfl rfl ?_
                refine V.nil ?_
                refine Post.nextC ?_
                refine VC.condT rfl ?_
                refine VC.seq ?_
                refine VC.region ?_
                refine V.assign rfl rfl rfl ?_
                refine V.assign rfl rfl rfl ?_
                refine V.nil ?_
                refine Post.nextC ?_
                refine VC.ret ?_
                refine Post.thenRet (Post.blockRet (Post.blockRet (Post.thenRet (Post.thenRet (Post.blockRet (Post.thenRet (Post.blockRet (Post.thenRet (Post.thenRet (Post.blockRet (Post.thenRet (?_))))))))))))
                apply Post.ret2 rfl rfl rfl 
                · rw [showRef_bad (by assumption) hfd hwm (by rw [(tok_n (by omega) (by omega)).2.1, Bool.and_eq_false_iff, decide_eq_false_iff_not, decide_eq_false_iff_not]; omega)]
                  exact ⟨rfl, rfl⟩
                · repeat' constructor
              · try simp only [decide_eq_true_eq, decide_eq_false_iff_not, Bool.not_eq_true', Bool.not_eq_false', Bool.not_eq_eq_eq_not, Bool.not_true, Bool.not_false, beq_iff_eq, beq_eq_false_iff_ne, ne_eq, Int.not_lt, Int.not_le, Option.isSome_some, Option.isNone_none, Option.isSome_none, Option.isNone_some, Classical.not_not] at h11
                refine V.fieldAddr 4 3 rfl rfl rfl rfl rfl ?_
                apply V.loadL rfl rfl rfl rfl
                · repeat' constructor
                · repeat' constructor
                refine V.bin rfl rfl rfl rfl (bin_gtr _ _ _) ?_
                refine V.pickF rfl rfl rfl rfl ?_
                refine V.nil ?_
                refine Post.nextC ?_
                refine VC.cond rfl (fun h12 => ?_) (fun h12 => ?_)
                · try simp only [decide_eq_true_eq, decide_eq_false_iff_not, Bool.not_eq_true', Bool.not_eq_false', Bool.not_eq_eq_eq_not, Bool.not_true, Bool.not_false, beq_iff_eq, beq_eq_false_iff_ne, ne_eq, Int.not_lt, Int.not_le, Option.isSome_some, Option.isNone_none, Option.isSome_none, Option.isNone_some, Classical.not_not] at h12
                  refine VC.seq ?_
                  refine VC.region ?_
                  refine V.assign rfl rfl rfl ?_
                  refine V.assign rfl rfl rfl ?_
                  refine V.nil ?_
                  refine Post.nextC ?_
                  refine VC.ret ?_
                  refine Post.thenRet (Post.blockRet (Post.blockRet (Post.thenRet (Post.thenRet (Post.blockRet (Post.thenRet (Post.blockRet (Post.thenRet (Post.thenRet (Post.blockRet (Post.thenRet (?_))))))))))))
                  apply Post.ret2 rfl rfl rfl 
                  · rw [showRef_bad (by assumption) hfd hwm (by rw [(tok_n (by omega) (by omega)).2.1, Bool.and_eq_false_iff, decide_eq_false_iff_not, decide_eq_false_iff_not]; omega)]
                    exact ⟨rfl, rfl⟩
                  · repeat' constructor
                · try simp only [decide_eq_true_eq, decide_eq_false_iff_not, Bool.not_eq_true', Bool.not_eq_false', Bool.not_eq_eq_eq_not, Bool.not_true, Bool.not_false, beq_iff_eq, beq_eq_false_iff_ne, ne_eq, Int.not_lt, Int.not_le, Option.isSome_some, Option.isNone_none, Option.isSome_none, Option.isNone_some, Classical.not_not] at h12
                  refine VC.skip ?_
                  refine Post.nextC ?_
                  refine VC.seq ?_
                  refine VC.region ?_
                  obtain ⟨u, hu⟩ : ∃ u : Nat, c.n = u := ⟨c.n.toNat, by omega⟩
                  have hnu : Lib.itoa c.n = Lib.decDigits u := by rw [hu, Lib.itoa_nonneg]
                  rw [hnu] at hnl
                  refine V.move rfl rfl rfl ?_
                  refine V.bin rfl rfl rfl rfl (bin_stadd _ _ (by simp only [List.length_append, List.length_cons, List.length_nil]; omega)) ?_
                  refine V.fieldAddr 4 3 rfl rfl rfl rfl rfl ?_
                  apply V.loadL rfl rfl rfl rfl
                  · repeat' constructor
                  · repeat' constructor
                  rw [hu]
                  apply V.call rfl rfl rfl (hc := c38 u (by omega))
                  · repeat' constructor
                  rintro vq Ho ⟨rfl, rfl⟩
                  refine V.bin rfl rfl rfl rfl (bin_stadd _ _ (by simp only [List.length_append, List.length_cons, List.length_nil]; omega)) ?_
                  refine V.assign rfl rfl rfl ?_
                  refine V.nil ?_
                  refine Post.nextC ?_
                  refine VC.region ?_
                  refine V.fieldAddr 4 3 rfl rfl rfl rfl rfl ?_
                  apply V.loadL rfl rfl rfl rfl
                  · repeat' constructor
                  · repeat' constructor
                  refine V.fieldAddr 4 3 rfl rfl rfl rfl rfl ?_
                  apply V.storeL rfl rfl rfl rfl rfl
                  · repeat' constructor
                  · repeat' constructor
                  refine V.nil ?_
                  refine Post.blockNormal (Post.blockNormal (Post.nextC ?_))
                  refine VC.region ?_
                  refine V.move rfl rfl rfl ?_
                  refine V.bin rfl rfl rfl rfl (bin_addI (by omega)) ?_
                  refine V.assign rfl rfl rfl ?_
                  refine V.nil ?_
                  refine Post.round (i + 1, acc ++ [32] ++ Lib.decDigits u, { d with n := c.n }) ?_ ?_ ?_ ?_
                  · show ((i + 1) ≤ f.like.length) ∧ ((acc ++ [32] ++ Lib.decDigits u) = f.word ++ (f.like.take (i + 1)).flatMap fun w => 32 :: (tokOf w c).text) ∧ (({ d with n := c.n }) = takes (f.like.take (i + 1)) { Call.zero with op := c.op } c) ∧ (∀ w ∈ f.like.take (i + 1), fieldOk w c = true)
                    have htk := tok_n (c := c) (w := w) (by omega) (by omega)
                    exact ⟨by omega, by rw [hacc, like_more hw, htk.1]; simp [hnu], by rw [takes_more hw, ← hd, htk.2.2], ok_more hw hok (by rw [htk.2.1]; first | assumption | (simp only [Bool.and_eq_true, decide_eq_true_eq]; omega))⟩
                  · show f.like.length - (i + 1) < f.like.length - i
                    omega
                  · exact ⟨rfl, rfl, rfl, rfl, rfl, rfl, trivial⟩
                  · repeat' constructor
        · try simp only [decide_eq_true_eq, decide_eq_false_iff_not, Bool.not_eq_true', Bool.not_eq_false', Bool.not_eq_eq_eq_not, Bool.not_true, Bool.not_false, beq_iff_eq, beq_eq_false_iff_ne, ne_eq, Int.not_lt, Int.not_le, Option.isSome_some, Option.isNone_none, Option.isSome_none, Option.isNone_some, Classical.not_not] at h6
          refine VC.exit ?_
          refine Post.thenExit (Post.thenExit (Post.blockHit (Post.nextC ?_)))
          refine VC.seq ?_
          refine VC.any ([[(b3, .cells (d).cells.toArray 43 (0, 0))], [(b1, .cells c.cells.toArray 43 (0, 0))]]) 9 9 mixed rfl ?_
          refine VA.take 0 rfl (by kernel_rfl) (by kernel_rfl) rfl (by kernel_rfl) (by kernel_rfl) (by repeat' constructor) ?_
          obtain rfl : i = f.like.length := by omega
          have hal : acc.length ≤ 400000000 := by rw [hacc]; exact pre_len hm hsz hnl _
          have hacc2 : acc ++ [10] = lineText f c := by rw [hacc, List.take_length]; rfl
          rw [List.take_length] at hok
          refine V.move rfl rfl rfl ?_
          refine V.nil ?_
          refine Post.took ?_
          refine VA.take 4 rfl (by kernel_rfl) (by kernel_rfl) rfl (by kernel_rfl) (by kernel_rfl) (by repeat' constructor) ?_
          apply V.loadAll rfl rfl rfl rfl
          · repeat' constructor
          · exact rfl
          refine V.nil ?_
          refine Post.took ?_
          refine VA.take 5 rfl (by kernel_rfl) (by kernel_rfl) rfl (by kernel_rfl) (by kernel_rfl) (by repeat' constructor) ?_
          apply V.loadAll rfl rfl rfl rfl
          · repeat' constructor
          · exact rfl
          refine V.nil ?_
          refine Post.took ?_
          refine VA.take 6 rfl (by kernel_rfl) (by kernel_rfl) rfl (by kernel_rfl) (by kernel_rfl) (by repeat' constructor) ?_
          refine V.bin rfl rfl rfl rfl (bin_eqlS (.int rfl u3 rfl rfl (.str rfl u9 rfl rfl (.str rfl u9 rfl rfl (.str rfl u9 rfl rfl (.int rfl u3 rfl rfl (.str rfl u9 rfl rfl (.nil)))))))) ?_
          rw [call_ext]
          refine V.nil ?_
          refine Post.took ?_
          refine VA.one 1 (by kernel_rfl) rfl ?_
          refine V.buildSlice1 (l := [byv 10]) rfl rfl rfl rfl rfl rfl rfl (fun b9 => ?_)
          refine V.nil ?_
          refine Post.came (by repeat' constructor) ?_
          refine VA.one 2 (by kernel_rfl) rfl ?_
          apply V.str (l := [10]) rfl rfl rfl
          · right; repeat' constructor
          · exact Rd.block _ _ _ _ [byv 10] rfl (by omega)
          refine V.nil ?_
          refine Post.came (by repeat' constructor) ?_
          refine VA.take 3 rfl (by kernel_rfl) (by kernel_rfl) rfl (by kernel_rfl) (by kernel_rfl) (by repeat' constructor) ?_
          refine V.bin rfl rfl rfl rfl (bin_stadd _ _ (by simp only [List.length_append, List.length_cons, List.length_nil]; omega)) ?_
          refine V.nil ?_
          refine Post.took ?_
          refine VA.take 7 rfl (by kernel_rfl) (by kernel_rfl) rfl (by kernel_rfl) (by kernel_rfl) (by repeat' constructor) ?_
          refine V.assign rfl rfl rfl ?_
          refine V.nil ?_
          refine Post.took ?_
          refine VA.take 8 rfl (by kernel_rfl) (by kernel_rfl) rfl (by kernel_rfl) (by kernel_rfl) (by repeat' constructor) ?_
          refine V.assign rfl rfl rfl ?_
          refine V.nil ?_
          refine Post.took ?_
          refine VA.done (by kernel_rfl) ?_
          refine Post.nextC ?_
          refine VC.ret ?_
          refine Post.blockRet (Post.thenRet (Post.thenRet (Post.blockRet (Post.thenRet (?_)))))
          apply Post.ret2 rfl rfl rfl 
          · rw [showRef_form (by assumption) hfd hok, ← hacc2, hd, List.take_length]
            exact ⟨rfl, rfl⟩
          · repeat' constructor
    · try simp only [decide_eq_true_eq, decide_eq_false_iff_not, Bool.not_eq_true', Bool.not_eq_false', Bool.not_eq_eq_eq_not, Bool.not_true, Bool.not_false, beq_iff_eq, beq_eq_false_iff_ne, ne_eq, Int.not_lt, Int.not_le, Option.isSome_some, Option.isNone_none, Option.isSome_none, Option.isNone_some, Classical.not_not] at h4
      refine VC.exit ?_
      refine Post.thenExit (Post.thenExit (Post.blockHit (Post.nextC ?_)))
      refine VC.seq ?_
      refine VC.region ?_
      refine V.assign rfl rfl rfl ?_
      refine V.assign rfl rfl rfl ?_
      refine V.nil ?_
      refine Post.nextC ?_
      refine VC.ret ?_
      apply Post.ret2 rfl rfl rfl 
      · obtain rfl : j = 32 := by omega
        rw [showRef_none (by assumption) (by rw [hI]; rfl)]
        exact ⟨rfl, rfl⟩
      · repeat' constructor

end Go.Proofs.Ln
