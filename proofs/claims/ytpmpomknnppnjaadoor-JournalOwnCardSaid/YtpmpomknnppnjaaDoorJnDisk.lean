/- Contracts of functions of the given program, each proved by walking its code: part of the proof of this claim; no condition beyond those that each theorem names. -/
import Derived.Test.YtpmpomknnppnjaaDoorJnFacts
import Derived.Test.YtpmpomknnppnjaaDoorJnModel
set_option linter.unusedVariables false
set_option linter.unusedSimpArgs false
namespace Go.Proofs.Jn
open Go Go.RowKit Go.Proofs.Eng
/-- a disk's block -/
abbrev dkB (d : Nat) (bs : Option Addr) (n : Nat) (wr : Int) (dn fu : Bool) (lf : Int) : Chunk :=
  [(d, .cells #[.slice bs n n, .int .i64 wr, .bool dn, .bool fu, .int .i64 lf] 53 (0, 0))]

theorem c15 {w0 : World} {d : Nat} {bs : Option Addr} {n : Nat} {wr : Int} {dn fu : Bool} {lf : Int} (hn : n ≤ 9223372036854775807) : CtR Pg w0 15 #[.pointer (some ⟨d, 0, none⟩)] [dkB d bs n wr dn fu lf] (fun v H => v = .int .i64 ((n : Int) / 16) ∧ H = [dkB d bs n wr dn fu lf]) := by
  refine Ct.of_body Go.Proofs.Tryd.func15 rfl 9 rfl rfl (fun R => ?_)
  refine VC.seq ?_
  refine VC.region ?_
  refine V.assign rfl rfl rfl ?_
  refine V.nil ?_
  refine Post.nextC ?_
  refine VC.seq ?_
  refine VC.region ?_
  refine V.move rfl rfl rfl ?_
  refine V.nilCheck rfl rfl rfl ?_
  refine V.fieldAddr 0 31 rfl rfl rfl rfl rfl ?_
  apply V.loadL rfl rfl rfl rfl
  · repeat' constructor
  · repeat' constructor
  refine V.len rfl rfl rfl ?_
  refine V.bin rfl rfl rfl rfl (bin_quoI (by omega)) ?_
  refine V.assign rfl rfl rfl ?_
  refine V.nil ?_
  refine Post.nextC ?_
  refine VC.ret ?_
  apply Post.ret1 rfl rfl 
  · exact ⟨rfl, rfl⟩
  · repeat' constructor

theorem c23 {w0 : World} {d : Nat} {bs : Option Addr} {n : Nat} {wr : Int} {dn fu : Bool} {lf : Int} : CtR Pg w0 23 #[.pointer (some ⟨d, 0, none⟩)] [dkB d bs n wr dn fu lf] (fun v H => v = .bool (!dn) ∧ H = [dkB d bs n wr dn fu lf]) := by
  refine Ct.of_body Go.Proofs.Tryd.func23 rfl 8 rfl rfl (fun R => ?_)
  refine VC.seq ?_
  refine VC.region ?_
  refine V.assign rfl rfl rfl ?_
  refine V.nil ?_
  refine Post.nextC ?_
  refine VC.seq ?_
  refine VC.region ?_
  refine V.move rfl rfl rfl ?_
  refine V.nilCheck rfl rfl rfl ?_
  refine V.fieldAddr 2 4 rfl rfl rfl rfl rfl ?_
  apply V.loadL rfl rfl rfl rfl
  · repeat' constructor
  · repeat' constructor
  refine V.not rfl rfl rfl ?_
  refine V.assign rfl rfl rfl ?_
  refine V.nil ?_
  refine Post.nextC ?_
  refine VC.ret ?_
  apply Post.ret1 rfl rfl 
  · exact ⟨rfl, rfl⟩
  · repeat' constructor

theorem c19 {w0 : World} {d : Nat} {bs : Option Addr} {n : Nat} {wr : Int} {dn fu : Bool} {lf : Int} : CtR Pg w0 19 #[.pointer (some ⟨d, 0, none⟩)] [dkB d bs n wr dn fu lf] (fun v H => v = .int .i64 wr ∧ H = [dkB d bs n wr dn fu lf]) := by
  refine Ct.of_body Go.Proofs.Tryd.func19 rfl 7 rfl rfl (fun R => ?_)
  refine VC.seq ?_
  refine VC.region ?_
  refine V.assign rfl rfl rfl ?_
  refine V.nil ?_
  refine Post.nextC ?_
  refine VC.seq ?_
  refine VC.region ?_
  refine V.move rfl rfl rfl ?_
  refine V.nilCheck rfl rfl rfl ?_
  refine V.fieldAddr 1 3 rfl rfl rfl rfl rfl ?_
  apply V.loadL rfl rfl rfl rfl
  · repeat' constructor
  · repeat' constructor
  refine V.assign rfl rfl rfl ?_
  refine V.nil ?_
  refine Post.nextC ?_
  refine VC.ret ?_
  apply Post.ret1 rfl rfl 
  · exact ⟨rfl, rfl⟩
  · repeat' constructor

theorem c17 {w0 : World} {d : Nat} {bs : Option Addr} {n : Nat} {wr : Int} {dn fu : Bool} {lf : Int} : CtR Pg w0 17 #[.pointer (some ⟨d, 0, none⟩)] [dkB d bs n wr dn fu lf] (fun v H => H = [dkB d bs n wr false false lf]) := by
  refine Ct.of_body Go.Proofs.Tryd.func17 rfl 8 rfl rfl (fun R => ?_)
  refine VC.region ?_
  refine V.move rfl rfl rfl ?_
  refine V.move rfl rfl rfl ?_
  refine V.nilCheck rfl rfl rfl ?_
  refine V.fieldAddr 2 4 rfl rfl rfl rfl rfl ?_
  apply V.storeL rfl rfl rfl rfl rfl
  · repeat' constructor
  · repeat' constructor
  refine V.nilCheck rfl rfl rfl ?_
  refine V.fieldAddr 3 4 rfl rfl rfl rfl rfl ?_
  apply V.storeL rfl rfl rfl rfl rfl
  · repeat' constructor
  · repeat' constructor
  refine V.nil ?_
  refine Post.end_ rfl (?_)
  apply Post.ret0 rfl 
  · exact rfl
  · repeat' constructor

theorem c16T {w0 : World} {d : Nat} {bs : Option Addr} {n : Nat} {wr : Int} {fu : Bool} {lf m : Int} : CtR Pg w0 16 #[.pointer (some ⟨d, 0, none⟩), .int .i64 m] [dkB d bs n wr true fu lf] (fun v H => H = [dkB d bs n wr true fu lf]) := by
  refine Ct.of_body Go.Proofs.Tryd.func16 rfl 22 rfl rfl (fun R => ?_)
  refine VC.seq ?_
  refine VC.seq ?_
  refine VC.region ?_
  refine V.move rfl rfl rfl ?_
  refine V.nilCheck rfl rfl rfl ?_
  refine V.fieldAddr 2 4 rfl rfl rfl rfl rfl ?_
  apply V.loadL rfl rfl rfl rfl
  · repeat' constructor
  · repeat' constructor
  refine V.nil ?_
  refine Post.nextC ?_
  refine VC.cond rfl (fun h1 => ?_) (fun h1 => ?_)
  · try simp only [decide_eq_true_eq, decide_eq_false_iff_not, Bool.not_eq_true', Bool.not_eq_false', Bool.not_eq_eq_eq_not, Bool.not_true, Bool.not_false, beq_iff_eq, beq_eq_false_iff_ne, ne_eq, Int.not_lt, Int.not_le, Option.isSome_some, Option.isNone_none, Option.isSome_none, Option.isNone_some] at h1
    refine VC.ret ?_
    refine Post.thenRet (?_)
    apply Post.ret0 rfl 
    · exact rfl
    · repeat' constructor
  · try simp only [decide_eq_true_eq, decide_eq_false_iff_not, Bool.not_eq_true', Bool.not_eq_false', Bool.not_eq_eq_eq_not, Bool.not_true, Bool.not_false, beq_iff_eq, beq_eq_false_iff_ne, ne_eq, Int.not_lt, Int.not_le, Option.isSome_some, Option.isNone_none, Option.isSome_none, Option.isNone_some] at h1
    cases h1

theorem c16F {w0 : World} {d : Nat} {bs : Option Addr} {n : Nat} {wr : Int} {fu : Bool} {lf m : Int} : CtR Pg w0 16 #[.pointer (some ⟨d, 0, none⟩), .int .i64 m] [dkB d bs n wr false fu lf] (fun v H => H = [dkB d bs n wr (decide (m = 0)) (decide (0 ≤ m)) m]) := by
  refine Ct.of_body Go.Proofs.Tryd.func16 rfl 22 rfl rfl (fun R => ?_)
  refine VC.seq ?_
  refine VC.seq ?_
  refine VC.region ?_
  refine V.move rfl rfl rfl ?_
  refine V.nilCheck rfl rfl rfl ?_
  refine V.fieldAddr 2 4 rfl rfl rfl rfl rfl ?_
  apply V.loadL rfl rfl rfl rfl
  · repeat' constructor
  · repeat' constructor
  refine V.nil ?_
  refine Post.nextC ?_
  refine VC.cond rfl (fun h1 => ?_) (fun h1 => ?_)
  · try simp only [decide_eq_true_eq, decide_eq_false_iff_not, Bool.not_eq_true', Bool.not_eq_false', Bool.not_eq_eq_eq_not, Bool.not_true, Bool.not_false, beq_iff_eq, beq_eq_false_iff_ne, ne_eq, Int.not_lt, Int.not_le, Option.isSome_some, Option.isNone_none, Option.isSome_none, Option.isNone_some] at h1
    cases h1
  · try simp only [decide_eq_true_eq, decide_eq_false_iff_not, Bool.not_eq_true', Bool.not_eq_false', Bool.not_eq_eq_eq_not, Bool.not_true, Bool.not_false, beq_iff_eq, beq_eq_false_iff_ne, ne_eq, Int.not_lt, Int.not_le, Option.isSome_some, Option.isNone_none, Option.isSome_none, Option.isNone_some] at h1
    refine VC.skip ?_
    refine Post.nextC ?_
    refine VC.seq ?_
    refine VC.region ?_
    refine V.move rfl rfl rfl ?_
    refine V.move rfl rfl rfl ?_
    refine V.move rfl rfl rfl ?_
    refine V.bin rfl rfl rfl rfl (bin_geq _ _ _) ?_
    refine V.move rfl rfl rfl ?_
    refine V.nilCheck rfl rfl rfl ?_
    refine V.fieldAddr 3 4 rfl rfl rfl rfl rfl ?_
    apply V.storeL rfl rfl rfl rfl rfl
    · repeat' constructor
    · repeat' constructor
    refine V.nilCheck rfl rfl rfl ?_
    refine V.fieldAddr 4 3 rfl rfl rfl rfl rfl ?_
    apply V.storeL rfl rfl rfl rfl rfl
    · repeat' constructor
    · repeat' constructor
    refine V.nil ?_
    refine Post.nextC ?_
    refine VC.region ?_
    refine V.move rfl rfl rfl ?_
    refine V.move rfl rfl rfl ?_
    refine V.bin rfl rfl rfl rfl (bin_eql _ _ _) ?_
    refine V.nilCheck rfl rfl rfl ?_
    refine V.fieldAddr 2 4 rfl rfl rfl rfl rfl ?_
    apply V.storeL rfl rfl rfl rfl rfl
    · repeat' constructor
    · repeat' constructor
    refine V.nil ?_
    refine Post.end_ rfl (?_)
    apply Post.ret0 rfl 
    · exact rfl
    · repeat' constructor

/-- a disk's bytes -/
abbrev imB (bb : Nat) (img : Bytes) : Chunk := [(bb, .cells (img.map byv).toArray 5 (0, 0))]
theorem rd_block {w0 : World} {bb nb i : Nat} {img : Bytes} (hl : img.length = 16 * nb) (hnb : nb ≤ 65536) (hi : i < nb) : Rd w0 (imB bb img) 1 (.slice (some ⟨bb, 16 * i, none⟩) 16 (16 * nb - 16 * i)) 16 ((blk img i).map byv) := by
  · refine ⟨_, _, rfl, by omega, by simp only [maxLen]; omega, by simp [blk]; omega, .inr ⟨bb, 16 * i, rfl, fun j u hu => ⟨rfl, _, 5, (0, 0), .inl (List.mem_singleton.2 rfl), ?_⟩⟩⟩
    have hj : j < 16 := by
      have := (List.getElem?_eq_some_iff.1 hu).1
      simp [blk] at this
      omega
    rw [← hu]
    simp [blk, List.getElem?_take, hj]
theorem rd_all {w0 : World} {bb nb : Nat} {img : Bytes} (hl : img.length = 16 * nb) (hnb : nb ≤ 65536) : Rd w0 (imB bb img) 1 (.slice (some ⟨bb, 0, none⟩) (16 * nb) (16 * nb)) (16 * nb) (img.map byv) :=
  ⟨_, _, rfl, Nat.le_refl _, by simp only [maxLen]; omega, by simp [hl], .inr ⟨bb, 0, rfl, fun j u hu => ⟨rfl, _, 5, (0, 0), .inl (List.mem_singleton.2 rfl), by simpa using hu⟩⟩⟩

theorem c42 {w0 : World} {d bb nb i : Nat} {wr : Int} {fu : Bool} {lf : Int} (hnb : nb ≤ 65536) (hi : i < nb) : CtR Pg w0 42 #[.pointer (some ⟨d, 0, none⟩), .int .i64 (i : Int)] [dkB d (some ⟨bb, 0, none⟩) (16 * nb) wr false fu lf] (fun v H => v = .tuple #[.slice (some ⟨bb, 16 * i, none⟩) 16 (16 * nb - 16 * i), .int .i64 0] ∧ H = [dkB d (some ⟨bb, 0, none⟩) (16 * nb) wr false fu lf]) := by
  refine Ct.of_body Go.Proofs.Tryd.func42 rfl 30 rfl rfl (fun R => ?_)
  refine VC.seq ?_
  refine VC.region ?_
  refine V.assign rfl rfl rfl ?_
  refine V.assign rfl rfl rfl ?_
  refine V.nil ?_
  refine Post.nextC ?_
  refine VC.seq ?_
  refine VC.block ?_
  refine VC.seq ?_
  refine VC.region ?_
  refine V.move rfl rfl rfl ?_
  refine V.bin rfl rfl rfl rfl (bin_lss _ _ _) ?_
  refine V.move rfl rfl rfl ?_
  refine V.split (t := 9) rfl (fun h1 => ?_) (fun h1 => ?_)
  · try simp only [decide_eq_true_eq, decide_eq_false_iff_not, Bool.not_eq_true', Bool.not_eq_false', Bool.not_eq_eq_eq_not, Bool.not_true, Bool.not_false, beq_iff_eq, beq_eq_false_iff_ne, ne_eq, Int.not_lt, Int.not_le, Option.isSome_some, Option.isNone_none, Option.isSome_none, Option.isNone_some] at h1
    omega
  · try simp only [decide_eq_true_eq, decide_eq_false_iff_not, Bool.not_eq_true', Bool.not_eq_false', Bool.not_eq_eq_eq_not, Bool.not_true, Bool.not_false, beq_iff_eq, beq_eq_false_iff_ne, ne_eq, Int.not_lt, Int.not_le, Option.isSome_some, Option.isNone_none, Option.isSome_none, Option.isNone_some] at h1
    refine V.move rfl rfl rfl ?_
    refine V.move rfl rfl rfl ?_
    apply V.call rfl rfl rfl (hc := c15 (n := 16 * nb) (by omega))
    · repeat' constructor
    rintro v Ho ⟨rfl, rfl⟩
    refine V.bin rfl rfl rfl rfl (bin_geq _ _ _) ?_
    refine V.pickF rfl rfl rfl rfl ?_
    refine V.assign rfl rfl rfl ?_
    refine V.nil ?_
    refine Post.nextC ?_
    refine VC.cond rfl (fun h2 => ?_) (fun h2 => ?_)
    · try simp only [decide_eq_true_eq, decide_eq_false_iff_not, Bool.not_eq_true', Bool.not_eq_false', Bool.not_eq_eq_eq_not, Bool.not_true, Bool.not_false, beq_iff_eq, beq_eq_false_iff_ne, ne_eq, Int.not_lt, Int.not_le, Option.isSome_some, Option.isNone_none, Option.isSome_none, Option.isNone_some] at h2
      omega
    · try simp only [decide_eq_true_eq, decide_eq_false_iff_not, Bool.not_eq_true', Bool.not_eq_false', Bool.not_eq_eq_eq_not, Bool.not_true, Bool.not_false, beq_iff_eq, beq_eq_false_iff_ne, ne_eq, Int.not_lt, Int.not_le, Option.isSome_some, Option.isNone_none, Option.isSome_none, Option.isNone_some] at h2
      refine VC.seq ?_
      refine VC.region ?_
      refine V.move rfl rfl rfl ?_
      refine V.nilCheck rfl rfl rfl ?_
      refine V.fieldAddr 2 4 rfl rfl rfl rfl rfl ?_
      apply V.loadL rfl rfl rfl rfl
      · repeat' constructor
      · repeat' constructor
      refine V.assign rfl rfl rfl ?_
      refine V.nil ?_
      refine Post.nextC ?_
      refine VC.cond rfl (fun h3 => ?_) (fun h3 => ?_)
      · try simp only [decide_eq_true_eq, decide_eq_false_iff_not, Bool.not_eq_true', Bool.not_eq_false', Bool.not_eq_eq_eq_not, Bool.not_true, Bool.not_false, beq_iff_eq, beq_eq_false_iff_ne, ne_eq, Int.not_lt, Int.not_le, Option.isSome_some, Option.isNone_none, Option.isSome_none, Option.isNone_some] at h3
        cases h3
      · try simp only [decide_eq_true_eq, decide_eq_false_iff_not, Bool.not_eq_true', Bool.not_eq_false', Bool.not_eq_eq_eq_not, Bool.not_true, Bool.not_false, beq_iff_eq, beq_eq_false_iff_ne, ne_eq, Int.not_lt, Int.not_le, Option.isSome_some, Option.isNone_none, Option.isSome_none, Option.isNone_some] at h3
        refine VC.skip ?_
        refine Post.blockNormal (Post.nextC ?_)
        refine VC.seq ?_
        refine VC.region ?_
        refine V.move rfl rfl rfl ?_
        refine V.nilCheck rfl rfl rfl ?_
        refine V.fieldAddr 0 31 rfl rfl rfl rfl rfl ?_
        apply V.loadL rfl rfl rfl rfl
        · repeat' constructor
        · repeat' constructor
        refine V.move rfl rfl rfl ?_
        refine V.bin rfl rfl rfl rfl (bin_mulI (by omega)) ?_
        refine V.know (t := 25) (y := .int .i64 ((16 * i : Nat) : Int)) rfl (by first | rfl | (congr 1; omega)) ?_
        refine V.move rfl rfl rfl ?_
        refine V.bin rfl rfl rfl rfl (bin_addI (by omega)) ?_
        refine V.bin rfl rfl rfl rfl (bin_mulI (by omega)) ?_
        refine V.know (t := 28) (y := .int .i64 ((16 * i + 16 : Nat) : Int)) rfl (by first | rfl | (congr 1; omega)) ?_
        refine V.sliceLH rfl rfl rfl rfl rfl (by omega) (by omega) (fun a1 ha1 _ => ?_)
        obtain rfl := ha1 (by omega)
        rw [show (some (⟨bb, 0, none⟩ : Addr)).map (·.add (16 * i * 1)) = some ⟨bb, 16 * i, none⟩ by simp [add_addr], show 16 * i + 16 - 16 * i = 16 by omega]
        refine V.assign rfl rfl rfl ?_
        refine V.assign rfl rfl rfl ?_
        refine V.nil ?_
        refine Post.nextC ?_
        refine VC.ret ?_
        apply Post.ret2 rfl rfl rfl 
        · exact ⟨rfl, rfl⟩
        · repeat' constructor

-- annotations not used: [('ops', (5, 9)), ('cast', (5, 5)), ('cast', (5, 8))]
theorem c42d {w0 : World} {d bb nb i : Nat} {wr : Int} {fu : Bool} {lf : Int} (hnb : nb ≤ 65536) (hi : i < nb) : CtR Pg w0 42 #[.pointer (some ⟨d, 0, none⟩), .int .i64 (i : Int)] [dkB d (some ⟨bb, 0, none⟩) (16 * nb) wr true fu lf] (fun v H => v = .tuple #[.slice none 0 0, .int .i64 50] ∧ H = [dkB d (some ⟨bb, 0, none⟩) (16 * nb) wr true fu lf]) := by
  refine Ct.of_body Go.Proofs.Tryd.func42 rfl 30 rfl rfl (fun R => ?_)
  refine VC.seq ?_
  refine VC.region ?_
  refine V.assign rfl rfl rfl ?_
  refine V.assign rfl rfl rfl ?_
  refine V.nil ?_
  refine Post.nextC ?_
  refine VC.seq ?_
  refine VC.block ?_
  refine VC.seq ?_
  refine VC.region ?_
  refine V.move rfl rfl rfl ?_
  refine V.bin rfl rfl rfl rfl (bin_lss _ _ _) ?_
  refine V.move rfl rfl rfl ?_
  refine V.split (t := 9) rfl (fun h1 => ?_) (fun h1 => ?_)
  · try simp only [decide_eq_true_eq, decide_eq_false_iff_not, Bool.not_eq_true', Bool.not_eq_false', Bool.not_eq_eq_eq_not, Bool.not_true, Bool.not_false, beq_iff_eq, beq_eq_false_iff_ne, ne_eq, Int.not_lt, Int.not_le, Option.isSome_some, Option.isNone_none, Option.isSome_none, Option.isNone_some] at h1
    omega
  · try simp only [decide_eq_true_eq, decide_eq_false_iff_not, Bool.not_eq_true', Bool.not_eq_false', Bool.not_eq_eq_eq_not, Bool.not_true, Bool.not_false, beq_iff_eq, beq_eq_false_iff_ne, ne_eq, Int.not_lt, Int.not_le, Option.isSome_some, Option.isNone_none, Option.isSome_none, Option.isNone_some] at h1
    refine V.move rfl rfl rfl ?_
    refine V.move rfl rfl rfl ?_
    apply V.call rfl rfl rfl (hc := c15 (n := 16 * nb) (by omega))
    · repeat' constructor
    rintro v Ho ⟨rfl, rfl⟩
    refine V.bin rfl rfl rfl rfl (bin_geq _ _ _) ?_
    refine V.pickF rfl rfl rfl rfl ?_
    refine V.assign rfl rfl rfl ?_
    refine V.nil ?_
    refine Post.nextC ?_
    refine VC.cond rfl (fun h2 => ?_) (fun h2 => ?_)
    · try simp only [decide_eq_true_eq, decide_eq_false_iff_not, Bool.not_eq_true', Bool.not_eq_false', Bool.not_eq_eq_eq_not, Bool.not_true, Bool.not_false, beq_iff_eq, beq_eq_false_iff_ne, ne_eq, Int.not_lt, Int.not_le, Option.isSome_some, Option.isNone_none, Option.isSome_none, Option.isNone_some] at h2
      omega
    · try simp only [decide_eq_true_eq, decide_eq_false_iff_not, Bool.not_eq_true', Bool.not_eq_false', Bool.not_eq_eq_eq_not, Bool.not_true, Bool.not_false, beq_iff_eq, beq_eq_false_iff_ne, ne_eq, Int.not_lt, Int.not_le, Option.isSome_some, Option.isNone_none, Option.isSome_none, Option.isNone_some] at h2
      refine VC.seq ?_
      refine VC.region ?_
      refine V.move rfl rfl rfl ?_
      refine V.nilCheck rfl rfl rfl ?_
      refine V.fieldAddr 2 4 rfl rfl rfl rfl rfl ?_
      apply V.loadL rfl rfl rfl rfl
      · repeat' constructor
      · repeat' constructor
      refine V.assign rfl rfl rfl ?_
      refine V.nil ?_
      refine Post.nextC ?_
      refine VC.cond rfl (fun h3 => ?_) (fun h3 => ?_)
      · try simp only [decide_eq_true_eq, decide_eq_false_iff_not, Bool.not_eq_true', Bool.not_eq_false', Bool.not_eq_eq_eq_not, Bool.not_true, Bool.not_false, beq_iff_eq, beq_eq_false_iff_ne, ne_eq, Int.not_lt, Int.not_le, Option.isSome_some, Option.isNone_none, Option.isSome_none, Option.isNone_some] at h3
        refine VC.seq ?_
        refine VC.region ?_
        refine V.assign rfl rfl rfl ?_
        refine V.assign rfl rfl rfl ?_
        refine V.nil ?_
        refine Post.nextC ?_
        refine VC.ret ?_
        refine Post.blockRet (Post.thenRet (?_))
        apply Post.ret2 rfl rfl rfl 
        · exact ⟨rfl, rfl⟩
        · repeat' constructor
      · try simp only [decide_eq_true_eq, decide_eq_false_iff_not, Bool.not_eq_true', Bool.not_eq_false', Bool.not_eq_eq_eq_not, Bool.not_true, Bool.not_false, beq_iff_eq, beq_eq_false_iff_ne, ne_eq, Int.not_lt, Int.not_le, Option.isSome_some, Option.isNone_none, Option.isSome_none, Option.isNone_some] at h3
        cases h3

theorem c38 {w0 : World} {ad : Addr} {m cp : Nat} {c : Chunk} {xs : Bytes} (hr : Rd w0 c 1 (.slice (some ad) m cp) m (xs.map byv)) (hm : m ≤ 1048576) : CtR Pg w0 38 #[.slice (some ad) m cp] [c] (fun v H => ∃ c1, Own 5 1 c1 v m (xs.map byv) ∧ H = [c1, c]) := by
  refine Ct.of_body Go.Proofs.Tryd.func38 rfl 8 rfl rfl (fun R => ?_)
  refine VC.seq ?_
  refine VC.region ?_
  refine V.assign rfl rfl rfl ?_
  refine V.nil ?_
  refine Post.nextC ?_
  refine VC.seq ?_
  refine VC.seq ?_
  refine VC.region ?_
  refine V.move rfl rfl rfl ?_
  refine V.bin rfl rfl rfl rfl (bin_sleqlNil _ _ _) ?_
  refine V.nil ?_
  refine Post.nextC ?_
  refine VC.cond rfl (fun h1 => ?_) (fun h1 => ?_)
  · try simp only [decide_eq_true_eq, decide_eq_false_iff_not, Bool.not_eq_true', Bool.not_eq_false', Bool.not_eq_eq_eq_not, Bool.not_true, Bool.not_false, beq_iff_eq, beq_eq_false_iff_ne, ne_eq, Int.not_lt, Int.not_le, Option.isSome_some, Option.isNone_none, Option.isSome_none, Option.isNone_some] at h1
    cases h1
  · try simp only [decide_eq_true_eq, decide_eq_false_iff_not, Bool.not_eq_true', Bool.not_eq_false', Bool.not_eq_eq_eq_not, Bool.not_true, Bool.not_false, beq_iff_eq, beq_eq_false_iff_ne, ne_eq, Int.not_lt, Int.not_le, Option.isSome_some, Option.isNone_none, Option.isSome_none, Option.isNone_some] at h1
    refine VC.skip ?_
    refine Post.nextC ?_
    refine VC.seq ?_
    refine VC.region ?_
    refine V.buildSlice0 rfl rfl (fun b1 => ?_)
    refine V.move rfl rfl rfl ?_
    apply V.appendR (m := 0) (l := []) rfl rfl rfl rfl rfl rfl (ho := Own.empty b1 5 1) (hp1 := .inr ?hq) (hr := hr) (h1 := all_byv xs) (hb := by omega) (h63 := by simp only [maxLen]; omega)
    case hp => repeat' constructor
    case hq => repeat' constructor
    intro v' c1 ho
    rw [Nat.zero_add, List.nil_append] at ho
    refine V.assign rfl rfl rfl ?_
    refine V.nil ?_
    refine Post.nextC ?_
    refine VC.ret ?_
    apply Post.ret1 rfl rfl 
    · exact ⟨c1, ho, rfl⟩
    · repeat' constructor

theorem c39 {w0 : World} {d bb nb i : Nat} {wr : Int} {fu : Bool} {lf : Int} {img : Bytes} (hl : img.length = 16 * nb) (hnb : nb ≤ 65536) (hi : i < nb) : CtR Pg w0 39 #[.pointer (some ⟨d, 0, none⟩), .int .i64 (i : Int)] [dkB d (some ⟨bb, 0, none⟩) (16 * nb) wr false fu lf, imB bb img] (fun v H => ∃ v1 c1, v = .tuple #[v1, .int .i64 0] ∧ Own 5 1 c1 v1 16 ((blk img i).map byv) ∧ H = [c1, imB bb img, dkB d (some ⟨bb, 0, none⟩) (16 * nb) wr false fu lf]) := by
  refine Ct.of_body Go.Proofs.Tryd.func39 rfl 17 rfl rfl (fun R => ?_)
  refine VC.seq ?_
  refine VC.region ?_
  refine V.assign rfl rfl rfl ?_
  refine V.assign rfl rfl rfl ?_
  refine V.nil ?_
  refine Post.nextC ?_
  refine VC.seq ?_
  refine VC.region ?_
  refine V.move rfl rfl rfl ?_
  refine V.move rfl rfl rfl ?_
  apply V.call rfl rfl rfl (hc := c42 hnb hi)
  · repeat' constructor
  rintro v Ho ⟨rfl, rfl⟩
  refine V.move rfl rfl rfl ?_
  refine V.extract rfl rfl rfl rfl ?_
  refine V.extract rfl rfl rfl rfl ?_
  refine V.assign rfl rfl rfl ?_
  refine V.assign rfl rfl rfl ?_
  refine V.nil ?_
  refine Post.nextC ?_
  refine VC.seq ?_
  refine VC.region ?_
  refine V.move rfl rfl rfl ?_
  apply V.call rfl rfl rfl (hc := c38 (c := imB bb img) (xs := blk img i) (rd_block hl hnb hi) (by omega))
  · repeat' constructor
  rintro v Ho ⟨c1, ho, rfl⟩
  refine V.move rfl rfl rfl ?_
  refine V.assign rfl rfl rfl ?_
  refine V.assign rfl rfl rfl ?_
  refine V.nil ?_
  refine Post.nextC ?_
  refine VC.ret ?_
  apply Post.ret2 rfl rfl rfl 
  · exact ⟨_, c1, rfl, ho, rfl⟩
  · repeat' constructor

theorem c22 {w0 : World} {d bb nb : Nat} {img : Bytes} {wr : Int} {dn fu : Bool} {lf : Int} (hl : img.length = 16 * nb) (hnb : nb ≤ 65536) : CtR Pg w0 22 #[.pointer (some ⟨d, 0, none⟩)] [dkB d (some ⟨bb, 0, none⟩) (16 * nb) wr dn fu lf, imB bb img] (fun v H => ∃ c1, Own 5 1 c1 v (16 * nb) (img.map byv) ∧ H = [c1, imB bb img, dkB d (some ⟨bb, 0, none⟩) (16 * nb) wr dn fu lf]) := by
  refine Ct.of_body Go.Proofs.Tryd.func22 rfl 8 rfl rfl (fun R => ?_)
  refine VC.seq ?_
  refine VC.region ?_
  refine V.assign rfl rfl rfl ?_
  refine V.nil ?_
  refine Post.nextC ?_
  refine VC.seq ?_
  refine VC.region ?_
  refine V.move rfl rfl rfl ?_
  refine V.nilCheck rfl rfl rfl ?_
  refine V.fieldAddr 0 31 rfl rfl rfl rfl rfl ?_
  apply V.loadL rfl rfl rfl rfl
  · repeat' constructor
  · repeat' constructor
  apply V.call rfl rfl rfl (hc := c38 (c := imB bb img) (xs := img) (rd_all hl hnb) (by omega))
  · repeat' constructor
  rintro v Ho ⟨c1, ho, rfl⟩
  refine V.assign rfl rfl rfl ?_
  refine V.nil ?_
  refine Post.nextC ?_
  refine VC.ret ?_
  apply Post.ret1 rfl rfl 
  · exact ⟨c1, ho, rfl⟩
  · repeat' constructor

/-- how a disk stands -/
structure DS where
  wr : Int
  dn : Bool
  fu : Bool
  lf : Int
def DS.wrote (s : DS) : DS := if s.fu then ⟨s.wr + 1, decide (s.lf - 1 = 0), decide (0 ≤ s.lf - 1), s.lf - 1⟩ else ⟨s.wr + 1, s.dn, s.fu, s.lf⟩
def DS.ok (s : DS) (m : Int) : Prop := 0 ≤ s.wr ∧ s.wr ≤ m ∧ (s.fu = true → 0 ≤ s.lf ∧ s.lf ≤ 9223372036854775807)
abbrev dkS (d bb nb : Nat) (s : DS) : Chunk := dkB d (some ⟨bb, 0, none⟩) (16 * nb) s.wr s.dn s.fu s.lf
theorem setBlk_cells {img xs : Bytes} {i : Nat} (hx : xs.length = 16) :
    ((img.map byv).toArray.toList.take (16 * i) ++ xs.map byv ++ (img.map byv).toArray.toList.drop (16 * i + 16)).toArray = ((setBlk img i xs).map byv).toArray := by
  simp [setBlk]

theorem c28F {w0 : World} {d bb nb i : Nat} {wr : Int} {lf : Int} {img xs : Bytes} {c : Chunk} {v : Value} (hl : img.length = 16 * nb) (hnb : nb ≤ 65536) (hi : i < nb) (hx : xs.length = 16) (hr : Rd w0 c 1 v 16 (xs.map byv)) (hwr : 0 ≤ wr ∧ wr ≤ 1000000000000000) : CtR Pg w0 28 #[.pointer (some ⟨d, 0, none⟩), .int .i64 (i : Int), v] [dkB d (some ⟨bb, 0, none⟩) (16 * nb) wr false false lf, imB bb img, c] (fun u H => u = .int .i64 0 ∧ H = [dkB d (some ⟨bb, 0, none⟩) (16 * nb) (wr + 1) false false lf, imB bb (setBlk img i xs), c]) := by
  refine Ct.of_body Go.Proofs.Tryd.func28 rfl 48 rfl rfl (fun R => ?_)
  refine VC.seq ?_
  refine VC.region ?_
  obtain ⟨ad, cp, rfl, hle1, hle2, hle3, hle4⟩ := id hr
  refine V.assign rfl rfl rfl ?_
  refine V.nil ?_
  refine Post.nextC ?_
  refine VC.seq ?_
  refine VC.region ?_
  refine V.move rfl rfl rfl ?_
  refine V.move rfl rfl rfl ?_
  apply V.call rfl rfl rfl (hc := c42 hnb hi)
  · repeat' constructor
  rintro v Ho ⟨rfl, rfl⟩
  refine V.move rfl rfl rfl ?_
  refine V.extract rfl rfl rfl rfl ?_
  refine V.extract rfl rfl rfl rfl ?_
  refine V.assign rfl rfl rfl ?_
  refine V.assign rfl rfl rfl ?_
  refine V.nil ?_
  refine Post.nextC ?_
  refine VC.seq ?_
  refine VC.block ?_
  refine VC.seq ?_
  refine VC.region ?_
  refine V.move rfl rfl rfl ?_
  refine V.bin rfl rfl rfl rfl (bin_eql _ _ _) ?_
  refine V.know (t := 17) (y := .bool false) rfl (by first | rfl | simp) ?_
  refine V.move rfl rfl rfl ?_
  refine V.move rfl rfl rfl ?_
  refine V.len rfl rfl rfl ?_
  refine V.bin rfl rfl rfl rfl (bin_neq _ _ _) ?_
  refine V.know (t := 21) (y := .bool false) rfl (by first | rfl | simp) ?_
  refine V.pickF rfl rfl rfl rfl ?_
  refine V.assign rfl rfl rfl ?_
  refine V.nil ?_
  refine Post.nextC ?_
  refine VC.condF rfl ?_
  refine VC.seq ?_
  refine VC.region ?_
  refine V.move rfl rfl rfl ?_
  refine V.bin rfl rfl rfl rfl (bin_neq _ _ _) ?_
  refine V.know (t := 25) (y := .bool false) rfl (by first | rfl | simp) ?_
  refine V.assign rfl rfl rfl ?_
  refine V.nil ?_
  refine Post.nextC ?_
  refine VC.condF rfl ?_
  refine VC.skip ?_
  refine Post.blockNormal (Post.nextC ?_)
  refine VC.seq ?_
  refine VC.region ?_
  refine V.move rfl rfl rfl ?_
  refine V.move rfl rfl rfl ?_
  apply V.copyR (news := xs.map byv) rfl rfl rfl rfl (hp1 := .inr ?hq) (hr := hr) (h1 := all_byv xs)
  case hp => repeat' constructor
  case hq => repeat' constructor
  case hk => simp [hl]; omega
  rw [setBlk_cells hx]
  refine V.nil ?_
  refine Post.nextC ?_
  refine VC.seq ?_
  refine VC.region ?_
  refine V.move rfl rfl rfl ?_
  refine V.nilCheck rfl rfl rfl ?_
  refine V.fieldAddr 1 3 rfl rfl rfl rfl rfl ?_
  apply V.loadL rfl rfl rfl rfl
  · repeat' constructor
  · repeat' constructor
  refine V.bin rfl rfl rfl rfl (bin_addI (by omega)) ?_
  refine V.nilCheck rfl rfl rfl ?_
  refine V.fieldAddr 1 3 rfl rfl rfl rfl rfl ?_
  apply V.storeL rfl rfl rfl rfl rfl
  · repeat' constructor
  · repeat' constructor
  refine V.nil ?_
  refine Post.nextC ?_
  refine VC.seq ?_
  refine VC.seq ?_
  refine VC.region ?_
  refine V.move rfl rfl rfl ?_
  refine V.nilCheck rfl rfl rfl ?_
  refine V.fieldAddr 3 4 rfl rfl rfl rfl rfl ?_
  apply V.loadL rfl rfl rfl rfl
  · repeat' constructor
  · repeat' constructor
  refine V.nil ?_
  refine Post.nextC ?_
  refine VC.cond rfl (fun h1 => ?_) (fun h1 => ?_)
  · try simp only [decide_eq_true_eq, decide_eq_false_iff_not, Bool.not_eq_true', Bool.not_eq_false', Bool.not_eq_eq_eq_not, Bool.not_true, Bool.not_false, beq_iff_eq, beq_eq_false_iff_ne, ne_eq, Int.not_lt, Int.not_le, Option.isSome_some, Option.isNone_none, Option.isSome_none, Option.isNone_some] at h1
    cases h1
  · try simp only [decide_eq_true_eq, decide_eq_false_iff_not, Bool.not_eq_true', Bool.not_eq_false', Bool.not_eq_eq_eq_not, Bool.not_true, Bool.not_false, beq_iff_eq, beq_eq_false_iff_ne, ne_eq, Int.not_lt, Int.not_le, Option.isSome_some, Option.isNone_none, Option.isSome_none, Option.isNone_some] at h1
    refine VC.skip ?_
    refine Post.nextC ?_
    refine VC.seq ?_
    refine VC.region ?_
    refine V.assign rfl rfl rfl ?_
    refine V.nil ?_
    refine Post.nextC ?_
    refine VC.ret ?_
    apply Post.ret1 rfl rfl 
    · exact ⟨rfl, rfl⟩
    · repeat' constructor

theorem c28T {w0 : World} {d bb nb i : Nat} {wr : Int} {lf : Int} {img xs : Bytes} {c : Chunk} {v : Value} (hl : img.length = 16 * nb) (hnb : nb ≤ 65536) (hi : i < nb) (hx : xs.length = 16) (hr : Rd w0 c 1 v 16 (xs.map byv)) (hwr : 0 ≤ wr ∧ wr ≤ 1000000000000000) (hlf : 0 ≤ lf ∧ lf ≤ 9223372036854775807) : CtR Pg w0 28 #[.pointer (some ⟨d, 0, none⟩), .int .i64 (i : Int), v] [dkB d (some ⟨bb, 0, none⟩) (16 * nb) wr false true lf, imB bb img, c] (fun u H => u = .int .i64 0 ∧ H = [dkB d (some ⟨bb, 0, none⟩) (16 * nb) (wr + 1) (decide (lf - 1 = 0)) (decide (0 ≤ lf - 1)) (lf - 1), imB bb (setBlk img i xs), c]) := by
  refine Ct.of_body Go.Proofs.Tryd.func28 rfl 48 rfl rfl (fun R => ?_)
  refine VC.seq ?_
  refine VC.region ?_
  obtain ⟨ad, cp, rfl, hle1, hle2, hle3, hle4⟩ := id hr
  refine V.assign rfl rfl rfl ?_
  refine V.nil ?_
  refine Post.nextC ?_
  refine VC.seq ?_
  refine VC.region ?_
  refine V.move rfl rfl rfl ?_
  refine V.move rfl rfl rfl ?_
  apply V.call rfl rfl rfl (hc := c42 hnb hi)
  · repeat' constructor
  rintro v Ho ⟨rfl, rfl⟩
  refine V.move rfl rfl rfl ?_
  refine V.extract rfl rfl rfl rfl ?_
  refine V.extract rfl rfl rfl rfl ?_
  refine V.assign rfl rfl rfl ?_
  refine V.assign rfl rfl rfl ?_
  refine V.nil ?_
  refine Post.nextC ?_
  refine VC.seq ?_
  refine VC.block ?_
  refine VC.seq ?_
  refine VC.region ?_
  refine V.move rfl rfl rfl ?_
  refine V.bin rfl rfl rfl rfl (bin_eql _ _ _) ?_
  refine V.know (t := 17) (y := .bool false) rfl (by first | rfl | simp) ?_
  refine V.move rfl rfl rfl ?_
  refine V.move rfl rfl rfl ?_
  refine V.len rfl rfl rfl ?_
  refine V.bin rfl rfl rfl rfl (bin_neq _ _ _) ?_
  refine V.know (t := 21) (y := .bool false) rfl (by first | rfl | simp) ?_
  refine V.pickF rfl rfl rfl rfl ?_
  refine V.assign rfl rfl rfl ?_
  refine V.nil ?_
  refine Post.nextC ?_
  refine VC.condF rfl ?_
  refine VC.seq ?_
  refine VC.region ?_
  refine V.move rfl rfl rfl ?_
  refine V.bin rfl rfl rfl rfl (bin_neq _ _ _) ?_
  refine V.know (t := 25) (y := .bool false) rfl (by first | rfl | simp) ?_
  refine V.assign rfl rfl rfl ?_
  refine V.nil ?_
  refine Post.nextC ?_
  refine VC.condF rfl ?_
  refine VC.skip ?_
  refine Post.blockNormal (Post.nextC ?_)
  refine VC.seq ?_
  refine VC.region ?_
  refine V.move rfl rfl rfl ?_
  refine V.move rfl rfl rfl ?_
  apply V.copyR (news := xs.map byv) rfl rfl rfl rfl (hp1 := .inr ?hq) (hr := hr) (h1 := all_byv xs)
  case hp => repeat' constructor
  case hq => repeat' constructor
  case hk => simp [hl]; omega
  rw [setBlk_cells hx]
  refine V.nil ?_
  refine Post.nextC ?_
  refine VC.seq ?_
  refine VC.region ?_
  refine V.move rfl rfl rfl ?_
  refine V.nilCheck rfl rfl rfl ?_
  refine V.fieldAddr 1 3 rfl rfl rfl rfl rfl ?_
  apply V.loadL rfl rfl rfl rfl
  · repeat' constructor
  · repeat' constructor
  refine V.bin rfl rfl rfl rfl (bin_addI (by omega)) ?_
  refine V.nilCheck rfl rfl rfl ?_
  refine V.fieldAddr 1 3 rfl rfl rfl rfl rfl ?_
  apply V.storeL rfl rfl rfl rfl rfl
  · repeat' constructor
  · repeat' constructor
  refine V.nil ?_
  refine Post.nextC ?_
  refine VC.seq ?_
  refine VC.seq ?_
  refine VC.region ?_
  refine V.move rfl rfl rfl ?_
  refine V.nilCheck rfl rfl rfl ?_
  refine V.fieldAddr 3 4 rfl rfl rfl rfl rfl ?_
  apply V.loadL rfl rfl rfl rfl
  · repeat' constructor
  · repeat' constructor
  refine V.nil ?_
  refine Post.nextC ?_
  refine VC.cond rfl (fun h1 => ?_) (fun h1 => ?_)
  · try simp only [decide_eq_true_eq, decide_eq_false_iff_not, Bool.not_eq_true', Bool.not_eq_false', Bool.not_eq_eq_eq_not, Bool.not_true, Bool.not_false, beq_iff_eq, beq_eq_false_iff_ne, ne_eq, Int.not_lt, Int.not_le, Option.isSome_some, Option.isNone_none, Option.isSome_none, Option.isNone_some] at h1
    refine VC.region ?_
    refine V.move rfl rfl rfl ?_
    refine V.move rfl rfl rfl ?_
    refine V.nilCheck rfl rfl rfl ?_
    refine V.fieldAddr 4 3 rfl rfl rfl rfl rfl ?_
    apply V.loadL rfl rfl rfl rfl
    · repeat' constructor
    · repeat' constructor
    refine V.bin rfl rfl rfl rfl (bin_subI (by omega)) ?_
    apply V.call rfl rfl rfl (hc := c16F)
    · repeat' constructor
    rintro v Ho rfl
    refine V.nil ?_
    refine Post.nextC ?_
    refine VC.seq ?_
    refine VC.region ?_
    refine V.assign rfl rfl rfl ?_
    refine V.nil ?_
    refine Post.nextC ?_
    refine VC.ret ?_
    apply Post.ret1 rfl rfl 
    · exact ⟨rfl, rfl⟩
    · repeat' constructor
  · try simp only [decide_eq_true_eq, decide_eq_false_iff_not, Bool.not_eq_true', Bool.not_eq_false', Bool.not_eq_eq_eq_not, Bool.not_true, Bool.not_false, beq_iff_eq, beq_eq_false_iff_ne, ne_eq, Int.not_lt, Int.not_le, Option.isSome_some, Option.isNone_none, Option.isSome_none, Option.isNone_some] at h1
    cases h1

theorem c28D {w0 : World} {d bb nb i : Nat} {wr : Int} {fu : Bool} {lf : Int} {ad : Option Addr} {cp : Nat} (hnb : nb ≤ 65536) (hi : i < nb) : CtR Pg w0 28 #[.pointer (some ⟨d, 0, none⟩), .int .i64 (i : Int), .slice ad 16 cp] [dkB d (some ⟨bb, 0, none⟩) (16 * nb) wr true fu lf] (fun u H => u = .int .i64 50 ∧ H = [dkB d (some ⟨bb, 0, none⟩) (16 * nb) wr true fu lf]) := by
  refine Ct.of_body Go.Proofs.Tryd.func28 rfl 48 rfl rfl (fun R => ?_)
  refine VC.seq ?_
  refine VC.region ?_
  refine V.assign rfl rfl rfl ?_
  refine V.nil ?_
  refine Post.nextC ?_
  refine VC.seq ?_
  refine VC.region ?_
  refine V.move rfl rfl rfl ?_
  refine V.move rfl rfl rfl ?_
  apply V.call rfl rfl rfl (hc := c42d hnb hi)
  · repeat' constructor
  rintro v Ho ⟨rfl, rfl⟩
  refine V.move rfl rfl rfl ?_
  refine V.extract rfl rfl rfl rfl ?_
  refine V.extract rfl rfl rfl rfl ?_
  refine V.assign rfl rfl rfl ?_
  refine V.assign rfl rfl rfl ?_
  refine V.nil ?_
  refine Post.nextC ?_
  refine VC.seq ?_
  refine VC.block ?_
  refine VC.seq ?_
  refine VC.region ?_
  refine V.move rfl rfl rfl ?_
  refine V.bin rfl rfl rfl rfl (bin_eql _ _ _) ?_
  refine V.know (t := 17) (y := .bool false) rfl (rfl) ?_
  refine V.move rfl rfl rfl ?_
  refine V.move rfl rfl rfl ?_
  refine V.len rfl rfl rfl ?_
  refine V.bin rfl rfl rfl rfl (bin_neq _ _ _) ?_
  refine V.know (t := 21) (y := .bool false) rfl (by simp) ?_
  refine V.pickF rfl rfl rfl rfl ?_
  refine V.assign rfl rfl rfl ?_
  refine V.nil ?_
  refine Post.nextC ?_
  refine VC.condF rfl ?_
  refine VC.seq ?_
  refine VC.region ?_
  refine V.move rfl rfl rfl ?_
  refine V.bin rfl rfl rfl rfl (bin_neq _ _ _) ?_
  refine V.know (t := 25) (y := .bool true) rfl (rfl) ?_
  refine V.assign rfl rfl rfl ?_
  refine V.nil ?_
  refine Post.nextC ?_
  refine VC.condT rfl ?_
  refine VC.seq ?_
  refine VC.region ?_
  refine V.move rfl rfl rfl ?_
  refine V.assign rfl rfl rfl ?_
  refine V.nil ?_
  refine Post.nextC ?_
  refine VC.ret ?_
  refine Post.blockRet (Post.thenRet (?_))
  apply Post.ret1 rfl rfl 
  · exact ⟨rfl, rfl⟩
  · repeat' constructor

theorem c28 {w0 : World} {d bb nb i : Nat} {s : DS} {img xs : Bytes} {c : Chunk} {v : Value} (hl : img.length = 16 * nb) (hnb : nb ≤ 65536) (hi : i < nb) (hx : xs.length = 16) (hr : Rd w0 c 1 v 16 (xs.map byv)) (hs : s.ok 1000000000000000) (hd : s.dn = false) :
    CtR Pg w0 28 #[.pointer (some ⟨d, 0, none⟩), .int .i64 (i : Int), v] [dkS d bb nb s, imB bb img, c] (fun u H => u = .int .i64 0 ∧ H = [dkS d bb nb s.wrote, imB bb (setBlk img i xs), c]) := by
  obtain ⟨wr, dn, fu, lf⟩ := s
  obtain rfl : dn = false := hd
  cases fu with
  | false => exact c28F hl hnb hi hx hr ⟨hs.1, hs.2.1⟩
  | true => exact c28T hl hnb hi hx hr ⟨hs.1, hs.2.1⟩ (hs.2.2 rfl)

end Go.Proofs.Jn
