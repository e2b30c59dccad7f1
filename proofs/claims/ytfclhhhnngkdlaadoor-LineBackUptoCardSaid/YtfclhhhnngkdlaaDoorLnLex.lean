/- Contracts of functions of the given program, each proved by walking its code: part of the proof of this claim; no condition beyond those that each theorem names. -/
import Derived.Test.YtfclhhhnngkdlaaDoorLnFacts
set_option linter.unusedVariables false
set_option linter.unusedSimpArgs false
namespace Go.Proofs.Ln
open Go Go.RowKit Go.Proofs.Eng
/-- the scanner's block -/
abbrev scB (sp : Nat) (t : List UInt8) (line col : Int) (v : Value) (any : Bool) : Chunk :=
  [(sp, .cells #[st t, .int .i64 line, .int .i64 col, v, .bool any] 77 (0, 0))]
def small (c : UInt8) : Bool := decide (97 ≤ c.toNat) && decide (c.toNat ≤ 122)
def digit (c : UInt8) : Bool := decide (48 ≤ c.toNat) && decide (c.toNat ≤ 57)
def inName (c : UInt8) : Bool := small c || digit c || decide (c.toNat = 45)

theorem c57 {w0 : World} {c : UInt8} : CtR Pg w0 57 #[.int .u8 (c.toNat : Int)] [] (fun v H => v = .bool (small c) ∧ H = []) := by
  refine Ct.of_body Go.Proofs.Tryd.func57 rfl 9 rfl rfl (fun R => ?_)
  refine VC.seq ?_
  refine VC.region ?_
  refine V.assign rfl rfl rfl ?_
  refine V.nil ?_
  refine Post.nextC ?_
  refine VC.seq ?_
  refine VC.region ?_
  refine V.move rfl rfl rfl ?_
  refine V.bin rfl rfl rfl rfl (bin_geq _ _ _) ?_
  refine V.move rfl rfl rfl ?_
  refine V.split (t := 5) rfl (fun h1 => ?_) (fun h1 => ?_)
  · try simp only [decide_eq_true_eq, decide_eq_false_iff_not, Bool.not_eq_true', Bool.not_eq_false', Bool.not_eq_eq_eq_not, Bool.not_true, Bool.not_false, beq_iff_eq, beq_eq_false_iff_ne, ne_eq, Int.not_lt, Int.not_le, Option.isSome_some, Option.isNone_none, Option.isSome_none, Option.isNone_some, Classical.not_not] at h1
    refine V.move rfl rfl rfl ?_
    refine V.bin rfl rfl rfl rfl (bin_leq _ _ _) ?_
    refine V.pickT rfl rfl rfl rfl ?_
    refine V.assign rfl rfl rfl ?_
    refine V.nil ?_
    refine Post.nextC ?_
    refine VC.ret ?_
    apply Post.ret1 rfl rfl 
    · refine ⟨?_, rfl⟩
      congr 1
      rw [Bool.eq_iff_iff]
      simp [small]
      omega
    · repeat' constructor
  · try simp only [decide_eq_true_eq, decide_eq_false_iff_not, Bool.not_eq_true', Bool.not_eq_false', Bool.not_eq_eq_eq_not, Bool.not_true, Bool.not_false, beq_iff_eq, beq_eq_false_iff_ne, ne_eq, Int.not_lt, Int.not_le, Option.isSome_some, Option.isNone_none, Option.isSome_none, Option.isNone_some, Classical.not_not] at h1
    refine V.skip rfl rfl ?_
    refine V.skip rfl rfl ?_
    refine V.pickF rfl rfl rfl rfl ?_
    refine V.assign rfl rfl rfl ?_
    refine V.nil ?_
    refine Post.nextC ?_
    refine VC.ret ?_
    apply Post.ret1 rfl rfl 
    · refine ⟨?_, rfl⟩
      congr 1
      rw [Bool.eq_iff_iff]
      simp [small]
      omega
    · repeat' constructor

theorem c59 {w0 : World} {c : UInt8} : CtR Pg w0 59 #[.int .u8 (c.toNat : Int)] [] (fun v H => v = .bool (digit c) ∧ H = []) := by
  refine Ct.of_body Go.Proofs.Tryd.func59 rfl 9 rfl rfl (fun R => ?_)
  refine VC.seq ?_
  refine VC.region ?_
  refine V.assign rfl rfl rfl ?_
  refine V.nil ?_
  refine Post.nextC ?_
  refine VC.seq ?_
  refine VC.region ?_
  refine V.move rfl rfl rfl ?_
  refine V.bin rfl rfl rfl rfl (bin_geq _ _ _) ?_
  refine V.move rfl rfl rfl ?_
  refine V.split (t := 5) rfl (fun h1 => ?_) (fun h1 => ?_)
  · try simp only [decide_eq_true_eq, decide_eq_false_iff_not, Bool.not_eq_true', Bool.not_eq_false', Bool.not_eq_eq_eq_not, Bool.not_true, Bool.not_false, beq_iff_eq, beq_eq_false_iff_ne, ne_eq, Int.not_lt, Int.not_le, Option.isSome_some, Option.isNone_none, Option.isSome_none, Option.isNone_some, Classical.not_not] at h1
    refine V.move rfl rfl rfl ?_
    refine V.bin rfl rfl rfl rfl (bin_leq _ _ _) ?_
    refine V.pickT rfl rfl rfl rfl ?_
    refine V.assign rfl rfl rfl ?_
    refine V.nil ?_
    refine Post.nextC ?_
    refine VC.ret ?_
    apply Post.ret1 rfl rfl 
    · refine ⟨?_, rfl⟩
      congr 1
      rw [Bool.eq_iff_iff]
      simp [digit]
      omega
    · repeat' constructor
  · try simp only [decide_eq_true_eq, decide_eq_false_iff_not, Bool.not_eq_true', Bool.not_eq_false', Bool.not_eq_eq_eq_not, Bool.not_true, Bool.not_false, beq_iff_eq, beq_eq_false_iff_ne, ne_eq, Int.not_lt, Int.not_le, Option.isSome_some, Option.isNone_none, Option.isSome_none, Option.isNone_some, Classical.not_not] at h1
    refine V.skip rfl rfl ?_
    refine V.skip rfl rfl ?_
    refine V.pickF rfl rfl rfl rfl ?_
    refine V.assign rfl rfl rfl ?_
    refine V.nil ?_
    refine Post.nextC ?_
    refine VC.ret ?_
    apply Post.ret1 rfl rfl 
    · refine ⟨?_, rfl⟩
      congr 1
      rw [Bool.eq_iff_iff]
      simp [digit]
      omega
    · repeat' constructor

theorem c53 {w0 : World} {sp n : Nat} {t : List UInt8} {line col : Int} {v : Value} {any : Bool} (hn : n ≤ t.length) (hc : 0 ≤ col ∧ col ≤ 1000000) (hn2 : n ≤ 1000000) : CtR Pg w0 53 #[.pointer (some ⟨sp, 0, none⟩), .int .i64 (n : Int)] [scB sp t line col v any] (fun u H => H = [scB sp (t.drop n) line (col + n) v any]) := by
  refine Ct.of_body Go.Proofs.Tryd.func53 rfl 21 rfl rfl (fun R => ?_)
  refine VC.seq ?_
  refine VC.region ?_
  refine V.move rfl rfl rfl ?_
  refine V.move rfl rfl rfl ?_
  refine V.nilCheck rfl rfl rfl ?_
  refine V.fieldAddr 0 9 rfl rfl rfl rfl rfl ?_
  apply V.loadL rfl rfl rfl rfl
  · repeat' constructor
  · repeat' constructor
  refine V.move rfl rfl rfl ?_
  refine V.sliceStL rfl rfl rfl rfl (by omega) ?_
  refine V.nilCheck rfl rfl rfl ?_
  refine V.fieldAddr 0 9 rfl rfl rfl rfl rfl ?_
  apply V.storeL rfl rfl rfl rfl rfl
  · repeat' constructor
  · repeat' constructor
  refine V.nil ?_
  refine Post.nextC ?_
  refine VC.region ?_
  refine V.move rfl rfl rfl ?_
  refine V.nilCheck rfl rfl rfl ?_
  refine V.fieldAddr 2 3 rfl rfl rfl rfl rfl ?_
  apply V.loadL rfl rfl rfl rfl
  · repeat' constructor
  · repeat' constructor
  refine V.move rfl rfl rfl ?_
  refine V.bin rfl rfl rfl rfl (bin_addI (by omega)) ?_
  refine V.nilCheck rfl rfl rfl ?_
  refine V.fieldAddr 2 3 rfl rfl rfl rfl rfl ?_
  apply V.storeL rfl rfl rfl rfl rfl
  · repeat' constructor
  · repeat' constructor
  refine V.nil ?_
  refine Post.end_ rfl (?_)
  apply Post.ret0 rfl 
  · exact rfl
  · repeat' constructor

theorem c58 {w0 : World} {c : UInt8} : CtR Pg w0 58 #[.int .u8 (c.toNat : Int)] [] (fun v H => v = .bool (inName c) ∧ H = []) := by
  refine Ct.of_body Go.Proofs.Tryd.func58 rfl 13 rfl rfl (fun R => ?_)
  refine VC.seq ?_
  refine VC.region ?_
  refine V.assign rfl rfl rfl ?_
  refine V.nil ?_
  refine Post.nextC ?_
  refine VC.seq ?_
  refine VC.region ?_
  refine V.move rfl rfl rfl ?_
  apply V.call rfl rfl rfl (hc := c57)
  · repeat' constructor
  rintro v Ho ⟨rfl, rfl⟩
  refine V.move rfl rfl rfl ?_
  refine V.split (t := 5) rfl (fun h1 => ?_) (fun h1 => ?_)
  · try simp only [decide_eq_true_eq, decide_eq_false_iff_not, Bool.not_eq_true', Bool.not_eq_false', Bool.not_eq_eq_eq_not, Bool.not_true, Bool.not_false, beq_iff_eq, beq_eq_false_iff_ne, ne_eq, Int.not_lt, Int.not_le, Option.isSome_some, Option.isNone_none, Option.isSome_none, Option.isNone_some, Classical.not_not] at h1
    refine V.skip rfl rfl ?_
    refine V.skip rfl rfl ?_
    refine V.pickT rfl rfl rfl rfl ?_
    refine V.move rfl rfl rfl ?_
    refine V.skip rfl rfl ?_
    refine V.skip rfl rfl ?_
    refine V.pickT rfl rfl rfl rfl ?_
    refine V.assign rfl rfl rfl ?_
    refine V.nil ?_
    refine Post.nextC ?_
    refine VC.ret ?_
    apply Post.ret1 rfl rfl 
    · refine ⟨?_, rfl⟩
      congr 1
      rw [Bool.eq_iff_iff]
      simp_all [inName]
      try omega
    · repeat' constructor
  · try simp only [decide_eq_true_eq, decide_eq_false_iff_not, Bool.not_eq_true', Bool.not_eq_false', Bool.not_eq_eq_eq_not, Bool.not_true, Bool.not_false, beq_iff_eq, beq_eq_false_iff_ne, ne_eq, Int.not_lt, Int.not_le, Option.isSome_some, Option.isNone_none, Option.isSome_none, Option.isNone_some, Classical.not_not] at h1
    refine V.move rfl rfl rfl ?_
    apply V.call rfl rfl rfl (hc := c59)
    · repeat' constructor
    rintro v Ho ⟨rfl, rfl⟩
    refine V.pickF rfl rfl rfl rfl ?_
    refine V.move rfl rfl rfl ?_
    refine V.split (t := 9) rfl (fun h2 => ?_) (fun h2 => ?_)
    · try simp only [decide_eq_true_eq, decide_eq_false_iff_not, Bool.not_eq_true', Bool.not_eq_false', Bool.not_eq_eq_eq_not, Bool.not_true, Bool.not_false, beq_iff_eq, beq_eq_false_iff_ne, ne_eq, Int.not_lt, Int.not_le, Option.isSome_some, Option.isNone_none, Option.isSome_none, Option.isNone_some, Classical.not_not] at h2
      refine V.skip rfl rfl ?_
      refine V.skip rfl rfl ?_
      refine V.pickT rfl rfl rfl rfl ?_
      refine V.assign rfl rfl rfl ?_
      refine V.nil ?_
      refine Post.nextC ?_
      refine VC.ret ?_
      apply Post.ret1 rfl rfl 
      · refine ⟨?_, rfl⟩
        congr 1
        rw [Bool.eq_iff_iff]
        simp_all [inName]
        try omega
      · repeat' constructor
    · try simp only [decide_eq_true_eq, decide_eq_false_iff_not, Bool.not_eq_true', Bool.not_eq_false', Bool.not_eq_eq_eq_not, Bool.not_true, Bool.not_false, beq_iff_eq, beq_eq_false_iff_ne, ne_eq, Int.not_lt, Int.not_le, Option.isSome_some, Option.isNone_none, Option.isSome_none, Option.isNone_some, Classical.not_not] at h2
      refine V.move rfl rfl rfl ?_
      refine V.bin rfl rfl rfl rfl (bin_eql _ _ _) ?_
      refine V.pickF rfl rfl rfl rfl ?_
      refine V.assign rfl rfl rfl ?_
      refine V.nil ?_
      refine Post.nextC ?_
      refine VC.ret ?_
      apply Post.ret1 rfl rfl 
      · refine ⟨?_, rfl⟩
        congr 1
        rw [Bool.eq_iff_iff]
        simp_all [inName]
        try omega
      · repeat' constructor

theorem c55 {w0 : World} {c : UInt8} : CtR Pg w0 55 #[.int .u8 (c.toNat : Int)] [] (fun v H => v = .bool (decide (c.toNat ≠ 10)) ∧ H = []) := by
  refine Ct.of_body Go.Proofs.Tryd.func55 rfl 5 rfl rfl (fun R => ?_)
  refine VC.seq ?_
  refine VC.region ?_
  refine V.assign rfl rfl rfl ?_
  refine V.nil ?_
  refine Post.nextC ?_
  refine VC.seq ?_
  refine VC.region ?_
  refine V.move rfl rfl rfl ?_
  refine V.bin rfl rfl rfl rfl (bin_neq _ _ _) ?_
  refine V.assign rfl rfl rfl ?_
  refine V.nil ?_
  refine Post.nextC ?_
  refine VC.ret ?_
  apply Post.ret1 rfl rfl 
  · refine ⟨?_, rfl⟩
    congr 1
    rw [Bool.eq_iff_iff]
    simp
    omega
  · repeat' constructor

theorem drop_cons {α : Type} {l : List α} {i : Nat} {c : α} (h : l[i]? = some c) : l.drop i = c :: l.drop (i + 1) := by
  obtain ⟨hi, hc⟩ := List.getElem?_eq_some_iff.1 h
  rw [List.drop_eq_getElem_cons hi, hc]

theorem c54 {w0 : World} {k : FuncId} {p : UInt8 → Bool} [hk0 : Fun Pg k] {t : List UInt8} (hk : ∀ c, CtR Pg w0 k #[.int .u8 (c.toNat : Int)] [] (fun v H => v = .bool (p c) ∧ H = [])) (ht : t.length ≤ 1000000) : CtR Pg w0 54 #[st t, .func (.func k) #[] #[]] [] (fun v H => v = .int .i64 ((t.takeWhile p).length : Int) ∧ H = []) := by
  refine Ct.of_body Go.Proofs.Tryd.func54 rfl 20 rfl rfl (fun R => ?_)
  refine VC.seq ?_
  refine VC.region ?_
  refine V.assign rfl rfl rfl ?_
  refine V.nil ?_
  refine Post.nextC ?_
  refine VC.seq ?_
  refine VC.region ?_
  refine V.assign rfl rfl rfl ?_
  refine V.nil ?_
  refine Post.nextC ?_
  refine VC.seq ?_
  refine VC.block ?_
  refine VC.loop (σ := Nat) (fun i => [(0, st t), (1, .func (.func k) #[] #[]), (5, .int .i64 (i : Int))]) (fun i => R) (fun i => i ≤ t.length ∧ (t.takeWhile p).length = i + ((t.drop i).takeWhile p).length) (fun i => t.length - i) 0 ⟨Nat.zero_le _, by simp⟩ ?_ ?_ ?_
  · exact ⟨rfl, rfl, rfl, trivial⟩
  · repeat' constructor
  rintro i ⟨hi, hI⟩
  refine VC.seq ?_
  refine VC.seq ?_
  refine VC.region ?_
  refine V.move rfl rfl rfl ?_
  refine V.move rfl rfl rfl ?_
  refine V.lenSt rfl rfl rfl ?_
  refine V.bin rfl rfl rfl rfl (bin_lss _ _ _) ?_
  refine V.move rfl rfl rfl ?_
  refine V.split (t := 10) rfl (fun h1 => ?_) (fun h1 => ?_)
  · try simp only [decide_eq_true_eq, decide_eq_false_iff_not, Bool.not_eq_true', Bool.not_eq_false', Bool.not_eq_eq_eq_not, Bool.not_true, Bool.not_false, beq_iff_eq, beq_eq_false_iff_ne, ne_eq, Int.not_lt, Int.not_le, Option.isSome_some, Option.isNone_none, Option.isSome_none, Option.isNone_some, Classical.not_not] at h1
    refine V.move rfl rfl rfl ?_
    refine V.move rfl rfl rfl ?_
    refine V.move rfl rfl rfl ?_
    obtain ⟨c, hc⟩ : ∃ c, t[i]? = some c := ⟨t[i]'(by omega), by simp⟩
    refine V.indexSt rfl rfl rfl rfl (by assumption) ?_
    apply V.callV (first := #[]) (captured := #[]) (vs := [.int .u8 (c.toNat : Int)]) rfl rfl rfl rfl (hc := hk c)
    · repeat' constructor
    rintro v Ho ⟨rfl, rfl⟩
    refine V.pickT rfl rfl rfl rfl ?_
    refine V.nil ?_
    refine Post.nextC ?_
    refine VC.cond rfl (fun h2 => ?_) (fun h2 => ?_)
    · try simp only [decide_eq_true_eq, decide_eq_false_iff_not, Bool.not_eq_true', Bool.not_eq_false', Bool.not_eq_eq_eq_not, Bool.not_true, Bool.not_false, beq_iff_eq, beq_eq_false_iff_ne, ne_eq, Int.not_lt, Int.not_le, Option.isSome_some, Option.isNone_none, Option.isSome_none, Option.isNone_some, Classical.not_not] at h2
      refine VC.skip ?_
      refine Post.nextC ?_
      refine VC.block ?_
      refine VC.region ?_
      refine V.move rfl rfl rfl ?_
      refine V.bin rfl rfl rfl rfl (bin_addI (by omega)) ?_
      refine V.assign rfl rfl rfl ?_
      refine V.nil ?_
      refine Post.blockNormal (Post.round (i + 1) ?_ ?_ ?_ ?_)
      · exact ⟨by omega, by rw [hI, drop_cons hc, List.takeWhile_cons_of_pos h2, List.length_cons]; omega⟩
      · omega
      · exact ⟨rfl, rfl, rfl, trivial⟩
      · repeat' constructor
    · try simp only [decide_eq_true_eq, decide_eq_false_iff_not, Bool.not_eq_true', Bool.not_eq_false', Bool.not_eq_eq_eq_not, Bool.not_true, Bool.not_false, beq_iff_eq, beq_eq_false_iff_ne, ne_eq, Int.not_lt, Int.not_le, Option.isSome_some, Option.isNone_none, Option.isSome_none, Option.isNone_some, Classical.not_not] at h2
      refine VC.exit ?_
      refine Post.thenExit (Post.thenExit (Post.blockHit (Post.nextC ?_)))
      refine VC.seq ?_
      refine VC.region ?_
      refine V.move rfl rfl rfl ?_
      refine V.assign rfl rfl rfl ?_
      refine V.nil ?_
      refine Post.nextC ?_
      refine VC.ret ?_
      apply Post.ret1 rfl rfl 
      · refine ⟨?_, rfl⟩
        rw [hI]
        first
          | (rw [List.drop_of_length_le (by omega)]; simp)
          | (rw [drop_cons hc, List.takeWhile_cons_of_neg (by simpa using h2)]; simp)
      · repeat' constructor
  · try simp only [decide_eq_true_eq, decide_eq_false_iff_not, Bool.not_eq_true', Bool.not_eq_false', Bool.not_eq_eq_eq_not, Bool.not_true, Bool.not_false, beq_iff_eq, beq_eq_false_iff_ne, ne_eq, Int.not_lt, Int.not_le, Option.isSome_some, Option.isNone_none, Option.isSome_none, Option.isNone_some, Classical.not_not] at h1
    refine V.skip rfl rfl ?_
    refine V.skip rfl rfl ?_
    refine V.skip rfl rfl ?_
    refine V.skip rfl rfl ?_
    refine V.skip rfl rfl ?_
    refine V.pickF rfl rfl rfl rfl ?_
    refine V.nil ?_
    refine Post.nextC ?_
    refine VC.condF rfl ?_
    refine VC.exit ?_
    refine Post.thenExit (Post.thenExit (Post.blockHit (Post.nextC ?_)))
    refine VC.seq ?_
    refine VC.region ?_
    refine V.move rfl rfl rfl ?_
    refine V.assign rfl rfl rfl ?_
    refine V.nil ?_
    refine Post.nextC ?_
    refine VC.ret ?_
    apply Post.ret1 rfl rfl 
    · refine ⟨?_, rfl⟩
      rw [hI]
      first
        | (rw [List.drop_of_length_le (by omega)]; simp)
        | (rw [drop_cons hc, List.takeWhile_cons_of_neg (by simpa using h2)]; simp)
    · repeat' constructor

/-- the number that digits say -/
def dval (l : List UInt8) : Nat := l.foldl (fun v c => 10 * v + (c.toNat - 48)) 0
theorem dval_snoc (l : List UInt8) (c : UInt8) : dval (l ++ [c]) = 10 * dval l + (c.toNat - 48) := by simp [dval]
theorem dval_lt (l : List UInt8) (h : ∀ c ∈ l, digit c = true) : dval l < 10 ^ l.length := by
  have gen : ∀ (l : List UInt8) (v : Nat), (∀ c ∈ l, digit c = true) → l.foldl (fun v c => 10 * v + (c.toNat - 48)) v < (v + 1) * 10 ^ l.length := by
    intro l
    induction l with
    | nil => intro v _; simp
    | cons c l ih =>
      intro v h
      have h1 := ih (10 * v + (c.toNat - 48)) (fun c hc => h c (List.mem_cons_of_mem _ hc))
      have h2 := h c (List.mem_cons_self ..)
      simp [digit] at h2
      simp only [List.foldl_cons, List.length_cons, Nat.pow_succ]
      refine Nat.lt_of_lt_of_le h1 ?_
      have : (10 * v + (c.toNat - 48) + 1) * 10 ^ l.length ≤ ((v + 1) * 10) * 10 ^ l.length := Nat.mul_le_mul_right _ (by omega)
      rw [Nat.mul_comm (10 ^ l.length) 10, ← Nat.mul_assoc]
      exact this
  have := gen l 0 h
  simpa [dval] using this
/-- how many bytes of digits a text begins with, if they are a number; and the number -/
def bad (t : List UInt8) (n : Nat) : Bool := decide (n = 0) || decide (9 < n) || (decide (1 < n) && decide (t[0]? = some 48)) || (decide (n < t.length) && (match t[n]? with | some c => inName c | none => false))
def numb (t : List UInt8) : Nat × Nat := if bad t (t.takeWhile digit).length then (0, 0) else ((t.takeWhile digit).length, dval (t.takeWhile digit))
theorem bad1 {t : List UInt8} {m : Nat} (h : (m : Int) = 0) : bad t m = true := by simp [bad, show m = 0 by omega]
theorem bad2 {t : List UInt8} {m : Nat} (h : 9 < (m : Int)) : bad t m = true := by simp [bad, show 9 < m by omega]
theorem bad3 {t : List UInt8} {m : Nat} {c : UInt8} (h : 1 < (m : Int)) (hc : t[0]? = some c) (h48 : (c.toNat : Int) = 48) : bad t m = true := by
  have : c = 48 := UInt8.toNat_inj.1 (by simpa using (by omega : c.toNat = 48))
  subst this
  simp [bad, show 1 < m by omega, hc]
theorem bad4 {t : List UInt8} {m : Nat} {c : UInt8} (h : (m : Int) < t.length) (hc : t[m]? = some c) (hn : inName c = true) : bad t m = true := by
  simp only [bad, Bool.or_eq_true, Bool.and_eq_true, decide_eq_true_eq]
  right
  rw [hc]
  exact ⟨by omega, hn⟩
theorem good {t : List UInt8} {m : Nat} (h1 : ¬ (m : Int) = 0) (h2 : (m : Int) ≤ 9) (h3 : (m : Int) ≤ 1 ∨ ∃ c, t[0]? = some c ∧ ¬ (c.toNat : Int) = 48) (h4 : (t.length : Int) ≤ m ∨ ∃ c, t[m]? = some c ∧ inName c = false) : bad t m = false := by
  simp only [bad, Bool.or_eq_false_iff, Bool.and_eq_false_iff, decide_eq_false_iff_not]
  have ha : ¬ m = 0 := by clear h3 h4; omega
  have hb : ¬ 9 < m := by clear h3 h4; omega
  refine ⟨⟨⟨ha, hb⟩, ?_⟩, ?_⟩
  · clear h4
    rcases h3 with h | ⟨c, hc, h⟩
    · left; omega
    · right
      rw [hc]
      intro e
      simp only [Option.some.injEq] at e
      subst e
      exact h rfl
  · clear h3
    rcases h4 with h | ⟨c, hc, h⟩
    · left; omega
    · right
      rw [hc]
      exact h
theorem take_takeWhile (t : List UInt8) (p : UInt8 → Bool) : t.take (t.takeWhile p).length = t.takeWhile p := by
  induction t with
  | nil => rfl
  | cons a t ih =>
    by_cases h : p a
    · simp [List.takeWhile_cons_of_pos h, ih]
    · simp [List.takeWhile_cons_of_neg h]
theorem all_takeWhile (t : List UInt8) (p : UInt8 → Bool) : ∀ c ∈ t.takeWhile p, p c = true := by
  intro c hc
  induction t with
  | nil => simp at hc
  | cons a t ih =>
    by_cases h : p a
    · rw [List.takeWhile_cons_of_pos h] at hc
      rcases List.mem_cons.1 hc with rfl | hc
      · exact h
      · exact ih hc
    · rw [List.takeWhile_cons_of_neg h] at hc
      cases hc

theorem c60 {w0 : World} {t : List UInt8} (ht : t.length ≤ 100000) : CtR Pg w0 60 #[st t] [] (fun v H => v = .tuple #[.int .i64 ((numb t).1 : Int), .int .i64 ((numb t).2 : Int)] ∧ H = []) := by
  obtain ⟨m, hm⟩ : ∃ m, (t.takeWhile digit).length = m := ⟨_, rfl⟩
  have hmt : m ≤ t.length := by rw [← hm]; exact (List.takeWhile_sublist _).length_le
  have hg : numb t = if bad t m then (0, 0) else (m, dval (t.takeWhile digit)) := by rw [numb, hm]
  refine Ct.of_body Go.Proofs.Tryd.func60 rfl 53 rfl rfl (fun R => ?_)
  refine VC.seq ?_
  refine VC.region ?_
  refine V.assign rfl rfl rfl ?_
  refine V.assign rfl rfl rfl ?_
  refine V.nil ?_
  refine Post.nextC ?_
  refine VC.seq ?_
  refine VC.region ?_
  refine V.move rfl rfl rfl ?_
  apply V.call rfl rfl rfl (hc := c54 (k := 59) (p := digit) (t := t) (fun c => c59) (by omega))
  · repeat' constructor
  rintro v Ho ⟨rfl, rfl⟩
  rw [hm]
  refine V.assign rfl rfl rfl ?_
  refine V.nil ?_
  refine Post.nextC ?_
  refine VC.seq ?_
  refine VC.seq ?_
  refine VC.region ?_
  refine V.move rfl rfl rfl ?_
  refine V.bin rfl rfl rfl rfl (bin_eql _ _ _) ?_
  refine V.move rfl rfl rfl ?_
  refine V.split (t := 10) rfl (fun h1 => ?_) (fun h1 => ?_)
  · try simp only [decide_eq_true_eq, decide_eq_false_iff_not, Bool.not_eq_true', Bool.not_eq_false', Bool.not_eq_eq_eq_not, Bool.not_true, Bool.not_false, beq_iff_eq, beq_eq_false_iff_ne, ne_eq, Int.not_lt, Int.not_le, Option.isSome_some, Option.isNone_none, Option.isSome_none, Option.isNone_some, Classical.not_not] at h1
    refine V.skip rfl rfl ?_
    refine V.skip rfl rfl ?_
    refine V.pickT rfl rfl rfl rfl ?_
    refine V.move rfl rfl rfl ?_
    refine V.skip rfl rfl ?_
    refine V.skip rfl rfl ?_
    refine V.skip rfl rfl ?_
    refine V.skip rfl rfl ?_
    refine V.skip rfl rfl ?_
    refine V.skip rfl rfl ?_
    refine V.skip rfl rfl ?_
    refine V.pickT rfl rfl rfl rfl ?_
    refine V.move rfl rfl rfl ?_
    refine V.skip rfl rfl ?_
    refine V.skip rfl rfl ?_
    refine V.skip rfl rfl ?_
    refine V.skip rfl rfl ?_
    refine V.skip rfl rfl ?_
    refine V.skip rfl rfl ?_
    refine V.skip rfl rfl ?_
    refine V.skip rfl rfl ?_
    refine V.skip rfl rfl ?_
    refine V.skip rfl rfl ?_
    refine V.pickT rfl rfl rfl rfl ?_
    refine V.nil ?_
    refine Post.nextC ?_
    refine VC.condT rfl ?_
    refine VC.seq ?_
    refine VC.region ?_
    have hbad : bad t m = true := by first | exact bad1 (by omega) | exact bad2 (by omega) | exact bad3 (by omega) hc0 (by assumption) | exact bad4 (by omega) hcn (by assumption)
    refine V.assign rfl rfl rfl ?_
    refine V.assign rfl rfl rfl ?_
    refine V.nil ?_
    refine Post.nextC ?_
    refine VC.ret ?_
    refine Post.thenRet (?_)
    apply Post.ret2 rfl rfl rfl 
    · first
        | exact ⟨by rw [hg, if_pos hbad]; rfl, rfl⟩
        | (obtain rfl : k = m := by omega
           exact ⟨by rw [hg, hgood, List.take_of_length_le (Nat.le_of_eq (by rw [List.length_take]; omega)), htk]; rfl, rfl⟩)
    · repeat' constructor
  · try simp only [decide_eq_true_eq, decide_eq_false_iff_not, Bool.not_eq_true', Bool.not_eq_false', Bool.not_eq_eq_eq_not, Bool.not_true, Bool.not_false, beq_iff_eq, beq_eq_false_iff_ne, ne_eq, Int.not_lt, Int.not_le, Option.isSome_some, Option.isNone_none, Option.isSome_none, Option.isNone_some, Classical.not_not] at h1
    refine V.move rfl rfl rfl ?_
    refine V.bin rfl rfl rfl rfl (bin_gtr _ _ _) ?_
    refine V.pickF rfl rfl rfl rfl ?_
    refine V.move rfl rfl rfl ?_
    refine V.split (t := 14) rfl (fun h2 => ?_) (fun h2 => ?_)
    · try simp only [decide_eq_true_eq, decide_eq_false_iff_not, Bool.not_eq_true', Bool.not_eq_false', Bool.not_eq_eq_eq_not, Bool.not_true, Bool.not_false, beq_iff_eq, beq_eq_false_iff_ne, ne_eq, Int.not_lt, Int.not_le, Option.isSome_some, Option.isNone_none, Option.isSome_none, Option.isNone_some, Classical.not_not] at h2
      refine V.skip rfl rfl ?_
      refine V.skip rfl rfl ?_
      refine V.skip rfl rfl ?_
      refine V.skip rfl rfl ?_
      refine V.skip rfl rfl ?_
      refine V.skip rfl rfl ?_
      refine V.skip rfl rfl ?_
      refine V.pickT rfl rfl rfl rfl ?_
      refine V.move rfl rfl rfl ?_
      refine V.skip rfl rfl ?_
      refine V.skip rfl rfl ?_
      refine V.skip rfl rfl ?_
      refine V.skip rfl rfl ?_
      refine V.skip rfl rfl ?_
      refine V.skip rfl rfl ?_
      refine V.skip rfl rfl ?_
      refine V.skip rfl rfl ?_
      refine V.skip rfl rfl ?_
      refine V.skip rfl rfl ?_
      refine V.pickT rfl rfl rfl rfl ?_
      refine V.nil ?_
      refine Post.nextC ?_
      refine VC.condT rfl ?_
      refine VC.seq ?_
      refine VC.region ?_
      have hbad : bad t m = true := by first | exact bad1 (by omega) | exact bad2 (by omega) | exact bad3 (by omega) hc0 (by assumption) | exact bad4 (by omega) hcn (by assumption)
      refine V.assign rfl rfl rfl ?_
      refine V.assign rfl rfl rfl ?_
      refine V.nil ?_
      refine Post.nextC ?_
      refine VC.ret ?_
      refine Post.thenRet (?_)
      apply Post.ret2 rfl rfl rfl 
      · first
          | exact ⟨by rw [hg, if_pos hbad]; rfl, rfl⟩
          | (obtain rfl : k = m := by omega
             exact ⟨by rw [hg, hgood, List.take_of_length_le (Nat.le_of_eq (by rw [List.length_take]; omega)), htk]; rfl, rfl⟩)
      · repeat' constructor
    · try simp only [decide_eq_true_eq, decide_eq_false_iff_not, Bool.not_eq_true', Bool.not_eq_false', Bool.not_eq_eq_eq_not, Bool.not_true, Bool.not_false, beq_iff_eq, beq_eq_false_iff_ne, ne_eq, Int.not_lt, Int.not_le, Option.isSome_some, Option.isNone_none, Option.isSome_none, Option.isNone_some, Classical.not_not] at h2
      refine V.move rfl rfl rfl ?_
      refine V.bin rfl rfl rfl rfl (bin_gtr _ _ _) ?_
      refine V.move rfl rfl rfl ?_
      refine V.split (t := 17) rfl (fun h3 => ?_) (fun h3 => ?_)
      · try simp only [decide_eq_true_eq, decide_eq_false_iff_not, Bool.not_eq_true', Bool.not_eq_false', Bool.not_eq_eq_eq_not, Bool.not_true, Bool.not_false, beq_iff_eq, beq_eq_false_iff_ne, ne_eq, Int.not_lt, Int.not_le, Option.isSome_some, Option.isNone_none, Option.isSome_none, Option.isNone_some, Classical.not_not] at h3
        refine V.move rfl rfl rfl ?_
        obtain ⟨c0, hc0⟩ : ∃ c, t[0]? = some c := ⟨t[0]'(by omega), by simp⟩
        refine V.indexSt (i := 0) (c := c0) rfl rfl rfl rfl hc0 ?_
        refine V.bin rfl rfl rfl rfl (bin_eql _ _ _) ?_
        refine V.pickT rfl rfl rfl rfl ?_
        refine V.pickF rfl rfl rfl rfl ?_
        refine V.move rfl rfl rfl ?_
        refine V.split (t := 23) rfl (fun h4 => ?_) (fun h4 => ?_)
        · try simp only [decide_eq_true_eq, decide_eq_false_iff_not, Bool.not_eq_true', Bool.not_eq_false', Bool.not_eq_eq_eq_not, Bool.not_true, Bool.not_false, beq_iff_eq, beq_eq_false_iff_ne, ne_eq, Int.not_lt, Int.not_le, Option.isSome_some, Option.isNone_none, Option.isSome_none, Option.isNone_some, Classical.not_not] at h4
          refine V.skip rfl rfl ?_
          refine V.skip rfl rfl ?_
          refine V.skip rfl rfl ?_
          refine V.skip rfl rfl ?_
          refine V.skip rfl rfl ?_
          refine V.skip rfl rfl ?_
          refine V.skip rfl rfl ?_
          refine V.skip rfl rfl ?_
          refine V.skip rfl rfl ?_
          refine V.skip rfl rfl ?_
          refine V.pickT rfl rfl rfl rfl ?_
          refine V.nil ?_
          refine Post.nextC ?_
          refine VC.condT rfl ?_
          refine VC.seq ?_
          refine VC.region ?_
          have hbad : bad t m = true := by first | exact bad1 (by omega) | exact bad2 (by omega) | exact bad3 (by omega) hc0 (by assumption) | exact bad4 (by omega) hcn (by assumption)
          refine V.assign rfl rfl rfl ?_
          refine V.assign rfl rfl rfl ?_
          refine V.nil ?_
          refine Post.nextC ?_
          refine VC.ret ?_
          refine Post.thenRet (?_)
          apply Post.ret2 rfl rfl rfl 
          · first
              | exact ⟨by rw [hg, if_pos hbad]; rfl, rfl⟩
              | (obtain rfl : k = m := by omega
                 exact ⟨by rw [hg, hgood, List.take_of_length_le (Nat.le_of_eq (by rw [List.length_take]; omega)), htk]; rfl, rfl⟩)
          · repeat' constructor
        · try simp only [decide_eq_true_eq, decide_eq_false_iff_not, Bool.not_eq_true', Bool.not_eq_false', Bool.not_eq_eq_eq_not, Bool.not_true, Bool.not_false, beq_iff_eq, beq_eq_false_iff_ne, ne_eq, Int.not_lt, Int.not_le, Option.isSome_some, Option.isNone_none, Option.isSome_none, Option.isNone_some, Classical.not_not] at h4
          refine V.move rfl rfl rfl ?_
          refine V.move rfl rfl rfl ?_
          refine V.lenSt rfl rfl rfl ?_
          refine V.bin rfl rfl rfl rfl (bin_lss _ _ _) ?_
          refine V.move rfl rfl rfl ?_
          refine V.split (t := 28) rfl (fun h5 => ?_) (fun h5 => ?_)
          · try simp only [decide_eq_true_eq, decide_eq_false_iff_not, Bool.not_eq_true', Bool.not_eq_false', Bool.not_eq_eq_eq_not, Bool.not_true, Bool.not_false, beq_iff_eq, beq_eq_false_iff_ne, ne_eq, Int.not_lt, Int.not_le, Option.isSome_some, Option.isNone_none, Option.isSome_none, Option.isNone_some, Classical.not_not] at h5
            refine V.move rfl rfl rfl ?_
            refine V.move rfl rfl rfl ?_
            obtain ⟨cn, hcn⟩ : ∃ c, t[m]? = some c := ⟨t[m]'(by omega), by simp⟩
            refine V.indexSt (i := m) (c := cn) rfl rfl rfl rfl hcn ?_
            apply V.call rfl rfl rfl (hc := c58)
            · repeat' constructor
            rintro v Ho ⟨rfl, rfl⟩
            refine V.pickT rfl rfl rfl rfl ?_
            refine V.pickF rfl rfl rfl rfl ?_
            refine V.nil ?_
            refine Post.nextC ?_
            refine VC.cond rfl (fun h6 => ?_) (fun h6 => ?_)
            · try simp only [decide_eq_true_eq, decide_eq_false_iff_not, Bool.not_eq_true', Bool.not_eq_false', Bool.not_eq_eq_eq_not, Bool.not_true, Bool.not_false, beq_iff_eq, beq_eq_false_iff_ne, ne_eq, Int.not_lt, Int.not_le, Option.isSome_some, Option.isNone_none, Option.isSome_none, Option.isNone_some, Classical.not_not] at h6
              refine VC.seq ?_
              refine VC.region ?_
              have hbad : bad t m = true := by first | exact bad1 (by omega) | exact bad2 (by omega) | exact bad3 (by omega) hc0 (by assumption) | exact bad4 (by omega) hcn (by assumption)
              refine V.assign rfl rfl rfl ?_
              refine V.assign rfl rfl rfl ?_
              refine V.nil ?_
              refine Post.nextC ?_
              refine VC.ret ?_
              refine Post.thenRet (?_)
              apply Post.ret2 rfl rfl rfl 
              · first
                  | exact ⟨by rw [hg, if_pos hbad]; rfl, rfl⟩
                  | (obtain rfl : k = m := by omega
                     exact ⟨by rw [hg, hgood, List.take_of_length_le (Nat.le_of_eq (by rw [List.length_take]; omega)), htk]; rfl, rfl⟩)
              · repeat' constructor
            · try simp only [decide_eq_true_eq, decide_eq_false_iff_not, Bool.not_eq_true', Bool.not_eq_false', Bool.not_eq_eq_eq_not, Bool.not_true, Bool.not_false, beq_iff_eq, beq_eq_false_iff_ne, ne_eq, Int.not_lt, Int.not_le, Option.isSome_some, Option.isNone_none, Option.isSome_none, Option.isNone_some, Classical.not_not] at h6
              refine VC.skip ?_
              refine Post.nextC ?_
              refine VC.seq ?_
              refine VC.seq ?_
              refine VC.region ?_
              have hgood : bad t m = false := good (by omega) (by omega) (by first | (left; omega) | exact .inr ⟨c0, hc0, by assumption⟩) (by first | (left; omega) | exact .inr ⟨cn, hcn, by assumption⟩)
              have hall := all_takeWhile t digit
              have htk : t.take m = t.takeWhile digit := by rw [← hm, take_takeWhile]
              refine V.move rfl rfl rfl ?_
              refine V.move rfl rfl rfl ?_
              refine V.sliceStH rfl rfl rfl rfl (by omega) ?_
              refine V.bytesOfSt rfl rfl rfl (by rw [List.length_take]; omega) (fun ab cpb cb hrb => ?_)
              rw [show (t.take m).length = m by rw [List.length_take]; omega] at *
              refine V.len rfl rfl rfl ?_
              refine V.move rfl rfl rfl ?_
              refine V.nil ?_
              refine Post.nextC ?_
              refine VC.block ?_
              refine VC.loop (σ := Nat) (fun k => [(2, .int .i64 (m : Int)), (3, .int .i64 ((dval ((t.take m).take k) : Nat) : Int)), (38, .slice ab m cpb), (39, .int .i64 (m : Int)), (40, .int .i64 (k : Int))]) (fun k => cb :: R) (fun k => k ≤ m) (fun k => m - k) 0 (Nat.zero_le _) ?_ ?_ ?_
              · exact ⟨rfl, rfl, rfl, rfl, rfl, trivial⟩
              · repeat' constructor
              intro k hk
              refine VC.seq ?_
              refine VC.region ?_
              refine V.bin rfl rfl rfl rfl (bin_lss _ _ _) ?_
              refine V.nil ?_
              refine Post.nextC ?_
              refine VC.seq ?_
              refine VC.cond rfl (fun h7 => ?_) (fun h7 => ?_)
              · try simp only [decide_eq_true_eq, decide_eq_false_iff_not, Bool.not_eq_true', Bool.not_eq_false', Bool.not_eq_eq_eq_not, Bool.not_true, Bool.not_false, beq_iff_eq, beq_eq_false_iff_ne, ne_eq, Int.not_lt, Int.not_le, Option.isSome_some, Option.isNone_none, Option.isSome_none, Option.isNone_some, Classical.not_not] at h7
                refine VC.skip ?_
                refine Post.nextC ?_
                refine VC.seq ?_
                refine VC.block ?_
                refine VC.seq ?_
                refine VC.region ?_
                obtain ⟨c, hc⟩ : ∃ c, (t.take m)[k]? = some c := ⟨(t.take m)[k]'(by rw [List.length_take]; omega), List.getElem?_eq_getElem _⟩
                obtain ⟨_, gb, ob, cpb2, hvb, hcel⟩ := hrb.at1 (i := k) (u := byv c) (by rw [List.getElem?_map, hc]; rfl)
                simp only [Value.slice.injEq] at hvb
                obtain ⟨rfl, _, rfl⟩ := hvb
                have hdig : digit c = true := hall c (by rw [← htk]; exact List.mem_of_getElem? hc)
                simp [digit] at hdig
                have hstep : dval ((t.take m).take (k + 1)) = 10 * dval ((t.take m).take k) + (c.toNat - 48) := by
                  rw [List.take_add_one, hc]
                  exact dval_snoc _ _
                have hlt : dval ((t.take m).take k) < 1000000000 := by
                  have h1 := dval_lt ((t.take m).take k) (fun c hc => hall c (by rw [← htk]; exact List.mem_of_mem_take hc))
                  refine Nat.lt_of_lt_of_le h1 ?_
                  exact Nat.pow_le_pow_right (n := 10) (by omega) (show _ ≤ 9 by rw [List.length_take, List.length_take]; omega)
                refine V.indexO (i := k) rfl rfl rfl rfl (by omega) ?_
                rw [Nat.mul_one]
                apply V.loadC (c := cb) rfl rfl rfl rfl
                · repeat' constructor
                · exact hcel
                refine V.assign rfl rfl rfl ?_
                refine V.nil ?_
                refine Post.nextC ?_
                refine VC.region ?_
                refine V.move rfl rfl rfl ?_
                refine V.bin rfl rfl rfl rfl (bin_mulI (x := 10) (y := ((dval ((t.take m).take k) : Nat) : Int)) (by omega)) ?_
                refine V.move rfl rfl rfl ?_
                refine V.bin rfl rfl rfl rfl (bin_sub .u8 (c.toNat : Int) 48 (IntWalk.u8_in _ (by omega))) ?_
                refine V.conv _ rfl rfl rfl (IntWalk.i64_in _ (by omega)) ?_
                refine V.bin rfl rfl rfl rfl (bin_addI (by omega)) ?_
                refine V.know (t := 49) (y := .int .i64 ((dval ((t.take m).take (k + 1)) : Nat) : Int)) rfl (by rw [hstep]; congr 1; omega) ?_
                refine V.assign rfl rfl rfl ?_
                refine V.nil ?_
                refine Post.blockNormal (Post.nextC ?_)
                refine VC.region ?_
                refine V.bin rfl rfl rfl rfl (bin_addI (by omega)) ?_
                refine V.move rfl rfl rfl ?_
                refine V.nil ?_
                refine Post.round (k + 1) ?_ ?_ ?_ ?_
                · omega
                · omega
                · exact ⟨rfl, rfl, rfl, rfl, rfl, trivial⟩
                · repeat' constructor
              · try simp only [decide_eq_true_eq, decide_eq_false_iff_not, Bool.not_eq_true', Bool.not_eq_false', Bool.not_eq_eq_eq_not, Bool.not_true, Bool.not_false, beq_iff_eq, beq_eq_false_iff_ne, ne_eq, Int.not_lt, Int.not_le, Option.isSome_some, Option.isNone_none, Option.isSome_none, Option.isNone_some, Classical.not_not] at h7
                refine VC.exit ?_
                refine Post.thenExit (Post.thenExit (Post.blockHit (Post.nextC ?_)))
                refine VC.seq ?_
                refine VC.region ?_
                refine V.move rfl rfl rfl ?_
                refine V.move rfl rfl rfl ?_
                refine V.assign rfl rfl rfl ?_
                refine V.assign rfl rfl rfl ?_
                refine V.nil ?_
                refine Post.nextC ?_
                refine VC.ret ?_
                apply Post.ret2 rfl rfl rfl 
                · first
                    | exact ⟨by rw [hg, if_pos hbad]; rfl, rfl⟩
                    | (obtain rfl : k = m := by omega
                       exact ⟨by rw [hg, hgood, List.take_of_length_le (Nat.le_of_eq (by rw [List.length_take]; omega)), htk]; rfl, rfl⟩)
                · repeat' constructor
          · try simp only [decide_eq_true_eq, decide_eq_false_iff_not, Bool.not_eq_true', Bool.not_eq_false', Bool.not_eq_eq_eq_not, Bool.not_true, Bool.not_false, beq_iff_eq, beq_eq_false_iff_ne, ne_eq, Int.not_lt, Int.not_le, Option.isSome_some, Option.isNone_none, Option.isSome_none, Option.isNone_some, Classical.not_not] at h5
            refine V.skip rfl rfl ?_
            refine V.skip rfl rfl ?_
            refine V.skip rfl rfl ?_
            refine V.skip rfl rfl ?_
            refine V.pickF rfl rfl rfl rfl ?_
            refine V.pickF rfl rfl rfl rfl ?_
            refine V.nil ?_
            refine Post.nextC ?_
            refine VC.condF rfl ?_
            refine VC.skip ?_
            refine Post.nextC ?_
            refine VC.seq ?_
            refine VC.seq ?_
            refine VC.region ?_
            have hgood : bad t m = false := good (by omega) (by omega) (by first | (left; omega) | exact .inr ⟨c0, hc0, by assumption⟩) (by first | (left; omega) | exact .inr ⟨cn, hcn, by assumption⟩)
            have hall := all_takeWhile t digit
            have htk : t.take m = t.takeWhile digit := by rw [← hm, take_takeWhile]
            refine V.move rfl rfl rfl ?_
            refine V.move rfl rfl rfl ?_
            refine V.sliceStH rfl rfl rfl rfl (by omega) ?_
            refine V.bytesOfSt rfl rfl rfl (by rw [List.length_take]; omega) (fun ab cpb cb hrb => ?_)
            rw [show (t.take m).length = m by rw [List.length_take]; omega] at *
            refine V.len rfl rfl rfl ?_
            refine V.move rfl rfl rfl ?_
            refine V.nil ?_
            refine Post.nextC ?_
            refine VC.block ?_
            refine VC.loop (σ := Nat) (fun k => [(2, .int .i64 (m : Int)), (3, .int .i64 ((dval ((t.take m).take k) : Nat) : Int)), (38, .slice ab m cpb), (39, .int .i64 (m : Int)), (40, .int .i64 (k : Int))]) (fun k => cb :: R) (fun k => k ≤ m) (fun k => m - k) 0 (Nat.zero_le _) ?_ ?_ ?_
            · exact ⟨rfl, rfl, rfl, rfl, rfl, trivial⟩
            · repeat' constructor
            intro k hk
            refine VC.seq ?_
            refine VC.region ?_
            refine V.bin rfl rfl rfl rfl (bin_lss _ _ _) ?_
            refine V.nil ?_
            refine Post.nextC ?_
            refine VC.seq ?_
            refine VC.cond rfl (fun h8 => ?_) (fun h8 => ?_)
            · try simp only [decide_eq_true_eq, decide_eq_false_iff_not, Bool.not_eq_true', Bool.not_eq_false', Bool.not_eq_eq_eq_not, Bool.not_true, Bool.not_false, beq_iff_eq, beq_eq_false_iff_ne, ne_eq, Int.not_lt, Int.not_le, Option.isSome_some, Option.isNone_none, Option.isSome_none, Option.isNone_some, Classical.not_not] at h8
              refine VC.skip ?_
              refine Post.nextC ?_
              refine VC.seq ?_
              refine VC.block ?_
              refine VC.seq ?_
              refine VC.region ?_
              obtain ⟨c, hc⟩ : ∃ c, (t.take m)[k]? = some c := ⟨(t.take m)[k]'(by rw [List.length_take]; omega), List.getElem?_eq_getElem _⟩
              obtain ⟨_, gb, ob, cpb2, hvb, hcel⟩ := hrb.at1 (i := k) (u := byv c) (by rw [List.getElem?_map, hc]; rfl)
              simp only [Value.slice.injEq] at hvb
              obtain ⟨rfl, _, rfl⟩ := hvb
              have hdig : digit c = true := hall c (by rw [← htk]; exact List.mem_of_getElem? hc)
              simp [digit] at hdig
              have hstep : dval ((t.take m).take (k + 1)) = 10 * dval ((t.take m).take k) + (c.toNat - 48) := by
                rw [List.take_add_one, hc]
                exact dval_snoc _ _
              have hlt : dval ((t.take m).take k) < 1000000000 := by
                have h1 := dval_lt ((t.take m).take k) (fun c hc => hall c (by rw [← htk]; exact List.mem_of_mem_take hc))
                refine Nat.lt_of_lt_of_le h1 ?_
                exact Nat.pow_le_pow_right (n := 10) (by omega) (show _ ≤ 9 by rw [List.length_take, List.length_take]; omega)
              refine V.indexO (i := k) rfl rfl rfl rfl (by omega) ?_
              rw [Nat.mul_one]
              apply V.loadC (c := cb) rfl rfl rfl rfl
              · repeat' constructor
              · exact hcel
              refine V.assign rfl rfl rfl ?_
              refine V.nil ?_
              refine Post.nextC ?_
              refine VC.region ?_
              refine V.move rfl rfl rfl ?_
              refine V.bin rfl rfl rfl rfl (bin_mulI (x := 10) (y := ((dval ((t.take m).take k) : Nat) : Int)) (by omega)) ?_
              refine V.move rfl rfl rfl ?_
              refine V.bin rfl rfl rfl rfl (bin_sub .u8 (c.toNat : Int) 48 (IntWalk.u8_in _ (by omega))) ?_
              refine V.conv _ rfl rfl rfl (IntWalk.i64_in _ (by omega)) ?_
              refine V.bin rfl rfl rfl rfl (bin_addI (by omega)) ?_
              refine V.know (t := 49) (y := .int .i64 ((dval ((t.take m).take (k + 1)) : Nat) : Int)) rfl (by rw [hstep]; congr 1; omega) ?_
              refine V.assign rfl rfl rfl ?_
              refine V.nil ?_
              refine Post.blockNormal (Post.nextC ?_)
              refine VC.region ?_
              refine V.bin rfl rfl rfl rfl (bin_addI (by omega)) ?_
              refine V.move rfl rfl rfl ?_
              refine V.nil ?_
              refine Post.round (k + 1) ?_ ?_ ?_ ?_
              · omega
              · omega
              · exact ⟨rfl, rfl, rfl, rfl, rfl, trivial⟩
              · repeat' constructor
            · try simp only [decide_eq_true_eq, decide_eq_false_iff_not, Bool.not_eq_true', Bool.not_eq_false', Bool.not_eq_eq_eq_not, Bool.not_true, Bool.not_false, beq_iff_eq, beq_eq_false_iff_ne, ne_eq, Int.not_lt, Int.not_le, Option.isSome_some, Option.isNone_none, Option.isSome_none, Option.isNone_some, Classical.not_not] at h8
              refine VC.exit ?_
              refine Post.thenExit (Post.thenExit (Post.blockHit (Post.nextC ?_)))
              refine VC.seq ?_
              refine VC.region ?_
              refine V.move rfl rfl rfl ?_
              refine V.move rfl rfl rfl ?_
              refine V.assign rfl rfl rfl ?_
              refine V.assign rfl rfl rfl ?_
              refine V.nil ?_
              refine Post.nextC ?_
              refine VC.ret ?_
              apply Post.ret2 rfl rfl rfl 
              · first
                  | exact ⟨by rw [hg, if_pos hbad]; rfl, rfl⟩
                  | (obtain rfl : k = m := by omega
                     exact ⟨by rw [hg, hgood, List.take_of_length_le (Nat.le_of_eq (by rw [List.length_take]; omega)), htk]; rfl, rfl⟩)
              · repeat' constructor
      · try simp only [decide_eq_true_eq, decide_eq_false_iff_not, Bool.not_eq_true', Bool.not_eq_false', Bool.not_eq_eq_eq_not, Bool.not_true, Bool.not_false, beq_iff_eq, beq_eq_false_iff_ne, ne_eq, Int.not_lt, Int.not_le, Option.isSome_some, Option.isNone_none, Option.isSome_none, Option.isNone_some, Classical.not_not] at h3
        refine V.skip rfl rfl ?_
        refine V.skip rfl rfl ?_
        refine V.skip rfl rfl ?_
        refine V.pickF rfl rfl rfl rfl ?_
        refine V.pickF rfl rfl rfl rfl ?_
        refine V.move rfl rfl rfl ?_
        refine V.move rfl rfl rfl ?_
        refine V.move rfl rfl rfl ?_
        refine V.lenSt rfl rfl rfl ?_
        refine V.bin rfl rfl rfl rfl (bin_lss _ _ _) ?_
        refine V.move rfl rfl rfl ?_
        refine V.split (t := 28) rfl (fun h9 => ?_) (fun h9 => ?_)
        · try simp only [decide_eq_true_eq, decide_eq_false_iff_not, Bool.not_eq_true', Bool.not_eq_false', Bool.not_eq_eq_eq_not, Bool.not_true, Bool.not_false, beq_iff_eq, beq_eq_false_iff_ne, ne_eq, Int.not_lt, Int.not_le, Option.isSome_some, Option.isNone_none, Option.isSome_none, Option.isNone_some, Classical.not_not] at h9
          refine V.move rfl rfl rfl ?_
          refine V.move rfl rfl rfl ?_
          obtain ⟨cn, hcn⟩ : ∃ c, t[m]? = some c := ⟨t[m]'(by omega), by simp⟩
          refine V.indexSt (i := m) (c := cn) rfl rfl rfl rfl hcn ?_
          apply V.call rfl rfl rfl (hc := c58)
          · repeat' constructor
          rintro v Ho ⟨rfl, rfl⟩
          refine V.pickT rfl rfl rfl rfl ?_
          refine V.pickF rfl rfl rfl rfl ?_
          refine V.nil ?_
          refine Post.nextC ?_
          refine VC.cond rfl (fun h10 => ?_) (fun h10 => ?_)
          · try simp only [decide_eq_true_eq, decide_eq_false_iff_not, Bool.not_eq_true', Bool.not_eq_false', Bool.not_eq_eq_eq_not, Bool.not_true, Bool.not_false, beq_iff_eq, beq_eq_false_iff_ne, ne_eq, Int.not_lt, Int.not_le, Option.isSome_some, Option.isNone_none, Option.isSome_none, Option.isNone_some, Classical.not_not] at h10
            refine VC.seq ?_
            refine VC.region ?_
            have hbad : bad t m = true := by first | exact bad1 (by omega) | exact bad2 (by omega) | exact bad3 (by omega) hc0 (by assumption) | exact bad4 (by omega) hcn (by assumption)
            refine V.assign rfl rfl rfl ?_
            refine V.assign rfl rfl rfl ?_
            refine V.nil ?_
            refine Post.nextC ?_
            refine VC.ret ?_
            refine Post.thenRet (?_)
            apply Post.ret2 rfl rfl rfl 
            · first
                | exact ⟨by rw [hg, if_pos hbad]; rfl, rfl⟩
                | (obtain rfl : k = m := by omega
                   exact ⟨by rw [hg, hgood, List.take_of_length_le (Nat.le_of_eq (by rw [List.length_take]; omega)), htk]; rfl, rfl⟩)
            · repeat' constructor
          · try simp only [decide_eq_true_eq, decide_eq_false_iff_not, Bool.not_eq_true', Bool.not_eq_false', Bool.not_eq_eq_eq_not, Bool.not_true, Bool.not_false, beq_iff_eq, beq_eq_false_iff_ne, ne_eq, Int.not_lt, Int.not_le, Option.isSome_some, Option.isNone_none, Option.isSome_none, Option.isNone_some, Classical.not_not] at h10
            refine VC.skip ?_
            refine Post.nextC ?_
            refine VC.seq ?_
            refine VC.seq ?_
            refine VC.region ?_
            have hgood : bad t m = false := good (by omega) (by omega) (by first | (left; omega) | exact .inr ⟨c0, hc0, by assumption⟩) (by first | (left; omega) | exact .inr ⟨cn, hcn, by assumption⟩)
            have hall := all_takeWhile t digit
            have htk : t.take m = t.takeWhile digit := by rw [← hm, take_takeWhile]
            refine V.move rfl rfl rfl ?_
            refine V.move rfl rfl rfl ?_
            refine V.sliceStH rfl rfl rfl rfl (by omega) ?_
            refine V.bytesOfSt rfl rfl rfl (by rw [List.length_take]; omega) (fun ab cpb cb hrb => ?_)
            rw [show (t.take m).length = m by rw [List.length_take]; omega] at *
            refine V.len rfl rfl rfl ?_
            refine V.move rfl rfl rfl ?_
            refine V.nil ?_
            refine Post.nextC ?_
            refine VC.block ?_
            refine VC.loop (σ := Nat) (fun k => [(2, .int .i64 (m : Int)), (3, .int .i64 ((dval ((t.take m).take k) : Nat) : Int)), (38, .slice ab m cpb), (39, .int .i64 (m : Int)), (40, .int .i64 (k : Int))]) (fun k => cb :: R) (fun k => k ≤ m) (fun k => m - k) 0 (Nat.zero_le _) ?_ ?_ ?_
            · exact ⟨rfl, rfl, rfl, rfl, rfl, trivial⟩
            · repeat' constructor
            intro k hk
            refine VC.seq ?_
            refine VC.region ?_
            refine V.bin rfl rfl rfl rfl (bin_lss _ _ _) ?_
            refine V.nil ?_
            refine Post.nextC ?_
            refine VC.seq ?_
            refine VC.cond rfl (fun h11 => ?_) (fun h11 => ?_)
            · try simp only [decide_eq_true_eq, decide_eq_false_iff_not, Bool.not_eq_true', Bool.not_eq_false', Bool.not_eq_eq_eq_not, Bool.not_true, Bool.not_false, beq_iff_eq, beq_eq_false_iff_ne, ne_eq, Int.not_lt, Int.not_le, Option.isSome_some, Option.isNone_none, Option.isSome_none, Option.isNone_some, Classical.not_not] at h11
              refine VC.skip ?_
              refine Post.nextC ?_
              refine VC.seq ?_
              refine VC.block ?_
              refine VC.seq ?_
              refine VC.region ?_
              obtain ⟨c, hc⟩ : ∃ c, (t.take m)[k]? = some c := ⟨(t.take m)[k]'(by rw [List.length_take]; omega), List.getElem?_eq_getElem _⟩
              obtain ⟨_, gb, ob, cpb2, hvb, hcel⟩ := hrb.at1 (i := k) (u := byv c) (by rw [List.getElem?_map, hc]; rfl)
              simp only [Value.slice.injEq] at hvb
              obtain ⟨rfl, _, rfl⟩ := hvb
              have hdig : digit c = true := hall c (by rw [← htk]; exact List.mem_of_getElem? hc)
              simp [digit] at hdig
              have hstep : dval ((t.take m).take (k + 1)) = 10 * dval ((t.take m).take k) + (c.toNat - 48) := by
                rw [List.take_add_one, hc]
                exact dval_snoc _ _
              have hlt : dval ((t.take m).take k) < 1000000000 := by
                have h1 := dval_lt ((t.take m).take k) (fun c hc => hall c (by rw [← htk]; exact List.mem_of_mem_take hc))
                refine Nat.lt_of_lt_of_le h1 ?_
                exact Nat.pow_le_pow_right (n := 10) (by omega) (show _ ≤ 9 by rw [List.length_take, List.length_take]; omega)
              refine V.indexO (i := k) rfl rfl rfl rfl (by omega) ?_
              rw [Nat.mul_one]
              apply V.loadC (c := cb) rfl rfl rfl rfl
              · repeat' constructor
              · exact hcel
              refine V.assign rfl rfl rfl ?_
              refine V.nil ?_
              refine Post.nextC ?_
              refine VC.region ?_
              refine V.move rfl rfl rfl ?_
              refine V.bin rfl rfl rfl rfl (bin_mulI (x := 10) (y := ((dval ((t.take m).take k) : Nat) : Int)) (by omega)) ?_
              refine V.move rfl rfl rfl ?_
              refine V.bin rfl rfl rfl rfl (bin_sub .u8 (c.toNat : Int) 48 (IntWalk.u8_in _ (by omega))) ?_
              refine V.conv _ rfl rfl rfl (IntWalk.i64_in _ (by omega)) ?_
              refine V.bin rfl rfl rfl rfl (bin_addI (by omega)) ?_
              refine V.know (t := 49) (y := .int .i64 ((dval ((t.take m).take (k + 1)) : Nat) : Int)) rfl (by rw [hstep]; congr 1; omega) ?_
              refine V.assign rfl rfl rfl ?_
              refine V.nil ?_
              refine Post.blockNormal (Post.nextC ?_)
              refine VC.region ?_
              refine V.bin rfl rfl rfl rfl (bin_addI (by omega)) ?_
              refine V.move rfl rfl rfl ?_
              refine V.nil ?_
              refine Post.round (k + 1) ?_ ?_ ?_ ?_
              · omega
              · omega
              · exact ⟨rfl, rfl, rfl, rfl, rfl, trivial⟩
              · repeat' constructor
            · try simp only [decide_eq_true_eq, decide_eq_false_iff_not, Bool.not_eq_true', Bool.not_eq_false', Bool.not_eq_eq_eq_not, Bool.not_true, Bool.not_false, beq_iff_eq, beq_eq_false_iff_ne, ne_eq, Int.not_lt, Int.not_le, Option.isSome_some, Option.isNone_none, Option.isSome_none, Option.isNone_some, Classical.not_not] at h11
              refine VC.exit ?_
              refine Post.thenExit (Post.thenExit (Post.blockHit (Post.nextC ?_)))
              refine VC.seq ?_
              refine VC.region ?_
              refine V.move rfl rfl rfl ?_
              refine V.move rfl rfl rfl ?_
              refine V.assign rfl rfl rfl ?_
              refine V.assign rfl rfl rfl ?_
              refine V.nil ?_
              refine Post.nextC ?_
              refine VC.ret ?_
              apply Post.ret2 rfl rfl rfl 
              · first
                  | exact ⟨by rw [hg, if_pos hbad]; rfl, rfl⟩
                  | (obtain rfl : k = m := by omega
                     exact ⟨by rw [hg, hgood, List.take_of_length_le (Nat.le_of_eq (by rw [List.length_take]; omega)), htk]; rfl, rfl⟩)
              · repeat' constructor
        · try simp only [decide_eq_true_eq, decide_eq_false_iff_not, Bool.not_eq_true', Bool.not_eq_false', Bool.not_eq_eq_eq_not, Bool.not_true, Bool.not_false, beq_iff_eq, beq_eq_false_iff_ne, ne_eq, Int.not_lt, Int.not_le, Option.isSome_some, Option.isNone_none, Option.isSome_none, Option.isNone_some, Classical.not_not] at h9
          refine V.skip rfl rfl ?_
          refine V.skip rfl rfl ?_
          refine V.skip rfl rfl ?_
          refine V.skip rfl rfl ?_
          refine V.pickF rfl rfl rfl rfl ?_
          refine V.pickF rfl rfl rfl rfl ?_
          refine V.nil ?_
          refine Post.nextC ?_
          refine VC.condF rfl ?_
          refine VC.skip ?_
          refine Post.nextC ?_
          refine VC.seq ?_
          refine VC.seq ?_
          refine VC.region ?_
          have hgood : bad t m = false := good (by omega) (by omega) (by first | (left; omega) | exact .inr ⟨c0, hc0, by assumption⟩) (by first | (left; omega) | exact .inr ⟨cn, hcn, by assumption⟩)
          have hall := all_takeWhile t digit
          have htk : t.take m = t.takeWhile digit := by rw [← hm, take_takeWhile]
          refine V.move rfl rfl rfl ?_
          refine V.move rfl rfl rfl ?_
          refine V.sliceStH rfl rfl rfl rfl (by omega) ?_
          refine V.bytesOfSt rfl rfl rfl (by rw [List.length_take]; omega) (fun ab cpb cb hrb => ?_)
          rw [show (t.take m).length = m by rw [List.length_take]; omega] at *
          refine V.len rfl rfl rfl ?_
          refine V.move rfl rfl rfl ?_
          refine V.nil ?_
          refine Post.nextC ?_
          refine VC.block ?_
          refine VC.loop (σ := Nat) (fun k => [(2, .int .i64 (m : Int)), (3, .int .i64 ((dval ((t.take m).take k) : Nat) : Int)), (38, .slice ab m cpb), (39, .int .i64 (m : Int)), (40, .int .i64 (k : Int))]) (fun k => cb :: R) (fun k => k ≤ m) (fun k => m - k) 0 (Nat.zero_le _) ?_ ?_ ?_
          · exact ⟨rfl, rfl, rfl, rfl, rfl, trivial⟩
          · repeat' constructor
          intro k hk
          refine VC.seq ?_
          refine VC.region ?_
          refine V.bin rfl rfl rfl rfl (bin_lss _ _ _) ?_
          refine V.nil ?_
          refine Post.nextC ?_
          refine VC.seq ?_
          refine VC.cond rfl (fun h12 => ?_) (fun h12 => ?_)
          · try simp only [decide_eq_true_eq, decide_eq_false_iff_not, Bool.not_eq_true', Bool.not_eq_false', Bool.not_eq_eq_eq_not, Bool.not_true, Bool.not_false, beq_iff_eq, beq_eq_false_iff_ne, ne_eq, Int.not_lt, Int.not_le, Option.isSome_some, Option.isNone_none, Option.isSome_none, Option.isNone_some, Classical.not_not] at h12
            refine VC.skip ?_
            refine Post.nextC ?_
            refine VC.seq ?_
            refine VC.block ?_
            refine VC.seq ?_
            refine VC.region ?_
            obtain ⟨c, hc⟩ : ∃ c, (t.take m)[k]? = some c := ⟨(t.take m)[k]'(by rw [List.length_take]; omega), List.getElem?_eq_getElem _⟩
            obtain ⟨_, gb, ob, cpb2, hvb, hcel⟩ := hrb.at1 (i := k) (u := byv c) (by rw [List.getElem?_map, hc]; rfl)
            simp only [Value.slice.injEq] at hvb
            obtain ⟨rfl, _, rfl⟩ := hvb
            have hdig : digit c = true := hall c (by rw [← htk]; exact List.mem_of_getElem? hc)
            simp [digit] at hdig
            have hstep : dval ((t.take m).take (k + 1)) = 10 * dval ((t.take m).take k) + (c.toNat - 48) := by
              rw [List.take_add_one, hc]
              exact dval_snoc _ _
            have hlt : dval ((t.take m).take k) < 1000000000 := by
              have h1 := dval_lt ((t.take m).take k) (fun c hc => hall c (by rw [← htk]; exact List.mem_of_mem_take hc))
              refine Nat.lt_of_lt_of_le h1 ?_
              exact Nat.pow_le_pow_right (n := 10) (by omega) (show _ ≤ 9 by rw [List.length_take, List.length_take]; omega)
            refine V.indexO (i := k) rfl rfl rfl rfl (by omega) ?_
            rw [Nat.mul_one]
            apply V.loadC (c := cb) rfl rfl rfl rfl
            · repeat' constructor
            · exact hcel
            refine V.assign rfl rfl rfl ?_
            refine V.nil ?_
            refine Post.nextC ?_
            refine VC.region ?_
            refine V.move rfl rfl rfl ?_
            refine V.bin rfl rfl rfl rfl (bin_mulI (x := 10) (y := ((dval ((t.take m).take k) : Nat) : Int)) (by omega)) ?_
            refine V.move rfl rfl rfl ?_
            refine V.bin rfl rfl rfl rfl (bin_sub .u8 (c.toNat : Int) 48 (IntWalk.u8_in _ (by omega))) ?_
            refine V.conv _ rfl rfl rfl (IntWalk.i64_in _ (by omega)) ?_
            refine V.bin rfl rfl rfl rfl (bin_addI (by omega)) ?_
            refine V.know (t := 49) (y := .int .i64 ((dval ((t.take m).take (k + 1)) : Nat) : Int)) rfl (by rw [hstep]; congr 1; omega) ?_
            refine V.assign rfl rfl rfl ?_
            refine V.nil ?_
            refine Post.blockNormal (Post.nextC ?_)
            refine VC.region ?_
            refine V.bin rfl rfl rfl rfl (bin_addI (by omega)) ?_
            refine V.move rfl rfl rfl ?_
            refine V.nil ?_
            refine Post.round (k + 1) ?_ ?_ ?_ ?_
            · omega
            · omega
            · exact ⟨rfl, rfl, rfl, rfl, rfl, trivial⟩
            · repeat' constructor
          · try simp only [decide_eq_true_eq, decide_eq_false_iff_not, Bool.not_eq_true', Bool.not_eq_false', Bool.not_eq_eq_eq_not, Bool.not_true, Bool.not_false, beq_iff_eq, beq_eq_false_iff_ne, ne_eq, Int.not_lt, Int.not_le, Option.isSome_some, Option.isNone_none, Option.isSome_none, Option.isNone_some, Classical.not_not] at h12
            refine VC.exit ?_
            refine Post.thenExit (Post.thenExit (Post.blockHit (Post.nextC ?_)))
            refine VC.seq ?_
            refine VC.region ?_
            refine V.move rfl rfl rfl ?_
            refine V.move rfl rfl rfl ?_
            refine V.assign rfl rfl rfl ?_
            refine V.assign rfl rfl rfl ?_
            refine V.nil ?_
            refine Post.nextC ?_
            refine VC.ret ?_
            apply Post.ret2 rfl rfl rfl 
            · first
                | exact ⟨by rw [hg, if_pos hbad]; rfl, rfl⟩
                | (obtain rfl : k = m := by omega
                   exact ⟨by rw [hg, hgood, List.take_of_length_le (Nat.le_of_eq (by rw [List.length_take]; omega)), htk]; rfl, rfl⟩)
            · repeat' constructor

theorem c67 {w0 : World} {t : List UInt8} {c : UInt8} : CtR Pg w0 67 #[st t, .int .u8 (c.toNat : Int)] [] (fun v H => v = .int .i64 (Lib.indexByte t c) ∧ H = []) := by
  refine Ct.of_body Go.Proofs.Tryd.func67 rfl 8 rfl rfl (fun R => ?_)
  refine VC.seq ?_
  refine VC.region ?_
  refine V.assign rfl rfl rfl ?_
  refine V.nil ?_
  refine Post.nextC ?_
  refine VC.seq ?_
  refine VC.region ?_
  refine V.move rfl rfl rfl ?_
  refine V.move rfl rfl rfl ?_
  refine V.extern (fn := Go.Proofs.Tryd.f74) (e := Extern.BytealgIndexByte.indexByte) (vs := [st t, .int .u8 (c.toNat : Int)]) (v := .int .i64 (Lib.indexByte t c)) Go.Proofs.Tryd.func74 (by decide) rfl (by kernel_rfl) (by kernel_rfl) rfl rfl rfl (fun w => by simpa using Lib.run_indexByteString (P := Pg) ⟨t.toArray⟩ (c.toNat : Int) w) ?_
  refine V.assign rfl rfl rfl ?_
  refine V.nil ?_
  refine Post.nextC ?_
  refine VC.ret ?_
  apply Post.ret1 rfl rfl 
  · exact ⟨rfl, rfl⟩
  · repeat' constructor

theorem c61 {w0 : World} {t : List UInt8} {c : UInt8} : CtR Pg w0 61 #[st t, .int .u8 (c.toNat : Int)] [] (fun v H => v = .int .i64 (Lib.indexByte t c) ∧ H = []) := by
  refine Ct.of_body Go.Proofs.Tryd.func61 rfl 8 rfl rfl (fun R => ?_)
  refine VC.seq ?_
  refine VC.region ?_
  refine V.assign rfl rfl rfl ?_
  refine V.nil ?_
  refine Post.nextC ?_
  refine VC.seq ?_
  refine VC.region ?_
  refine V.move rfl rfl rfl ?_
  refine V.move rfl rfl rfl ?_
  apply V.call rfl rfl rfl (hc := c67)
  · repeat' constructor
  rintro v Ho ⟨rfl, rfl⟩
  refine V.assign rfl rfl rfl ?_
  refine V.nil ?_
  refine Post.nextC ?_
  refine VC.ret ?_
  apply Post.ret1 rfl rfl 
  · exact ⟨rfl, rfl⟩
  · repeat' constructor

/-- a token -/
structure Tok where
  kind : Int
  text : List UInt8
  number : Int
  line : Int
  col : Int
abbrev Tok.cells (x : Tok) : List Value := [.int .i64 x.kind, st x.text, .int .i64 x.number, .int .i64 x.line, .int .i64 x.col]
def toks (l : List Tok) : List Value := l.flatMap Tok.cells
theorem toks_snoc (l : List Tok) (x : Tok) : toks (l ++ [x]) = toks l ++ x.cells := by simp [toks]

theorem c33 {w0 : World} {sp n N : Nat} {kind num line col : Int} {t : List UInt8} {v : Value} {any : Bool} {cT : Chunk} {l : List Tok} (hk : kind ≠ 4) (ho : Own 41 5 cT v N (toks l)) (hn : n ≤ t.length) (hc : 0 ≤ col ∧ col ≤ 1000000) (hn2 : n ≤ 1000000) (hN : N ≤ 1000000) : CtR Pg w0 33 #[.pointer (some ⟨sp, 0, none⟩), .int .i64 kind, .int .i64 (n : Int), .int .i64 num] [scB sp (t) (line) (col) (v) (any), cT] (fun u H => ∃ v1 c1, Own 41 5 c1 v1 (N + 1) (toks (l ++ [⟨kind, t.take n, num, line, col⟩])) ∧ H = [scB sp (t.drop n) (line) (col + n) (v1) (true), c1]) := by
  refine Ct.of_body Go.Proofs.Tryd.func33 rfl 47 rfl rfl (fun R => ?_)
  refine VC.seq ?_
  refine VC.any ([scB sp (t) (line) (col) (v) (any)]) 12 13 mixed rfl ?_
  refine VA.take 0 rfl (by kernel_rfl) (by kernel_rfl) rfl (by kernel_rfl) (by kernel_rfl) (by repeat' constructor) ?_
  refine V.move rfl rfl rfl ?_
  refine V.nil ?_
  refine Post.took ?_
  refine VA.take 1 rfl (by kernel_rfl) (by kernel_rfl) rfl (by kernel_rfl) (by kernel_rfl) (by repeat' constructor) ?_
  refine V.move rfl rfl rfl ?_
  refine V.nil ?_
  refine Post.took ?_
  refine VA.take 2 rfl (by kernel_rfl) (by kernel_rfl) rfl (by kernel_rfl) (by kernel_rfl) (by repeat' constructor) ?_
  refine V.move rfl rfl rfl ?_
  refine V.nil ?_
  refine Post.took ?_
  refine VA.take 3 rfl (by kernel_rfl) (by kernel_rfl) rfl (by kernel_rfl) (by kernel_rfl) (by repeat' constructor) ?_
  refine V.nilCheck rfl rfl rfl ?_
  refine V.nil ?_
  refine Post.took ?_
  refine VA.take 4 rfl (by kernel_rfl) (by kernel_rfl) rfl (by kernel_rfl) (by kernel_rfl) (by repeat' constructor) ?_
  refine V.fieldAddr 1 3 rfl rfl rfl rfl rfl ?_
  refine V.nil ?_
  refine Post.took ?_
  refine VA.take 5 rfl (by kernel_rfl) (by kernel_rfl) rfl (by kernel_rfl) (by kernel_rfl) (by repeat' constructor) ?_
  apply V.loadL rfl rfl rfl rfl
  · repeat' constructor
  · repeat' constructor
  refine V.nil ?_
  refine Post.took ?_
  refine VA.take 6 rfl (by kernel_rfl) (by kernel_rfl) rfl (by kernel_rfl) (by kernel_rfl) (by repeat' constructor) ?_
  refine V.move rfl rfl rfl ?_
  refine V.nil ?_
  refine Post.took ?_
  refine VA.take 7 rfl (by kernel_rfl) (by kernel_rfl) rfl (by kernel_rfl) (by kernel_rfl) (by repeat' constructor) ?_
  refine V.nilCheck rfl rfl rfl ?_
  refine V.nil ?_
  refine Post.took ?_
  refine VA.take 8 rfl (by kernel_rfl) (by kernel_rfl) rfl (by kernel_rfl) (by kernel_rfl) (by repeat' constructor) ?_
  refine V.fieldAddr 2 3 rfl rfl rfl rfl rfl ?_
  refine V.nil ?_
  refine Post.took ?_
  refine VA.take 9 rfl (by kernel_rfl) (by kernel_rfl) rfl (by kernel_rfl) (by kernel_rfl) (by repeat' constructor) ?_
  apply V.loadL rfl rfl rfl rfl
  · repeat' constructor
  · repeat' constructor
  refine V.nil ?_
  refine Post.took ?_
  refine VA.take 10 rfl (by kernel_rfl) (by kernel_rfl) rfl (by kernel_rfl) (by kernel_rfl) (by repeat' constructor) ?_
  refine V.buildS [(0, _), (2, _), (3, _), (4, _)] (l := [_, .string ByteArray.empty, _, _, _]) rfl rfl rfl rfl rfl ?_
  refine V.nil ?_
  refine Post.took ?_
  refine VA.one 11 (by kernel_rfl) rfl ?_
  refine V.alloc (l := [.int .i64 0, .string ByteArray.empty, .int .i64 0, .int .i64 0, .int .i64 0]) rfl rfl rfl (fun b1 => ?_)
  refine V.nil ?_
  refine Post.came (by repeat' constructor) ?_
  refine VA.one 12 (by kernel_rfl) rfl ?_
  apply V.storeAll rfl rfl rfl rfl
  · repeat' constructor
  · exact rfl
  · exact rfl
  refine V.nil ?_
  refine Post.cameLast rfl ?_
  refine VA.done (by kernel_rfl) ?_
  refine Post.nextC ?_
  refine VC.seq ?_
  refine VC.seq ?_
  refine VC.region ?_
  refine V.move rfl rfl rfl ?_
  refine V.bin rfl rfl rfl rfl (bin_neq _ _ _) ?_
  refine V.know (t := 21) (y := .bool true) rfl (by simp [hk]) ?_
  refine V.nil ?_
  refine Post.nextC ?_
  refine VC.condT rfl ?_
  refine VC.region ?_
  refine V.move rfl rfl rfl ?_
  refine V.nilCheck rfl rfl rfl ?_
  refine V.fieldAddr 0 9 rfl rfl rfl rfl rfl ?_
  apply V.loadL rfl rfl rfl rfl
  · repeat' constructor
  · repeat' constructor
  refine V.move rfl rfl rfl ?_
  refine V.sliceStH rfl rfl rfl rfl (by omega) ?_
  refine V.fieldAddr 1 9 rfl rfl rfl rfl rfl ?_
  apply V.storeL rfl rfl rfl rfl rfl
  · repeat' constructor
  · repeat' constructor
  refine V.nil ?_
  refine Post.nextC ?_
  refine VC.seq ?_
  refine VC.any ([scB sp (t) (line) (col) (v) (any), [(b1, .cells #[.int .i64 kind, st (t.take n), .int .i64 num, .int .i64 line, .int .i64 col] 41 (0, 0))]]) 8 11 mixed rfl ?_
  refine VA.take 0 rfl (by kernel_rfl) (by kernel_rfl) rfl (by kernel_rfl) (by kernel_rfl) (by repeat' constructor) ?_
  refine V.move rfl rfl rfl ?_
  refine V.nil ?_
  refine Post.took ?_
  refine VA.take 1 rfl (by kernel_rfl) (by kernel_rfl) rfl (by kernel_rfl) (by kernel_rfl) (by repeat' constructor) ?_
  refine V.move rfl rfl rfl ?_
  refine V.nil ?_
  refine Post.took ?_
  refine VA.take 2 rfl (by kernel_rfl) (by kernel_rfl) rfl (by kernel_rfl) (by kernel_rfl) (by repeat' constructor) ?_
  refine V.nilCheck rfl rfl rfl ?_
  refine V.nil ?_
  refine Post.took ?_
  refine VA.take 3 rfl (by kernel_rfl) (by kernel_rfl) rfl (by kernel_rfl) (by kernel_rfl) (by repeat' constructor) ?_
  refine V.fieldAddr 3 37 rfl rfl rfl rfl rfl ?_
  refine V.nil ?_
  refine Post.took ?_
  refine VA.take 4 rfl (by kernel_rfl) (by kernel_rfl) rfl (by kernel_rfl) (by kernel_rfl) (by repeat' constructor) ?_
  apply V.loadL rfl rfl rfl rfl
  · repeat' constructor
  · repeat' constructor
  refine V.nil ?_
  refine Post.took ?_
  refine VA.take 5 rfl (by kernel_rfl) (by kernel_rfl) rfl (by kernel_rfl) (by kernel_rfl) (by repeat' constructor) ?_
  apply V.loadAll rfl rfl rfl rfl
  · repeat' constructor
  · exact rfl
  refine V.nil ?_
  refine Post.took ?_
  refine VA.one 6 (by kernel_rfl) rfl ?_
  refine V.buildSlice1 (l := [.int .i64 kind, st (t.take n), .int .i64 num, .int .i64 line, .int .i64 col]) rfl rfl rfl rfl rfl rfl rfl (fun b3 => ?_)
  refine V.nil ?_
  refine Post.came (by repeat' constructor) ?_
  refine VA.one 7 (by kernel_rfl) rfl ?_
  apply V.append1 rfl rfl rfl rfl rfl rfl (news := [.int .i64 kind, st (t.take n), .int .i64 num, .int .i64 line, .int .i64 col]) (ho := ho) (hb := by omega) (h63 := by simp only [maxLen]; omega)
  case hp => repeat' constructor
  case hl => rfl
  case h1 => rfl
  intro v1 c1 ho1
  refine V.nil ?_
  refine Post.came (by repeat' constructor) ?_
  refine VA.one 8 (by kernel_rfl) rfl ?_
  refine V.nilCheck rfl rfl rfl ?_
  refine V.nil ?_
  refine Post.cameLast rfl ?_
  refine VA.one 9 (by kernel_rfl) rfl ?_
  refine V.fieldAddr 3 37 rfl rfl rfl rfl rfl ?_
  refine V.nil ?_
  refine Post.cameLast rfl ?_
  refine VA.one 10 (by kernel_rfl) rfl ?_
  apply V.storeL rfl rfl rfl rfl (by obtain ⟨_, _, h, _⟩ := ho1.rd (w0 := w0); rw [h]; rfl)
  · repeat' constructor
  · repeat' constructor
  refine V.nil ?_
  refine Post.cameLast rfl ?_
  refine VA.done (by kernel_rfl) ?_
  refine Post.nextC ?_
  refine VC.seq ?_
  refine VC.region ?_
  refine V.move rfl rfl rfl ?_
  refine V.move rfl rfl rfl ?_
  refine V.bin rfl rfl rfl rfl (bin_neq _ _ _) ?_
  refine V.know (t := 41) (y := .bool true) rfl (by simp [hk]) ?_
  refine V.nilCheck rfl rfl rfl ?_
  refine V.fieldAddr 4 4 rfl rfl rfl rfl rfl ?_
  apply V.storeL rfl rfl rfl rfl rfl
  · repeat' constructor
  · repeat' constructor
  refine V.nil ?_
  refine Post.nextC ?_
  refine VC.region ?_
  refine V.move rfl rfl rfl ?_
  refine V.move rfl rfl rfl ?_
  apply V.call rfl rfl rfl (hc := c53 (n := n) hn hc hn2)
  · repeat' constructor
  rintro v Ho rfl
  refine V.nil ?_
  refine Post.end_ rfl (?_)
  apply Post.ret0 rfl 
  · exact ⟨v1, c1, by rw [toks_snoc]; exact ho1, rfl⟩
  · repeat' constructor

theorem c33l {w0 : World} {sp n N : Nat} {kind num line col : Int} {t : List UInt8} {v : Value} {any : Bool} {cT : Chunk} {l : List Tok} (hk : kind = 4) (ho : Own 41 5 cT v N (toks l)) (hn : n ≤ t.length) (hc : 0 ≤ col ∧ col ≤ 1000000) (hn2 : n ≤ 1000000) (hN : N ≤ 1000000) : CtR Pg w0 33 #[.pointer (some ⟨sp, 0, none⟩), .int .i64 kind, .int .i64 (n : Int), .int .i64 num] [scB sp (t) (line) (col) (v) (any), cT] (fun u H => ∃ v1 c1, Own 41 5 c1 v1 (N + 1) (toks (l ++ [⟨kind, [], num, line, col⟩])) ∧ H = [scB sp (t.drop n) (line) (col + n) (v1) (false), c1]) := by
  refine Ct.of_body Go.Proofs.Tryd.func33 rfl 47 rfl rfl (fun R => ?_)
  refine VC.seq ?_
  refine VC.any ([scB sp (t) (line) (col) (v) (any)]) 12 13 mixed rfl ?_
  refine VA.take 0 rfl (by kernel_rfl) (by kernel_rfl) rfl (by kernel_rfl) (by kernel_rfl) (by repeat' constructor) ?_
  refine V.move rfl rfl rfl ?_
  refine V.nil ?_
  refine Post.took ?_
  refine VA.take 1 rfl (by kernel_rfl) (by kernel_rfl) rfl (by kernel_rfl) (by kernel_rfl) (by repeat' constructor) ?_
  refine V.move rfl rfl rfl ?_
  refine V.nil ?_
  refine Post.took ?_
  refine VA.take 2 rfl (by kernel_rfl) (by kernel_rfl) rfl (by kernel_rfl) (by kernel_rfl) (by repeat' constructor) ?_
  refine V.move rfl rfl rfl ?_
  refine V.nil ?_
  refine Post.took ?_
  refine VA.take 3 rfl (by kernel_rfl) (by kernel_rfl) rfl (by kernel_rfl) (by kernel_rfl) (by repeat' constructor) ?_
  refine V.nilCheck rfl rfl rfl ?_
  refine V.nil ?_
  refine Post.took ?_
  refine VA.take 4 rfl (by kernel_rfl) (by kernel_rfl) rfl (by kernel_rfl) (by kernel_rfl) (by repeat' constructor) ?_
  refine V.fieldAddr 1 3 rfl rfl rfl rfl rfl ?_
  refine V.nil ?_
  refine Post.took ?_
  refine VA.take 5 rfl (by kernel_rfl) (by kernel_rfl) rfl (by kernel_rfl) (by kernel_rfl) (by repeat' constructor) ?_
  apply V.loadL rfl rfl rfl rfl
  · repeat' constructor
  · repeat' constructor
  refine V.nil ?_
  refine Post.took ?_
  refine VA.take 6 rfl (by kernel_rfl) (by kernel_rfl) rfl (by kernel_rfl) (by kernel_rfl) (by repeat' constructor) ?_
  refine V.move rfl rfl rfl ?_
  refine V.nil ?_
  refine Post.took ?_
  refine VA.take 7 rfl (by kernel_rfl) (by kernel_rfl) rfl (by kernel_rfl) (by kernel_rfl) (by repeat' constructor) ?_
  refine V.nilCheck rfl rfl rfl ?_
  refine V.nil ?_
  refine Post.took ?_
  refine VA.take 8 rfl (by kernel_rfl) (by kernel_rfl) rfl (by kernel_rfl) (by kernel_rfl) (by repeat' constructor) ?_
  refine V.fieldAddr 2 3 rfl rfl rfl rfl rfl ?_
  refine V.nil ?_
  refine Post.took ?_
  refine VA.take 9 rfl (by kernel_rfl) (by kernel_rfl) rfl (by kernel_rfl) (by kernel_rfl) (by repeat' constructor) ?_
  apply V.loadL rfl rfl rfl rfl
  · repeat' constructor
  · repeat' constructor
  refine V.nil ?_
  refine Post.took ?_
  refine VA.take 10 rfl (by kernel_rfl) (by kernel_rfl) rfl (by kernel_rfl) (by kernel_rfl) (by repeat' constructor) ?_
  refine V.buildS [(0, _), (2, _), (3, _), (4, _)] (l := [_, .string ByteArray.empty, _, _, _]) rfl rfl rfl rfl rfl ?_
  refine V.nil ?_
  refine Post.took ?_
  refine VA.one 11 (by kernel_rfl) rfl ?_
  refine V.alloc (l := [.int .i64 0, .string ByteArray.empty, .int .i64 0, .int .i64 0, .int .i64 0]) rfl rfl rfl (fun b1 => ?_)
  refine V.nil ?_
  refine Post.came (by repeat' constructor) ?_
  refine VA.one 12 (by kernel_rfl) rfl ?_
  apply V.storeAll rfl rfl rfl rfl
  · repeat' constructor
  · exact rfl
  · exact rfl
  refine V.nil ?_
  refine Post.cameLast rfl ?_
  refine VA.done (by kernel_rfl) ?_
  refine Post.nextC ?_
  refine VC.seq ?_
  refine VC.seq ?_
  refine VC.region ?_
  refine V.move rfl rfl rfl ?_
  refine V.bin rfl rfl rfl rfl (bin_neq _ _ _) ?_
  refine V.know (t := 21) (y := .bool false) rfl (by simp [hk]) ?_
  refine V.nil ?_
  refine Post.nextC ?_
  refine VC.condF rfl ?_
  refine VC.skip ?_
  refine Post.nextC ?_
  refine VC.seq ?_
  refine VC.any ([scB sp (t) (line) (col) (v) (any), [(b1, .cells #[.int .i64 kind, st ([]), .int .i64 num, .int .i64 line, .int .i64 col] 41 (0, 0))]]) 8 11 mixed rfl ?_
  refine VA.take 0 rfl (by kernel_rfl) (by kernel_rfl) rfl (by kernel_rfl) (by kernel_rfl) (by repeat' constructor) ?_
  refine V.move rfl rfl rfl ?_
  refine V.nil ?_
  refine Post.took ?_
  refine VA.take 1 rfl (by kernel_rfl) (by kernel_rfl) rfl (by kernel_rfl) (by kernel_rfl) (by repeat' constructor) ?_
  refine V.move rfl rfl rfl ?_
  refine V.nil ?_
  refine Post.took ?_
  refine VA.take 2 rfl (by kernel_rfl) (by kernel_rfl) rfl (by kernel_rfl) (by kernel_rfl) (by repeat' constructor) ?_
  refine V.nilCheck rfl rfl rfl ?_
  refine V.nil ?_
  refine Post.took ?_
  refine VA.take 3 rfl (by kernel_rfl) (by kernel_rfl) rfl (by kernel_rfl) (by kernel_rfl) (by repeat' constructor) ?_
  refine V.fieldAddr 3 37 rfl rfl rfl rfl rfl ?_
  refine V.nil ?_
  refine Post.took ?_
  refine VA.take 4 rfl (by kernel_rfl) (by kernel_rfl) rfl (by kernel_rfl) (by kernel_rfl) (by repeat' constructor) ?_
  apply V.loadL rfl rfl rfl rfl
  · repeat' constructor
  · repeat' constructor
  refine V.nil ?_
  refine Post.took ?_
  refine VA.take 5 rfl (by kernel_rfl) (by kernel_rfl) rfl (by kernel_rfl) (by kernel_rfl) (by repeat' constructor) ?_
  apply V.loadAll rfl rfl rfl rfl
  · repeat' constructor
  · exact rfl
  refine V.nil ?_
  refine Post.took ?_
  refine VA.one 6 (by kernel_rfl) rfl ?_
  refine V.buildSlice1 (l := [.int .i64 kind, st ([]), .int .i64 num, .int .i64 line, .int .i64 col]) rfl rfl rfl rfl rfl rfl rfl (fun b3 => ?_)
  refine V.nil ?_
  refine Post.came (by repeat' constructor) ?_
  refine VA.one 7 (by kernel_rfl) rfl ?_
  apply V.append1 rfl rfl rfl rfl rfl rfl (news := [.int .i64 kind, st ([]), .int .i64 num, .int .i64 line, .int .i64 col]) (ho := ho) (hb := by omega) (h63 := by simp only [maxLen]; omega)
  case hp => repeat' constructor
  case hl => rfl
  case h1 => rfl
  intro v1 c1 ho1
  refine V.nil ?_
  refine Post.came (by repeat' constructor) ?_
  refine VA.one 8 (by kernel_rfl) rfl ?_
  refine V.nilCheck rfl rfl rfl ?_
  refine V.nil ?_
  refine Post.cameLast rfl ?_
  refine VA.one 9 (by kernel_rfl) rfl ?_
  refine V.fieldAddr 3 37 rfl rfl rfl rfl rfl ?_
  refine V.nil ?_
  refine Post.cameLast rfl ?_
  refine VA.one 10 (by kernel_rfl) rfl ?_
  apply V.storeL rfl rfl rfl rfl (by obtain ⟨_, _, h, _⟩ := ho1.rd (w0 := w0); rw [h]; rfl)
  · repeat' constructor
  · repeat' constructor
  refine V.nil ?_
  refine Post.cameLast rfl ?_
  refine VA.done (by kernel_rfl) ?_
  refine Post.nextC ?_
  refine VC.seq ?_
  refine VC.region ?_
  refine V.move rfl rfl rfl ?_
  refine V.move rfl rfl rfl ?_
  refine V.bin rfl rfl rfl rfl (bin_neq _ _ _) ?_
  refine V.know (t := 41) (y := .bool false) rfl (by simp [hk]) ?_
  refine V.nilCheck rfl rfl rfl ?_
  refine V.fieldAddr 4 4 rfl rfl rfl rfl rfl ?_
  apply V.storeL rfl rfl rfl rfl rfl
  · repeat' constructor
  · repeat' constructor
  refine V.nil ?_
  refine Post.nextC ?_
  refine VC.region ?_
  refine V.move rfl rfl rfl ?_
  refine V.move rfl rfl rfl ?_
  apply V.call rfl rfl rfl (hc := c53 (n := n) hn hc hn2)
  · repeat' constructor
  rintro v Ho rfl
  refine V.nil ?_
  refine Post.end_ rfl (?_)
  apply Post.ret0 rfl 
  · exact ⟨v1, c1, by rw [toks_snoc]; exact ho1, rfl⟩
  · repeat' constructor

theorem c56t {w0 : World} {sp N : Nat} {line col : Int} {t : List UInt8} {v : Value} {cT : Chunk} {l : List Tok} (ho : Own 41 5 cT v N (toks l)) (hn : 1 ≤ t.length) (hc : 0 ≤ col ∧ col ≤ 1000000) (hl : 0 ≤ line ∧ line ≤ 1000000) (hN : N ≤ 1000000) : CtR Pg w0 56 #[.pointer (some ⟨sp, 0, none⟩)] [scB sp (t) (line) (col) (v) (true), cT] (fun u H => ∃ v1 c1, Own 41 5 c1 v1 (N + 1) (toks (l ++ [⟨4, [], 0, line, col⟩])) ∧ H = [scB sp (t.drop 1) (line + 1) (1) (v1) (false), c1]) := by
  refine Ct.of_body Go.Proofs.Tryd.func56 rfl 21 rfl rfl (fun R => ?_)
  refine VC.seq ?_
  refine VC.seq ?_
  refine VC.region ?_
  refine V.move rfl rfl rfl ?_
  refine V.nilCheck rfl rfl rfl ?_
  refine V.fieldAddr 4 4 rfl rfl rfl rfl rfl ?_
  apply V.loadL rfl rfl rfl rfl
  · repeat' constructor
  · repeat' constructor
  refine V.know (t := 5) (y := .bool true) rfl (rfl) ?_
  refine V.nil ?_
  refine Post.nextC ?_
  refine VC.condT rfl ?_
  refine VC.region ?_
  refine V.move rfl rfl rfl ?_
  apply V.call rfl rfl rfl (hc := c33l (kind := 4) (n := 1) (num := 0) rfl ho hn hc (by omega) hN)
  · repeat' constructor
  rintro v2 Ho ⟨v1, c1, ho1, rfl⟩
  refine V.nil ?_
  refine Post.nextC ?_
  refine VC.region ?_
  refine V.move rfl rfl rfl ?_
  refine V.move rfl rfl rfl ?_
  refine V.move rfl rfl rfl ?_
  refine V.nilCheck rfl rfl rfl ?_
  refine V.fieldAddr 1 3 rfl rfl rfl rfl rfl ?_
  apply V.loadL rfl rfl rfl rfl
  · repeat' constructor
  · repeat' constructor
  refine V.bin rfl rfl rfl rfl (bin_addI (by omega)) ?_
  refine V.nilCheck rfl rfl rfl ?_
  refine V.fieldAddr 1 3 rfl rfl rfl rfl rfl ?_
  apply V.storeL rfl rfl rfl rfl rfl
  · repeat' constructor
  · repeat' constructor
  refine V.nilCheck rfl rfl rfl ?_
  refine V.fieldAddr 2 3 rfl rfl rfl rfl rfl ?_
  apply V.storeL rfl rfl rfl rfl rfl
  · repeat' constructor
  · repeat' constructor
  refine V.nil ?_
  refine Post.end_ rfl (?_)
  apply Post.ret0 rfl 
  · exact ⟨v1, c1, ho1, rfl⟩
  · repeat' constructor

theorem c56f {w0 : World} {sp : Nat} {line col : Int} {t : List UInt8} {v : Value} (hn : 1 ≤ t.length) (hc : 0 ≤ col ∧ col ≤ 1000000) (hl : 0 ≤ line ∧ line ≤ 1000000) : CtR Pg w0 56 #[.pointer (some ⟨sp, 0, none⟩)] [scB sp (t) (line) (col) (v) (false)] (fun u H => H = [scB sp (t.drop 1) (line + 1) (1) (v) (false)]) := by
  refine Ct.of_body Go.Proofs.Tryd.func56 rfl 21 rfl rfl (fun R => ?_)
  refine VC.seq ?_
  refine VC.seq ?_
  refine VC.region ?_
  refine V.move rfl rfl rfl ?_
  refine V.nilCheck rfl rfl rfl ?_
  refine V.fieldAddr 4 4 rfl rfl rfl rfl rfl ?_
  apply V.loadL rfl rfl rfl rfl
  · repeat' constructor
  · repeat' constructor
  refine V.know (t := 5) (y := .bool false) rfl (rfl) ?_
  refine V.nil ?_
  refine Post.nextC ?_
  refine VC.condF rfl ?_
  refine VC.region ?_
  refine V.move rfl rfl rfl ?_
  apply V.call rfl rfl rfl (hc := c53 (n := 1) hn hc (by omega))
  · repeat' constructor
  rintro v2 Ho rfl
  refine V.nil ?_
  refine Post.nextC ?_
  refine VC.region ?_
  refine V.move rfl rfl rfl ?_
  refine V.move rfl rfl rfl ?_
  refine V.move rfl rfl rfl ?_
  refine V.nilCheck rfl rfl rfl ?_
  refine V.fieldAddr 1 3 rfl rfl rfl rfl rfl ?_
  apply V.loadL rfl rfl rfl rfl
  · repeat' constructor
  · repeat' constructor
  refine V.bin rfl rfl rfl rfl (bin_addI (by omega)) ?_
  refine V.nilCheck rfl rfl rfl ?_
  refine V.fieldAddr 1 3 rfl rfl rfl rfl rfl ?_
  apply V.storeL rfl rfl rfl rfl rfl
  · repeat' constructor
  · repeat' constructor
  refine V.nilCheck rfl rfl rfl ?_
  refine V.fieldAddr 2 3 rfl rfl rfl rfl rfl ?_
  apply V.storeL rfl rfl rfl rfl rfl
  · repeat' constructor
  · repeat' constructor
  refine V.nil ?_
  refine Post.end_ rfl (?_)
  apply Post.ret0 rfl 
  · exact rfl
  · repeat' constructor

/-- how far the scanner has come -/
structure Sc where
  t : List UInt8
  line : Int
  col : Int
  any : Bool
  l : List Tok
def isMark (c : UInt8) : Bool := c == 44 || c == 58 || c == 60 || c == 62 || c == 61 || c == 40 || c == 41
/-- n bytes are gone over -/
def Sc.pass (s : Sc) (n : Nat) : Sc := { s with t := s.t.drop n, col := s.col + n }
/-- a token of n bytes is told -/
def Sc.tell (s : Sc) (kind : Int) (n : Nat) (number : Int) : Sc := ⟨s.t.drop n, s.line, s.col + n, true, s.l ++ [⟨kind, s.t.take n, number, s.line, s.col⟩]⟩
def Sc.ends (s : Sc) : Sc := ⟨s.t.drop 1, s.line + 1, 1, false, if s.any then s.l ++ [⟨4, [], 0, s.line, s.col⟩] else s.l⟩
/-- one step: where the scanner stands then, or an error's number -/
def Sc.step (s : Sc) (c : UInt8) : Sc × Int :=
  if c.toNat = 32 ∨ c.toNat = 9 then (s.pass 1, 0)
  else if c.toNat = 35 then (s.pass (s.t.takeWhile fun c => decide (c.toNat ≠ 10)).length, 0)
  else if c.toNat = 10 then (s.ends, 0)
  else if small c then if 24 < (s.t.takeWhile inName).length then (s, 4) else (s.tell 1 (s.t.takeWhile inName).length 0, 0)
  else if digit c then if (numb s.t).1 = 0 then (s, 3) else (s.tell 2 (numb s.t).1 ((numb s.t).2 : Int), 0)
  else if isMark c then (s.tell 3 1 0, 0)
  else (s, 3)

theorem step1 {s : Sc} {c : UInt8} (h : (c.toNat : Int) = 32 ∨ (c.toNat : Int) = 9) : s.step c = (s.pass 1, 0) := by
  unfold Sc.step
  rw [if_pos (by omega)]
theorem step2 {s : Sc} {c : UInt8} (h : (c.toNat : Int) = 35) : s.step c = (s.pass (s.t.takeWhile fun c => decide (c.toNat ≠ 10)).length, 0) := by
  unfold Sc.step
  rw [if_neg (by omega), if_pos (by omega)]
theorem step3 {s : Sc} {c : UInt8} (h : (c.toNat : Int) = 10) : s.step c = (s.ends, 0) := by
  unfold Sc.step
  rw [if_neg (by omega), if_neg (by omega), if_pos (by omega)]
theorem step4 {s : Sc} {c : UInt8} (h : small c = true) : s.step c = if 24 < (s.t.takeWhile inName).length then (s, 4) else (s.tell 1 (s.t.takeWhile inName).length 0, 0) := by
  have h' := h
  simp [small] at h'
  unfold Sc.step
  rw [if_neg (by omega), if_neg (by omega), if_neg (by omega), if_pos h]
theorem step5 {s : Sc} {c : UInt8} (h : digit c = true) : s.step c = if (numb s.t).1 = 0 then (s, 3) else (s.tell 2 (numb s.t).1 ((numb s.t).2 : Int), 0) := by
  have h' := h
  simp [digit] at h'
  have hs : ¬ small c = true := by simp [small]; omega
  unfold Sc.step
  rw [if_neg (by omega), if_neg (by omega), if_neg (by omega), if_neg hs, if_pos h]
theorem step6 {s : Sc} {c : UInt8} (h1 : ¬ ((c.toNat : Int) = 32 ∨ (c.toNat : Int) = 9)) (h2 : ¬ (c.toNat : Int) = 35) (h3 : ¬ (c.toNat : Int) = 10) (h4 : small c = false) (h5 : digit c = false) : s.step c = if isMark c then (s.tell 3 1 0, 0) else (s, 3) := by
  unfold Sc.step
  rw [if_neg (by omega), if_neg (by omega), if_neg (by omega), if_neg (by simp [h4]), if_neg (by simp [h5])]
theorem mark_ix (c : UInt8) : decide (0 ≤ Lib.indexByte [44, 58, 60, 62, 61, 40, 41] c) = isMark c := by
  have h : ∀ i : Fin 256, decide (0 ≤ Lib.indexByte [44, 58, 60, 62, 61, 40, 41] (UInt8.ofNat i.val)) = isMark (UInt8.ofNat i.val) := by decide +kernel
  have := h ⟨c.toNat, c.toNat_lt⟩
  simpa using this

end Go.Proofs.Ln
