/- Contracts of functions of the given program, each proved by walking its code: part of the proof of this claim; no condition beyond those that each theorem names. -/
import Derived.Test.YtfclhhhnngkdlaaDoorLnScript
set_option linter.unusedVariables false
set_option linter.unusedSimpArgs false
namespace Go.Proofs.Ln
open Go Go.RowKit Go.Proofs.Eng
/-- is it a number as Scan takes it? -/
def rightNum (s : List UInt8) : Bool := decide (1 ≤ s.length) && decide (s.length ≤ 9) && (decide (s.length ≤ 1) || decide (s[0]? ≠ some 48)) && s.all digit
theorem rightNum_no {s : List UInt8} (h : s.length < 1 ∨ 9 < s.length ∨ (1 < s.length ∧ s[0]? = some 48) ∨ ∃ c ∈ s, digit c = false) : rightNum s = false := by
  unfold rightNum
  rcases h with h | h | h | ⟨c, h1, h2⟩
  · rw [decide_eq_false (by omega)]; simp
  · rw [decide_eq_false (p := s.length ≤ 9) (by omega)]; simp
  · rw [decide_eq_false (p := s.length ≤ 1) (by omega), h.2]; simp
  · have : s.all digit = false := by
      rw [List.all_eq_false]
      exact ⟨c, h1, by simp [h2]⟩
    rw [this]; simp
theorem rightNum_yes {s : List UInt8} (h1 : 1 ≤ s.length) (h2 : s.length ≤ 9) (h3 : s.length ≤ 1 ∨ ∃ c, s[0]? = some c ∧ c.toNat ≠ 48) (h4 : ∀ c ∈ s, digit c = true) : rightNum s = true := by
  unfold rightNum
  rw [decide_eq_true h1, decide_eq_true h2, List.all_eq_true.2 h4]
  rcases h3 with h | ⟨c, hc, h⟩
  · simp [h]
  · have : ¬ c = 48 := fun e => h (by rw [e]; rfl)
    simp [hc, this]
theorem rightNum_spec {s : List UInt8} (h : rightNum s = true) : 1 ≤ s.length ∧ s.length ≤ 9 ∧ ∀ c ∈ s, digit c = true := by
  unfold rightNum at h
  simp only [Bool.and_eq_true, decide_eq_true_eq] at h
  exact ⟨h.1.1.1, h.1.1.2, List.all_eq_true.1 h.2⟩
theorem legal_no {t : List UInt8} (h : t.length < 1 ∨ 24 < t.length ∨ (∃ c, t[0]? = some c ∧ small c = false) ∨ ∃ c ∈ t, inName c = false) : legal t = false := by
  rcases h with h | h | ⟨c, hc, h⟩ | ⟨c, hc, h⟩
  · exact legal_not (.inr (.inr (List.eq_nil_of_length_eq_zero (by omega))))
  · exact legal_not (.inl (by omega))
  · by_cases h1 : (t.length : Int) ≤ 24
    · by_cases h2 : ((t.takeWhile inName).length : Int) = t.length
      · rw [legal_small h1 h2 hc, h]
      · exact legal_not (.inr (.inl h2))
    · exact legal_not (.inl (by omega))
  · refine legal_not (.inr (.inl fun e => ?_))
    have : t.takeWhile inName = t := (List.takeWhile_sublist _).eq_of_length (by omega)
    have h2 := all_takeWhile t inName c (by rw [this]; exact hc)
    rw [h] at h2
    cases h2
theorem takeWhile_all {t : List UInt8} {p : UInt8 → Bool} (h : ∀ c ∈ t, p c = true) : t.takeWhile p = t := by
  induction t with
  | nil => rfl
  | cons a t ih => rw [List.takeWhile_cons_of_pos (h a (List.mem_cons_self ..)), ih (fun c hc => h c (List.mem_cons_of_mem _ hc))]
theorem legal_yes {t : List UInt8} {c : UInt8} (h1 : t.length ≤ 24) (hc : t[0]? = some c) (hs : small c = true) (h : ∀ c ∈ t, inName c = true) : legal t = true := by
  rw [legal_small (by omega) (by rw [takeWhile_all h]) hc, hs]
theorem mem_of_all {t : List UInt8} {p : UInt8 → Bool} {n : Nat} (h : ∀ j, j < n → ∃ c, t[j]? = some c ∧ p c = true) (hn : t.length ≤ n) : ∀ c ∈ t, p c = true := by
  intro c hc
  obtain ⟨j, hj⟩ := List.mem_iff_getElem?.1 hc
  obtain ⟨d, hd, hp⟩ := h j (by have := (List.getElem?_eq_some_iff.1 hj).1; omega)
  rw [hj] at hd
  obtain rfl := Option.some.inj hd
  exact hp
theorem all_next {t : List UInt8} {p : UInt8 → Bool} {n : Nat} {c : UInt8} (h : ∀ j, j < n → ∃ c, t[j]? = some c ∧ p c = true) (hc : t[n]? = some c) (hp : p c = true) : ∀ j, j < n + 1 → ∃ c, t[j]? = some c ∧ p c = true := by
  intro j hj
  by_cases e : j = n
  · subst e; exact ⟨c, hc, hp⟩
  · exact h j (by omega)
theorem getc {α : Type} {t : List α} {i : Nat} (h : (i : Int) < t.length) : ∃ c, t[i]? = some c := ⟨t[i]'(by omega), List.getElem?_eq_getElem _⟩
theorem get0 {α : Type} {t : List α} (h : 1 ≤ (t.length : Int)) : ∃ c, t[0]? = some c := ⟨t[0]'(by omega), List.getElem?_eq_getElem _⟩
theorem mark_nat (c : UInt8) : isMark c = decide (c.toNat = 44 ∨ c.toNat = 58 ∨ c.toNat = 60 ∨ c.toNat = 62 ∨ c.toNat = 61 ∨ c.toNat = 40 ∨ c.toNat = 41) := by
  have h : ∀ i : Fin 256, isMark (UInt8.ofNat i.val) = decide (i.val = 44 ∨ i.val = 58 ∨ i.val = 60 ∨ i.val = 62 ∨ i.val = 61 ∨ i.val = 40 ∨ i.val = 41) := by decide +kernel
  have := h ⟨c.toNat, c.toNat_lt⟩
  simpa using this

theorem c44 {w0 : World} {c : UInt8} : CtR Pg w0 44 #[.int .u8 (c.toNat : Int)] [] (fun v H => v = .bool (small c) ∧ H = []) := by
  refine Ct.of_body Go.Proofs.Tryd.func44 rfl 9 rfl rfl (fun R => ?_)
  refine VC.seq ?_
  refine VC.region ?_
  refine V.assign rfl rfl rfl ?_
  refine V.nil ?_
  refine Post.nextC ?_
  refine VC.seq ?_
  refine VC.region ?_
  refine V.move rfl rfl rfl ?_
  refine V.bin rfl rfl rfl rfl (bin_geq _ _ _) ?_
  refine V.move rfl rfl rfl ?_
  refine V.split (t := 5) rfl (fun h1 => ?_) (fun h1 => ?_)
  · try simp only [decide_eq_true_eq, decide_eq_false_iff_not, Bool.not_eq_true', Bool.not_eq_false', Bool.not_eq_eq_eq_not, Bool.not_true, Bool.not_false, beq_iff_eq, beq_eq_false_iff_ne, ne_eq, Int.not_lt, Int.not_le, Option.isSome_some, Option.isNone_none, Option.isSome_none, Option.isNone_some, Classical.not_not] at h1
    refine V.move rfl rfl rfl ?_
    refine V.bin rfl rfl rfl rfl (bin_leq _ _ _) ?_
    refine V.pickT rfl rfl rfl rfl ?_
    refine V.assign rfl rfl rfl ?_
    refine V.nil ?_
    refine Post.nextC ?_
    refine VC.ret ?_
    apply Post.ret1 rfl rfl 
    · refine ⟨?_, rfl⟩
      congr 1
      rw [Bool.eq_iff_iff]
      simp [small]
      omega
    · repeat' constructor
  · try simp only [decide_eq_true_eq, decide_eq_false_iff_not, Bool.not_eq_true', Bool.not_eq_false', Bool.not_eq_eq_eq_not, Bool.not_true, Bool.not_false, beq_iff_eq, beq_eq_false_iff_ne, ne_eq, Int.not_lt, Int.not_le, Option.isSome_some, Option.isNone_none, Option.isSome_none, Option.isNone_some, Classical.not_not] at h1
    refine V.skip rfl rfl ?_
    refine V.skip rfl rfl ?_
    refine V.pickF rfl rfl rfl rfl ?_
    refine V.assign rfl rfl rfl ?_
    refine V.nil ?_
    refine Post.nextC ?_
    refine VC.ret ?_
    apply Post.ret1 rfl rfl 
    · refine ⟨?_, rfl⟩
      congr 1
      rw [Bool.eq_iff_iff]
      simp [small]
      omega
    · repeat' constructor

theorem c46 {w0 : World} {c : UInt8} : CtR Pg w0 46 #[.int .u8 (c.toNat : Int)] [] (fun v H => v = .bool (digit c) ∧ H = []) := by
  refine Ct.of_body Go.Proofs.Tryd.func46 rfl 9 rfl rfl (fun R => ?_)
  refine VC.seq ?_
  refine VC.region ?_
  refine V.assign rfl rfl rfl ?_
  refine V.nil ?_
  refine Post.nextC ?_
  refine VC.seq ?_
  refine VC.region ?_
  refine V.move rfl rfl rfl ?_
  refine V.bin rfl rfl rfl rfl (bin_geq _ _ _) ?_
  refine V.move rfl rfl rfl ?_
  refine V.split (t := 5) rfl (fun h1 => ?_) (fun h1 => ?_)
  · try simp only [decide_eq_true_eq, decide_eq_false_iff_not, Bool.not_eq_true', Bool.not_eq_false', Bool.not_eq_eq_eq_not, Bool.not_true, Bool.not_false, beq_iff_eq, beq_eq_false_iff_ne, ne_eq, Int.not_lt, Int.not_le, Option.isSome_some, Option.isNone_none, Option.isSome_none, Option.isNone_some, Classical.not_not] at h1
    refine V.move rfl rfl rfl ?_
    refine V.bin rfl rfl rfl rfl (bin_leq _ _ _) ?_
    refine V.pickT rfl rfl rfl rfl ?_
    refine V.assign rfl rfl rfl ?_
    refine V.nil ?_
    refine Post.nextC ?_
    refine VC.ret ?_
    apply Post.ret1 rfl rfl 
    · refine ⟨?_, rfl⟩
      congr 1
      rw [Bool.eq_iff_iff]
      simp [digit]
      omega
    · repeat' constructor
  · try simp only [decide_eq_true_eq, decide_eq_false_iff_not, Bool.not_eq_true', Bool.not_eq_false', Bool.not_eq_eq_eq_not, Bool.not_true, Bool.not_false, beq_iff_eq, beq_eq_false_iff_ne, ne_eq, Int.not_lt, Int.not_le, Option.isSome_some, Option.isNone_none, Option.isSome_none, Option.isNone_some, Classical.not_not] at h1
    refine V.skip rfl rfl ?_
    refine V.skip rfl rfl ?_
    refine V.pickF rfl rfl rfl rfl ?_
    refine V.assign rfl rfl rfl ?_
    refine V.nil ?_
    refine Post.nextC ?_
    refine VC.ret ?_
    apply Post.ret1 rfl rfl 
    · refine ⟨?_, rfl⟩
      congr 1
      rw [Bool.eq_iff_iff]
      simp [digit]
      omega
    · repeat' constructor

theorem c45 {w0 : World} {c : UInt8} : CtR Pg w0 45 #[.int .u8 (c.toNat : Int)] [] (fun v H => v = .bool (inName c) ∧ H = []) := by
  refine Ct.of_body Go.Proofs.Tryd.func45 rfl 13 rfl rfl (fun R => ?_)
  refine VC.seq ?_
  refine VC.region ?_
  refine V.assign rfl rfl rfl ?_
  refine V.nil ?_
  refine Post.nextC ?_
  refine VC.seq ?_
  refine VC.region ?_
  refine V.move rfl rfl rfl ?_
  apply V.call rfl rfl rfl (hc := c44)
  · repeat' constructor
  rintro vq Ho ⟨rfl, rfl⟩
  refine V.move rfl rfl rfl ?_
  refine V.split (t := 5) rfl (fun h1 => ?_) (fun h1 => ?_)
  · try simp only [decide_eq_true_eq, decide_eq_false_iff_not, Bool.not_eq_true', Bool.not_eq_false', Bool.not_eq_eq_eq_not, Bool.not_true, Bool.not_false, beq_iff_eq, beq_eq_false_iff_ne, ne_eq, Int.not_lt, Int.not_le, Option.isSome_some, Option.isNone_none, Option.isSome_none, Option.isNone_some, Classical.not_not] at h1
    refine V.skip rfl rfl ?_
    refine V.skip rfl rfl ?_
    refine V.pickT rfl rfl rfl rfl ?_
    refine V.move rfl rfl rfl ?_
    refine V.skip rfl rfl ?_
    refine V.skip rfl rfl ?_
    refine V.pickT rfl rfl rfl rfl ?_
    refine V.assign rfl rfl rfl ?_
    refine V.nil ?_
    refine Post.nextC ?_
    refine VC.ret ?_
    apply Post.ret1 rfl rfl 
    · refine ⟨?_, rfl⟩
      congr 1
      rw [Bool.eq_iff_iff]
      simp_all [inName]
      try omega
    · repeat' constructor
  · try simp only [decide_eq_true_eq, decide_eq_false_iff_not, Bool.not_eq_true', Bool.not_eq_false', Bool.not_eq_eq_eq_not, Bool.not_true, Bool.not_false, beq_iff_eq, beq_eq_false_iff_ne, ne_eq, Int.not_lt, Int.not_le, Option.isSome_some, Option.isNone_none, Option.isSome_none, Option.isNone_some, Classical.not_not] at h1
    refine V.move rfl rfl rfl ?_
    apply V.call rfl rfl rfl (hc := c46)
    · repeat' constructor
    rintro vq Ho ⟨rfl, rfl⟩
    refine V.pickF rfl rfl rfl rfl ?_
    refine V.move rfl rfl rfl ?_
    refine V.split (t := 9) rfl (fun h2 => ?_) (fun h2 => ?_)
    · try simp only [decide_eq_true_eq, decide_eq_false_iff_not, Bool.not_eq_true', Bool.not_eq_false', Bool.not_eq_eq_eq_not, Bool.not_true, Bool.not_false, beq_iff_eq, beq_eq_false_iff_ne, ne_eq, Int.not_lt, Int.not_le, Option.isSome_some, Option.isNone_none, Option.isSome_none, Option.isNone_some, Classical.not_not] at h2
      refine V.skip rfl rfl ?_
      refine V.skip rfl rfl ?_
      refine V.pickT rfl rfl rfl rfl ?_
      refine V.assign rfl rfl rfl ?_
      refine V.nil ?_
      refine Post.nextC ?_
      refine VC.ret ?_
      apply Post.ret1 rfl rfl 
      · refine ⟨?_, rfl⟩
        congr 1
        rw [Bool.eq_iff_iff]
        simp_all [inName]
        try omega
      · repeat' constructor
    · try simp only [decide_eq_true_eq, decide_eq_false_iff_not, Bool.not_eq_true', Bool.not_eq_false', Bool.not_eq_eq_eq_not, Bool.not_true, Bool.not_false, beq_iff_eq, beq_eq_false_iff_ne, ne_eq, Int.not_lt, Int.not_le, Option.isSome_some, Option.isNone_none, Option.isSome_none, Option.isNone_some, Classical.not_not] at h2
      refine V.move rfl rfl rfl ?_
      refine V.bin rfl rfl rfl rfl (bin_eql _ _ _) ?_
      refine V.pickF rfl rfl rfl rfl ?_
      refine V.assign rfl rfl rfl ?_
      refine V.nil ?_
      refine Post.nextC ?_
      refine VC.ret ?_
      apply Post.ret1 rfl rfl 
      · refine ⟨?_, rfl⟩
        congr 1
        rw [Bool.eq_iff_iff]
        simp_all [inName]
        try omega
      · repeat' constructor

theorem c49 {w0 : World} {c : UInt8} : CtR Pg w0 49 #[.int .u8 (c.toNat : Int)] [] (fun v H => v = .bool (isMark c) ∧ H = []) := by
  have hm : isMark c = decide (c.toNat = 44 ∨ c.toNat = 58 ∨ c.toNat = 60 ∨ c.toNat = 62 ∨ c.toNat = 61 ∨ c.toNat = 40 ∨ c.toNat = 41) := mark_nat c
  refine Ct.of_body Go.Proofs.Tryd.func49 rfl 29 rfl rfl (fun R => ?_)
  refine VC.seq ?_
  refine VC.region ?_
  refine V.assign rfl rfl rfl ?_
  refine V.nil ?_
  refine Post.nextC ?_
  refine VC.seq ?_
  refine VC.region ?_
  refine V.move rfl rfl rfl ?_
  refine V.bin rfl rfl rfl rfl (bin_eql _ _ _) ?_
  refine V.move rfl rfl rfl ?_
  refine V.split (t := 5) rfl (fun h1 => ?_) (fun h1 => ?_)
  · try simp only [decide_eq_true_eq, decide_eq_false_iff_not, Bool.not_eq_true', Bool.not_eq_false', Bool.not_eq_eq_eq_not, Bool.not_true, Bool.not_false, beq_iff_eq, beq_eq_false_iff_ne, ne_eq, Int.not_lt, Int.not_le, Option.isSome_some, Option.isNone_none, Option.isSome_none, Option.isNone_some, Classical.not_not] at h1
    refine V.skip rfl rfl ?_
    refine V.skip rfl rfl ?_
    refine V.pickT rfl rfl rfl rfl ?_
    refine V.move rfl rfl rfl ?_
    refine V.skip rfl rfl ?_
    refine V.skip rfl rfl ?_
    refine V.pickT rfl rfl rfl rfl ?_
    refine V.move rfl rfl rfl ?_
    refine V.skip rfl rfl ?_
    refine V.skip rfl rfl ?_
    refine V.pickT rfl rfl rfl rfl ?_
    refine V.move rfl rfl rfl ?_
    refine V.skip rfl rfl ?_
    refine V.skip rfl rfl ?_
    refine V.pickT rfl rfl rfl rfl ?_
    refine V.move rfl rfl rfl ?_
    refine V.skip rfl rfl ?_
    refine V.skip rfl rfl ?_
    refine V.pickT rfl rfl rfl rfl ?_
    refine V.move rfl rfl rfl ?_
    refine V.skip rfl rfl ?_
    refine V.skip rfl rfl ?_
    refine V.pickT rfl rfl rfl rfl ?_
    refine V.assign rfl rfl rfl ?_
    refine V.nil ?_
    refine Post.nextC ?_
    refine VC.ret ?_
    apply Post.ret1 rfl rfl 
    · refine ⟨?_, rfl⟩
      rw [hm]
      congr 1
      rw [Bool.eq_iff_iff]
      simp only [decide_eq_true_eq, true_iff, eq_self]
      omega
    · repeat' constructor
  · try simp only [decide_eq_true_eq, decide_eq_false_iff_not, Bool.not_eq_true', Bool.not_eq_false', Bool.not_eq_eq_eq_not, Bool.not_true, Bool.not_false, beq_iff_eq, beq_eq_false_iff_ne, ne_eq, Int.not_lt, Int.not_le, Option.isSome_some, Option.isNone_none, Option.isSome_none, Option.isNone_some, Classical.not_not] at h1
    refine V.move rfl rfl rfl ?_
    refine V.bin rfl rfl rfl rfl (bin_eql _ _ _) ?_
    refine V.pickF rfl rfl rfl rfl ?_
    refine V.move rfl rfl rfl ?_
    refine V.split (t := 9) rfl (fun h2 => ?_) (fun h2 => ?_)
    · try simp only [decide_eq_true_eq, decide_eq_false_iff_not, Bool.not_eq_true', Bool.not_eq_false', Bool.not_eq_eq_eq_not, Bool.not_true, Bool.not_false, beq_iff_eq, beq_eq_false_iff_ne, ne_eq, Int.not_lt, Int.not_le, Option.isSome_some, Option.isNone_none, Option.isSome_none, Option.isNone_some, Classical.not_not] at h2
      refine V.skip rfl rfl ?_
      refine V.skip rfl rfl ?_
      refine V.pickT rfl rfl rfl rfl ?_
      refine V.move rfl rfl rfl ?_
      refine V.skip rfl rfl ?_
      refine V.skip rfl rfl ?_
      refine V.pickT rfl rfl rfl rfl ?_
      refine V.move rfl rfl rfl ?_
      refine V.skip rfl rfl ?_
      refine V.skip rfl rfl ?_
      refine V.pickT rfl rfl rfl rfl ?_
      refine V.move rfl rfl rfl ?_
      refine V.skip rfl rfl ?_
      refine V.skip rfl rfl ?_
      refine V.pickT rfl rfl rfl rfl ?_
      refine V.move rfl rfl rfl ?_
      refine V.skip rfl rfl ?_
      refine V.skip rfl rfl ?_
      refine V.pickT rfl rfl rfl rfl ?_
      refine V.assign rfl rfl rfl ?_
      refine V.nil ?_
      refine Post.nextC ?_
      refine VC.ret ?_
      apply Post.ret1 rfl rfl 
      · refine ⟨?_, rfl⟩
        rw [hm]
        congr 1
        rw [Bool.eq_iff_iff]
        simp only [decide_eq_true_eq, true_iff, eq_self]
        omega
      · repeat' constructor
    · try simp only [decide_eq_true_eq, decide_eq_false_iff_not, Bool.not_eq_true', Bool.not_eq_false', Bool.not_eq_eq_eq_not, Bool.not_true, Bool.not_false, beq_iff_eq, beq_eq_false_iff_ne, ne_eq, Int.not_lt, Int.not_le, Option.isSome_some, Option.isNone_none, Option.isSome_none, Option.isNone_some, Classical.not_not] at h2
      refine V.move rfl rfl rfl ?_
      refine V.bin rfl rfl rfl rfl (bin_eql _ _ _) ?_
      refine V.pickF rfl rfl rfl rfl ?_
      refine V.move rfl rfl rfl ?_
      refine V.split (t := 13) rfl (fun h3 => ?_) (fun h3 => ?_)
      · try simp only [decide_eq_true_eq, decide_eq_false_iff_not, Bool.not_eq_true', Bool.not_eq_false', Bool.not_eq_eq_eq_not, Bool.not_true, Bool.not_false, beq_iff_eq, beq_eq_false_iff_ne, ne_eq, Int.not_lt, Int.not_le, Option.isSome_some, Option.isNone_none, Option.isSome_none, Option.isNone_some, Classical.not_not] at h3
        refine V.skip rfl rfl ?_
        refine V.skip rfl rfl ?_
        refine V.pickT rfl rfl rfl rfl ?_
        refine V.move rfl rfl rfl ?_
        refine V.skip rfl rfl ?_
        refine V.skip rfl rfl ?_
        refine V.pickT rfl rfl rfl rfl ?_
        refine V.move rfl rfl rfl ?_
        refine V.skip rfl rfl ?_
        refine V.skip rfl rfl ?_
        refine V.pickT rfl rfl rfl rfl ?_
        refine V.move rfl rfl rfl ?_
        refine V.skip rfl rfl ?_
        refine V.skip rfl rfl ?_
        refine V.pickT rfl rfl rfl rfl ?_
        refine V.assign rfl rfl rfl ?_
        refine V.nil ?_
        refine Post.nextC ?_
        refine VC.ret ?_
        apply Post.ret1 rfl rfl 
        · refine ⟨?_, rfl⟩
          rw [hm]
          congr 1
          rw [Bool.eq_iff_iff]
          simp only [decide_eq_true_eq, true_iff, eq_self]
          omega
        · repeat' constructor
      · try simp only [decide_eq_true_eq, decide_eq_false_iff_not, Bool.not_eq_true', Bool.not_eq_false', Bool.not_eq_eq_eq_not, Bool.not_true, Bool.not_false, beq_iff_eq, beq_eq_false_iff_ne, ne_eq, Int.not_lt, Int.not_le, Option.isSome_some, Option.isNone_none, Option.isSome_none, Option.isNone_some, Classical.not_not] at h3
        refine V.move rfl rfl rfl ?_
        refine V.bin rfl rfl rfl rfl (bin_eql _ _ _) ?_
        refine V.pickF rfl rfl rfl rfl ?_
        refine V.move rfl rfl rfl ?_
        refine V.split (t := 17) rfl (fun h4 => ?_) (fun h4 => ?_)
        · try simp only [decide_eq_true_eq, decide_eq_false_iff_not, Bool.not_eq_true', Bool.not_eq_false', Bool.not_eq_eq_eq_not, Bool.not_true, Bool.not_false, beq_iff_eq, beq_eq_false_iff_ne, ne_eq, Int.not_lt, Int.not_le, Option.isSome_some, Option.isNone_none, Option.isSome_none, Option.isNone_some, Classical.not_not] at h4
          refine V.skip rfl rfl ?_
          refine V.skip rfl rfl ?_
          refine V.pickT rfl rfl rfl rfl ?_
          refine V.move rfl rfl rfl ?_
          refine V.skip rfl rfl ?_
          refine V.skip rfl rfl ?_
          refine V.pickT rfl rfl rfl rfl ?_
          refine V.move rfl rfl rfl ?_
          refine V.skip rfl rfl ?_
          refine V.skip rfl rfl ?_
          refine V.pickT rfl rfl rfl rfl ?_
          refine V.assign rfl rfl rfl ?_
          refine V.nil ?_
          refine Post.nextC ?_
          refine VC.ret ?_
          apply Post.ret1 rfl rfl 
          · refine ⟨?_, rfl⟩
            rw [hm]
            congr 1
            rw [Bool.eq_iff_iff]
            simp only [decide_eq_true_eq, true_iff, eq_self]
            omega
          · repeat' constructor
        · try simp only [decide_eq_true_eq, decide_eq_false_iff_not, Bool.not_eq_true', Bool.not_eq_false', Bool.not_eq_eq_eq_not, Bool.not_true, Bool.not_false, beq_iff_eq, beq_eq_false_iff_ne, ne_eq, Int.not_lt, Int.not_le, Option.isSome_some, Option.isNone_none, Option.isSome_none, Option.isNone_some, Classical.not_not] at h4
          refine V.move rfl rfl rfl ?_
          refine V.bin rfl rfl rfl rfl (bin_eql _ _ _) ?_
          refine V.pickF rfl rfl rfl rfl ?_
          refine V.move rfl rfl rfl ?_
          refine V.split (t := 21) rfl (fun h5 => ?_) (fun h5 => ?_)
          · try simp only [decide_eq_true_eq, decide_eq_false_iff_not, Bool.not_eq_true', Bool.not_eq_false', Bool.not_eq_eq_eq_not, Bool.not_true, Bool.not_false, beq_iff_eq, beq_eq_false_iff_ne, ne_eq, Int.not_lt, Int.not_le, Option.isSome_some, Option.isNone_none, Option.isSome_none, Option.isNone_some, Classical.not_not] at h5
            refine V.skip rfl rfl ?_
            refine V.skip rfl rfl ?_
            refine V.pickT rfl rfl rfl rfl ?_
            refine V.move rfl rfl rfl ?_
            refine V.skip rfl rfl ?_
            refine V.skip rfl rfl ?_
            refine V.pickT rfl rfl rfl rfl ?_
            refine V.assign rfl rfl rfl ?_
            refine V.nil ?_
            refine Post.nextC ?_
            refine VC.ret ?_
            apply Post.ret1 rfl rfl 
            · refine ⟨?_, rfl⟩
              rw [hm]
              congr 1
              rw [Bool.eq_iff_iff]
              simp only [decide_eq_true_eq, true_iff, eq_self]
              omega
            · repeat' constructor
          · try simp only [decide_eq_true_eq, decide_eq_false_iff_not, Bool.not_eq_true', Bool.not_eq_false', Bool.not_eq_eq_eq_not, Bool.not_true, Bool.not_false, beq_iff_eq, beq_eq_false_iff_ne, ne_eq, Int.not_lt, Int.not_le, Option.isSome_some, Option.isNone_none, Option.isSome_none, Option.isNone_some, Classical.not_not] at h5
            refine V.move rfl rfl rfl ?_
            refine V.bin rfl rfl rfl rfl (bin_eql _ _ _) ?_
            refine V.pickF rfl rfl rfl rfl ?_
            refine V.move rfl rfl rfl ?_
            refine V.split (t := 25) rfl (fun h6 => ?_) (fun h6 => ?_)
            · try simp only [decide_eq_true_eq, decide_eq_false_iff_not, Bool.not_eq_true', Bool.not_eq_false', Bool.not_eq_eq_eq_not, Bool.not_true, Bool.not_false, beq_iff_eq, beq_eq_false_iff_ne, ne_eq, Int.not_lt, Int.not_le, Option.isSome_some, Option.isNone_none, Option.isSome_none, Option.isNone_some, Classical.not_not] at h6
              refine V.skip rfl rfl ?_
              refine V.skip rfl rfl ?_
              refine V.pickT rfl rfl rfl rfl ?_
              refine V.assign rfl rfl rfl ?_
              refine V.nil ?_
              refine Post.nextC ?_
              refine VC.ret ?_
              apply Post.ret1 rfl rfl 
              · refine ⟨?_, rfl⟩
                rw [hm]
                congr 1
                rw [Bool.eq_iff_iff]
                simp only [decide_eq_true_eq, true_iff, eq_self]
                omega
              · repeat' constructor
            · try simp only [decide_eq_true_eq, decide_eq_false_iff_not, Bool.not_eq_true', Bool.not_eq_false', Bool.not_eq_eq_eq_not, Bool.not_true, Bool.not_false, beq_iff_eq, beq_eq_false_iff_ne, ne_eq, Int.not_lt, Int.not_le, Option.isSome_some, Option.isNone_none, Option.isSome_none, Option.isNone_some, Classical.not_not] at h6
              refine V.move rfl rfl rfl ?_
              refine V.bin rfl rfl rfl rfl (bin_eql _ _ _) ?_
              refine V.pickF rfl rfl rfl rfl ?_
              refine V.assign rfl rfl rfl ?_
              refine V.nil ?_
              refine Post.nextC ?_
              refine VC.ret ?_
              apply Post.ret1 rfl rfl 
              · refine ⟨?_, rfl⟩
                rw [hm]
                congr 1
                rw [Bool.eq_iff_iff]
                simp only [decide_eq_true_eq, true_iff, eq_self]
                omega
              · repeat' constructor

theorem c47 {w0 : World} {s : List UInt8} (hs : s.length ≤ 1000000) : CtR Pg w0 47 #[st s] [] (fun v H => v = .bool (rightNum s) ∧ H = []) := by
  refine Ct.of_body Go.Proofs.Tryd.func47 rfl 33 rfl rfl (fun R => ?_)
  refine VC.seq ?_
  refine VC.region ?_
  refine V.assign rfl rfl rfl ?_
  refine V.nil ?_
  refine Post.nextC ?_
  refine VC.seq ?_
  refine VC.seq ?_
  refine VC.region ?_
  refine V.move rfl rfl rfl ?_
  refine V.lenSt rfl rfl rfl ?_
  refine V.bin rfl rfl rfl rfl (bin_lss _ _ _) ?_
  refine V.move rfl rfl rfl ?_
  refine V.split (t := 7) rfl (fun h1 => ?_) (fun h1 => ?_)
  · try simp only [decide_eq_true_eq, decide_eq_false_iff_not, Bool.not_eq_true', Bool.not_eq_false', Bool.not_eq_eq_eq_not, Bool.not_true, Bool.not_false, beq_iff_eq, beq_eq_false_iff_ne, ne_eq, Int.not_lt, Int.not_le, Option.isSome_some, Option.isNone_none, Option.isSome_none, Option.isNone_some, Classical.not_not] at h1
    refine V.skip rfl rfl ?_
    refine V.skip rfl rfl ?_
    refine V.skip rfl rfl ?_
    refine V.pickT rfl rfl rfl rfl ?_
    refine V.move rfl rfl rfl ?_
    refine V.skip rfl rfl ?_
    refine V.skip rfl rfl ?_
    refine V.skip rfl rfl ?_
    refine V.skip rfl rfl ?_
    refine V.skip rfl rfl ?_
    refine V.skip rfl rfl ?_
    refine V.skip rfl rfl ?_
    refine V.skip rfl rfl ?_
    refine V.pickT rfl rfl rfl rfl ?_
    refine V.nil ?_
    refine Post.nextC ?_
    refine VC.condT rfl ?_
    refine VC.seq ?_
    refine VC.region ?_
    refine V.assign rfl rfl rfl ?_
    refine V.nil ?_
    refine Post.nextC ?_
    refine VC.ret ?_
    refine Post.thenRet (?_)
    apply Post.ret1 rfl rfl 
    · rw [rightNum_no (by first | (left; omega) | (right; left; omega) | (right; right; left; exact ⟨by omega, by rw [hc0]; exact congrArg some (UInt8.toNat_inj.1 (by simpa using (by omega : c0.toNat = 48)))⟩))]
      exact ⟨rfl, rfl⟩
    · repeat' constructor
  · try simp only [decide_eq_true_eq, decide_eq_false_iff_not, Bool.not_eq_true', Bool.not_eq_false', Bool.not_eq_eq_eq_not, Bool.not_true, Bool.not_false, beq_iff_eq, beq_eq_false_iff_ne, ne_eq, Int.not_lt, Int.not_le, Option.isSome_some, Option.isNone_none, Option.isSome_none, Option.isNone_some, Classical.not_not] at h1
    refine V.move rfl rfl rfl ?_
    refine V.lenSt rfl rfl rfl ?_
    refine V.bin rfl rfl rfl rfl (bin_gtr _ _ _) ?_
    refine V.pickF rfl rfl rfl rfl ?_
    refine V.move rfl rfl rfl ?_
    refine V.split (t := 12) rfl (fun h2 => ?_) (fun h2 => ?_)
    · try simp only [decide_eq_true_eq, decide_eq_false_iff_not, Bool.not_eq_true', Bool.not_eq_false', Bool.not_eq_eq_eq_not, Bool.not_true, Bool.not_false, beq_iff_eq, beq_eq_false_iff_ne, ne_eq, Int.not_lt, Int.not_le, Option.isSome_some, Option.isNone_none, Option.isSome_none, Option.isNone_some, Classical.not_not] at h2
      refine V.skip rfl rfl ?_
      refine V.skip rfl rfl ?_
      refine V.skip rfl rfl ?_
      refine V.skip rfl rfl ?_
      refine V.skip rfl rfl ?_
      refine V.skip rfl rfl ?_
      refine V.skip rfl rfl ?_
      refine V.skip rfl rfl ?_
      refine V.pickT rfl rfl rfl rfl ?_
      refine V.nil ?_
      refine Post.nextC ?_
      refine VC.condT rfl ?_
      refine VC.seq ?_
      refine VC.region ?_
      refine V.assign rfl rfl rfl ?_
      refine V.nil ?_
      refine Post.nextC ?_
      refine VC.ret ?_
      refine Post.thenRet (?_)
      apply Post.ret1 rfl rfl 
      · rw [rightNum_no (by first | (left; omega) | (right; left; omega) | (right; right; left; exact ⟨by omega, by rw [hc0]; exact congrArg some (UInt8.toNat_inj.1 (by simpa using (by omega : c0.toNat = 48)))⟩))]
        exact ⟨rfl, rfl⟩
      · repeat' constructor
    · try simp only [decide_eq_true_eq, decide_eq_false_iff_not, Bool.not_eq_true', Bool.not_eq_false', Bool.not_eq_eq_eq_not, Bool.not_true, Bool.not_false, beq_iff_eq, beq_eq_false_iff_ne, ne_eq, Int.not_lt, Int.not_le, Option.isSome_some, Option.isNone_none, Option.isSome_none, Option.isNone_some, Classical.not_not] at h2
      refine V.move rfl rfl rfl ?_
      refine V.lenSt rfl rfl rfl ?_
      refine V.bin rfl rfl rfl rfl (bin_gtr _ _ _) ?_
      refine V.move rfl rfl rfl ?_
      refine V.split (t := 16) rfl (fun h3 => ?_) (fun h3 => ?_)
      · try simp only [decide_eq_true_eq, decide_eq_false_iff_not, Bool.not_eq_true', Bool.not_eq_false', Bool.not_eq_eq_eq_not, Bool.not_true, Bool.not_false, beq_iff_eq, beq_eq_false_iff_ne, ne_eq, Int.not_lt, Int.not_le, Option.isSome_some, Option.isNone_none, Option.isSome_none, Option.isNone_some, Classical.not_not] at h3
        refine V.move rfl rfl rfl ?_
        obtain ⟨c0, hc0⟩ := get0 (t := s) (by omega)
        refine V.indexSt (i := 0) (c := c0) rfl rfl rfl rfl hc0 ?_
        refine V.bin rfl rfl rfl rfl (bin_eql _ _ _) ?_
        refine V.pickT rfl rfl rfl rfl ?_
        refine V.pickF rfl rfl rfl rfl ?_
        refine V.nil ?_
        refine Post.nextC ?_
        refine VC.cond rfl (fun h4 => ?_) (fun h4 => ?_)
        · try simp only [decide_eq_true_eq, decide_eq_false_iff_not, Bool.not_eq_true', Bool.not_eq_false', Bool.not_eq_eq_eq_not, Bool.not_true, Bool.not_false, beq_iff_eq, beq_eq_false_iff_ne, ne_eq, Int.not_lt, Int.not_le, Option.isSome_some, Option.isNone_none, Option.isSome_none, Option.isNone_some, Classical.not_not] at h4
          refine VC.seq ?_
          refine VC.region ?_
          refine V.assign rfl rfl rfl ?_
          refine V.nil ?_
          refine Post.nextC ?_
          refine VC.ret ?_
          refine Post.thenRet (?_)
          apply Post.ret1 rfl rfl 
          · rw [rightNum_no (by first | (left; omega) | (right; left; omega) | (right; right; left; exact ⟨by omega, by rw [hc0]; exact congrArg some (UInt8.toNat_inj.1 (by simpa using (by omega : c0.toNat = 48)))⟩))]
            exact ⟨rfl, rfl⟩
          · repeat' constructor
        · try simp only [decide_eq_true_eq, decide_eq_false_iff_not, Bool.not_eq_true', Bool.not_eq_false', Bool.not_eq_eq_eq_not, Bool.not_true, Bool.not_false, beq_iff_eq, beq_eq_false_iff_ne, ne_eq, Int.not_lt, Int.not_le, Option.isSome_some, Option.isNone_none, Option.isSome_none, Option.isNone_some, Classical.not_not] at h4
          refine VC.skip ?_
          refine Post.nextC ?_
          refine VC.seq ?_
          refine VC.seq ?_
          refine VC.region ?_
          refine V.assign rfl rfl rfl ?_
          refine V.nil ?_
          refine Post.nextC ?_
          refine VC.block ?_
          refine VC.loop (σ := Nat) (fun i => [(0, st s), (3, .int .i64 (i : Int))]) (fun i => R) (fun i => i ≤ s.length ∧ ∀ j, j < i → ∃ c, s[j]? = some c ∧ digit c = true) (fun i => s.length - i) 0 ⟨Nat.zero_le _, fun j hj => absurd hj (Nat.not_lt_zero _)⟩ ?_ ?_ ?_
          · exact ⟨rfl, rfl, trivial⟩
          · repeat' constructor
          rintro i ⟨hi, hI⟩
          refine VC.seq ?_
          refine VC.seq ?_
          refine VC.region ?_
          refine V.move rfl rfl rfl ?_
          refine V.move rfl rfl rfl ?_
          refine V.lenSt rfl rfl rfl ?_
          refine V.bin rfl rfl rfl rfl (bin_lss _ _ _) ?_
          refine V.nil ?_
          refine Post.nextC ?_
          refine VC.cond rfl (fun h5 => ?_) (fun h5 => ?_)
          · try simp only [decide_eq_true_eq, decide_eq_false_iff_not, Bool.not_eq_true', Bool.not_eq_false', Bool.not_eq_eq_eq_not, Bool.not_true, Bool.not_false, beq_iff_eq, beq_eq_false_iff_ne, ne_eq, Int.not_lt, Int.not_le, Option.isSome_some, Option.isNone_none, Option.isSome_none, Option.isNone_some, Classical.not_not] at h5
            refine VC.skip ?_
            refine Post.nextC ?_
            refine VC.seq ?_
            refine VC.block ?_
            refine VC.seq ?_
            refine VC.region ?_
            refine V.move rfl rfl rfl ?_
            refine V.move rfl rfl rfl ?_
            obtain ⟨c, hc⟩ := getc (t := s) (i := i) (by assumption)
            refine V.indexSt (i := i) (c := c) rfl rfl rfl rfl hc ?_
            apply V.call rfl rfl rfl (hc := c46)
            · repeat' constructor
            rintro vq Ho ⟨rfl, rfl⟩
            refine V.not rfl rfl rfl ?_
            refine V.nil ?_
            refine Post.nextC ?_
            refine VC.cond rfl (fun h6 => ?_) (fun h6 => ?_)
            · try simp only [decide_eq_true_eq, decide_eq_false_iff_not, Bool.not_eq_true', Bool.not_eq_false', Bool.not_eq_eq_eq_not, Bool.not_true, Bool.not_false, beq_iff_eq, beq_eq_false_iff_ne, ne_eq, Int.not_lt, Int.not_le, Option.isSome_some, Option.isNone_none, Option.isSome_none, Option.isNone_some, Classical.not_not] at h6
              refine VC.seq ?_
              refine VC.region ?_
              refine V.assign rfl rfl rfl ?_
              refine V.nil ?_
              refine Post.nextC ?_
              refine VC.ret ?_
              refine Post.blockRet (Post.thenRet (Post.thenRet (Post.blockRet (Post.thenRet (?_)))))
              apply Post.ret1 rfl rfl 
              · rw [rightNum_no (.inr (.inr (.inr ⟨c, List.mem_of_getElem? hc, by assumption⟩)))]
                exact ⟨rfl, rfl⟩
              · repeat' constructor
            · try simp only [decide_eq_true_eq, decide_eq_false_iff_not, Bool.not_eq_true', Bool.not_eq_false', Bool.not_eq_eq_eq_not, Bool.not_true, Bool.not_false, beq_iff_eq, beq_eq_false_iff_ne, ne_eq, Int.not_lt, Int.not_le, Option.isSome_some, Option.isNone_none, Option.isSome_none, Option.isNone_some, Classical.not_not] at h6
              refine VC.skip ?_
              refine Post.blockNormal (Post.nextC ?_)
              refine VC.region ?_
              refine V.move rfl rfl rfl ?_
              refine V.bin rfl rfl rfl rfl (bin_addI (by omega)) ?_
              refine V.assign rfl rfl rfl ?_
              refine V.nil ?_
              refine Post.round (i + 1) ?_ ?_ ?_ ?_
              · exact ⟨by omega, all_next hI hc (by assumption)⟩
              · omega
              · exact ⟨rfl, rfl, trivial⟩
              · repeat' constructor
          · try simp only [decide_eq_true_eq, decide_eq_false_iff_not, Bool.not_eq_true', Bool.not_eq_false', Bool.not_eq_eq_eq_not, Bool.not_true, Bool.not_false, beq_iff_eq, beq_eq_false_iff_ne, ne_eq, Int.not_lt, Int.not_le, Option.isSome_some, Option.isNone_none, Option.isSome_none, Option.isNone_some, Classical.not_not] at h5
            refine VC.exit ?_
            refine Post.thenExit (Post.thenExit (Post.blockHit (Post.nextC ?_)))
            refine VC.seq ?_
            refine VC.region ?_
            refine V.assign rfl rfl rfl ?_
            refine V.nil ?_
            refine Post.nextC ?_
            refine VC.ret ?_
            apply Post.ret1 rfl rfl 
            · rw [rightNum_yes (by omega) (by omega) (by first | (left; omega) | exact .inr ⟨c0, hc0, by omega⟩) (mem_of_all hI (by omega))]
              exact ⟨rfl, rfl⟩
            · repeat' constructor
      · try simp only [decide_eq_true_eq, decide_eq_false_iff_not, Bool.not_eq_true', Bool.not_eq_false', Bool.not_eq_eq_eq_not, Bool.not_true, Bool.not_false, beq_iff_eq, beq_eq_false_iff_ne, ne_eq, Int.not_lt, Int.not_le, Option.isSome_some, Option.isNone_none, Option.isSome_none, Option.isNone_some, Classical.not_not] at h3
        refine V.skip rfl rfl ?_
        refine V.skip rfl rfl ?_
        refine V.skip rfl rfl ?_
        refine V.pickF rfl rfl rfl rfl ?_
        refine V.pickF rfl rfl rfl rfl ?_
        refine V.nil ?_
        refine Post.nextC ?_
        refine VC.condF rfl ?_
        refine VC.skip ?_
        refine Post.nextC ?_
        refine VC.seq ?_
        refine VC.seq ?_
        refine VC.region ?_
        refine V.assign rfl rfl rfl ?_
        refine V.nil ?_
        refine Post.nextC ?_
        refine VC.block ?_
        refine VC.loop (σ := Nat) (fun i => [(0, st s), (3, .int .i64 (i : Int))]) (fun i => R) (fun i => i ≤ s.length ∧ ∀ j, j < i → ∃ c, s[j]? = some c ∧ digit c = true) (fun i => s.length - i) 0 ⟨Nat.zero_le _, fun j hj => absurd hj (Nat.not_lt_zero _)⟩ ?_ ?_ ?_
        · exact ⟨rfl, rfl, trivial⟩
        · repeat' constructor
        rintro i ⟨hi, hI⟩
        refine VC.seq ?_
        refine VC.seq ?_
        refine VC.region ?_
        refine V.move rfl rfl rfl ?_
        refine V.move rfl rfl rfl ?_
        refine V.lenSt rfl rfl rfl ?_
        refine V.bin rfl rfl rfl rfl (bin_lss _ _ _) ?_
        refine V.nil ?_
        refine Post.nextC ?_
        refine VC.cond rfl (fun h7 => ?_) (fun h7 => ?_)
        · try simp only [decide_eq_true_eq, decide_eq_false_iff_not, Bool.not_eq_true', Bool.not_eq_false', Bool.not_eq_eq_eq_not, Bool.not_true, Bool.not_false, beq_iff_eq, beq_eq_false_iff_ne, ne_eq, Int.not_lt, Int.not_le, Option.isSome_some, Option.isNone_none, Option.isSome_none, Option.isNone_some, Classical.not_not] at h7
          refine VC.skip ?_
          refine Post.nextC ?_
          refine VC.seq ?_
          refine VC.block ?_
          refine VC.seq ?_
          refine VC.region ?_
          refine V.move rfl rfl rfl ?_
          refine V.move rfl rfl rfl ?_
          obtain ⟨c, hc⟩ := getc (t := s) (i := i) (by assumption)
          refine V.indexSt (i := i) (c := c) rfl rfl rfl rfl hc ?_
          apply V.call rfl rfl rfl (hc := c46)
          · repeat' constructor
          rintro vq Ho ⟨rfl, rfl⟩
          refine V.not rfl rfl rfl ?_
          refine V.nil ?_
          refine Post.nextC ?_
          refine VC.cond rfl (fun h8 => ?_) (fun h8 => ?_)
          · try simp only [decide_eq_true_eq, decide_eq_false_iff_not, Bool.not_eq_true', Bool.not_eq_false', Bool.not_eq_eq_eq_not, Bool.not_true, Bool.not_false, beq_iff_eq, beq_eq_false_iff_ne, ne_eq, Int.not_lt, Int.not_le, Option.isSome_some, Option.isNone_none, Option.isSome_none, Option.isNone_some, Classical.not_not] at h8
            refine VC.seq ?_
            refine VC.region ?_
            refine V.assign rfl rfl rfl ?_
            refine V.nil ?_
            refine Post.nextC ?_
            refine VC.ret ?_
            refine Post.blockRet (Post.thenRet (Post.thenRet (Post.blockRet (Post.thenRet (?_)))))
            apply Post.ret1 rfl rfl 
            · rw [rightNum_no (.inr (.inr (.inr ⟨c, List.mem_of_getElem? hc, by assumption⟩)))]
              exact ⟨rfl, rfl⟩
            · repeat' constructor
          · try simp only [decide_eq_true_eq, decide_eq_false_iff_not, Bool.not_eq_true', Bool.not_eq_false', Bool.not_eq_eq_eq_not, Bool.not_true, Bool.not_false, beq_iff_eq, beq_eq_false_iff_ne, ne_eq, Int.not_lt, Int.not_le, Option.isSome_some, Option.isNone_none, Option.isSome_none, Option.isNone_some, Classical.not_not] at h8
            refine VC.skip ?_
            refine Post.blockNormal (Post.nextC ?_)
            refine VC.region ?_
            refine V.move rfl rfl rfl ?_
            refine V.bin rfl rfl rfl rfl (bin_addI (by omega)) ?_
            refine V.assign rfl rfl rfl ?_
            refine V.nil ?_
            refine Post.round (i + 1) ?_ ?_ ?_ ?_
            · exact ⟨by omega, all_next hI hc (by assumption)⟩
            · omega
            · exact ⟨rfl, rfl, trivial⟩
            · repeat' constructor
        · try simp only [decide_eq_true_eq, decide_eq_false_iff_not, Bool.not_eq_true', Bool.not_eq_false', Bool.not_eq_eq_eq_not, Bool.not_true, Bool.not_false, beq_iff_eq, beq_eq_false_iff_ne, ne_eq, Int.not_lt, Int.not_le, Option.isSome_some, Option.isNone_none, Option.isSome_none, Option.isNone_some, Classical.not_not] at h7
          refine VC.exit ?_
          refine Post.thenExit (Post.thenExit (Post.blockHit (Post.nextC ?_)))
          refine VC.seq ?_
          refine VC.region ?_
          refine V.assign rfl rfl rfl ?_
          refine V.nil ?_
          refine Post.nextC ?_
          refine VC.ret ?_
          apply Post.ret1 rfl rfl 
          · rw [rightNum_yes (by omega) (by omega) (by first | (left; omega) | exact .inr ⟨c0, hc0, by omega⟩) (mem_of_all hI (by omega))]
            exact ⟨rfl, rfl⟩
          · repeat' constructor

theorem c37 {w0 : World} {s : List UInt8} : CtR Pg w0 37 #[st s] [] (fun v H => v = .bool (legal s) ∧ H = []) := by
  refine Ct.of_body Go.Proofs.Tryd.func37 rfl 29 rfl rfl (fun R => ?_)
  refine VC.seq ?_
  refine VC.region ?_
  refine V.assign rfl rfl rfl ?_
  refine V.nil ?_
  refine Post.nextC ?_
  refine VC.seq ?_
  refine VC.seq ?_
  refine VC.region ?_
  refine V.move rfl rfl rfl ?_
  refine V.lenSt rfl rfl rfl ?_
  refine V.bin rfl rfl rfl rfl (bin_lss _ _ _) ?_
  refine V.move rfl rfl rfl ?_
  refine V.split (t := 7) rfl (fun h1 => ?_) (fun h1 => ?_)
  · try simp only [decide_eq_true_eq, decide_eq_false_iff_not, Bool.not_eq_true', Bool.not_eq_false', Bool.not_eq_eq_eq_not, Bool.not_true, Bool.not_false, beq_iff_eq, beq_eq_false_iff_ne, ne_eq, Int.not_lt, Int.not_le, Option.isSome_some, Option.isNone_none, Option.isSome_none, Option.isNone_some, Classical.not_not] at h1
    refine V.skip rfl rfl ?_
    refine V.skip rfl rfl ?_
    refine V.skip rfl rfl ?_
    refine V.pickT rfl rfl rfl rfl ?_
    refine V.move rfl rfl rfl ?_
    refine V.skip rfl rfl ?_
    refine V.skip rfl rfl ?_
    refine V.skip rfl rfl ?_
    refine V.skip rfl rfl ?_
    refine V.pickT rfl rfl rfl rfl ?_
    refine V.nil ?_
    refine Post.nextC ?_
    refine VC.condT rfl ?_
    refine VC.seq ?_
    refine VC.region ?_
    refine V.assign rfl rfl rfl ?_
    refine V.nil ?_
    refine Post.nextC ?_
    refine VC.ret ?_
    refine Post.thenRet (?_)
    apply Post.ret1 rfl rfl 
    · rw [legal_no (by first | (left; omega) | (right; left; omega) | (right; right; left; exact ⟨c0, hc0, by assumption⟩))]
      exact ⟨rfl, rfl⟩
    · repeat' constructor
  · try simp only [decide_eq_true_eq, decide_eq_false_iff_not, Bool.not_eq_true', Bool.not_eq_false', Bool.not_eq_eq_eq_not, Bool.not_true, Bool.not_false, beq_iff_eq, beq_eq_false_iff_ne, ne_eq, Int.not_lt, Int.not_le, Option.isSome_some, Option.isNone_none, Option.isSome_none, Option.isNone_some, Classical.not_not] at h1
    refine V.move rfl rfl rfl ?_
    refine V.lenSt rfl rfl rfl ?_
    refine V.bin rfl rfl rfl rfl (bin_gtr _ _ _) ?_
    refine V.pickF rfl rfl rfl rfl ?_
    refine V.move rfl rfl rfl ?_
    refine V.split (t := 12) rfl (fun h2 => ?_) (fun h2 => ?_)
    · try simp only [decide_eq_true_eq, decide_eq_false_iff_not, Bool.not_eq_true', Bool.not_eq_false', Bool.not_eq_eq_eq_not, Bool.not_true, Bool.not_false, beq_iff_eq, beq_eq_false_iff_ne, ne_eq, Int.not_lt, Int.not_le, Option.isSome_some, Option.isNone_none, Option.isSome_none, Option.isNone_some, Classical.not_not] at h2
      refine V.skip rfl rfl ?_
      refine V.skip rfl rfl ?_
      refine V.skip rfl rfl ?_
      refine V.skip rfl rfl ?_
      refine V.pickT rfl rfl rfl rfl ?_
      refine V.nil ?_
      refine Post.nextC ?_
      refine VC.condT rfl ?_
      refine VC.seq ?_
      refine VC.region ?_
      refine V.assign rfl rfl rfl ?_
      refine V.nil ?_
      refine Post.nextC ?_
      refine VC.ret ?_
      refine Post.thenRet (?_)
      apply Post.ret1 rfl rfl 
      · rw [legal_no (by first | (left; omega) | (right; left; omega) | (right; right; left; exact ⟨c0, hc0, by assumption⟩))]
        exact ⟨rfl, rfl⟩
      · repeat' constructor
    · try simp only [decide_eq_true_eq, decide_eq_false_iff_not, Bool.not_eq_true', Bool.not_eq_false', Bool.not_eq_eq_eq_not, Bool.not_true, Bool.not_false, beq_iff_eq, beq_eq_false_iff_ne, ne_eq, Int.not_lt, Int.not_le, Option.isSome_some, Option.isNone_none, Option.isSome_none, Option.isNone_some, Classical.not_not] at h2
      refine V.move rfl rfl rfl ?_
      obtain ⟨c0, hc0⟩ := get0 (t := s) (by omega)
      refine V.indexSt (i := 0) (c := c0) rfl rfl rfl rfl hc0 ?_
      apply V.call rfl rfl rfl (hc := c44)
      · repeat' constructor
      rintro vq Ho ⟨rfl, rfl⟩
      refine V.not rfl rfl rfl ?_
      refine V.pickF rfl rfl rfl rfl ?_
      refine V.nil ?_
      refine Post.nextC ?_
      refine VC.cond rfl (fun h3 => ?_) (fun h3 => ?_)
      · try simp only [decide_eq_true_eq, decide_eq_false_iff_not, Bool.not_eq_true', Bool.not_eq_false', Bool.not_eq_eq_eq_not, Bool.not_true, Bool.not_false, beq_iff_eq, beq_eq_false_iff_ne, ne_eq, Int.not_lt, Int.not_le, Option.isSome_some, Option.isNone_none, Option.isSome_none, Option.isNone_some, Classical.not_not] at h3
        refine VC.seq ?_
        refine VC.region ?_
        refine V.assign rfl rfl rfl ?_
        refine V.nil ?_
        refine Post.nextC ?_
        refine VC.ret ?_
        refine Post.thenRet (?_)
        apply Post.ret1 rfl rfl 
        · rw [legal_no (by first | (left; omega) | (right; left; omega) | (right; right; left; exact ⟨c0, hc0, by assumption⟩))]
          exact ⟨rfl, rfl⟩
        · repeat' constructor
      · try simp only [decide_eq_true_eq, decide_eq_false_iff_not, Bool.not_eq_true', Bool.not_eq_false', Bool.not_eq_eq_eq_not, Bool.not_true, Bool.not_false, beq_iff_eq, beq_eq_false_iff_ne, ne_eq, Int.not_lt, Int.not_le, Option.isSome_some, Option.isNone_none, Option.isSome_none, Option.isNone_some, Classical.not_not] at h3
        refine VC.skip ?_
        refine Post.nextC ?_
        refine VC.seq ?_
        refine VC.seq ?_
        refine VC.region ?_
        refine V.assign rfl rfl rfl ?_
        refine V.nil ?_
        refine Post.nextC ?_
        refine VC.block ?_
        refine VC.loop (σ := Nat) (fun i => [(0, st s), (3, .int .i64 (i : Int))]) (fun i => R) (fun i => i ≤ s.length ∧ ∀ j, j < i → ∃ c, s[j]? = some c ∧ inName c = true) (fun i => s.length - i) 0 ⟨Nat.zero_le _, fun j hj => absurd hj (Nat.not_lt_zero _)⟩ ?_ ?_ ?_
        · exact ⟨rfl, rfl, trivial⟩
        · repeat' constructor
        rintro i ⟨hi, hI⟩
        refine VC.seq ?_
        refine VC.seq ?_
        refine VC.region ?_
        refine V.move rfl rfl rfl ?_
        refine V.move rfl rfl rfl ?_
        refine V.lenSt rfl rfl rfl ?_
        refine V.bin rfl rfl rfl rfl (bin_lss _ _ _) ?_
        refine V.nil ?_
        refine Post.nextC ?_
        refine VC.cond rfl (fun h4 => ?_) (fun h4 => ?_)
        · try simp only [decide_eq_true_eq, decide_eq_false_iff_not, Bool.not_eq_true', Bool.not_eq_false', Bool.not_eq_eq_eq_not, Bool.not_true, Bool.not_false, beq_iff_eq, beq_eq_false_iff_ne, ne_eq, Int.not_lt, Int.not_le, Option.isSome_some, Option.isNone_none, Option.isSome_none, Option.isNone_some, Classical.not_not] at h4
          refine VC.skip ?_
          refine Post.nextC ?_
          refine VC.seq ?_
          refine VC.block ?_
          refine VC.seq ?_
          refine VC.region ?_
          refine V.move rfl rfl rfl ?_
          refine V.move rfl rfl rfl ?_
          obtain ⟨c, hc⟩ := getc (t := s) (i := i) (by assumption)
          refine V.indexSt (i := i) (c := c) rfl rfl rfl rfl hc ?_
          apply V.call rfl rfl rfl (hc := c45)
          · repeat' constructor
          rintro vq Ho ⟨rfl, rfl⟩
          refine V.not rfl rfl rfl ?_
          refine V.nil ?_
          refine Post.nextC ?_
          refine VC.cond rfl (fun h5 => ?_) (fun h5 => ?_)
          · try simp only [decide_eq_true_eq, decide_eq_false_iff_not, Bool.not_eq_true', Bool.not_eq_false', Bool.not_eq_eq_eq_not, Bool.not_true, Bool.not_false, beq_iff_eq, beq_eq_false_iff_ne, ne_eq, Int.not_lt, Int.not_le, Option.isSome_some, Option.isNone_none, Option.isSome_none, Option.isNone_some, Classical.not_not] at h5
            refine VC.seq ?_
            refine VC.region ?_
            refine V.assign rfl rfl rfl ?_
            refine V.nil ?_
            refine Post.nextC ?_
            refine VC.ret ?_
            refine Post.blockRet (Post.thenRet (Post.thenRet (Post.blockRet (Post.thenRet (?_)))))
            apply Post.ret1 rfl rfl 
            · rw [legal_no (.inr (.inr (.inr ⟨c, List.mem_of_getElem? hc, by assumption⟩)))]
              exact ⟨rfl, rfl⟩
            · repeat' constructor
          · try simp only [decide_eq_true_eq, decide_eq_false_iff_not, Bool.not_eq_true', Bool.not_eq_false', Bool.not_eq_eq_eq_not, Bool.not_true, Bool.not_false, beq_iff_eq, beq_eq_false_iff_ne, ne_eq, Int.not_lt, Int.not_le, Option.isSome_some, Option.isNone_none, Option.isSome_none, Option.isNone_some, Classical.not_not] at h5
            refine VC.skip ?_
            refine Post.blockNormal (Post.nextC ?_)
            refine VC.region ?_
            refine V.move rfl rfl rfl ?_
            refine V.bin rfl rfl rfl rfl (bin_addI (by omega)) ?_
            refine V.assign rfl rfl rfl ?_
            refine V.nil ?_
            refine Post.round (i + 1) ?_ ?_ ?_ ?_
            · exact ⟨by omega, all_next hI hc (by assumption)⟩
            · omega
            · exact ⟨rfl, rfl, trivial⟩
            · repeat' constructor
        · try simp only [decide_eq_true_eq, decide_eq_false_iff_not, Bool.not_eq_true', Bool.not_eq_false', Bool.not_eq_eq_eq_not, Bool.not_true, Bool.not_false, beq_iff_eq, beq_eq_false_iff_ne, ne_eq, Int.not_lt, Int.not_le, Option.isSome_some, Option.isNone_none, Option.isSome_none, Option.isNone_some, Classical.not_not] at h4
          refine VC.exit ?_
          refine Post.thenExit (Post.thenExit (Post.blockHit (Post.nextC ?_)))
          refine VC.seq ?_
          refine VC.region ?_
          refine V.assign rfl rfl rfl ?_
          refine V.nil ?_
          refine Post.nextC ?_
          refine VC.ret ?_
          apply Post.ret1 rfl rfl 
          · rw [legal_yes (by omega) hc0 (by assumption) (mem_of_all hI (by omega))]
            exact ⟨rfl, rfl⟩
          · repeat' constructor

theorem c48 {w0 : World} {s : List UInt8} (hs : s.length ≤ 9) (hd : ∀ c ∈ s, digit c = true) : CtR Pg w0 48 #[st s] [] (fun v H => v = .int .i64 (dval s : Int) ∧ H = []) := by
  refine Ct.of_body Go.Proofs.Tryd.func48 rfl 20 rfl rfl (fun R => ?_)
  refine VC.seq ?_
  refine VC.region ?_
  refine V.assign rfl rfl rfl ?_
  refine V.nil ?_
  refine Post.nextC ?_
  refine VC.seq ?_
  refine VC.region ?_
  refine V.assign rfl rfl rfl ?_
  refine V.nil ?_
  refine Post.nextC ?_
  refine VC.seq ?_
  refine VC.seq ?_
  refine VC.region ?_
  refine V.assign rfl rfl rfl ?_
  refine V.nil ?_
  refine Post.nextC ?_
  refine VC.block ?_
  refine VC.loop (σ := Nat) (fun i => [(0, st s), (3, .int .i64 ((dval (s.take i) : Nat) : Int)), (4, .int .i64 (i : Int))]) (fun i => R) (fun i => i ≤ s.length) (fun i => s.length - i) 0 (Nat.zero_le _) ?_ ?_ ?_
  · exact ⟨rfl, rfl, rfl, trivial⟩
  · repeat' constructor
  intro i hi
  refine VC.seq ?_
  refine VC.seq ?_
  refine VC.region ?_
  refine V.move rfl rfl rfl ?_
  refine V.move rfl rfl rfl ?_
  refine V.lenSt rfl rfl rfl ?_
  refine V.bin rfl rfl rfl rfl (bin_lss _ _ _) ?_
  refine V.nil ?_
  refine Post.nextC ?_
  refine VC.cond rfl (fun h1 => ?_) (fun h1 => ?_)
  · try simp only [decide_eq_true_eq, decide_eq_false_iff_not, Bool.not_eq_true', Bool.not_eq_false', Bool.not_eq_eq_eq_not, Bool.not_true, Bool.not_false, beq_iff_eq, beq_eq_false_iff_ne, ne_eq, Int.not_lt, Int.not_le, Option.isSome_some, Option.isNone_none, Option.isSome_none, Option.isNone_some, Classical.not_not] at h1
    refine VC.skip ?_
    refine Post.nextC ?_
    refine VC.seq ?_
    refine VC.block ?_
    refine VC.region ?_
    refine V.move rfl rfl rfl ?_
    refine V.bin rfl rfl rfl rfl (bin_mulI (x := 10) (y := ((dval (s.take i) : Nat) : Int)) (by have := dval_lt (s.take i) (fun c hc => hd c (List.mem_of_mem_take hc)); have h9 := Nat.pow_le_pow_right (n := 10) (by omega) (show (s.take i).length ≤ 9 by rw [List.length_take]; omega); omega)) ?_
    refine V.move rfl rfl rfl ?_
    refine V.move rfl rfl rfl ?_
    obtain ⟨c, hc⟩ := getc (t := s) (i := i) (by assumption)
    have hdig := hd c (List.mem_of_getElem? hc)
    simp [digit] at hdig
    have hstep : dval (s.take (i + 1)) = 10 * dval (s.take i) + (c.toNat - 48) := by
      rw [List.take_add_one, hc]
      exact dval_snoc _ _
    have hlt : dval (s.take i) < 1000000000 := by
      have h1 := dval_lt (s.take i) (fun c hc => hd c (List.mem_of_mem_take hc))
      exact Nat.lt_of_lt_of_le h1 (Nat.pow_le_pow_right (n := 10) (by omega) (show _ ≤ 9 by rw [List.length_take]; omega))
    refine V.indexSt (i := i) (c := c) rfl rfl rfl rfl hc ?_
    refine V.bin rfl rfl rfl rfl (bin_sub .u8 (c.toNat : Int) 48 (IntWalk.u8_in _ (by omega))) ?_
    refine V.conv _ rfl rfl rfl (IntWalk.i64_in _ (by omega)) ?_
    refine V.bin rfl rfl rfl rfl (bin_addI (by omega)) ?_
    refine V.know (t := 18) (y := .int .i64 ((dval (s.take (i + 1)) : Nat) : Int)) rfl (by rw [hstep]; congr 1; omega) ?_
    refine V.assign rfl rfl rfl ?_
    refine V.nil ?_
    refine Post.blockNormal (Post.nextC ?_)
    refine VC.region ?_
    refine V.move rfl rfl rfl ?_
    refine V.bin rfl rfl rfl rfl (bin_addI (by omega)) ?_
    refine V.assign rfl rfl rfl ?_
    refine V.nil ?_
    refine Post.round (i + 1) ?_ ?_ ?_ ?_
    · omega
    · omega
    · exact ⟨rfl, rfl, rfl, trivial⟩
    · repeat' constructor
  · try simp only [decide_eq_true_eq, decide_eq_false_iff_not, Bool.not_eq_true', Bool.not_eq_false', Bool.not_eq_eq_eq_not, Bool.not_true, Bool.not_false, beq_iff_eq, beq_eq_false_iff_ne, ne_eq, Int.not_lt, Int.not_le, Option.isSome_some, Option.isNone_none, Option.isSome_none, Option.isNone_some, Classical.not_not] at h1
    refine VC.exit ?_
    refine Post.thenExit (Post.thenExit (Post.blockHit (Post.nextC ?_)))
    refine VC.seq ?_
    refine VC.region ?_
    refine V.move rfl rfl rfl ?_
    refine V.assign rfl rfl rfl ?_
    refine V.nil ?_
    refine Post.nextC ?_
    refine VC.ret ?_
    apply Post.ret1 rfl rfl 
    · obtain rfl : i = s.length := by omega
      exact ⟨by rw [List.take_length], rfl⟩
    · repeat' constructor

theorem c23 {w0 : World} {x : Tok} {t : List UInt8} : CtR Pg w0 23 #[tokV x, st t] [] (fun v H => v = .bool (isWord x t) ∧ H = []) := by
  refine Ct.of_body Go.Proofs.Tryd.func23 rfl 14 rfl rfl (fun R => ?_)
  refine VC.seq ?_
  refine VC.region ?_
  refine V.box rfl rfl rfl rfl (fun b1 => ?_)
  refine V.assign rfl rfl rfl ?_
  refine V.nil ?_
  refine Post.nextC ?_
  refine VC.seq ?_
  refine VC.region ?_
  refine V.fieldAddr 0 3 rfl rfl rfl rfl rfl ?_
  apply V.loadL rfl rfl rfl rfl
  · repeat' constructor
  · repeat' constructor
  refine V.bin rfl rfl rfl rfl (bin_eql _ _ _) ?_
  refine V.move rfl rfl rfl ?_
  refine V.split (t := 8) rfl (fun h1 => ?_) (fun h1 => ?_)
  · try simp only [decide_eq_true_eq, decide_eq_false_iff_not, Bool.not_eq_true', Bool.not_eq_false', Bool.not_eq_eq_eq_not, Bool.not_true, Bool.not_false, beq_iff_eq, beq_eq_false_iff_ne, ne_eq, Int.not_lt, Int.not_le, Option.isSome_some, Option.isNone_none, Option.isSome_none, Option.isNone_some, Classical.not_not] at h1
    refine V.fieldAddr 1 9 rfl rfl rfl rfl rfl ?_
    apply V.loadL rfl rfl rfl rfl
    · repeat' constructor
    · repeat' constructor
    refine V.move rfl rfl rfl ?_
    refine V.bin rfl rfl rfl rfl (bin_steql _ _) ?_
    refine V.pickT rfl rfl rfl rfl ?_
    refine V.assign rfl rfl rfl ?_
    refine V.nil ?_
    refine Post.nextC ?_
    refine VC.ret ?_
    apply Post.ret1 rfl rfl 
    · refine ⟨?_, rfl⟩
      congr 1
      simp_all [isWord]
    · repeat' constructor
  · try simp only [decide_eq_true_eq, decide_eq_false_iff_not, Bool.not_eq_true', Bool.not_eq_false', Bool.not_eq_eq_eq_not, Bool.not_true, Bool.not_false, beq_iff_eq, beq_eq_false_iff_ne, ne_eq, Int.not_lt, Int.not_le, Option.isSome_some, Option.isNone_none, Option.isSome_none, Option.isNone_some, Classical.not_not] at h1
    refine V.skip rfl rfl ?_
    refine V.skip rfl rfl ?_
    refine V.skip rfl rfl ?_
    refine V.skip rfl rfl ?_
    refine V.pickF rfl rfl rfl rfl ?_
    refine V.assign rfl rfl rfl ?_
    refine V.nil ?_
    refine Post.nextC ?_
    refine VC.ret ?_
    apply Post.ret1 rfl rfl 
    · refine ⟨?_, rfl⟩
      congr 1
      simp_all [isWord]
    · repeat' constructor

theorem c25 {w0 : World} {x : Tok} : CtR Pg w0 25 #[tokV x] [] (fun v H => v = fau (3, x.line, x.col) ∧ H = []) := by
  refine Ct.of_body Go.Proofs.Tryd.func25 rfl 8 rfl rfl (fun R => ?_)
  refine VC.seq ?_
  refine VC.region ?_
  refine V.box rfl rfl rfl rfl (fun b1 => ?_)
  refine V.alloc (l := [.int .i64 0, .int .i64 0, .int .i64 0]) rfl rfl rfl (fun b2 => ?_)
  refine V.nil ?_
  refine Post.nextC ?_
  refine VC.seq ?_
  refine VC.region ?_
  refine V.fieldAddr 3 3 rfl rfl rfl rfl rfl ?_
  apply V.loadL rfl rfl rfl rfl
  · repeat' constructor
  · repeat' constructor
  refine V.fieldAddr 4 3 rfl rfl rfl rfl rfl ?_
  apply V.loadL rfl rfl rfl rfl
  · repeat' constructor
  · repeat' constructor
  refine V.buildS [(0, _), (1, _), (2, _)] (l := [_, _, _]) rfl rfl rfl rfl rfl ?_
  apply V.storeAll rfl rfl rfl rfl
  · repeat' constructor
  · exact rfl
  · exact rfl
  refine V.nil ?_
  refine Post.nextC ?_
  refine VC.ret ?_
  apply Post.retCell rfl rfl rfl
  · repeat' constructor
  · rfl
  · exact ⟨rfl, rfl⟩
  · repeat' constructor

theorem c43 {w0 : World} {a b c : Int} : CtR Pg w0 43 #[.int .i64 a, .int .i64 b, .int .i64 c] [] (fun v H => v = fau (a, b, c) ∧ H = []) := by
  refine Ct.of_body Go.Proofs.Tryd.func43 rfl 11 rfl rfl (fun R => ?_)
  refine VC.seq ?_
  refine VC.region ?_
  refine V.alloc (l := [.int .i64 0, .int .i64 0, .int .i64 0]) rfl rfl rfl (fun b1 => ?_)
  refine V.nil ?_
  refine Post.nextC ?_
  refine VC.seq ?_
  refine VC.region ?_
  refine V.move rfl rfl rfl ?_
  refine V.move rfl rfl rfl ?_
  refine V.move rfl rfl rfl ?_
  refine V.buildS [(0, _), (1, _), (2, _)] (l := [_, _, _]) rfl rfl rfl rfl rfl ?_
  apply V.storeAll rfl rfl rfl rfl
  · repeat' constructor
  · exact rfl
  · exact rfl
  refine V.nil ?_
  refine Post.nextC ?_
  refine VC.ret ?_
  apply Post.retCell rfl rfl rfl
  · repeat' constructor
  · rfl
  · exact ⟨rfl, rfl⟩
  · repeat' constructor

end Go.Proofs.Ln
