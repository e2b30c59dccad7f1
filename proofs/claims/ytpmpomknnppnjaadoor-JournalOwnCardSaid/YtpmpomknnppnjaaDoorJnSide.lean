/- Contracts of functions of the given program, each proved by walking its code: part of the proof of this claim; no condition beyond those that each theorem names. -/
import Derived.Test.YtpmpomknnppnjaaDoorJnOpen
set_option linter.unusedVariables false
set_option linter.unusedSimpArgs false
namespace Go.Proofs.Jn
open Go Go.RowKit Go.Proofs.Eng
theorem RdL.mono {w0 : World} {c c' : Chunk} {vs : List Value} {rs : List Bytes} (h : RdL w0 c vs rs) (hs : c ⊆ c') : RdL w0 c' vs rs :=
  ⟨h.1, fun i v r h1 h2 => (h.2 i v r h1 h2).mono hs⟩
theorem RdL.nil (w0 : World) : RdL w0 [] [] [] := ⟨rfl, fun i v r h => by simp at h⟩
theorem RdL.snoc {w0 : World} {c c1 : Chunk} {vs : List Value} {rs : List Bytes} {v : Value} {r : Bytes} (h : RdL w0 c vs rs) (h1 : Rd w0 c1 1 v r.length (r.map byv)) : RdL w0 (c ++ c1) (vs ++ [v]) (rs ++ [r]) := by
  refine ⟨by simp [h.1], fun i u q hu hq => ?_⟩
  have hl := h.1
  rcases Nat.lt_or_ge i vs.length with hlt | hge
  · rw [List.getElem?_append_left hlt] at hu
    rw [List.getElem?_append_left (by omega)] at hq
    exact (h.2 i u q hu hq).mono (fun x hx => List.mem_append_left _ hx)
  · rw [List.getElem?_append_right hge] at hu
    rw [List.getElem?_append_right (by omega), ← hl] at hq
    have h0 : i - vs.length = 0 := by
      rcases Nat.eq_zero_or_pos (i - vs.length) with h | h
      · exact h
      · rw [List.getElem?_eq_none (by simp; omega)] at hu; cases hu
    rw [h0] at hu hq
    simp at hu hq
    subst hu hq
    exact h1.mono (fun x hx => List.mem_append_right _ hx)
theorem Rd.one {w0 : World} {c : Chunk} {k n : Nat} {v : Value} {l : List Value} (h : Rd w0 c k v n l) : v.oneCell' = true := by
  obtain ⟨_, _, rfl, _⟩ := h
  rfl
theorem take_step {rs1 rs2 : List Bytes} {i : Nat} {r1 r2 : Bytes} (h : rs1.take i = rs2.take i) (h1 : rs1[i]? = some r1) (h2 : rs2[i]? = some r2) (he : r1 = r2) : rs1.take (i + 1) = rs2.take (i + 1) := by
  rw [List.take_add_one, List.take_add_one, h, h1, h2, he]

theorem c11 {w0 : World} {c : Chunk} {va vb : Value} {n m : Nat} {vsA vsB : List Value} {rsA rsB : List Bytes} (ha : Rd w0 c 1 va n vsA) (hA : RdL w0 c vsA rsA) (hb : Rd w0 c 1 vb m vsB) (hB : RdL w0 c vsB rsB) : CtR Pg w0 11 #[va, vb] [c] (fun v H => v = .bool (decide (rsA = rsB)) ∧ H = [c]) := by
  obtain ⟨aa, ca, rfl, ha1, ha2, ha3, ha4⟩ := id ha
  obtain ⟨ab, cb, rfl, hb1, hb2, hb3, hb4⟩ := id hb
  have hla := hA.1
  have hlb := hB.1
  have hn63 : n ≤ 9223372036854775807 := by simp only [maxLen] at ha2; omega
  refine Ct.of_body Go.Proofs.Tryd.func11 rfl 28 rfl rfl (fun R => ?_)
  refine VC.seq ?_
  refine VC.region ?_
  refine V.assign rfl rfl rfl ?_
  refine V.nil ?_
  refine Post.nextC ?_
  refine VC.seq ?_
  refine VC.seq ?_
  refine VC.region ?_
  refine V.move rfl rfl rfl ?_
  refine V.len rfl rfl rfl ?_
  refine V.move rfl rfl rfl ?_
  refine V.len rfl rfl rfl ?_
  refine V.bin rfl rfl rfl rfl (bin_neq _ _ _) ?_
  refine V.nil ?_
  refine Post.nextC ?_
  refine VC.cond rfl (fun h1 => ?_) (fun h1 => ?_)
  · try simp only [decide_eq_true_eq, decide_eq_false_iff_not, Bool.not_eq_true', Bool.not_eq_false', Bool.not_eq_eq_eq_not, Bool.not_true, Bool.not_false, beq_iff_eq, beq_eq_false_iff_ne, ne_eq, Int.not_lt, Int.not_le, Option.isSome_some, Option.isNone_none, Option.isSome_none, Option.isNone_some] at h1
    refine VC.seq ?_
    refine VC.region ?_
    have hres : ¬ rsA = rsB := fun h => by subst h; omega
    refine V.assign rfl rfl rfl ?_
    refine V.nil ?_
    refine Post.nextC ?_
    refine VC.ret ?_
    refine Post.thenRet (?_)
    apply Post.ret1 rfl rfl 
    · exact ⟨by simp [hres], rfl⟩
    · repeat' constructor
  · try simp only [decide_eq_true_eq, decide_eq_false_iff_not, Bool.not_eq_true', Bool.not_eq_false', Bool.not_eq_eq_eq_not, Bool.not_true, Bool.not_false, beq_iff_eq, beq_eq_false_iff_ne, ne_eq, Int.not_lt, Int.not_le, Option.isSome_some, Option.isNone_none, Option.isSome_none, Option.isNone_some] at h1
    refine VC.skip ?_
    refine Post.nextC ?_
    refine VC.seq ?_
    refine VC.seq ?_
    refine VC.region ?_
    refine V.assign rfl rfl rfl ?_
    refine V.nil ?_
    refine Post.nextC ?_
    refine VC.block ?_
    refine VC.loop (σ := Nat) (fun i => [(0, .slice aa n ca), (1, .slice ab m cb), (5, .int .i64 (i : Int))]) (fun i => c :: R) (fun i => i ≤ n ∧ rsA.take i = rsB.take i) (fun i => n - i) 0 ⟨Nat.zero_le _, rfl⟩ ?_ ?_ ?_
    · exact ⟨rfl, rfl, rfl, trivial⟩
    · repeat' constructor
    rintro i ⟨hi1, hi2⟩
    refine VC.seq ?_
    refine VC.seq ?_
    refine VC.region ?_
    refine V.move rfl rfl rfl ?_
    refine V.move rfl rfl rfl ?_
    refine V.len rfl rfl rfl ?_
    refine V.bin rfl rfl rfl rfl (bin_lss _ _ _) ?_
    refine V.nil ?_
    refine Post.nextC ?_
    refine VC.cond rfl (fun h2 => ?_) (fun h2 => ?_)
    · try simp only [decide_eq_true_eq, decide_eq_false_iff_not, Bool.not_eq_true', Bool.not_eq_false', Bool.not_eq_eq_eq_not, Bool.not_true, Bool.not_false, beq_iff_eq, beq_eq_false_iff_ne, ne_eq, Int.not_lt, Int.not_le, Option.isSome_some, Option.isNone_none, Option.isSome_none, Option.isNone_some] at h2
      refine VC.skip ?_
      refine Post.nextC ?_
      refine VC.seq ?_
      refine VC.block ?_
      refine VC.seq ?_
      refine VC.draw mixed (by kernel_rfl) ?_
      obtain ⟨ga, oa, rfl, hca⟩ : ∃ b o, aa = some ⟨b, o, none⟩ ∧ ∀ j u, vsA[j]? = some u → Cel w0 c ⟨b, o + j, none⟩ u := by
        rcases ha4 with h | h
        · subst h; simp at ha3; omega
        · exact h
      obtain ⟨gb, ob, rfl, hcb⟩ : ∃ b o, ab = some ⟨b, o, none⟩ ∧ ∀ j u, vsB[j]? = some u → Cel w0 c ⟨b, o + j, none⟩ u := by
        rcases hb4 with h | h
        · subst h; simp at hb3; omega
        · exact h
      obtain ⟨xa, hxa⟩ : ∃ x, vsA[i]? = some x := ⟨vsA[i]'(by omega), by simp⟩
      obtain ⟨xb, hxb⟩ : ∃ x, vsB[i]? = some x := ⟨vsB[i]'(by omega), by simp⟩
      obtain ⟨ra, hra⟩ : ∃ x, rsA[i]? = some x := ⟨rsA[i]'(by omega), by simp⟩
      obtain ⟨rb, hrb⟩ : ∃ x, rsB[i]? = some x := ⟨rsB[i]'(by omega), by simp⟩
      have hcela := hca i _ hxa
      have hcelb := hcb i _ hxb
      have hrda := hA.2 i _ _ hxa hra
      have hrdb := hB.2 i _ _ hxb hrb
      refine V.move rfl rfl rfl ?_
      refine V.move rfl rfl rfl ?_
      refine V.indexO (i := i) rfl rfl rfl rfl (by omega) ?_
      rw [Nat.mul_one]
      apply V.loadC rfl rfl rfl rfl
      · repeat' constructor
      · assumption
      apply V.str rfl rfl rfl (.inr ?hq) (hr := hrda)
      case hq => repeat' constructor
      refine V.move rfl rfl rfl ?_
      refine V.move rfl rfl rfl ?_
      refine V.indexO (i := i) rfl rfl rfl rfl (by omega) ?_
      rw [Nat.mul_one]
      apply V.loadC rfl rfl rfl rfl
      · repeat' constructor
      · assumption
      apply V.str rfl rfl rfl (.inr ?hq) (hr := hrdb)
      case hq => repeat' constructor
      refine V.bin rfl rfl rfl rfl (bin_sneq _ _) ?_
      refine V.nil ?_
      refine Post.nextC ?_
      refine VC.cond rfl (fun h3 => ?_) (fun h3 => ?_)
      · try simp only [decide_eq_true_eq, decide_eq_false_iff_not, Bool.not_eq_true', Bool.not_eq_false', Bool.not_eq_eq_eq_not, Bool.not_true, Bool.not_false, beq_iff_eq, beq_eq_false_iff_ne, ne_eq, Int.not_lt, Int.not_le, Option.isSome_some, Option.isNone_none, Option.isSome_none, Option.isNone_some] at h3
        refine VC.seq ?_
        refine VC.region ?_
        have hres : ¬ rsA = rsB := fun h => by
          subst h
          rw [hra] at hrb
          simp only [Option.some.injEq] at hrb
          subst hrb
          exact h3 rfl
        refine V.assign rfl rfl rfl ?_
        refine V.nil ?_
        refine Post.nextC ?_
        refine VC.ret ?_
        refine Post.blockRet (Post.thenRet (Post.thenRet (Post.blockRet (Post.thenRet (?_)))))
        apply Post.ret1 rfl rfl 
        · exact ⟨by simp [hres], rfl⟩
        · repeat' constructor
      · try simp only [decide_eq_true_eq, decide_eq_false_iff_not, Bool.not_eq_true', Bool.not_eq_false', Bool.not_eq_eq_eq_not, Bool.not_true, Bool.not_false, beq_iff_eq, beq_eq_false_iff_ne, ne_eq, Int.not_lt, Int.not_le, Option.isSome_some, Option.isNone_none, Option.isSome_none, Option.isNone_some] at h3
        refine VC.skip ?_
        refine Post.blockNormal (Post.nextC ?_)
        refine VC.region ?_
        refine V.move rfl rfl rfl ?_
        refine V.bin rfl rfl rfl rfl (bin_addI (by omega)) ?_
        refine V.assign rfl rfl rfl ?_
        refine V.nil ?_
        refine Post.round (i + 1) ?_ ?_ ?_ ?_
        · exact ⟨by omega, take_step hi2 hra hrb (by simpa using h3)⟩
        · omega
        · exact ⟨rfl, rfl, rfl, trivial⟩
        · repeat' constructor
    · try simp only [decide_eq_true_eq, decide_eq_false_iff_not, Bool.not_eq_true', Bool.not_eq_false', Bool.not_eq_eq_eq_not, Bool.not_true, Bool.not_false, beq_iff_eq, beq_eq_false_iff_ne, ne_eq, Int.not_lt, Int.not_le, Option.isSome_some, Option.isNone_none, Option.isSome_none, Option.isNone_some] at h2
      refine VC.exit ?_
      refine Post.thenExit (Post.thenExit (Post.blockHit (Post.nextC ?_)))
      refine VC.seq ?_
      refine VC.region ?_
      have hres : rsA = rsB := by
        rw [List.take_of_length_le (by omega), List.take_of_length_le (by omega)] at hi2
        exact hi2
      refine V.assign rfl rfl rfl ?_
      refine V.nil ?_
      refine Post.nextC ?_
      refine VC.ret ?_
      apply Post.ret1 rfl rfl 
      · exact ⟨by simp [hres], rfl⟩
      · repeat' constructor

end Go.Proofs.Jn
