/- Contracts of functions of the given program, each proved by walking its code: part of the proof of this claim; no condition beyond those that each theorem names. -/
import Derived.Test.YtfclhhhnngkdlaaDoorLnRef1
set_option linter.unusedVariables false
set_option linter.unusedSimpArgs false
namespace Go.Proofs.Ln
open Go Go.RowKit Go.Proofs.Eng
/-- where the reference's scanner stands: at byte i, the line's first byte at fr -/
abbrev At (t : List UInt8) (i : Nat) (line : Int) (fr : Nat) (any : Bool) (l : List Tok) : Sc := ⟨t.drop i, line, (i : Int) - fr + 1, any, l⟩
theorem At.pass {t : List UInt8} {i k fr : Nat} {line : Int} {any : Bool} {l : List Tok} (h : i ≤ k) : (At t i line fr any l).pass (k - i) = At t k line fr any l := by
  simp only [Sc.pass, List.drop_drop]
  rw [show i + (k - i) = k by omega, show (i : Int) - fr + 1 + ((k - i : Nat) : Int) = (k : Int) - fr + 1 by omega]
theorem At.tell {t : List UInt8} {i k fr : Nat} {line kind num : Int} {any : Bool} {l : List Tok} (h : i ≤ k) : (At t i line fr any l).tell kind (k - i) num = At t k line fr true (l ++ [⟨kind, (t.take k).drop i, num, line, (i : Int) - fr + 1⟩]) := by
  simp only [Sc.tell, List.drop_drop, List.drop_take]
  rw [show i + (k - i) = k by omega, show (i : Int) - fr + 1 + ((k - i : Nat) : Int) = (k : Int) - fr + 1 by omega]
theorem At.ends {t : List UInt8} {i fr : Nat} {line : Int} {any : Bool} {l : List Tok} : (At t i line fr any l).ends = At t (i + 1) (line + 1) (i + 1) false (if any then l ++ [⟨4, [], 0, line, (i : Int) - fr + 1⟩] else l) := by
  simp only [Sc.ends, List.drop_drop, At]
  rw [show ((i + 1 : Nat) : Int) - ((i + 1 : Nat) : Int) + 1 = 1 by omega]
theorem ScI.moved {t : List UInt8} {s s' : Sc} {v v' : Value} {c c' : Chunk} {a : UInt8} {r : List UInt8} (h : ScI t s v c) (ht : s.t = a :: r) (hs : s.step a = (s', 0)) (ho : Own 41 5 c' v' s'.l.length (toks s'.l)) : ScI t s' v' c' := by
  have := h.next ht (by rw [hs]) (by rw [hs]; exact ho)
  rw [hs] at this
  exact this.1
theorem ScI.badly {t : List UInt8} {s s' : Sc} {v : Value} {c : Chunk} {a : UInt8} {r : List UInt8} {e : Int} (h : ScI t s v c) (ht : s.t = a :: r) (hs : s.step a = (s', e)) (he : e ≠ 0) (hl : t.length ≤ 65536) : scan t = ([], e, s'.line, s'.col) := by
  have := h.bad ht (by rw [hs]; exact he) hl
  rw [hs] at this
  exact this
/-- the bytes from i to k are of a kind -/
structure Span (t : List UInt8) (p : UInt8 → Bool) (i k : Nat) : Prop where
  lt : i < k
  le : k ≤ t.length
  eq : ((t.drop i).takeWhile p).length = (k - i) + ((t.drop k).takeWhile p).length
theorem Span.start {t : List UInt8} {p : UInt8 → Bool} {i : Nat} {c : UInt8} (hc : t[i]? = some c) (hp : p c = true) : Span t p i (i + 1) := by
  have h := (List.getElem?_eq_some_iff.1 hc).1
  refine ⟨by omega, by omega, ?_⟩
  rw [drop_cons hc, List.takeWhile_cons_of_pos hp, List.length_cons]
  omega
theorem Span.next {t : List UInt8} {p : UInt8 → Bool} {i k : Nat} {d : UInt8} (h : Span t p i k) (hd : t[k]? = some d) (hp : p d = true) : Span t p i (k + 1) := by
  obtain ⟨h1, h2, h3⟩ := h
  have hk := (List.getElem?_eq_some_iff.1 hd).1
  refine ⟨by omega, by omega, ?_⟩
  rw [h3, drop_cons hd, List.takeWhile_cons_of_pos hp, List.length_cons]
  omega
theorem Span.done {t : List UInt8} {p : UInt8 → Bool} {i k : Nat} (h : Span t p i k) (he : (t.length : Int) ≤ k ∨ ∃ d, t[k]? = some d ∧ p d = false) : ((t.drop i).takeWhile p).length = k - i := by
  obtain ⟨h1, h2, h3⟩ := h
  rw [h3]
  rcases he with he | ⟨d, hd, hp⟩
  · rw [List.drop_of_length_le (by omega)]
    simp
  · rw [drop_cons hd, List.takeWhile_cons_of_neg (by simp [hp])]
    simp
theorem span_text {t : List UInt8} {i k : Nat} (hn : ((t.drop i).takeWhile digit).length = k - i) : (t.take k).drop i = (t.drop i).takeWhile digit := by
  rw [List.drop_take, ← hn, take_takeWhile]
theorem numb_of {t : List UInt8} {i k : Nat} (hn : ((t.drop i).takeWhile digit).length = k - i) : numb (t.drop i) = if bad (t.drop i) (k - i) then (0, 0) else (k - i, dval ((t.take k).drop i)) := by
  rw [span_text hn, numb, hn]
theorem numb_no1 {t : List UInt8} {i k : Nat} (hn : ((t.drop i).takeWhile digit).length = k - i) (h : rightNum ((t.take k).drop i) = false) : (numb (t.drop i)).1 = 0 := by
  rw [numb_of hn]
  by_cases hb : bad (t.drop i) (k - i) = true
  · rw [if_pos hb]
  · exfalso
    have hb' : bad (t.drop i) (k - i) = false := by simpa using hb
    unfold bad at hb'
    simp only [Bool.or_eq_false_iff, Bool.and_eq_false_iff, decide_eq_false_iff_not] at hb'
    obtain ⟨⟨⟨h0, h9⟩, h1⟩, _⟩ := hb'
    have hl : ((t.take k).drop i).length = k - i := by rw [span_text hn, hn]
    have hall : ∀ c ∈ (t.take k).drop i, digit c = true := by rw [span_text hn]; exact all_takeWhile _ _
    have hy : rightNum ((t.take k).drop i) = true := by
      refine rightNum_yes (by omega) (by omega) ?_ hall
      rcases h1 with h1 | h1
      · left; omega
      · right
        obtain ⟨c, hc⟩ := get0 (t := (t.take k).drop i) (by omega)
        refine ⟨c, hc, fun e => h1 ?_⟩
        have h2 : (t.drop i)[0]? = some c := by
          rw [List.drop_take, List.getElem?_take] at hc
          split at hc
          · exact hc
          · cases hc
        rw [h2]
        exact congrArg some (UInt8.toNat_inj.1 (by simpa using e))
    rw [h] at hy
    cases hy
theorem numb_no2 {t : List UInt8} {i k : Nat} {d : UInt8} (hn : ((t.drop i).takeWhile digit).length = k - i) (hik : i < k) (hd : t[k]? = some d) (h : small d = true ∨ (d.toNat : Int) = 45) : (numb (t.drop i)).1 = 0 := by
  rw [numb_of hn, if_pos]
  have hk := (List.getElem?_eq_some_iff.1 hd).1
  refine bad4 (c := d) (by rw [List.length_drop]; omega) (by rw [List.getElem?_drop, show i + (k - i) = k by omega]; exact hd) ?_
  rcases h with h | h
  · simp [inName, h]
  · simp only [inName, Bool.or_eq_true, decide_eq_true_eq]
    right
    omega
theorem numb_yes {t : List UInt8} {i k : Nat} (hn : ((t.drop i).takeWhile digit).length = k - i) (hik : i < k) (h : rightNum ((t.take k).drop i) = true) (he : (t.length : Int) ≤ k ∨ ∃ d, t[k]? = some d ∧ digit d = false ∧ small d = false ∧ ¬ (d.toNat : Int) = 45) :
    numb (t.drop i) = (k - i, dval ((t.take k).drop i)) := by
  have hl : ((t.take k).drop i).length = k - i := by rw [span_text hn, hn]
  obtain ⟨h1, h9, _⟩ := rightNum_spec h
  rw [numb_of hn, if_neg]
  have := good (t := t.drop i) (m := k - i) (by omega) (by omega) (by
    by_cases e : ((k - i : Nat) : Int) ≤ 1
    · exact .inl e
    · right
      have hr := h
      unfold rightNum at hr
      simp only [Bool.and_eq_true, Bool.or_eq_true, decide_eq_true_eq] at hr
      obtain ⟨c, hc⟩ := get0 (t := (t.take k).drop i) (by omega)
      have h2 : (t.drop i)[0]? = some c := by
        have hc' := hc
        rw [List.drop_take, List.getElem?_take] at hc'
        split at hc'
        · exact hc'
        · cases hc'
      refine ⟨c, h2, fun e48 => ?_⟩
      rcases hr.1.2 with h3 | h3
      · omega
      · exact h3 (by rw [hc]; exact congrArg some (UInt8.toNat_inj.1 (by simpa using (by omega : c.toNat = 48))))) (by
    rcases he with he | ⟨d, hd, h2, h3, h4⟩
    · left; rw [List.length_drop]; omega
    · right
      refine ⟨d, by rw [List.getElem?_drop, show i + (k - i) = k by omega]; exact hd, ?_⟩
      simp only [inName, h2, h3, Bool.or_false, Bool.false_or, decide_eq_false_iff_not]
      omega)
  simp [this]

theorem c21 {w0 : World} {t : List UInt8} : CtR Pg w0 21 #[st t] [] (fun u H => ∃ v1 c1, Own 41 5 c1 v1 (scan t).1.length (toks (scan t).1) ∧ u = .tuple #[v1, fau (scan t).2] ∧ H = [c1]) := by
  refine Ct.of_body Go.Proofs.Tryd.func21 rfl 183 rfl rfl (fun R => ?_)
  refine VC.seq ?_
  refine VC.region ?_
  refine V.assign rfl rfl rfl ?_
  refine V.alloc (l := [.int .i64 0, .int .i64 0, .int .i64 0]) rfl rfl rfl (fun b1 => ?_)
  refine V.nil ?_
  refine Post.nextC ?_
  refine VC.seq ?_
  refine VC.seq ?_
  refine VC.region ?_
  refine V.move rfl rfl rfl ?_
  refine V.lenSt rfl rfl rfl ?_
  refine V.bin rfl rfl rfl rfl (bin_gtr _ _ _) ?_
  refine V.nil ?_
  refine Post.nextC ?_
  refine VC.cond rfl (fun h1 => ?_) (fun h1 => ?_)
  · try simp only [decide_eq_true_eq, decide_eq_false_iff_not, Bool.not_eq_true', Bool.not_eq_false', Bool.not_eq_eq_eq_not, Bool.not_true, Bool.not_false, beq_iff_eq, beq_eq_false_iff_ne, ne_eq, Int.not_lt, Int.not_le, Option.isSome_some, Option.isNone_none, Option.isSome_none, Option.isNone_some, Classical.not_not] at h1
    refine VC.seq ?_
    refine VC.region ?_
    apply V.call rfl rfl rfl (hc := c43)
    · repeat' constructor
    rintro vq Ho ⟨rfl, rfl⟩
    refine V.assign rfl rfl rfl ?_
    apply V.storeAll rfl rfl rfl rfl
    · repeat' constructor
    · exact rfl
    · exact rfl
    refine V.nil ?_
    refine Post.nextC ?_
    refine VC.ret ?_
    refine Post.thenRet (?_)
    apply Post.retV2 rfl (.tmp rfl) (.all rfl rfl (by repeat' constructor) (by exact rfl))
    · exact ⟨.slice none 0 0, [], by rw [scan_big (by omega)]; exact Own.nil _ _, by rw [scan_big (by omega)], rfl⟩
    · repeat' constructor
  · try simp only [decide_eq_true_eq, decide_eq_false_iff_not, Bool.not_eq_true', Bool.not_eq_false', Bool.not_eq_eq_eq_not, Bool.not_true, Bool.not_false, beq_iff_eq, beq_eq_false_iff_ne, ne_eq, Int.not_lt, Int.not_le, Option.isSome_some, Option.isNone_none, Option.isSome_none, Option.isNone_some, Classical.not_not] at h1
    refine VC.skip ?_
    refine Post.nextC ?_
    refine VC.seq ?_
    refine VC.region ?_
    refine V.assign rfl rfl rfl ?_
    refine V.nil ?_
    refine Post.nextC ?_
    refine VC.seq ?_
    refine VC.region ?_
    refine V.assign rfl rfl rfl ?_
    refine V.nil ?_
    refine Post.nextC ?_
    refine VC.seq ?_
    refine VC.region ?_
    refine V.assign rfl rfl rfl ?_
    refine V.nil ?_
    refine Post.nextC ?_
    refine VC.seq ?_
    refine VC.region ?_
    refine V.assign rfl rfl rfl ?_
    refine V.nil ?_
    refine Post.nextC ?_
    refine VC.seq ?_
    refine VC.region ?_
    refine V.assign rfl rfl rfl ?_
    refine V.nil ?_
    refine Post.nextC ?_
    refine VC.seq ?_
    refine VC.block ?_
    refine VC.loop (σ := (Nat) × (Int) × (Nat) × (Bool) × (List Tok) × (Value) × (Chunk)) (fun zz => [(0, st t), (3, pt b1), (4, zz.2.2.2.2.2.1), (5, .int .i64 zz.2.1), (6, .int .i64 (zz.2.2.1 : Int)), (7, .bool zz.2.2.2.1), (8, .int .i64 (zz.1 : Int))]) (fun zz => zz.2.2.2.2.2.2 :: [(b1, .cells #[.int .i64 0, .int .i64 0, .int .i64 0] 25 (0, 0))] :: R) (fun zz => (ScI t (At t zz.1 zz.2.1 zz.2.2.1 zz.2.2.2.1 zz.2.2.2.2.1) zz.2.2.2.2.2.1 zz.2.2.2.2.2.2) ∧ (zz.1 ≤ t.length) ∧ (zz.2.2.1 ≤ zz.1)) (fun zz => t.length - zz.1) (0, 1, 0, false, [], .slice none 0 0, []) (⟨ScI.start t, Nat.zero_le _, Nat.le_refl _⟩) ?_ ?_ ?_
    · exact ⟨rfl, rfl, rfl, rfl, rfl, rfl, rfl, trivial⟩
    · repeat' constructor
    rintro ⟨i, line, fr, any, l, v, c⟩ ⟨(hI : ScI t (At t i line fr any l) v c), (hi : i ≤ t.length), (hfr : fr ≤ i)⟩
    refine VC.sub (E' := [(0, st t), (3, pt b1), (4, v), (5, .int .i64 line), (6, .int .i64 (fr : Int)), (7, .bool any), (8, .int .i64 (i : Int))]) (H' := c :: [(b1, .cells #[.int .i64 0, .int .i64 0, .int .i64 0] 25 (0, 0))] :: R) ⟨rfl, rfl, rfl, rfl, rfl, rfl, rfl, trivial⟩ (by repeat' constructor) ?_
    obtain ⟨f1, f2, f3, f4, f5⟩ := hI.fits
    have hdl : (t.drop i).length = t.length - i := List.length_drop
    dsimp only [At] at f1 f2 f3 f4 f5
    have hO : Own 41 5 c v l.length (toks l) := hI.own
    refine VC.seq ?_
    refine VC.seq ?_
    refine VC.region ?_
    refine V.move rfl rfl rfl ?_
    refine V.move rfl rfl rfl ?_
    refine V.lenSt rfl rfl rfl ?_
    refine V.bin rfl rfl rfl rfl (bin_lss _ _ _) ?_
    refine V.nil ?_
    refine Post.nextC ?_
    refine VC.cond rfl (fun h2 => ?_) (fun h2 => ?_)
    · try simp only [decide_eq_true_eq, decide_eq_false_iff_not, Bool.not_eq_true', Bool.not_eq_false', Bool.not_eq_eq_eq_not, Bool.not_true, Bool.not_false, beq_iff_eq, beq_eq_false_iff_ne, ne_eq, Int.not_lt, Int.not_le, Option.isSome_some, Option.isNone_none, Option.isSome_none, Option.isNone_some, Classical.not_not] at h2
      refine VC.skip ?_
      refine Post.nextC ?_
      refine VC.block ?_
      refine VC.seq ?_
      refine VC.region ?_
      refine V.move rfl rfl rfl ?_
      refine V.move rfl rfl rfl ?_
      obtain ⟨a, ha⟩ := getc (t := t) (i := i) (by assumption)
      refine V.indexSt (i := i) (c := a) rfl rfl rfl rfl ha ?_
      refine V.assign rfl rfl rfl ?_
      refine V.nil ?_
      refine Post.nextC ?_
      refine VC.seq ?_
      refine VC.region ?_
      refine V.move rfl rfl rfl ?_
      refine V.move rfl rfl rfl ?_
      refine V.bin rfl rfl rfl rfl (bin_subI (by omega)) ?_
      refine V.bin rfl rfl rfl rfl (bin_addI (by omega)) ?_
      refine V.assign rfl rfl rfl ?_
      refine V.nil ?_
      refine Post.nextC ?_
      refine VC.seq ?_
      refine VC.region ?_
      refine V.move rfl rfl rfl ?_
      refine V.bin rfl rfl rfl rfl (bin_addI (by omega)) ?_
      refine V.know (t := 28) (y := .int .i64 ((i + 1 : Nat) : Int)) rfl (by first | rfl | (congr 1; omega)) ?_
      refine V.assign rfl rfl rfl ?_
      refine V.nil ?_
      refine Post.nextC ?_
      refine VC.seq ?_
      refine VC.block ?_
      refine VC.seq ?_
      refine VC.region ?_
      refine V.move rfl rfl rfl ?_
      refine V.bin rfl rfl rfl rfl (bin_eql _ _ _) ?_
      refine V.move rfl rfl rfl ?_
      refine V.split (t := 35) rfl (fun h3 => ?_) (fun h3 => ?_)
      · try simp only [decide_eq_true_eq, decide_eq_false_iff_not, Bool.not_eq_true', Bool.not_eq_false', Bool.not_eq_eq_eq_not, Bool.not_true, Bool.not_false, beq_iff_eq, beq_eq_false_iff_ne, ne_eq, Int.not_lt, Int.not_le, Option.isSome_some, Option.isNone_none, Option.isSome_none, Option.isNone_some, Classical.not_not] at h3
        refine V.skip rfl rfl ?_
        refine V.skip rfl rfl ?_
        refine V.pickT rfl rfl rfl rfl ?_
        refine V.assign rfl rfl rfl ?_
        refine V.nil ?_
        refine Post.nextC ?_
        refine VC.condT rfl ?_
        refine VC.skip ?_
        refine Post.blockNormal (Post.nextC ?_)
        refine VC.region ?_
        refine V.move rfl rfl rfl ?_
        refine V.assign rfl rfl rfl ?_
        refine V.nil ?_
        refine Post.blockNormal (Post.round (i + 1, line, fr, any, l, v, c) ?_ ?_ ?_ ?_)
        · show (ScI t (At t (i + 1) (line) (fr) (any) (l)) (v) (c)) ∧ ((i + 1) ≤ t.length) ∧ ((fr) ≤ (i + 1))
          exact ⟨hI.moved (drop_cons ha) (by rw [step1 (by omega), ← At.pass (i := i) (k := i + 1) (by omega), show i + 1 - i = 1 by omega]) hI.own, by omega, by omega⟩
        · show t.length - (i + 1) < t.length - i
          omega
        · exact ⟨rfl, rfl, rfl, rfl, rfl, rfl, rfl, trivial⟩
        · repeat' constructor
      · try simp only [decide_eq_true_eq, decide_eq_false_iff_not, Bool.not_eq_true', Bool.not_eq_false', Bool.not_eq_eq_eq_not, Bool.not_true, Bool.not_false, beq_iff_eq, beq_eq_false_iff_ne, ne_eq, Int.not_lt, Int.not_le, Option.isSome_some, Option.isNone_none, Option.isSome_none, Option.isNone_some, Classical.not_not] at h3
        refine V.move rfl rfl rfl ?_
        refine V.bin rfl rfl rfl rfl (bin_eql _ _ _) ?_
        refine V.pickF rfl rfl rfl rfl ?_
        refine V.assign rfl rfl rfl ?_
        refine V.nil ?_
        refine Post.nextC ?_
        refine VC.cond rfl (fun h4 => ?_) (fun h4 => ?_)
        · try simp only [decide_eq_true_eq, decide_eq_false_iff_not, Bool.not_eq_true', Bool.not_eq_false', Bool.not_eq_eq_eq_not, Bool.not_true, Bool.not_false, beq_iff_eq, beq_eq_false_iff_ne, ne_eq, Int.not_lt, Int.not_le, Option.isSome_some, Option.isNone_none, Option.isSome_none, Option.isNone_some, Classical.not_not] at h4
          refine VC.skip ?_
          refine Post.blockNormal (Post.nextC ?_)
          refine VC.region ?_
          refine V.move rfl rfl rfl ?_
          refine V.assign rfl rfl rfl ?_
          refine V.nil ?_
          refine Post.blockNormal (Post.round (i + 1, line, fr, any, l, v, c) ?_ ?_ ?_ ?_)
          · show (ScI t (At t (i + 1) (line) (fr) (any) (l)) (v) (c)) ∧ ((i + 1) ≤ t.length) ∧ ((fr) ≤ (i + 1))
            exact ⟨hI.moved (drop_cons ha) (by rw [step1 (by omega), ← At.pass (i := i) (k := i + 1) (by omega), show i + 1 - i = 1 by omega]) hI.own, by omega, by omega⟩
          · show t.length - (i + 1) < t.length - i
            omega
          · exact ⟨rfl, rfl, rfl, rfl, rfl, rfl, rfl, trivial⟩
          · repeat' constructor
        · try simp only [decide_eq_true_eq, decide_eq_false_iff_not, Bool.not_eq_true', Bool.not_eq_false', Bool.not_eq_eq_eq_not, Bool.not_true, Bool.not_false, beq_iff_eq, beq_eq_false_iff_ne, ne_eq, Int.not_lt, Int.not_le, Option.isSome_some, Option.isNone_none, Option.isSome_none, Option.isNone_some, Classical.not_not] at h4
          refine VC.seq ?_
          refine VC.region ?_
          refine V.move rfl rfl rfl ?_
          refine V.bin rfl rfl rfl rfl (bin_eql _ _ _) ?_
          refine V.assign rfl rfl rfl ?_
          refine V.nil ?_
          refine Post.nextC ?_
          refine VC.cond rfl (fun h5 => ?_) (fun h5 => ?_)
          · try simp only [decide_eq_true_eq, decide_eq_false_iff_not, Bool.not_eq_true', Bool.not_eq_false', Bool.not_eq_eq_eq_not, Bool.not_true, Bool.not_false, beq_iff_eq, beq_eq_false_iff_ne, ne_eq, Int.not_lt, Int.not_le, Option.isSome_some, Option.isNone_none, Option.isSome_none, Option.isNone_some, Classical.not_not] at h5
            refine VC.block ?_
            refine VC.loop (σ := Nat) (fun k => [(0, st t), (3, pt b1), (4, v), (5, .int .i64 line), (6, .int .i64 (fr : Int)), (7, .bool any), (8, .int .i64 (i : Int)), (9, .int .u8 (a.toNat : Int)), (10, .int .i64 ((i : Int) - fr + 1)), (11, .int .i64 (k : Int))]) (fun k => c :: [(b1, .cells #[.int .i64 0, .int .i64 0, .int .i64 0] 25 (0, 0))] :: R) (fun k => Span t (fun c => decide (c.toNat ≠ 10)) i k) (fun k => t.length - k) (i + 1) (Span.start ha (by simp; omega)) ?_ ?_ ?_
            · exact ⟨rfl, rfl, rfl, rfl, rfl, rfl, rfl, rfl, rfl, rfl, trivial⟩
            · repeat' constructor
            intro k hk
            have hk1 := hk.lt
            have hk2 := hk.le
            refine VC.seq ?_
            refine VC.seq ?_
            refine VC.region ?_
            refine V.move rfl rfl rfl ?_
            refine V.move rfl rfl rfl ?_
            refine V.lenSt rfl rfl rfl ?_
            refine V.bin rfl rfl rfl rfl (bin_lss _ _ _) ?_
            refine V.move rfl rfl rfl ?_
            refine V.split (t := 46) rfl (fun h6 => ?_) (fun h6 => ?_)
            · try simp only [decide_eq_true_eq, decide_eq_false_iff_not, Bool.not_eq_true', Bool.not_eq_false', Bool.not_eq_eq_eq_not, Bool.not_true, Bool.not_false, beq_iff_eq, beq_eq_false_iff_ne, ne_eq, Int.not_lt, Int.not_le, Option.isSome_some, Option.isNone_none, Option.isSome_none, Option.isNone_some, Classical.not_not] at h6
              refine V.move rfl rfl rfl ?_
              refine V.move rfl rfl rfl ?_
              obtain ⟨d, hd⟩ := getc (t := t) (i := k) (by assumption)
              refine V.indexSt (i := k) (c := d) rfl rfl rfl rfl hd ?_
              refine V.bin rfl rfl rfl rfl (bin_neq _ _ _) ?_
              refine V.pickT rfl rfl rfl rfl ?_
              refine V.nil ?_
              refine Post.nextC ?_
              refine VC.cond rfl (fun h7 => ?_) (fun h7 => ?_)
              · try simp only [decide_eq_true_eq, decide_eq_false_iff_not, Bool.not_eq_true', Bool.not_eq_false', Bool.not_eq_eq_eq_not, Bool.not_true, Bool.not_false, beq_iff_eq, beq_eq_false_iff_ne, ne_eq, Int.not_lt, Int.not_le, Option.isSome_some, Option.isNone_none, Option.isSome_none, Option.isNone_some, Classical.not_not] at h7
                refine VC.skip ?_
                refine Post.nextC ?_
                refine VC.block ?_
                refine VC.region ?_
                refine V.move rfl rfl rfl ?_
                refine V.bin rfl rfl rfl rfl (bin_addI (by omega)) ?_
                refine V.assign rfl rfl rfl ?_
                refine V.nil ?_
                refine Post.blockNormal (Post.round (k + 1) ?_ ?_ ?_ ?_)
                · exact hk.next hd (by simp; omega)
                · show t.length - (k + 1) < t.length - k
                  omega
                · exact ⟨rfl, rfl, rfl, rfl, rfl, rfl, rfl, rfl, rfl, rfl, trivial⟩
                · repeat' constructor
              · try simp only [decide_eq_true_eq, decide_eq_false_iff_not, Bool.not_eq_true', Bool.not_eq_false', Bool.not_eq_eq_eq_not, Bool.not_true, Bool.not_false, beq_iff_eq, beq_eq_false_iff_ne, ne_eq, Int.not_lt, Int.not_le, Option.isSome_some, Option.isNone_none, Option.isSome_none, Option.isNone_some, Classical.not_not] at h7
                refine VC.exit ?_
                refine Post.thenExit (Post.thenExit (Post.blockHit (Post.blockNormal (Post.nextC ?_))))
                refine VC.region ?_
                refine V.move rfl rfl rfl ?_
                refine V.assign rfl rfl rfl ?_
                refine V.nil ?_
                refine Post.blockNormal (Post.round (k, line, fr, any, l, v, c) ?_ ?_ ?_ ?_)
                · show (ScI t (At t (k) (line) (fr) (any) (l)) (v) (c)) ∧ ((k) ≤ t.length) ∧ ((fr) ≤ (k))
                  have hn := hk.done (by first | (left; assumption) | exact .inr ⟨d, hd, by simp; omega⟩)
                  exact ⟨hI.moved (drop_cons ha) (by rw [step2 (by omega), hn, At.pass (by omega)]) hI.own, by omega, by omega⟩
                · show t.length - (k) < t.length - i
                  omega
                · exact ⟨rfl, rfl, rfl, rfl, rfl, rfl, rfl, trivial⟩
                · repeat' constructor
            · try simp only [decide_eq_true_eq, decide_eq_false_iff_not, Bool.not_eq_true', Bool.not_eq_false', Bool.not_eq_eq_eq_not, Bool.not_true, Bool.not_false, beq_iff_eq, beq_eq_false_iff_ne, ne_eq, Int.not_lt, Int.not_le, Option.isSome_some, Option.isNone_none, Option.isSome_none, Option.isNone_some, Classical.not_not] at h6
              refine V.skip rfl rfl ?_
              refine V.skip rfl rfl ?_
              refine V.skip rfl rfl ?_
              refine V.skip rfl rfl ?_
              refine V.pickF rfl rfl rfl rfl ?_
              refine V.nil ?_
              refine Post.nextC ?_
              refine VC.condF rfl ?_
              refine VC.exit ?_
              refine Post.thenExit (Post.thenExit (Post.blockHit (Post.blockNormal (Post.nextC ?_))))
              refine VC.region ?_
              refine V.move rfl rfl rfl ?_
              refine V.assign rfl rfl rfl ?_
              refine V.nil ?_
              refine Post.blockNormal (Post.round (k, line, fr, any, l, v, c) ?_ ?_ ?_ ?_)
              · show (ScI t (At t (k) (line) (fr) (any) (l)) (v) (c)) ∧ ((k) ≤ t.length) ∧ ((fr) ≤ (k))
                have hn := hk.done (by first | (left; assumption) | exact .inr ⟨d, hd, by simp; omega⟩)
                exact ⟨hI.moved (drop_cons ha) (by rw [step2 (by omega), hn, At.pass (by omega)]) hI.own, by omega, by omega⟩
              · show t.length - (k) < t.length - i
                omega
              · exact ⟨rfl, rfl, rfl, rfl, rfl, rfl, rfl, trivial⟩
              · repeat' constructor
          · try simp only [decide_eq_true_eq, decide_eq_false_iff_not, Bool.not_eq_true', Bool.not_eq_false', Bool.not_eq_eq_eq_not, Bool.not_true, Bool.not_false, beq_iff_eq, beq_eq_false_iff_ne, ne_eq, Int.not_lt, Int.not_le, Option.isSome_some, Option.isNone_none, Option.isSome_none, Option.isNone_some, Classical.not_not] at h5
            refine VC.seq ?_
            refine VC.region ?_
            refine V.move rfl rfl rfl ?_
            refine V.bin rfl rfl rfl rfl (bin_eql _ _ _) ?_
            refine V.assign rfl rfl rfl ?_
            refine V.nil ?_
            refine Post.nextC ?_
            refine VC.cond rfl (fun h8 => ?_) (fun h8 => ?_)
            · try simp only [decide_eq_true_eq, decide_eq_false_iff_not, Bool.not_eq_true', Bool.not_eq_false', Bool.not_eq_eq_eq_not, Bool.not_true, Bool.not_false, beq_iff_eq, beq_eq_false_iff_ne, ne_eq, Int.not_lt, Int.not_le, Option.isSome_some, Option.isNone_none, Option.isSome_none, Option.isNone_some, Classical.not_not] at h8
              refine VC.seq ?_
              refine VC.seq ?_
              refine VC.region ?_
              refine V.move rfl rfl rfl ?_
              refine V.nil ?_
              refine Post.nextC ?_
              refine VC.cond rfl (fun h9 => ?_) (fun h9 => ?_)
              · try simp only [decide_eq_true_eq, decide_eq_false_iff_not, Bool.not_eq_true', Bool.not_eq_false', Bool.not_eq_eq_eq_not, Bool.not_true, Bool.not_false, beq_iff_eq, beq_eq_false_iff_ne, ne_eq, Int.not_lt, Int.not_le, Option.isSome_some, Option.isNone_none, Option.isSome_none, Option.isNone_some, Classical.not_not] at h9
                refine VC.region ?_
                refine V.move rfl rfl rfl ?_
                refine V.move rfl rfl rfl ?_
                refine V.move rfl rfl rfl ?_
                refine V.buildS [(0, _), (3, _), (4, _)] (l := [_, .string ByteArray.empty, .int .i64 0, _, _]) rfl rfl rfl rfl rfl ?_
                refine V.buildSlice1 (l := [.int .i64 4, st [], .int .i64 0, .int .i64 line, .int .i64 ((i : Int) - fr + 1)]) rfl rfl rfl rfl rfl rfl rfl (fun b5 => ?_)
                apply V.append1 rfl rfl rfl rfl rfl rfl (news := [.int .i64 4, st [], .int .i64 0, .int .i64 line, .int .i64 ((i : Int) - fr + 1)]) (ho := hO) (hb := by omega) (h63 := by simp only [maxLen]; omega)
                case hp => repeat' constructor
                case hl => rfl
                case h1 => rfl
                intro v1 c1 ho1
                refine V.assign rfl rfl rfl ?_
                refine V.nil ?_
                refine Post.nextC ?_
                refine VC.seq ?_
                refine VC.region ?_
                refine V.assign rfl rfl rfl ?_
                refine V.nil ?_
                refine Post.nextC ?_
                refine VC.seq ?_
                refine VC.region ?_
                refine V.move rfl rfl rfl ?_
                refine V.bin rfl rfl rfl rfl (bin_addI (by omega)) ?_
                refine V.assign rfl rfl rfl ?_
                refine V.nil ?_
                refine Post.nextC ?_
                refine VC.region ?_
                refine V.move rfl rfl rfl ?_
                refine V.assign rfl rfl rfl ?_
                refine V.nil ?_
                refine Post.blockNormal (Post.nextC ?_)
                refine VC.region ?_
                refine V.move rfl rfl rfl ?_
                refine V.assign rfl rfl rfl ?_
                refine V.nil ?_
                refine Post.blockNormal (Post.round (i + 1, line + 1, i + 1, false, l ++ [⟨4, [], 0, line, (i : Int) - fr + 1⟩], v1, c1) ?_ ?_ ?_ ?_)
                · show (ScI t (At t (i + 1) (line + 1) (i + 1) (false) (l ++ [⟨4, [], 0, line, (i : Int) - fr + 1⟩])) (v1) (c1)) ∧ ((i + 1) ≤ t.length) ∧ ((i + 1) ≤ (i + 1))
                  have hany : any = true := by assumption
                  exact ⟨hI.moved (drop_cons ha) (by rw [step3 (by omega), At.ends, hany]; rfl) (by simpa [toks_snoc] using ho1), by omega, by omega⟩
                · show t.length - (i + 1) < t.length - i
                  omega
                · exact ⟨rfl, rfl, rfl, rfl, rfl, rfl, rfl, trivial⟩
                · repeat' constructor
              · try simp only [decide_eq_true_eq, decide_eq_false_iff_not, Bool.not_eq_true', Bool.not_eq_false', Bool.not_eq_eq_eq_not, Bool.not_true, Bool.not_false, beq_iff_eq, beq_eq_false_iff_ne, ne_eq, Int.not_lt, Int.not_le, Option.isSome_some, Option.isNone_none, Option.isSome_none, Option.isNone_some, Classical.not_not] at h9
                refine VC.skip ?_
                refine Post.nextC ?_
                refine VC.seq ?_
                refine VC.region ?_
                refine V.assign rfl rfl rfl ?_
                refine V.nil ?_
                refine Post.nextC ?_
                refine VC.seq ?_
                refine VC.region ?_
                refine V.move rfl rfl rfl ?_
                refine V.bin rfl rfl rfl rfl (bin_addI (by omega)) ?_
                refine V.assign rfl rfl rfl ?_
                refine V.nil ?_
                refine Post.nextC ?_
                refine VC.region ?_
                refine V.move rfl rfl rfl ?_
                refine V.assign rfl rfl rfl ?_
                refine V.nil ?_
                refine Post.blockNormal (Post.nextC ?_)
                refine VC.region ?_
                refine V.move rfl rfl rfl ?_
                refine V.assign rfl rfl rfl ?_
                refine V.nil ?_
                refine Post.blockNormal (Post.round (i + 1, line + 1, i + 1, false, l, v, c) ?_ ?_ ?_ ?_)
                · show (ScI t (At t (i + 1) (line + 1) (i + 1) (false) (l)) (v) (c)) ∧ ((i + 1) ≤ t.length) ∧ ((i + 1) ≤ (i + 1))
                  have hany : any = false := by assumption
                  exact ⟨hI.moved (drop_cons ha) (by rw [step3 (by omega), At.ends, hany]; rfl) hI.own, by omega, by omega⟩
                · show t.length - (i + 1) < t.length - i
                  omega
                · exact ⟨rfl, rfl, rfl, rfl, rfl, rfl, rfl, trivial⟩
                · repeat' constructor
            · try simp only [decide_eq_true_eq, decide_eq_false_iff_not, Bool.not_eq_true', Bool.not_eq_false', Bool.not_eq_eq_eq_not, Bool.not_true, Bool.not_false, beq_iff_eq, beq_eq_false_iff_ne, ne_eq, Int.not_lt, Int.not_le, Option.isSome_some, Option.isNone_none, Option.isSome_none, Option.isNone_some, Classical.not_not] at h8
              refine VC.seq ?_
              refine VC.region ?_
              refine V.move rfl rfl rfl ?_
              apply V.call rfl rfl rfl (hc := c44)
              · repeat' constructor
              rintro vq Ho ⟨rfl, rfl⟩
              refine V.assign rfl rfl rfl ?_
              refine V.nil ?_
              refine Post.nextC ?_
              refine VC.cond rfl (fun h10 => ?_) (fun h10 => ?_)
              · try simp only [decide_eq_true_eq, decide_eq_false_iff_not, Bool.not_eq_true', Bool.not_eq_false', Bool.not_eq_eq_eq_not, Bool.not_true, Bool.not_false, beq_iff_eq, beq_eq_false_iff_ne, ne_eq, Int.not_lt, Int.not_le, Option.isSome_some, Option.isNone_none, Option.isSome_none, Option.isNone_some, Classical.not_not] at h10
                refine VC.seq ?_
                refine VC.block ?_
                refine VC.loop (σ := Nat) (fun k => [(0, st t), (3, pt b1), (4, v), (5, .int .i64 line), (6, .int .i64 (fr : Int)), (7, .bool any), (8, .int .i64 (i : Int)), (9, .int .u8 (a.toNat : Int)), (10, .int .i64 ((i : Int) - fr + 1)), (11, .int .i64 (k : Int))]) (fun k => c :: [(b1, .cells #[.int .i64 0, .int .i64 0, .int .i64 0] 25 (0, 0))] :: R) (fun k => Span t (inName) i k) (fun k => t.length - k) (i + 1) (Span.start ha (by simp only [inName, Bool.or_eq_true]; left; left; assumption)) ?_ ?_ ?_
                · exact ⟨rfl, rfl, rfl, rfl, rfl, rfl, rfl, rfl, rfl, rfl, trivial⟩
                · repeat' constructor
                intro k hk
                have hk1 := hk.lt
                have hk2 := hk.le
                refine VC.seq ?_
                refine VC.seq ?_
                refine VC.region ?_
                refine V.move rfl rfl rfl ?_
                refine V.move rfl rfl rfl ?_
                refine V.lenSt rfl rfl rfl ?_
                refine V.bin rfl rfl rfl rfl (bin_lss _ _ _) ?_
                refine V.move rfl rfl rfl ?_
                refine V.split (t := 74) rfl (fun h11 => ?_) (fun h11 => ?_)
                · try simp only [decide_eq_true_eq, decide_eq_false_iff_not, Bool.not_eq_true', Bool.not_eq_false', Bool.not_eq_eq_eq_not, Bool.not_true, Bool.not_false, beq_iff_eq, beq_eq_false_iff_ne, ne_eq, Int.not_lt, Int.not_le, Option.isSome_some, Option.isNone_none, Option.isSome_none, Option.isNone_some, Classical.not_not] at h11
                  refine V.move rfl rfl rfl ?_
                  refine V.move rfl rfl rfl ?_
                  obtain ⟨d, hd⟩ := getc (t := t) (i := k) (by assumption)
                  refine V.indexSt (i := k) (c := d) rfl rfl rfl rfl hd ?_
                  apply V.call rfl rfl rfl (hc := c45)
                  · repeat' constructor
                  rintro vq Ho ⟨rfl, rfl⟩
                  refine V.pickT rfl rfl rfl rfl ?_
                  refine V.nil ?_
                  refine Post.nextC ?_
                  refine VC.cond rfl (fun h12 => ?_) (fun h12 => ?_)
                  · try simp only [decide_eq_true_eq, decide_eq_false_iff_not, Bool.not_eq_true', Bool.not_eq_false', Bool.not_eq_eq_eq_not, Bool.not_true, Bool.not_false, beq_iff_eq, beq_eq_false_iff_ne, ne_eq, Int.not_lt, Int.not_le, Option.isSome_some, Option.isNone_none, Option.isSome_none, Option.isNone_some, Classical.not_not] at h12
                    refine VC.skip ?_
                    refine Post.nextC ?_
                    refine VC.block ?_
                    refine VC.region ?_
                    refine V.move rfl rfl rfl ?_
                    refine V.bin rfl rfl rfl rfl (bin_addI (by omega)) ?_
                    refine V.assign rfl rfl rfl ?_
                    refine V.nil ?_
                    refine Post.blockNormal (Post.round (k + 1) ?_ ?_ ?_ ?_)
                    · exact hk.next hd (by assumption)
                    · show t.length - (k + 1) < t.length - k
                      omega
                    · exact ⟨rfl, rfl, rfl, rfl, rfl, rfl, rfl, rfl, rfl, rfl, trivial⟩
                    · repeat' constructor
                  · try simp only [decide_eq_true_eq, decide_eq_false_iff_not, Bool.not_eq_true', Bool.not_eq_false', Bool.not_eq_eq_eq_not, Bool.not_true, Bool.not_false, beq_iff_eq, beq_eq_false_iff_ne, ne_eq, Int.not_lt, Int.not_le, Option.isSome_some, Option.isNone_none, Option.isSome_none, Option.isNone_some, Classical.not_not] at h12
                    refine VC.exit ?_
                    refine Post.thenExit (Post.thenExit (Post.blockHit (Post.nextC ?_)))
                    refine VC.seq ?_
                    refine VC.seq ?_
                    refine VC.region ?_
                    have hn := hk.done (by first | (left; assumption) | exact .inr ⟨d, hd, by assumption⟩)
                    refine V.move rfl rfl rfl ?_
                    refine V.move rfl rfl rfl ?_
                    refine V.bin rfl rfl rfl rfl (bin_subI (by omega)) ?_
                    refine V.bin rfl rfl rfl rfl (bin_gtr _ _ _) ?_
                    refine V.nil ?_
                    refine Post.nextC ?_
                    refine VC.cond rfl (fun h13 => ?_) (fun h13 => ?_)
                    · try simp only [decide_eq_true_eq, decide_eq_false_iff_not, Bool.not_eq_true', Bool.not_eq_false', Bool.not_eq_eq_eq_not, Bool.not_true, Bool.not_false, beq_iff_eq, beq_eq_false_iff_ne, ne_eq, Int.not_lt, Int.not_le, Option.isSome_some, Option.isNone_none, Option.isSome_none, Option.isNone_some, Classical.not_not] at h13
                      refine VC.seq ?_
                      refine VC.region ?_
                      refine V.move rfl rfl rfl ?_
                      refine V.move rfl rfl rfl ?_
                      apply V.call rfl rfl rfl (hc := c43)
                      · repeat' constructor
                      rintro vq Ho ⟨rfl, rfl⟩
                      refine V.assign rfl rfl rfl ?_
                      apply V.storeAll rfl rfl rfl rfl
                      · repeat' constructor
                      · exact rfl
                      · exact rfl
                      refine V.nil ?_
                      refine Post.nextC ?_
                      refine VC.ret ?_
                      refine Post.thenRet (Post.blockRet (Post.thenRet (Post.blockRet (Post.thenRet (Post.blockRet (Post.thenRet (?_)))))))
                      apply Post.retV2 rfl (.tmp rfl) (.all rfl rfl (by repeat' constructor) (by exact rfl))
                      · have e := hI.badly (drop_cons ha) (by rw [step4 (by assumption), hn, if_pos (by omega)]) (by omega) (by omega)
                        exact ⟨.slice none 0 0, [], by rw [e]; exact Own.nil _ _, by rw [e], rfl⟩
                      · repeat' constructor
                    · try simp only [decide_eq_true_eq, decide_eq_false_iff_not, Bool.not_eq_true', Bool.not_eq_false', Bool.not_eq_eq_eq_not, Bool.not_true, Bool.not_false, beq_iff_eq, beq_eq_false_iff_ne, ne_eq, Int.not_lt, Int.not_le, Option.isSome_some, Option.isNone_none, Option.isSome_none, Option.isNone_some, Classical.not_not] at h13
                      refine VC.skip ?_
                      refine Post.nextC ?_
                      refine VC.seq ?_
                      refine VC.region ?_
                      refine V.move rfl rfl rfl ?_
                      refine V.move rfl rfl rfl ?_
                      refine V.move rfl rfl rfl ?_
                      refine V.move rfl rfl rfl ?_
                      refine V.sliceStLH rfl rfl rfl rfl rfl (by omega) (by omega) ?_
                      refine V.move rfl rfl rfl ?_
                      refine V.move rfl rfl rfl ?_
                      refine V.buildS [(0, _), (1, _), (3, _), (4, _)] (l := [_, _, .int .i64 0, _, _]) rfl rfl rfl rfl rfl ?_
                      refine V.buildSlice1 (l := [.int .i64 1, st ((t.take k).drop i), .int .i64 0, .int .i64 line, .int .i64 ((i : Int) - fr + 1)]) rfl rfl rfl rfl rfl rfl rfl (fun b6 => ?_)
                      apply V.append1 rfl rfl rfl rfl rfl rfl (news := [.int .i64 1, st ((t.take k).drop i), .int .i64 0, .int .i64 line, .int .i64 ((i : Int) - fr + 1)]) (ho := hO) (hb := by omega) (h63 := by simp only [maxLen]; omega)
                      case hp => repeat' constructor
                      case hl => rfl
                      case h1 => rfl
                      intro v1 c1 ho1
                      refine V.assign rfl rfl rfl ?_
                      refine V.nil ?_
                      refine Post.nextC ?_
                      refine VC.region ?_
                      refine V.assign rfl rfl rfl ?_
                      refine V.nil ?_
                      refine Post.blockNormal (Post.nextC ?_)
                      refine VC.region ?_
                      refine V.move rfl rfl rfl ?_
                      refine V.assign rfl rfl rfl ?_
                      refine V.nil ?_
                      refine Post.blockNormal (Post.round (k, line, fr, true, l ++ [⟨1, (t.take k).drop i, 0, line, (i : Int) - fr + 1⟩], v1, c1) ?_ ?_ ?_ ?_)
                      · show (ScI t (At t (k) (line) (fr) (true) (l ++ [⟨1, (t.take k).drop i, 0, line, (i : Int) - fr + 1⟩])) (v1) (c1)) ∧ ((k) ≤ t.length) ∧ ((fr) ≤ (k))
                        exact ⟨hI.moved (drop_cons ha) (by rw [step4 (by assumption), hn, if_neg (by omega), At.tell (by omega)]) (by simpa [toks_snoc] using ho1), by omega, by omega⟩
                      · show t.length - (k) < t.length - i
                        omega
                      · exact ⟨rfl, rfl, rfl, rfl, rfl, rfl, rfl, trivial⟩
                      · repeat' constructor
                · try simp only [decide_eq_true_eq, decide_eq_false_iff_not, Bool.not_eq_true', Bool.not_eq_false', Bool.not_eq_eq_eq_not, Bool.not_true, Bool.not_false, beq_iff_eq, beq_eq_false_iff_ne, ne_eq, Int.not_lt, Int.not_le, Option.isSome_some, Option.isNone_none, Option.isSome_none, Option.isNone_some, Classical.not_not] at h11
                  refine V.skip rfl rfl ?_
                  refine V.skip rfl rfl ?_
                  refine V.skip rfl rfl ?_
                  refine V.skip rfl rfl ?_
                  refine V.pickF rfl rfl rfl rfl ?_
                  refine V.nil ?_
                  refine Post.nextC ?_
                  refine VC.condF rfl ?_
                  refine VC.exit ?_
                  refine Post.thenExit (Post.thenExit (Post.blockHit (Post.nextC ?_)))
                  refine VC.seq ?_
                  refine VC.seq ?_
                  refine VC.region ?_
                  have hn := hk.done (by first | (left; assumption) | exact .inr ⟨d, hd, by assumption⟩)
                  refine V.move rfl rfl rfl ?_
                  refine V.move rfl rfl rfl ?_
                  refine V.bin rfl rfl rfl rfl (bin_subI (by omega)) ?_
                  refine V.bin rfl rfl rfl rfl (bin_gtr _ _ _) ?_
                  refine V.nil ?_
                  refine Post.nextC ?_
                  refine VC.cond rfl (fun h14 => ?_) (fun h14 => ?_)
                  · try simp only [decide_eq_true_eq, decide_eq_false_iff_not, Bool.not_eq_true', Bool.not_eq_false', Bool.not_eq_eq_eq_not, Bool.not_true, Bool.not_false, beq_iff_eq, beq_eq_false_iff_ne, ne_eq, Int.not_lt, Int.not_le, Option.isSome_some, Option.isNone_none, Option.isSome_none, Option.isNone_some, Classical.not_not] at h14
                    refine VC.seq ?_
                    refine VC.region ?_
                    refine V.move rfl rfl rfl ?_
                    refine V.move rfl rfl rfl ?_
                    apply V.call rfl rfl rfl (hc := c43)
                    · repeat' constructor
                    rintro vq Ho ⟨rfl, rfl⟩
                    refine V.assign rfl rfl rfl ?_
                    apply V.storeAll rfl rfl rfl rfl
                    · repeat' constructor
                    · exact rfl
                    · exact rfl
                    refine V.nil ?_
                    refine Post.nextC ?_
                    refine VC.ret ?_
                    refine Post.thenRet (Post.blockRet (Post.thenRet (Post.blockRet (Post.thenRet (Post.blockRet (Post.thenRet (?_)))))))
                    apply Post.retV2 rfl (.tmp rfl) (.all rfl rfl (by repeat' constructor) (by exact rfl))
                    · have e := hI.badly (drop_cons ha) (by rw [step4 (by assumption), hn, if_pos (by omega)]) (by omega) (by omega)
                      exact ⟨.slice none 0 0, [], by rw [e]; exact Own.nil _ _, by rw [e], rfl⟩
                    · repeat' constructor
                  · try simp only [decide_eq_true_eq, decide_eq_false_iff_not, Bool.not_eq_true', Bool.not_eq_false', Bool.not_eq_eq_eq_not, Bool.not_true, Bool.not_false, beq_iff_eq, beq_eq_false_iff_ne, ne_eq, Int.not_lt, Int.not_le, Option.isSome_some, Option.isNone_none, Option.isSome_none, Option.isNone_some, Classical.not_not] at h14
                    refine VC.skip ?_
                    refine Post.nextC ?_
                    refine VC.seq ?_
                    refine VC.region ?_
                    refine V.move rfl rfl rfl ?_
                    refine V.move rfl rfl rfl ?_
                    refine V.move rfl rfl rfl ?_
                    refine V.move rfl rfl rfl ?_
                    refine V.sliceStLH rfl rfl rfl rfl rfl (by omega) (by omega) ?_
                    refine V.move rfl rfl rfl ?_
                    refine V.move rfl rfl rfl ?_
                    refine V.buildS [(0, _), (1, _), (3, _), (4, _)] (l := [_, _, .int .i64 0, _, _]) rfl rfl rfl rfl rfl ?_
                    refine V.buildSlice1 (l := [.int .i64 1, st ((t.take k).drop i), .int .i64 0, .int .i64 line, .int .i64 ((i : Int) - fr + 1)]) rfl rfl rfl rfl rfl rfl rfl (fun b6 => ?_)
                    apply V.append1 rfl rfl rfl rfl rfl rfl (news := [.int .i64 1, st ((t.take k).drop i), .int .i64 0, .int .i64 line, .int .i64 ((i : Int) - fr + 1)]) (ho := hO) (hb := by omega) (h63 := by simp only [maxLen]; omega)
                    case hp => repeat' constructor
                    case hl => rfl
                    case h1 => rfl
                    intro v1 c1 ho1
                    refine V.assign rfl rfl rfl ?_
                    refine V.nil ?_
                    refine Post.nextC ?_
                    refine VC.region ?_
                    refine V.assign rfl rfl rfl ?_
                    refine V.nil ?_
                    refine Post.blockNormal (Post.nextC ?_)
                    refine VC.region ?_
                    refine V.move rfl rfl rfl ?_
                    refine V.assign rfl rfl rfl ?_
                    refine V.nil ?_
                    refine Post.blockNormal (Post.round (k, line, fr, true, l ++ [⟨1, (t.take k).drop i, 0, line, (i : Int) - fr + 1⟩], v1, c1) ?_ ?_ ?_ ?_)
                    · show (ScI t (At t (k) (line) (fr) (true) (l ++ [⟨1, (t.take k).drop i, 0, line, (i : Int) - fr + 1⟩])) (v1) (c1)) ∧ ((k) ≤ t.length) ∧ ((fr) ≤ (k))
                      exact ⟨hI.moved (drop_cons ha) (by rw [step4 (by assumption), hn, if_neg (by omega), At.tell (by omega)]) (by simpa [toks_snoc] using ho1), by omega, by omega⟩
                    · show t.length - (k) < t.length - i
                      omega
                    · exact ⟨rfl, rfl, rfl, rfl, rfl, rfl, rfl, trivial⟩
                    · repeat' constructor
              · try simp only [decide_eq_true_eq, decide_eq_false_iff_not, Bool.not_eq_true', Bool.not_eq_false', Bool.not_eq_eq_eq_not, Bool.not_true, Bool.not_false, beq_iff_eq, beq_eq_false_iff_ne, ne_eq, Int.not_lt, Int.not_le, Option.isSome_some, Option.isNone_none, Option.isSome_none, Option.isNone_some, Classical.not_not] at h10
                refine VC.seq ?_
                refine VC.region ?_
                refine V.move rfl rfl rfl ?_
                apply V.call rfl rfl rfl (hc := c46)
                · repeat' constructor
                rintro vq Ho ⟨rfl, rfl⟩
                refine V.assign rfl rfl rfl ?_
                refine V.nil ?_
                refine Post.nextC ?_
                refine VC.cond rfl (fun h15 => ?_) (fun h15 => ?_)
                · try simp only [decide_eq_true_eq, decide_eq_false_iff_not, Bool.not_eq_true', Bool.not_eq_false', Bool.not_eq_eq_eq_not, Bool.not_true, Bool.not_false, beq_iff_eq, beq_eq_false_iff_ne, ne_eq, Int.not_lt, Int.not_le, Option.isSome_some, Option.isNone_none, Option.isSome_none, Option.isNone_some, Classical.not_not] at h15
                  refine VC.seq ?_
                  refine VC.block ?_
                  refine VC.loop (σ := Nat) (fun k => [(0, st t), (3, pt b1), (4, v), (5, .int .i64 line), (6, .int .i64 (fr : Int)), (7, .bool any), (8, .int .i64 (i : Int)), (9, .int .u8 (a.toNat : Int)), (10, .int .i64 ((i : Int) - fr + 1)), (11, .int .i64 (k : Int))]) (fun k => c :: [(b1, .cells #[.int .i64 0, .int .i64 0, .int .i64 0] 25 (0, 0))] :: R) (fun k => Span t (digit) i k) (fun k => t.length - k) (i + 1) (Span.start ha (by assumption)) ?_ ?_ ?_
                  · exact ⟨rfl, rfl, rfl, rfl, rfl, rfl, rfl, rfl, rfl, rfl, trivial⟩
                  · repeat' constructor
                  intro k hk
                  have hk1 := hk.lt
                  have hk2 := hk.le
                  refine VC.seq ?_
                  refine VC.seq ?_
                  refine VC.region ?_
                  refine V.move rfl rfl rfl ?_
                  refine V.move rfl rfl rfl ?_
                  refine V.lenSt rfl rfl rfl ?_
                  refine V.bin rfl rfl rfl rfl (bin_lss _ _ _) ?_
                  refine V.move rfl rfl rfl ?_
                  refine V.split (t := 106) rfl (fun h16 => ?_) (fun h16 => ?_)
                  · try simp only [decide_eq_true_eq, decide_eq_false_iff_not, Bool.not_eq_true', Bool.not_eq_false', Bool.not_eq_eq_eq_not, Bool.not_true, Bool.not_false, beq_iff_eq, beq_eq_false_iff_ne, ne_eq, Int.not_lt, Int.not_le, Option.isSome_some, Option.isNone_none, Option.isSome_none, Option.isNone_some, Classical.not_not] at h16
                    refine V.move rfl rfl rfl ?_
                    refine V.move rfl rfl rfl ?_
                    obtain ⟨d, hd⟩ := getc (t := t) (i := k) (by assumption)
                    refine V.indexSt (i := k) (c := d) rfl rfl rfl rfl hd ?_
                    apply V.call rfl rfl rfl (hc := c46)
                    · repeat' constructor
                    rintro vq Ho ⟨rfl, rfl⟩
                    refine V.pickT rfl rfl rfl rfl ?_
                    refine V.nil ?_
                    refine Post.nextC ?_
                    refine VC.cond rfl (fun h17 => ?_) (fun h17 => ?_)
                    · try simp only [decide_eq_true_eq, decide_eq_false_iff_not, Bool.not_eq_true', Bool.not_eq_false', Bool.not_eq_eq_eq_not, Bool.not_true, Bool.not_false, beq_iff_eq, beq_eq_false_iff_ne, ne_eq, Int.not_lt, Int.not_le, Option.isSome_some, Option.isNone_none, Option.isSome_none, Option.isNone_some, Classical.not_not] at h17
                      refine VC.skip ?_
                      refine Post.nextC ?_
                      refine VC.block ?_
                      refine VC.region ?_
                      refine V.move rfl rfl rfl ?_
                      refine V.bin rfl rfl rfl rfl (bin_addI (by omega)) ?_
                      refine V.assign rfl rfl rfl ?_
                      refine V.nil ?_
                      refine Post.blockNormal (Post.round (k + 1) ?_ ?_ ?_ ?_)
                      · exact hk.next hd (by assumption)
                      · show t.length - (k + 1) < t.length - k
                        omega
                      · exact ⟨rfl, rfl, rfl, rfl, rfl, rfl, rfl, rfl, rfl, rfl, trivial⟩
                      · repeat' constructor
                    · try simp only [decide_eq_true_eq, decide_eq_false_iff_not, Bool.not_eq_true', Bool.not_eq_false', Bool.not_eq_eq_eq_not, Bool.not_true, Bool.not_false, beq_iff_eq, beq_eq_false_iff_ne, ne_eq, Int.not_lt, Int.not_le, Option.isSome_some, Option.isNone_none, Option.isSome_none, Option.isNone_some, Classical.not_not] at h17
                      refine VC.exit ?_
                      refine Post.thenExit (Post.thenExit (Post.blockHit (Post.nextC ?_)))
                      refine VC.seq ?_
                      refine VC.seq ?_
                      refine VC.region ?_
                      have hd0 : (t.length : Int) ≤ k ∨ ∃ d, t[k]? = some d ∧ digit d = false := by first | (left; assumption) | exact .inr ⟨d, hd, by assumption⟩
                      have hn := hk.done hd0
                      refine V.move rfl rfl rfl ?_
                      refine V.move rfl rfl rfl ?_
                      refine V.move rfl rfl rfl ?_
                      refine V.sliceStLH rfl rfl rfl rfl rfl (by omega) (by omega) ?_
                      apply V.call rfl rfl rfl (hc := c47 (by rw [List.length_drop, List.length_take]; omega))
                      · repeat' constructor
                      rintro vq Ho ⟨rfl, rfl⟩
                      refine V.not rfl rfl rfl ?_
                      refine V.move rfl rfl rfl ?_
                      refine V.split (t := 120) rfl (fun h18 => ?_) (fun h18 => ?_)
                      · try simp only [decide_eq_true_eq, decide_eq_false_iff_not, Bool.not_eq_true', Bool.not_eq_false', Bool.not_eq_eq_eq_not, Bool.not_true, Bool.not_false, beq_iff_eq, beq_eq_false_iff_ne, ne_eq, Int.not_lt, Int.not_le, Option.isSome_some, Option.isNone_none, Option.isSome_none, Option.isNone_some, Classical.not_not] at h18
                        refine V.skip rfl rfl ?_
                        refine V.skip rfl rfl ?_
                        refine V.skip rfl rfl ?_
                        refine V.skip rfl rfl ?_
                        refine V.skip rfl rfl ?_
                        refine V.skip rfl rfl ?_
                        refine V.skip rfl rfl ?_
                        refine V.skip rfl rfl ?_
                        refine V.skip rfl rfl ?_
                        refine V.skip rfl rfl ?_
                        refine V.skip rfl rfl ?_
                        refine V.skip rfl rfl ?_
                        refine V.skip rfl rfl ?_
                        refine V.skip rfl rfl ?_
                        refine V.skip rfl rfl ?_
                        refine V.skip rfl rfl ?_
                        refine V.pickT rfl rfl rfl rfl ?_
                        refine V.nil ?_
                        refine Post.nextC ?_
                        refine VC.condT rfl ?_
                        refine VC.seq ?_
                        refine VC.region ?_
                        refine V.move rfl rfl rfl ?_
                        refine V.move rfl rfl rfl ?_
                        apply V.call rfl rfl rfl (hc := c43)
                        · repeat' constructor
                        rintro vq Ho ⟨rfl, rfl⟩
                        refine V.assign rfl rfl rfl ?_
                        apply V.storeAll rfl rfl rfl rfl
                        · repeat' constructor
                        · exact rfl
                        · exact rfl
                        refine V.nil ?_
                        refine Post.nextC ?_
                        refine VC.ret ?_
                        refine Post.thenRet (Post.blockRet (Post.thenRet (Post.blockRet (Post.thenRet (Post.blockRet (Post.thenRet (?_)))))))
                        apply Post.retV2 rfl (.tmp rfl) (.all rfl rfl (by repeat' constructor) (by exact rfl))
                        · have e := hI.badly (drop_cons ha) (by rw [step5 (by assumption), if_pos (by first | exact numb_no1 hn (by assumption) | exact numb_no2 hn (by omega) hd (by first | (left; assumption) | (right; assumption)))]) (by omega) (by omega)
                          exact ⟨.slice none 0 0, [], by rw [e]; exact Own.nil _ _, by rw [e], rfl⟩
                        · repeat' constructor
                      · try simp only [decide_eq_true_eq, decide_eq_false_iff_not, Bool.not_eq_true', Bool.not_eq_false', Bool.not_eq_eq_eq_not, Bool.not_true, Bool.not_false, beq_iff_eq, beq_eq_false_iff_ne, ne_eq, Int.not_lt, Int.not_le, Option.isSome_some, Option.isNone_none, Option.isSome_none, Option.isNone_some, Classical.not_not] at h18
                        refine V.move rfl rfl rfl ?_
                        refine V.move rfl rfl rfl ?_
                        refine V.lenSt rfl rfl rfl ?_
                        refine V.bin rfl rfl rfl rfl (bin_lss _ _ _) ?_
                        refine V.move rfl rfl rfl ?_
                        refine V.split (t := 125) rfl (fun h19 => ?_) (fun h19 => ?_)
                        · try simp only [decide_eq_true_eq, decide_eq_false_iff_not, Bool.not_eq_true', Bool.not_eq_false', Bool.not_eq_eq_eq_not, Bool.not_true, Bool.not_false, beq_iff_eq, beq_eq_false_iff_ne, ne_eq, Int.not_lt, Int.not_le, Option.isSome_some, Option.isNone_none, Option.isSome_none, Option.isNone_some, Classical.not_not] at h19
                          refine V.move rfl rfl rfl ?_
                          refine V.move rfl rfl rfl ?_
                          obtain ⟨d, hd⟩ := getc (t := t) (i := k) (by assumption)
                          refine V.indexSt (i := k) (c := d) rfl rfl rfl rfl hd ?_
                          apply V.call rfl rfl rfl (hc := c44)
                          · repeat' constructor
                          rintro vq Ho ⟨rfl, rfl⟩
                          refine V.move rfl rfl rfl ?_
                          refine V.split (t := 130) rfl (fun h20 => ?_) (fun h20 => ?_)
                          · try simp only [decide_eq_true_eq, decide_eq_false_iff_not, Bool.not_eq_true', Bool.not_eq_false', Bool.not_eq_eq_eq_not, Bool.not_true, Bool.not_false, beq_iff_eq, beq_eq_false_iff_ne, ne_eq, Int.not_lt, Int.not_le, Option.isSome_some, Option.isNone_none, Option.isSome_none, Option.isNone_some, Classical.not_not] at h20
                            refine V.skip rfl rfl ?_
                            refine V.skip rfl rfl ?_
                            refine V.skip rfl rfl ?_
                            refine V.skip rfl rfl ?_
                            refine V.pickT rfl rfl rfl rfl ?_
                            refine V.pickT rfl rfl rfl rfl ?_
                            refine V.pickF rfl rfl rfl rfl ?_
                            refine V.nil ?_
                            refine Post.nextC ?_
                            refine VC.condT rfl ?_
                            refine VC.seq ?_
                            refine VC.region ?_
                            refine V.move rfl rfl rfl ?_
                            refine V.move rfl rfl rfl ?_
                            apply V.call rfl rfl rfl (hc := c43)
                            · repeat' constructor
                            rintro vq Ho ⟨rfl, rfl⟩
                            refine V.assign rfl rfl rfl ?_
                            apply V.storeAll rfl rfl rfl rfl
                            · repeat' constructor
                            · exact rfl
                            · exact rfl
                            refine V.nil ?_
                            refine Post.nextC ?_
                            refine VC.ret ?_
                            refine Post.thenRet (Post.blockRet (Post.thenRet (Post.blockRet (Post.thenRet (Post.blockRet (Post.thenRet (?_)))))))
                            apply Post.retV2 rfl (.tmp rfl) (.all rfl rfl (by repeat' constructor) (by exact rfl))
                            · have e := hI.badly (drop_cons ha) (by rw [step5 (by assumption), if_pos (by first | exact numb_no1 hn (by assumption) | exact numb_no2 hn (by omega) hd (by first | (left; assumption) | (right; assumption)))]) (by omega) (by omega)
                              exact ⟨.slice none 0 0, [], by rw [e]; exact Own.nil _ _, by rw [e], rfl⟩
                            · repeat' constructor
                          · try simp only [decide_eq_true_eq, decide_eq_false_iff_not, Bool.not_eq_true', Bool.not_eq_false', Bool.not_eq_eq_eq_not, Bool.not_true, Bool.not_false, beq_iff_eq, beq_eq_false_iff_ne, ne_eq, Int.not_lt, Int.not_le, Option.isSome_some, Option.isNone_none, Option.isSome_none, Option.isNone_some, Classical.not_not] at h20
                            refine V.move rfl rfl rfl ?_
                            refine V.move rfl rfl rfl ?_
                            refine V.indexSt (i := k) (c := d) rfl rfl rfl rfl hd ?_
                            refine V.bin rfl rfl rfl rfl (bin_eql _ _ _) ?_
                            refine V.pickF rfl rfl rfl rfl ?_
                            refine V.pickT rfl rfl rfl rfl ?_
                            refine V.pickF rfl rfl rfl rfl ?_
                            refine V.nil ?_
                            refine Post.nextC ?_
                            refine VC.cond rfl (fun h21 => ?_) (fun h21 => ?_)
                            · try simp only [decide_eq_true_eq, decide_eq_false_iff_not, Bool.not_eq_true', Bool.not_eq_false', Bool.not_eq_eq_eq_not, Bool.not_true, Bool.not_false, beq_iff_eq, beq_eq_false_iff_ne, ne_eq, Int.not_lt, Int.not_le, Option.isSome_some, Option.isNone_none, Option.isSome_none, Option.isNone_some, Classical.not_not] at h21
                              refine VC.seq ?_
                              refine VC.region ?_
                              refine V.move rfl rfl rfl ?_
                              refine V.move rfl rfl rfl ?_
                              apply V.call rfl rfl rfl (hc := c43)
                              · repeat' constructor
                              rintro vq Ho ⟨rfl, rfl⟩
                              refine V.assign rfl rfl rfl ?_
                              apply V.storeAll rfl rfl rfl rfl
                              · repeat' constructor
                              · exact rfl
                              · exact rfl
                              refine V.nil ?_
                              refine Post.nextC ?_
                              refine VC.ret ?_
                              refine Post.thenRet (Post.blockRet (Post.thenRet (Post.blockRet (Post.thenRet (Post.blockRet (Post.thenRet (?_)))))))
                              apply Post.retV2 rfl (.tmp rfl) (.all rfl rfl (by repeat' constructor) (by exact rfl))
                              · have e := hI.badly (drop_cons ha) (by rw [step5 (by assumption), if_pos (by first | exact numb_no1 hn (by assumption) | exact numb_no2 hn (by omega) hd (by first | (left; assumption) | (right; assumption)))]) (by omega) (by omega)
                                exact ⟨.slice none 0 0, [], by rw [e]; exact Own.nil _ _, by rw [e], rfl⟩
                              · repeat' constructor
                            · try simp only [decide_eq_true_eq, decide_eq_false_iff_not, Bool.not_eq_true', Bool.not_eq_false', Bool.not_eq_eq_eq_not, Bool.not_true, Bool.not_false, beq_iff_eq, beq_eq_false_iff_ne, ne_eq, Int.not_lt, Int.not_le, Option.isSome_some, Option.isNone_none, Option.isSome_none, Option.isNone_some, Classical.not_not] at h21
                              refine VC.skip ?_
                              refine Post.nextC ?_
                              refine VC.seq ?_
                              refine VC.any ([]) 16 16 mixed rfl ?_
                              refine VA.take 0 rfl (by kernel_rfl) (by kernel_rfl) rfl (by kernel_rfl) (by kernel_rfl) (by repeat' constructor) ?_
                              have hR : rightNum ((t.take k).drop i) = true := by assumption
                              obtain ⟨hs1, hs2, hs3⟩ := rightNum_spec hR
                              have hny : numb (t.drop i) = (k - i, dval ((t.take k).drop i)) := numb_yes hn (by omega) hR (by
                                rcases hd0 with h | ⟨e, he, hed⟩
                                · exact .inl h
                                · right
                                  have hkl := (List.getElem?_eq_some_iff.1 he).1
                                  first
                                    | (exfalso; omega)
                                    | (obtain rfl : e = d := by rw [he] at hd; exact Option.some.inj hd
                                       exact ⟨e, he, hed, by assumption, by assumption⟩))
                              refine V.move rfl rfl rfl ?_
                              refine V.nil ?_
                              refine Post.took ?_
                              refine VA.take 1 rfl (by kernel_rfl) (by kernel_rfl) rfl (by kernel_rfl) (by kernel_rfl) (by repeat' constructor) ?_
                              refine V.move rfl rfl rfl ?_
                              refine V.nil ?_
                              refine Post.took ?_
                              refine VA.take 2 rfl (by kernel_rfl) (by kernel_rfl) rfl (by kernel_rfl) (by kernel_rfl) (by repeat' constructor) ?_
                              refine V.move rfl rfl rfl ?_
                              refine V.nil ?_
                              refine Post.took ?_
                              refine VA.take 3 rfl (by kernel_rfl) (by kernel_rfl) rfl (by kernel_rfl) (by kernel_rfl) (by repeat' constructor) ?_
                              refine V.move rfl rfl rfl ?_
                              refine V.nil ?_
                              refine Post.took ?_
                              refine VA.take 4 rfl (by kernel_rfl) (by kernel_rfl) rfl (by kernel_rfl) (by kernel_rfl) (by repeat' constructor) ?_
                              refine V.sliceStLH rfl rfl rfl rfl rfl (by omega) (by omega) ?_
                              refine V.nil ?_
                              refine Post.took ?_
                              refine VA.take 5 rfl (by kernel_rfl) (by kernel_rfl) rfl (by kernel_rfl) (by kernel_rfl) (by repeat' constructor) ?_
                              refine V.move rfl rfl rfl ?_
                              refine V.nil ?_
                              refine Post.took ?_
                              refine VA.take 6 rfl (by kernel_rfl) (by kernel_rfl) rfl (by kernel_rfl) (by kernel_rfl) (by repeat' constructor) ?_
                              refine V.move rfl rfl rfl ?_
                              refine V.nil ?_
                              refine Post.took ?_
                              refine VA.take 7 rfl (by kernel_rfl) (by kernel_rfl) rfl (by kernel_rfl) (by kernel_rfl) (by repeat' constructor) ?_
                              refine V.move rfl rfl rfl ?_
                              refine V.nil ?_
                              refine Post.took ?_
                              refine VA.take 8 rfl (by kernel_rfl) (by kernel_rfl) rfl (by kernel_rfl) (by kernel_rfl) (by repeat' constructor) ?_
                              refine V.sliceStLH rfl rfl rfl rfl rfl (by omega) (by omega) ?_
                              refine V.nil ?_
                              refine Post.took ?_
                              refine VA.take 10 rfl (by kernel_rfl) (by kernel_rfl) rfl (by kernel_rfl) (by kernel_rfl) (by repeat' constructor) ?_
                              refine V.move rfl rfl rfl ?_
                              refine V.nil ?_
                              refine Post.took ?_
                              refine VA.take 11 rfl (by kernel_rfl) (by kernel_rfl) rfl (by kernel_rfl) (by kernel_rfl) (by repeat' constructor) ?_
                              refine V.move rfl rfl rfl ?_
                              refine V.nil ?_
                              refine Post.took ?_
                              refine VA.one 9 (by kernel_rfl) rfl ?_
                              apply V.call rfl rfl rfl (hc := c48 (s := (t.take k).drop i) hs2 hs3)
                              · repeat' constructor
                              rintro vq Ho ⟨rfl, rfl⟩
                              refine V.nil ?_
                              refine Post.came (by repeat' constructor) ?_
                              refine VA.take 12 rfl (by kernel_rfl) (by kernel_rfl) rfl (by kernel_rfl) (by kernel_rfl) (by repeat' constructor) ?_
                              refine V.buildS [(0, _), (1, _), (2, _), (3, _), (4, _)] (l := [_, _, _, _, _]) rfl rfl rfl rfl rfl ?_
                              refine V.nil ?_
                              refine Post.took ?_
                              refine VA.one 13 (by kernel_rfl) rfl ?_
                              refine V.buildSlice1 (l := [.int .i64 2, st ((t.take k).drop i), .int .i64 (dval ((t.take k).drop i) : Int), .int .i64 line, .int .i64 ((i : Int) - fr + 1)]) rfl rfl rfl rfl rfl rfl rfl (fun b7 => ?_)
                              refine V.nil ?_
                              refine Post.came (by repeat' constructor) ?_
                              refine VA.one 14 (by kernel_rfl) rfl ?_
                              apply V.append1 rfl rfl rfl rfl rfl rfl (news := [.int .i64 2, st ((t.take k).drop i), .int .i64 (dval ((t.take k).drop i) : Int), .int .i64 line, .int .i64 ((i : Int) - fr + 1)]) (ho := hO) (hb := by omega) (h63 := by simp only [maxLen]; omega)
                              case hp => repeat' constructor
                              case hl => rfl
                              case h1 => rfl
                              intro v1 c1 ho1
                              refine V.nil ?_
                              refine Post.came (by repeat' constructor) ?_
                              refine VA.take 15 rfl (by kernel_rfl) (by kernel_rfl) rfl (by kernel_rfl) (by kernel_rfl) (by repeat' constructor) ?_
                              refine V.assign rfl rfl rfl ?_
                              refine V.nil ?_
                              refine Post.took ?_
                              refine VA.done (by kernel_rfl) ?_
                              refine Post.nextC ?_
                              refine VC.region ?_
                              refine V.assign rfl rfl rfl ?_
                              refine V.nil ?_
                              refine Post.blockNormal (Post.nextC ?_)
                              refine VC.region ?_
                              refine V.move rfl rfl rfl ?_
                              refine V.assign rfl rfl rfl ?_
                              refine V.nil ?_
                              refine Post.blockNormal (Post.round (k, line, fr, true, l ++ [⟨2, (t.take k).drop i, (dval ((t.take k).drop i) : Int), line, (i : Int) - fr + 1⟩], v1, c1) ?_ ?_ ?_ ?_)
                              · show (ScI t (At t (k) (line) (fr) (true) (l ++ [⟨2, (t.take k).drop i, (dval ((t.take k).drop i) : Int), line, (i : Int) - fr + 1⟩])) (v1) (c1)) ∧ ((k) ≤ t.length) ∧ ((fr) ≤ (k))
                                exact ⟨hI.moved (drop_cons ha) (by rw [step5 (by assumption), hny, if_neg (by dsimp only; omega)]; dsimp only; rw [At.tell (by omega)]) (by simpa [toks_snoc] using ho1), by omega, by omega⟩
                              · show t.length - (k) < t.length - i
                                omega
                              · exact ⟨rfl, rfl, rfl, rfl, rfl, rfl, rfl, trivial⟩
                              · repeat' constructor
                        · try simp only [decide_eq_true_eq, decide_eq_false_iff_not, Bool.not_eq_true', Bool.not_eq_false', Bool.not_eq_eq_eq_not, Bool.not_true, Bool.not_false, beq_iff_eq, beq_eq_false_iff_ne, ne_eq, Int.not_lt, Int.not_le, Option.isSome_some, Option.isNone_none, Option.isSome_none, Option.isNone_some, Classical.not_not] at h19
                          refine V.skip rfl rfl ?_
                          refine V.skip rfl rfl ?_
                          refine V.skip rfl rfl ?_
                          refine V.skip rfl rfl ?_
                          refine V.skip rfl rfl ?_
                          refine V.skip rfl rfl ?_
                          refine V.skip rfl rfl ?_
                          refine V.skip rfl rfl ?_
                          refine V.skip rfl rfl ?_
                          refine V.skip rfl rfl ?_
                          refine V.pickF rfl rfl rfl rfl ?_
                          refine V.pickF rfl rfl rfl rfl ?_
                          refine V.nil ?_
                          refine Post.nextC ?_
                          refine VC.condF rfl ?_
                          refine VC.skip ?_
                          refine Post.nextC ?_
                          refine VC.seq ?_
                          refine VC.any ([]) 16 16 mixed rfl ?_
                          refine VA.take 0 rfl (by kernel_rfl) (by kernel_rfl) rfl (by kernel_rfl) (by kernel_rfl) (by repeat' constructor) ?_
                          have hR : rightNum ((t.take k).drop i) = true := by assumption
                          obtain ⟨hs1, hs2, hs3⟩ := rightNum_spec hR
                          have hny : numb (t.drop i) = (k - i, dval ((t.take k).drop i)) := numb_yes hn (by omega) hR (by
                            rcases hd0 with h | ⟨e, he, hed⟩
                            · exact .inl h
                            · right
                              have hkl := (List.getElem?_eq_some_iff.1 he).1
                              first
                                | (exfalso; omega)
                                | (obtain rfl : e = d := by rw [he] at hd; exact Option.some.inj hd
                                   exact ⟨e, he, hed, by assumption, by assumption⟩))
                          refine V.move rfl rfl rfl ?_
                          refine V.nil ?_
                          refine Post.took ?_
                          refine VA.take 1 rfl (by kernel_rfl) (by kernel_rfl) rfl (by kernel_rfl) (by kernel_rfl) (by repeat' constructor) ?_
                          refine V.move rfl rfl rfl ?_
                          refine V.nil ?_
                          refine Post.took ?_
                          refine VA.take 2 rfl (by kernel_rfl) (by kernel_rfl) rfl (by kernel_rfl) (by kernel_rfl) (by repeat' constructor) ?_
                          refine V.move rfl rfl rfl ?_
                          refine V.nil ?_
                          refine Post.took ?_
                          refine VA.take 3 rfl (by kernel_rfl) (by kernel_rfl) rfl (by kernel_rfl) (by kernel_rfl) (by repeat' constructor) ?_
                          refine V.move rfl rfl rfl ?_
                          refine V.nil ?_
                          refine Post.took ?_
                          refine VA.take 4 rfl (by kernel_rfl) (by kernel_rfl) rfl (by kernel_rfl) (by kernel_rfl) (by repeat' constructor) ?_
                          refine V.sliceStLH rfl rfl rfl rfl rfl (by omega) (by omega) ?_
                          refine V.nil ?_
                          refine Post.took ?_
                          refine VA.take 5 rfl (by kernel_rfl) (by kernel_rfl) rfl (by kernel_rfl) (by kernel_rfl) (by repeat' constructor) ?_
                          refine V.move rfl rfl rfl ?_
                          refine V.nil ?_
                          refine Post.took ?_
                          refine VA.take 6 rfl (by kernel_rfl) (by kernel_rfl) rfl (by kernel_rfl) (by kernel_rfl) (by repeat' constructor) ?_
                          refine V.move rfl rfl rfl ?_
                          refine V.nil ?_
                          refine Post.took ?_
                          refine VA.take 7 rfl (by kernel_rfl) (by kernel_rfl) rfl (by kernel_rfl) (by kernel_rfl) (by repeat' constructor) ?_
                          refine V.move rfl rfl rfl ?_
                          refine V.nil ?_
                          refine Post.took ?_
                          refine VA.take 8 rfl (by kernel_rfl) (by kernel_rfl) rfl (by kernel_rfl) (by kernel_rfl) (by repeat' constructor) ?_
                          refine V.sliceStLH rfl rfl rfl rfl rfl (by omega) (by omega) ?_
                          refine V.nil ?_
                          refine Post.took ?_
                          refine VA.take 10 rfl (by kernel_rfl) (by kernel_rfl) rfl (by kernel_rfl) (by kernel_rfl) (by repeat' constructor) ?_
                          refine V.move rfl rfl rfl ?_
                          refine V.nil ?_
                          refine Post.took ?_
                          refine VA.take 11 rfl (by kernel_rfl) (by kernel_rfl) rfl (by kernel_rfl) (by kernel_rfl) (by repeat' constructor) ?_
                          refine V.move rfl rfl rfl ?_
                          refine V.nil ?_
                          refine Post.took ?_
                          refine VA.one 9 (by kernel_rfl) rfl ?_
                          apply V.call rfl rfl rfl (hc := c48 (s := (t.take k).drop i) hs2 hs3)
                          · repeat' constructor
                          rintro vq Ho ⟨rfl, rfl⟩
                          refine V.nil ?_
                          refine Post.came (by repeat' constructor) ?_
                          refine VA.take 12 rfl (by kernel_rfl) (by kernel_rfl) rfl (by kernel_rfl) (by kernel_rfl) (by repeat' constructor) ?_
                          refine V.buildS [(0, _), (1, _), (2, _), (3, _), (4, _)] (l := [_, _, _, _, _]) rfl rfl rfl rfl rfl ?_
                          refine V.nil ?_
                          refine Post.took ?_
                          refine VA.one 13 (by kernel_rfl) rfl ?_
                          refine V.buildSlice1 (l := [.int .i64 2, st ((t.take k).drop i), .int .i64 (dval ((t.take k).drop i) : Int), .int .i64 line, .int .i64 ((i : Int) - fr + 1)]) rfl rfl rfl rfl rfl rfl rfl (fun b7 => ?_)
                          refine V.nil ?_
                          refine Post.came (by repeat' constructor) ?_
                          refine VA.one 14 (by kernel_rfl) rfl ?_
                          apply V.append1 rfl rfl rfl rfl rfl rfl (news := [.int .i64 2, st ((t.take k).drop i), .int .i64 (dval ((t.take k).drop i) : Int), .int .i64 line, .int .i64 ((i : Int) - fr + 1)]) (ho := hO) (hb := by omega) (h63 := by simp only [maxLen]; omega)
                          case hp => repeat' constructor
                          case hl => rfl
                          case h1 => rfl
                          intro v1 c1 ho1
                          refine V.nil ?_
                          refine Post.came (by repeat' constructor) ?_
                          refine VA.take 15 rfl (by kernel_rfl) (by kernel_rfl) rfl (by kernel_rfl) (by kernel_rfl) (by repeat' constructor) ?_
                          refine V.assign rfl rfl rfl ?_
                          refine V.nil ?_
                          refine Post.took ?_
                          refine VA.done (by kernel_rfl) ?_
                          refine Post.nextC ?_
                          refine VC.region ?_
                          refine V.assign rfl rfl rfl ?_
                          refine V.nil ?_
                          refine Post.blockNormal (Post.nextC ?_)
                          refine VC.region ?_
                          refine V.move rfl rfl rfl ?_
                          refine V.assign rfl rfl rfl ?_
                          refine V.nil ?_
                          refine Post.blockNormal (Post.round (k, line, fr, true, l ++ [⟨2, (t.take k).drop i, (dval ((t.take k).drop i) : Int), line, (i : Int) - fr + 1⟩], v1, c1) ?_ ?_ ?_ ?_)
                          · show (ScI t (At t (k) (line) (fr) (true) (l ++ [⟨2, (t.take k).drop i, (dval ((t.take k).drop i) : Int), line, (i : Int) - fr + 1⟩])) (v1) (c1)) ∧ ((k) ≤ t.length) ∧ ((fr) ≤ (k))
                            exact ⟨hI.moved (drop_cons ha) (by rw [step5 (by assumption), hny, if_neg (by dsimp only; omega)]; dsimp only; rw [At.tell (by omega)]) (by simpa [toks_snoc] using ho1), by omega, by omega⟩
                          · show t.length - (k) < t.length - i
                            omega
                          · exact ⟨rfl, rfl, rfl, rfl, rfl, rfl, rfl, trivial⟩
                          · repeat' constructor
                  · try simp only [decide_eq_true_eq, decide_eq_false_iff_not, Bool.not_eq_true', Bool.not_eq_false', Bool.not_eq_eq_eq_not, Bool.not_true, Bool.not_false, beq_iff_eq, beq_eq_false_iff_ne, ne_eq, Int.not_lt, Int.not_le, Option.isSome_some, Option.isNone_none, Option.isSome_none, Option.isNone_some, Classical.not_not] at h16
                    refine V.skip rfl rfl ?_
                    refine V.skip rfl rfl ?_
                    refine V.skip rfl rfl ?_
                    refine V.skip rfl rfl ?_
                    refine V.pickF rfl rfl rfl rfl ?_
                    refine V.nil ?_
                    refine Post.nextC ?_
                    refine VC.condF rfl ?_
                    refine VC.exit ?_
                    refine Post.thenExit (Post.thenExit (Post.blockHit (Post.nextC ?_)))
                    refine VC.seq ?_
                    refine VC.seq ?_
                    refine VC.region ?_
                    have hd0 : (t.length : Int) ≤ k ∨ ∃ d, t[k]? = some d ∧ digit d = false := by first | (left; assumption) | exact .inr ⟨d, hd, by assumption⟩
                    have hn := hk.done hd0
                    refine V.move rfl rfl rfl ?_
                    refine V.move rfl rfl rfl ?_
                    refine V.move rfl rfl rfl ?_
                    refine V.sliceStLH rfl rfl rfl rfl rfl (by omega) (by omega) ?_
                    apply V.call rfl rfl rfl (hc := c47 (by rw [List.length_drop, List.length_take]; omega))
                    · repeat' constructor
                    rintro vq Ho ⟨rfl, rfl⟩
                    refine V.not rfl rfl rfl ?_
                    refine V.move rfl rfl rfl ?_
                    refine V.split (t := 120) rfl (fun h22 => ?_) (fun h22 => ?_)
                    · try simp only [decide_eq_true_eq, decide_eq_false_iff_not, Bool.not_eq_true', Bool.not_eq_false', Bool.not_eq_eq_eq_not, Bool.not_true, Bool.not_false, beq_iff_eq, beq_eq_false_iff_ne, ne_eq, Int.not_lt, Int.not_le, Option.isSome_some, Option.isNone_none, Option.isSome_none, Option.isNone_some, Classical.not_not] at h22
                      refine V.skip rfl rfl ?_
                      refine V.skip rfl rfl ?_
                      refine V.skip rfl rfl ?_
                      refine V.skip rfl rfl ?_
                      refine V.skip rfl rfl ?_
                      refine V.skip rfl rfl ?_
                      refine V.skip rfl rfl ?_
                      refine V.skip rfl rfl ?_
                      refine V.skip rfl rfl ?_
                      refine V.skip rfl rfl ?_
                      refine V.skip rfl rfl ?_
                      refine V.skip rfl rfl ?_
                      refine V.skip rfl rfl ?_
                      refine V.skip rfl rfl ?_
                      refine V.skip rfl rfl ?_
                      refine V.skip rfl rfl ?_
                      refine V.pickT rfl rfl rfl rfl ?_
                      refine V.nil ?_
                      refine Post.nextC ?_
                      refine VC.condT rfl ?_
                      refine VC.seq ?_
                      refine VC.region ?_
                      refine V.move rfl rfl rfl ?_
                      refine V.move rfl rfl rfl ?_
                      apply V.call rfl rfl rfl (hc := c43)
                      · repeat' constructor
                      rintro vq Ho ⟨rfl, rfl⟩
                      refine V.assign rfl rfl rfl ?_
                      apply V.storeAll rfl rfl rfl rfl
                      · repeat' constructor
                      · exact rfl
                      · exact rfl
                      refine V.nil ?_
                      refine Post.nextC ?_
                      refine VC.ret ?_
                      refine Post.thenRet (Post.blockRet (Post.thenRet (Post.blockRet (Post.thenRet (Post.blockRet (Post.thenRet (?_)))))))
                      apply Post.retV2 rfl (.tmp rfl) (.all rfl rfl (by repeat' constructor) (by exact rfl))
                      · have e := hI.badly (drop_cons ha) (by rw [step5 (by assumption), if_pos (by first | exact numb_no1 hn (by assumption) | exact numb_no2 hn (by omega) hd (by first | (left; assumption) | (right; assumption)))]) (by omega) (by omega)
                        exact ⟨.slice none 0 0, [], by rw [e]; exact Own.nil _ _, by rw [e], rfl⟩
                      · repeat' constructor
                    · try simp only [decide_eq_true_eq, decide_eq_false_iff_not, Bool.not_eq_true', Bool.not_eq_false', Bool.not_eq_eq_eq_not, Bool.not_true, Bool.not_false, beq_iff_eq, beq_eq_false_iff_ne, ne_eq, Int.not_lt, Int.not_le, Option.isSome_some, Option.isNone_none, Option.isSome_none, Option.isNone_some, Classical.not_not] at h22
                      refine V.move rfl rfl rfl ?_
                      refine V.move rfl rfl rfl ?_
                      refine V.lenSt rfl rfl rfl ?_
                      refine V.bin rfl rfl rfl rfl (bin_lss _ _ _) ?_
                      refine V.move rfl rfl rfl ?_
                      refine V.split (t := 125) rfl (fun h23 => ?_) (fun h23 => ?_)
                      · try simp only [decide_eq_true_eq, decide_eq_false_iff_not, Bool.not_eq_true', Bool.not_eq_false', Bool.not_eq_eq_eq_not, Bool.not_true, Bool.not_false, beq_iff_eq, beq_eq_false_iff_ne, ne_eq, Int.not_lt, Int.not_le, Option.isSome_some, Option.isNone_none, Option.isSome_none, Option.isNone_some, Classical.not_not] at h23
                        refine V.move rfl rfl rfl ?_
                        refine V.move rfl rfl rfl ?_
                        obtain ⟨d, hd⟩ := getc (t := t) (i := k) (by assumption)
                        refine V.indexSt (i := k) (c := d) rfl rfl rfl rfl hd ?_
                        apply V.call rfl rfl rfl (hc := c44)
                        · repeat' constructor
                        rintro vq Ho ⟨rfl, rfl⟩
                        refine V.move rfl rfl rfl ?_
                        refine V.split (t := 130) rfl (fun h24 => ?_) (fun h24 => ?_)
                        · try simp only [decide_eq_true_eq, decide_eq_false_iff_not, Bool.not_eq_true', Bool.not_eq_false', Bool.not_eq_eq_eq_not, Bool.not_true, Bool.not_false, beq_iff_eq, beq_eq_false_iff_ne, ne_eq, Int.not_lt, Int.not_le, Option.isSome_some, Option.isNone_none, Option.isSome_none, Option.isNone_some, Classical.not_not] at h24
                          refine V.skip rfl rfl ?_
                          refine V.skip rfl rfl ?_
                          refine V.skip rfl rfl ?_
                          refine V.skip rfl rfl ?_
                          refine V.pickT rfl rfl rfl rfl ?_
                          refine V.pickT rfl rfl rfl rfl ?_
                          refine V.pickF rfl rfl rfl rfl ?_
                          refine V.nil ?_
                          refine Post.nextC ?_
                          refine VC.condT rfl ?_
                          refine VC.seq ?_
                          refine VC.region ?_
                          refine V.move rfl rfl rfl ?_
                          refine V.move rfl rfl rfl ?_
                          apply V.call rfl rfl rfl (hc := c43)
                          · repeat' constructor
                          rintro vq Ho ⟨rfl, rfl⟩
                          refine V.assign rfl rfl rfl ?_
                          apply V.storeAll rfl rfl rfl rfl
                          · repeat' constructor
                          · exact rfl
                          · exact rfl
                          refine V.nil ?_
                          refine Post.nextC ?_
                          refine VC.ret ?_
                          refine Post.thenRet (Post.blockRet (Post.thenRet (Post.blockRet (Post.thenRet (Post.blockRet (Post.thenRet (?_)))))))
                          apply Post.retV2 rfl (.tmp rfl) (.all rfl rfl (by repeat' constructor) (by exact rfl))
                          · have e := hI.badly (drop_cons ha) (by rw [step5 (by assumption), if_pos (by first | exact numb_no1 hn (by assumption) | exact numb_no2 hn (by omega) hd (by first | (left; assumption) | (right; assumption)))]) (by omega) (by omega)
                            exact ⟨.slice none 0 0, [], by rw [e]; exact Own.nil _ _, by rw [e], rfl⟩
                          · repeat' constructor
                        · try simp only [decide_eq_true_eq, decide_eq_false_iff_not, Bool.not_eq_true', Bool.not_eq_false', Bool.not_eq_eq_eq_not, Bool.not_true, Bool.not_false, beq_iff_eq, beq_eq_false_iff_ne, ne_eq, Int.not_lt, Int.not_le, Option.isSome_some, Option.isNone_none, Option.isSome_none, Option.isNone_some, Classical.not_not] at h24
                          refine V.move rfl rfl rfl ?_
                          refine V.move rfl rfl rfl ?_
                          refine V.indexSt (i := k) (c := d) rfl rfl rfl rfl hd ?_
                          refine V.bin rfl rfl rfl rfl (bin_eql _ _ _) ?_
                          refine V.pickF rfl rfl rfl rfl ?_
                          refine V.pickT rfl rfl rfl rfl ?_
                          refine V.pickF rfl rfl rfl rfl ?_
                          refine V.nil ?_
                          refine Post.nextC ?_
                          refine VC.cond rfl (fun h25 => ?_) (fun h25 => ?_)
                          · try simp only [decide_eq_true_eq, decide_eq_false_iff_not, Bool.not_eq_true', Bool.not_eq_false', Bool.not_eq_eq_eq_not, Bool.not_true, Bool.not_false, beq_iff_eq, beq_eq_false_iff_ne, ne_eq, Int.not_lt, Int.not_le, Option.isSome_some, Option.isNone_none, Option.isSome_none, Option.isNone_some, Classical.not_not] at h25
                            refine VC.seq ?_
                            refine VC.region ?_
                            refine V.move rfl rfl rfl ?_
                            refine V.move rfl rfl rfl ?_
                            apply V.call rfl rfl rfl (hc := c43)
                            · repeat' constructor
                            rintro vq Ho ⟨rfl, rfl⟩
                            refine V.assign rfl rfl rfl ?_
                            apply V.storeAll rfl rfl rfl rfl
                            · repeat' constructor
                            · exact rfl
                            · exact rfl
                            refine V.nil ?_
                            refine Post.nextC ?_
                            refine VC.ret ?_
                            refine Post.thenRet (Post.blockRet (Post.thenRet (Post.blockRet (Post.thenRet (Post.blockRet (Post.thenRet (?_)))))))
                            apply Post.retV2 rfl (.tmp rfl) (.all rfl rfl (by repeat' constructor) (by exact rfl))
                            · have e := hI.badly (drop_cons ha) (by rw [step5 (by assumption), if_pos (by first | exact numb_no1 hn (by assumption) | exact numb_no2 hn (by omega) hd (by first | (left; assumption) | (right; assumption)))]) (by omega) (by omega)
                              exact ⟨.slice none 0 0, [], by rw [e]; exact Own.nil _ _, by rw [e], rfl⟩
                            · repeat' constructor
                          · try simp only [decide_eq_true_eq, decide_eq_false_iff_not, Bool.not_eq_true', Bool.not_eq_false', Bool.not_eq_eq_eq_not, Bool.not_true, Bool.not_false, beq_iff_eq, beq_eq_false_iff_ne, ne_eq, Int.not_lt, Int.not_le, Option.isSome_some, Option.isNone_none, Option.isSome_none, Option.isNone_some, Classical.not_not] at h25
                            refine VC.skip ?_
                            refine Post.nextC ?_
                            refine VC.seq ?_
                            refine VC.any ([]) 16 16 mixed rfl ?_
                            refine VA.take 0 rfl (by kernel_rfl) (by kernel_rfl) rfl (by kernel_rfl) (by kernel_rfl) (by repeat' constructor) ?_
                            have hR : rightNum ((t.take k).drop i) = true := by assumption
                            obtain ⟨hs1, hs2, hs3⟩ := rightNum_spec hR
                            have hny : numb (t.drop i) = (k - i, dval ((t.take k).drop i)) := numb_yes hn (by omega) hR (by
                              rcases hd0 with h | ⟨e, he, hed⟩
                              · exact .inl h
                              · right
                                have hkl := (List.getElem?_eq_some_iff.1 he).1
                                first
                                  | (exfalso; omega)
                                  | (obtain rfl : e = d := by rw [he] at hd; exact Option.some.inj hd
                                     exact ⟨e, he, hed, by assumption, by assumption⟩))
                            refine V.move rfl rfl rfl ?_
                            refine V.nil ?_
                            refine Post.took ?_
                            refine VA.take 1 rfl (by kernel_rfl) (by kernel_rfl) rfl (by kernel_rfl) (by kernel_rfl) (by repeat' constructor) ?_
                            refine V.move rfl rfl rfl ?_
                            refine V.nil ?_
                            refine Post.took ?_
                            refine VA.take 2 rfl (by kernel_rfl) (by kernel_rfl) rfl (by kernel_rfl) (by kernel_rfl) (by repeat' constructor) ?_
                            refine V.move rfl rfl rfl ?_
                            refine V.nil ?_
                            refine Post.took ?_
                            refine VA.take 3 rfl (by kernel_rfl) (by kernel_rfl) rfl (by kernel_rfl) (by kernel_rfl) (by repeat' constructor) ?_
                            refine V.move rfl rfl rfl ?_
                            refine V.nil ?_
                            refine Post.took ?_
                            refine VA.take 4 rfl (by kernel_rfl) (by kernel_rfl) rfl (by kernel_rfl) (by kernel_rfl) (by repeat' constructor) ?_
                            refine V.sliceStLH rfl rfl rfl rfl rfl (by omega) (by omega) ?_
                            refine V.nil ?_
                            refine Post.took ?_
                            refine VA.take 5 rfl (by kernel_rfl) (by kernel_rfl) rfl (by kernel_rfl) (by kernel_rfl) (by repeat' constructor) ?_
                            refine V.move rfl rfl rfl ?_
                            refine V.nil ?_
                            refine Post.took ?_
                            refine VA.take 6 rfl (by kernel_rfl) (by kernel_rfl) rfl (by kernel_rfl) (by kernel_rfl) (by repeat' constructor) ?_
                            refine V.move rfl rfl rfl ?_
                            refine V.nil ?_
                            refine Post.took ?_
                            refine VA.take 7 rfl (by kernel_rfl) (by kernel_rfl) rfl (by kernel_rfl) (by kernel_rfl) (by repeat' constructor) ?_
                            refine V.move rfl rfl rfl ?_
                            refine V.nil ?_
                            refine Post.took ?_
                            refine VA.take 8 rfl (by kernel_rfl) (by kernel_rfl) rfl (by kernel_rfl) (by kernel_rfl) (by repeat' constructor) ?_
                            refine V.sliceStLH rfl rfl rfl rfl rfl (by omega) (by omega) ?_
                            refine V.nil ?_
                            refine Post.took ?_
                            refine VA.take 10 rfl (by kernel_rfl) (by kernel_rfl) rfl (by kernel_rfl) (by kernel_rfl) (by repeat' constructor) ?_
                            refine V.move rfl rfl rfl ?_
                            refine V.nil ?_
                            refine Post.took ?_
                            refine VA.take 11 rfl (by kernel_rfl) (by kernel_rfl) rfl (by kernel_rfl) (by kernel_rfl) (by repeat' constructor) ?_
                            refine V.move rfl rfl rfl ?_
                            refine V.nil ?_
                            refine Post.took ?_
                            refine VA.one 9 (by kernel_rfl) rfl ?_
                            apply V.call rfl rfl rfl (hc := c48 (s := (t.take k).drop i) hs2 hs3)
                            · repeat' constructor
                            rintro vq Ho ⟨rfl, rfl⟩
                            refine V.nil ?_
                            refine Post.came (by repeat' constructor) ?_
                            refine VA.take 12 rfl (by kernel_rfl) (by kernel_rfl) rfl (by kernel_rfl) (by kernel_rfl) (by repeat' constructor) ?_
                            refine V.buildS [(0, _), (1, _), (2, _), (3, _), (4, _)] (l := [_, _, _, _, _]) rfl rfl rfl rfl rfl ?_
                            refine V.nil ?_
                            refine Post.took ?_
                            refine VA.one 13 (by kernel_rfl) rfl ?_
                            refine V.buildSlice1 (l := [.int .i64 2, st ((t.take k).drop i), .int .i64 (dval ((t.take k).drop i) : Int), .int .i64 line, .int .i64 ((i : Int) - fr + 1)]) rfl rfl rfl rfl rfl rfl rfl (fun b7 => ?_)
                            refine V.nil ?_
                            refine Post.came (by repeat' constructor) ?_
                            refine VA.one 14 (by kernel_rfl) rfl ?_
                            apply V.append1 rfl rfl rfl rfl rfl rfl (news := [.int .i64 2, st ((t.take k).drop i), .int .i64 (dval ((t.take k).drop i) : Int), .int .i64 line, .int .i64 ((i : Int) - fr + 1)]) (ho := hO) (hb := by omega) (h63 := by simp only [maxLen]; omega)
                            case hp => repeat' constructor
                            case hl => rfl
                            case h1 => rfl
                            intro v1 c1 ho1
                            refine V.nil ?_
                            refine Post.came (by repeat' constructor) ?_
                            refine VA.take 15 rfl (by kernel_rfl) (by kernel_rfl) rfl (by kernel_rfl) (by kernel_rfl) (by repeat' constructor) ?_
                            refine V.assign rfl rfl rfl ?_
                            refine V.nil ?_
                            refine Post.took ?_
                            refine VA.done (by kernel_rfl) ?_
                            refine Post.nextC ?_
                            refine VC.region ?_
                            refine V.assign rfl rfl rfl ?_
                            refine V.nil ?_
                            refine Post.blockNormal (Post.nextC ?_)
                            refine VC.region ?_
                            refine V.move rfl rfl rfl ?_
                            refine V.assign rfl rfl rfl ?_
                            refine V.nil ?_
                            refine Post.blockNormal (Post.round (k, line, fr, true, l ++ [⟨2, (t.take k).drop i, (dval ((t.take k).drop i) : Int), line, (i : Int) - fr + 1⟩], v1, c1) ?_ ?_ ?_ ?_)
                            · show (ScI t (At t (k) (line) (fr) (true) (l ++ [⟨2, (t.take k).drop i, (dval ((t.take k).drop i) : Int), line, (i : Int) - fr + 1⟩])) (v1) (c1)) ∧ ((k) ≤ t.length) ∧ ((fr) ≤ (k))
                              exact ⟨hI.moved (drop_cons ha) (by rw [step5 (by assumption), hny, if_neg (by dsimp only; omega)]; dsimp only; rw [At.tell (by omega)]) (by simpa [toks_snoc] using ho1), by omega, by omega⟩
                            · show t.length - (k) < t.length - i
                              omega
                            · exact ⟨rfl, rfl, rfl, rfl, rfl, rfl, rfl, trivial⟩
                            · repeat' constructor
                      · try simp only [decide_eq_true_eq, decide_eq_false_iff_not, Bool.not_eq_true', Bool.not_eq_false', Bool.not_eq_eq_eq_not, Bool.not_true, Bool.not_false, beq_iff_eq, beq_eq_false_iff_ne, ne_eq, Int.not_lt, Int.not_le, Option.isSome_some, Option.isNone_none, Option.isSome_none, Option.isNone_some, Classical.not_not] at h23
                        refine V.skip rfl rfl ?_
                        refine V.skip rfl rfl ?_
                        refine V.skip rfl rfl ?_
                        refine V.skip rfl rfl ?_
                        refine V.skip rfl rfl ?_
                        refine V.skip rfl rfl ?_
                        refine V.skip rfl rfl ?_
                        refine V.skip rfl rfl ?_
                        refine V.skip rfl rfl ?_
                        refine V.skip rfl rfl ?_
                        refine V.pickF rfl rfl rfl rfl ?_
                        refine V.pickF rfl rfl rfl rfl ?_
                        refine V.nil ?_
                        refine Post.nextC ?_
                        refine VC.condF rfl ?_
                        refine VC.skip ?_
                        refine Post.nextC ?_
                        refine VC.seq ?_
                        refine VC.any ([]) 16 16 mixed rfl ?_
                        refine VA.take 0 rfl (by kernel_rfl) (by kernel_rfl) rfl (by kernel_rfl) (by kernel_rfl) (by repeat' constructor) ?_
                        have hR : rightNum ((t.take k).drop i) = true := by assumption
                        obtain ⟨hs1, hs2, hs3⟩ := rightNum_spec hR
                        have hny : numb (t.drop i) = (k - i, dval ((t.take k).drop i)) := numb_yes hn (by omega) hR (by
                          rcases hd0 with h | ⟨e, he, hed⟩
                          · exact .inl h
                          · right
                            have hkl := (List.getElem?_eq_some_iff.1 he).1
                            first
                              | (exfalso; omega)
                              | (obtain rfl : e = d := by rw [he] at hd; exact Option.some.inj hd
                                 exact ⟨e, he, hed, by assumption, by assumption⟩))
                        refine V.move rfl rfl rfl ?_
                        refine V.nil ?_
                        refine Post.took ?_
                        refine VA.take 1 rfl (by kernel_rfl) (by kernel_rfl) rfl (by kernel_rfl) (by kernel_rfl) (by repeat' constructor) ?_
                        refine V.move rfl rfl rfl ?_
                        refine V.nil ?_
                        refine Post.took ?_
                        refine VA.take 2 rfl (by kernel_rfl) (by kernel_rfl) rfl (by kernel_rfl) (by kernel_rfl) (by repeat' constructor) ?_
                        refine V.move rfl rfl rfl ?_
                        refine V.nil ?_
                        refine Post.took ?_
                        refine VA.take 3 rfl (by kernel_rfl) (by kernel_rfl) rfl (by kernel_rfl) (by kernel_rfl) (by repeat' constructor) ?_
                        refine V.move rfl rfl rfl ?_
                        refine V.nil ?_
                        refine Post.took ?_
                        refine VA.take 4 rfl (by kernel_rfl) (by kernel_rfl) rfl (by kernel_rfl) (by kernel_rfl) (by repeat' constructor) ?_
                        refine V.sliceStLH rfl rfl rfl rfl rfl (by omega) (by omega) ?_
                        refine V.nil ?_
                        refine Post.took ?_
                        refine VA.take 5 rfl (by kernel_rfl) (by kernel_rfl) rfl (by kernel_rfl) (by kernel_rfl) (by repeat' constructor) ?_
                        refine V.move rfl rfl rfl ?_
                        refine V.nil ?_
                        refine Post.took ?_
                        refine VA.take 6 rfl (by kernel_rfl) (by kernel_rfl) rfl (by kernel_rfl) (by kernel_rfl) (by repeat' constructor) ?_
                        refine V.move rfl rfl rfl ?_
                        refine V.nil ?_
                        refine Post.took ?_
                        refine VA.take 7 rfl (by kernel_rfl) (by kernel_rfl) rfl (by kernel_rfl) (by kernel_rfl) (by repeat' constructor) ?_
                        refine V.move rfl rfl rfl ?_
                        refine V.nil ?_
                        refine Post.took ?_
                        refine VA.take 8 rfl (by kernel_rfl) (by kernel_rfl) rfl (by kernel_rfl) (by kernel_rfl) (by repeat' constructor) ?_
                        refine V.sliceStLH rfl rfl rfl rfl rfl (by omega) (by omega) ?_
                        refine V.nil ?_
                        refine Post.took ?_
                        refine VA.take 10 rfl (by kernel_rfl) (by kernel_rfl) rfl (by kernel_rfl) (by kernel_rfl) (by repeat' constructor) ?_
                        refine V.move rfl rfl rfl ?_
                        refine V.nil ?_
                        refine Post.took ?_
                        refine VA.take 11 rfl (by kernel_rfl) (by kernel_rfl) rfl (by kernel_rfl) (by kernel_rfl) (by repeat' constructor) ?_
                        refine V.move rfl rfl rfl ?_
                        refine V.nil ?_
                        refine Post.took ?_
                        refine VA.one 9 (by kernel_rfl) rfl ?_
                        apply V.call rfl rfl rfl (hc := c48 (s := (t.take k).drop i) hs2 hs3)
                        · repeat' constructor
                        rintro vq Ho ⟨rfl, rfl⟩
                        refine V.nil ?_
                        refine Post.came (by repeat' constructor) ?_
                        refine VA.take 12 rfl (by kernel_rfl) (by kernel_rfl) rfl (by kernel_rfl) (by kernel_rfl) (by repeat' constructor) ?_
                        refine V.buildS [(0, _), (1, _), (2, _), (3, _), (4, _)] (l := [_, _, _, _, _]) rfl rfl rfl rfl rfl ?_
                        refine V.nil ?_
                        refine Post.took ?_
                        refine VA.one 13 (by kernel_rfl) rfl ?_
                        refine V.buildSlice1 (l := [.int .i64 2, st ((t.take k).drop i), .int .i64 (dval ((t.take k).drop i) : Int), .int .i64 line, .int .i64 ((i : Int) - fr + 1)]) rfl rfl rfl rfl rfl rfl rfl (fun b7 => ?_)
                        refine V.nil ?_
                        refine Post.came (by repeat' constructor) ?_
                        refine VA.one 14 (by kernel_rfl) rfl ?_
                        apply V.append1 rfl rfl rfl rfl rfl rfl (news := [.int .i64 2, st ((t.take k).drop i), .int .i64 (dval ((t.take k).drop i) : Int), .int .i64 line, .int .i64 ((i : Int) - fr + 1)]) (ho := hO) (hb := by omega) (h63 := by simp only [maxLen]; omega)
                        case hp => repeat' constructor
                        case hl => rfl
                        case h1 => rfl
                        intro v1 c1 ho1
                        refine V.nil ?_
                        refine Post.came (by repeat' constructor) ?_
                        refine VA.take 15 rfl (by kernel_rfl) (by kernel_rfl) rfl (by kernel_rfl) (by kernel_rfl) (by repeat' constructor) ?_
                        refine V.assign rfl rfl rfl ?_
                        refine V.nil ?_
                        refine Post.took ?_
                        refine VA.done (by kernel_rfl) ?_
                        refine Post.nextC ?_
                        refine VC.region ?_
                        refine V.assign rfl rfl rfl ?_
                        refine V.nil ?_
                        refine Post.blockNormal (Post.nextC ?_)
                        refine VC.region ?_
                        refine V.move rfl rfl rfl ?_
                        refine V.assign rfl rfl rfl ?_
                        refine V.nil ?_
                        refine Post.blockNormal (Post.round (k, line, fr, true, l ++ [⟨2, (t.take k).drop i, (dval ((t.take k).drop i) : Int), line, (i : Int) - fr + 1⟩], v1, c1) ?_ ?_ ?_ ?_)
                        · show (ScI t (At t (k) (line) (fr) (true) (l ++ [⟨2, (t.take k).drop i, (dval ((t.take k).drop i) : Int), line, (i : Int) - fr + 1⟩])) (v1) (c1)) ∧ ((k) ≤ t.length) ∧ ((fr) ≤ (k))
                          exact ⟨hI.moved (drop_cons ha) (by rw [step5 (by assumption), hny, if_neg (by dsimp only; omega)]; dsimp only; rw [At.tell (by omega)]) (by simpa [toks_snoc] using ho1), by omega, by omega⟩
                        · show t.length - (k) < t.length - i
                          omega
                        · exact ⟨rfl, rfl, rfl, rfl, rfl, rfl, rfl, trivial⟩
                        · repeat' constructor
                · try simp only [decide_eq_true_eq, decide_eq_false_iff_not, Bool.not_eq_true', Bool.not_eq_false', Bool.not_eq_eq_eq_not, Bool.not_true, Bool.not_false, beq_iff_eq, beq_eq_false_iff_ne, ne_eq, Int.not_lt, Int.not_le, Option.isSome_some, Option.isNone_none, Option.isSome_none, Option.isNone_some, Classical.not_not] at h15
                  refine VC.seq ?_
                  refine VC.region ?_
                  refine V.move rfl rfl rfl ?_
                  apply V.call rfl rfl rfl (hc := c49)
                  · repeat' constructor
                  rintro vq Ho ⟨rfl, rfl⟩
                  refine V.assign rfl rfl rfl ?_
                  refine V.nil ?_
                  refine Post.nextC ?_
                  refine VC.cond rfl (fun h26 => ?_) (fun h26 => ?_)
                  · try simp only [decide_eq_true_eq, decide_eq_false_iff_not, Bool.not_eq_true', Bool.not_eq_false', Bool.not_eq_eq_eq_not, Bool.not_true, Bool.not_false, beq_iff_eq, beq_eq_false_iff_ne, ne_eq, Int.not_lt, Int.not_le, Option.isSome_some, Option.isNone_none, Option.isSome_none, Option.isNone_some, Classical.not_not] at h26
                    refine VC.seq ?_
                    refine VC.region ?_
                    refine V.move rfl rfl rfl ?_
                    refine V.move rfl rfl rfl ?_
                    refine V.move rfl rfl rfl ?_
                    refine V.move rfl rfl rfl ?_
                    refine V.sliceStLH (i := i) (j := i + 1) rfl rfl rfl rfl rfl (by omega) (by omega) ?_
                    refine V.move rfl rfl rfl ?_
                    refine V.move rfl rfl rfl ?_
                    refine V.buildS [(0, _), (1, _), (3, _), (4, _)] (l := [_, _, .int .i64 0, _, _]) rfl rfl rfl rfl rfl ?_
                    refine V.buildSlice1 (l := [.int .i64 3, st ((t.take (i + 1)).drop i), .int .i64 0, .int .i64 line, .int .i64 ((i : Int) - fr + 1)]) rfl rfl rfl rfl rfl rfl rfl (fun b8 => ?_)
                    apply V.append1 rfl rfl rfl rfl rfl rfl (news := [.int .i64 3, st ((t.take (i + 1)).drop i), .int .i64 0, .int .i64 line, .int .i64 ((i : Int) - fr + 1)]) (ho := hO) (hb := by omega) (h63 := by simp only [maxLen]; omega)
                    case hp => repeat' constructor
                    case hl => rfl
                    case h1 => rfl
                    intro v1 c1 ho1
                    refine V.assign rfl rfl rfl ?_
                    refine V.nil ?_
                    refine Post.nextC ?_
                    refine VC.region ?_
                    refine V.assign rfl rfl rfl ?_
                    refine V.nil ?_
                    refine Post.blockNormal (Post.nextC ?_)
                    refine VC.region ?_
                    refine V.move rfl rfl rfl ?_
                    refine V.assign rfl rfl rfl ?_
                    refine V.nil ?_
                    refine Post.blockNormal (Post.round (i + 1, line, fr, true, l ++ [⟨3, (t.take (i + 1)).drop i, 0, line, (i : Int) - fr + 1⟩], v1, c1) ?_ ?_ ?_ ?_)
                    · show (ScI t (At t (i + 1) (line) (fr) (true) (l ++ [⟨3, (t.take (i + 1)).drop i, 0, line, (i : Int) - fr + 1⟩])) (v1) (c1)) ∧ ((i + 1) ≤ t.length) ∧ ((fr) ≤ (i + 1))
                      exact ⟨hI.moved (drop_cons ha) (by rw [step6 (by omega) (by omega) (by omega) (by assumption) (by assumption), if_pos (by assumption), ← At.tell (i := i) (k := i + 1) (by omega), show i + 1 - i = 1 by omega]) (by simpa [toks_snoc] using ho1), by omega, by omega⟩
                    · show t.length - (i + 1) < t.length - i
                      omega
                    · exact ⟨rfl, rfl, rfl, rfl, rfl, rfl, rfl, trivial⟩
                    · repeat' constructor
                  · try simp only [decide_eq_true_eq, decide_eq_false_iff_not, Bool.not_eq_true', Bool.not_eq_false', Bool.not_eq_eq_eq_not, Bool.not_true, Bool.not_false, beq_iff_eq, beq_eq_false_iff_ne, ne_eq, Int.not_lt, Int.not_le, Option.isSome_some, Option.isNone_none, Option.isSome_none, Option.isNone_some, Classical.not_not] at h26
                    refine VC.seq ?_
                    refine VC.region ?_
                    refine V.move rfl rfl rfl ?_
                    refine V.move rfl rfl rfl ?_
                    apply V.call rfl rfl rfl (hc := c43)
                    · repeat' constructor
                    rintro vq Ho ⟨rfl, rfl⟩
                    refine V.assign rfl rfl rfl ?_
                    apply V.storeAll rfl rfl rfl rfl
                    · repeat' constructor
                    · exact rfl
                    · exact rfl
                    refine V.nil ?_
                    refine Post.nextC ?_
                    refine VC.ret ?_
                    refine Post.blockRet (Post.thenRet (Post.blockRet (Post.thenRet (Post.blockRet (Post.thenRet (?_))))))
                    apply Post.retV2 rfl (.tmp rfl) (.all rfl rfl (by repeat' constructor) (by exact rfl))
                    · have e := hI.badly (drop_cons ha) (by rw [step6 (by omega) (by omega) (by omega) (by assumption) (by assumption), if_neg (by simp_all)]) (by omega) (by omega)
                      exact ⟨.slice none 0 0, [], by rw [e]; exact Own.nil _ _, by rw [e], rfl⟩
                    · repeat' constructor
    · try simp only [decide_eq_true_eq, decide_eq_false_iff_not, Bool.not_eq_true', Bool.not_eq_false', Bool.not_eq_eq_eq_not, Bool.not_true, Bool.not_false, beq_iff_eq, beq_eq_false_iff_ne, ne_eq, Int.not_lt, Int.not_le, Option.isSome_some, Option.isNone_none, Option.isSome_none, Option.isNone_some, Classical.not_not] at h2
      refine VC.exit ?_
      refine Post.thenExit (Post.thenExit (Post.blockHit (Post.nextC ?_)))
      refine VC.seq ?_
      refine VC.seq ?_
      refine VC.region ?_
      refine V.move rfl rfl rfl ?_
      refine V.nil ?_
      refine Post.nextC ?_
      refine VC.cond rfl (fun h27 => ?_) (fun h27 => ?_)
      · try simp only [decide_eq_true_eq, decide_eq_false_iff_not, Bool.not_eq_true', Bool.not_eq_false', Bool.not_eq_eq_eq_not, Bool.not_true, Bool.not_false, beq_iff_eq, beq_eq_false_iff_ne, ne_eq, Int.not_lt, Int.not_le, Option.isSome_some, Option.isNone_none, Option.isSome_none, Option.isNone_some, Classical.not_not] at h27
        refine VC.region ?_
        refine V.move rfl rfl rfl ?_
        refine V.move rfl rfl rfl ?_
        refine V.move rfl rfl rfl ?_
        refine V.lenSt rfl rfl rfl ?_
        refine V.move rfl rfl rfl ?_
        refine V.bin rfl rfl rfl rfl (bin_subI (by omega)) ?_
        refine V.bin rfl rfl rfl rfl (bin_addI (by omega)) ?_
        refine V.buildS [(0, _), (3, _), (4, _)] (l := [_, .string ByteArray.empty, .int .i64 0, _, _]) rfl rfl rfl rfl rfl ?_
        refine V.buildSlice1 (l := [.int .i64 4, st [], .int .i64 0, .int .i64 line, .int .i64 ((t.length : Int) - fr + 1)]) rfl rfl rfl rfl rfl rfl rfl (fun b9 => ?_)
        apply V.append1 rfl rfl rfl rfl rfl rfl (news := [.int .i64 4, st [], .int .i64 0, .int .i64 line, .int .i64 ((t.length : Int) - fr + 1)]) (ho := hO) (hb := by omega) (h63 := by simp only [maxLen]; omega)
        case hp => repeat' constructor
        case hl => rfl
        case h1 => rfl
        intro v1 c1 ho1
        refine V.assign rfl rfl rfl ?_
        refine V.nil ?_
        refine Post.nextC ?_
        refine VC.seq ?_
        refine VC.region ?_
        refine V.move rfl rfl rfl ?_
        refine V.buildS [] (l := [.int .i64 0, .int .i64 0, .int .i64 0]) rfl rfl rfl rfl rfl ?_
        refine V.assign rfl rfl rfl ?_
        apply V.storeAll rfl rfl rfl rfl
        · repeat' constructor
        · exact rfl
        · exact rfl
        refine V.nil ?_
        refine Post.nextC ?_
        refine VC.ret ?_
        apply Post.retV2 rfl (.tmp rfl) (.all rfl rfl (by repeat' constructor) (by exact rfl))
        · obtain rfl : i = t.length := by omega
          have hany : any = true := by assumption
          have e := hI.done (by simp) (by omega)
          rw [hany] at e
          exact ⟨v1, c1, by rw [e]; simpa [toks_snoc] using ho1, by rw [e], rfl⟩
        · repeat' constructor
      · try simp only [decide_eq_true_eq, decide_eq_false_iff_not, Bool.not_eq_true', Bool.not_eq_false', Bool.not_eq_eq_eq_not, Bool.not_true, Bool.not_false, beq_iff_eq, beq_eq_false_iff_ne, ne_eq, Int.not_lt, Int.not_le, Option.isSome_some, Option.isNone_none, Option.isSome_none, Option.isNone_some, Classical.not_not] at h27
        refine VC.skip ?_
        refine Post.nextC ?_
        refine VC.seq ?_
        refine VC.region ?_
        refine V.move rfl rfl rfl ?_
        refine V.buildS [] (l := [.int .i64 0, .int .i64 0, .int .i64 0]) rfl rfl rfl rfl rfl ?_
        refine V.assign rfl rfl rfl ?_
        apply V.storeAll rfl rfl rfl rfl
        · repeat' constructor
        · exact rfl
        · exact rfl
        refine V.nil ?_
        refine Post.nextC ?_
        refine VC.ret ?_
        apply Post.retV2 rfl (.tmp rfl) (.all rfl rfl (by repeat' constructor) (by exact rfl))
        · obtain rfl : i = t.length := by omega
          have hany : any = false := by assumption
          have e := hI.done (by simp) (by omega)
          rw [hany] at e
          exact ⟨v, c, by rw [e]; exact hI.own, by rw [e], rfl⟩
        · repeat' constructor

end Go.Proofs.Ln
