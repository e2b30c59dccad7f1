/- Contracts of functions of the given program, each proved by walking its code: part of the proof of this claim; no condition beyond those that each theorem names. -/
import Derived.Test.YtfclhhhnngkdlaaDoorLnGood
set_option linter.unusedVariables false
set_option linter.unusedSimpArgs false
namespace Go.Proofs.Ln
open Go Go.RowKit Go.Proofs.Eng
theorem call6 (c : Call) : c.cells.length = 6 := rfl
abbrev callsC (l : List Call) : List Value := l.flatMap Call.cells
def scriptGo : Nat → List Tok → List Call → List Call × Int × Int × Int
  | 0, _, acc => (acc, 0, 0, 0)
  | n + 1, l, acc => if l = [] then (acc, 0, 0, 0)
    else if (lineOf l).2.2.1 = true then scriptGo n (lineOf l).2.2.2 (acc ++ [(lineOf l).1])
    else ([], 3, (lineOf l).2.1.line, (lineOf l).2.1.col)
/-- a text's calls, or an error's number and place -/
def script (t : List UInt8) : List Call × Int × Int × Int := if (scan t).2.1 ≠ 0 then ([], (scan t).2) else scriptGo (scan t).1.length (scan t).1 []
theorem scriptGo_nil (n : Nat) (acc : List Call) : scriptGo n [] acc = (acc, 0, 0, 0) := by cases n <;> simp [scriptGo]
theorem scriptGo_more : ∀ (n m : Nat) (l : List Tok) (acc : List Call), l.length ≤ n → n ≤ m → Good l → scriptGo m l acc = scriptGo n l acc
  | 0, m, l, acc, hn, _, _ => by
    obtain rfl : l = [] := List.eq_nil_of_length_eq_zero (by omega)
    rw [scriptGo_nil, scriptGo_nil]
  | n + 1, m, l, acc, hn, hm, hg => by
    obtain ⟨m, rfl⟩ : ∃ k, m = k + 1 := ⟨m - 1, by omega⟩
    simp only [scriptGo]
    split
    · rfl
    · split
      · rename_i hok
        obtain ⟨h1, h2⟩ := lineOf_rest hg hok
        exact scriptGo_more n m _ _ (by omega) (by omega) h1
      · rfl
/-- a round of Script -/
structure ScrI (w0 : World) (C : Chunk) (t : List UInt8) (l : List Tok) (acc : List Call) (v cv : Value) (cc : Chunk) : Prop where
  rd : Rd w0 C 5 v l.length (toks l)
  good : Good l
  own : Own 43 6 cc cv acc.length (callsC acc)
  len : acc.length + l.length ≤ 65537
  go : script t = scriptGo l.length l acc
theorem ScrI.start {w0 : World} {C : Chunk} {t : List UInt8} {v : Value} (h0 : (scan t).2.1 = 0) (ho : Own 41 5 C v (scan t).1.length (toks (scan t).1)) : ScrI w0 C t (scan t).1 [] v (.slice none 0 0) [] := by
  obtain ⟨h1, h2⟩ := scan_good h0
  exact ⟨ho.rd, h1, Own.nil _ _, by simpa using h2, by unfold script; rw [if_neg (by simpa using h0)]⟩
theorem ScrI.cons {w0 : World} {C : Chunk} {t : List UInt8} {l : List Tok} {acc : List Call} {v cv : Value} {cc : Chunk} (h : ScrI w0 C t l acc v cv cc) (hl : 0 < (l.length : Int)) : ∃ x r, l = x :: r := by
  cases l with
  | nil => simp at hl
  | cons x r => exact ⟨x, r, rfl⟩
theorem ScrI.next {w0 : World} {C : Chunk} {t : List UInt8} {x : Tok} {r : List Tok} {acc : List Call} {v cv v' cv' : Value} {cc cc' : Chunk} (h : ScrI w0 C t (x :: r) acc v cv cc) (hok : (lineOf (x :: r)).2.2.1 = true)
    (hr : Rd w0 C 5 v' (lineOf (x :: r)).2.2.2.length (toks (lineOf (x :: r)).2.2.2)) (ho : Own 43 6 cc' cv' (acc.length + 1) (callsC acc ++ (lineOf (x :: r)).1.cells)) :
    ScrI w0 C t (lineOf (x :: r)).2.2.2 (acc ++ [(lineOf (x :: r)).1]) v' cv' cc' ∧ (lineOf (x :: r)).2.2.2.length < (x :: r).length := by
  obtain ⟨h1, h2⟩ := lineOf_rest h.good hok
  have h3 := h.len
  refine ⟨⟨hr, h1, by simpa [callsC] using ho, by simp only [List.length_append, List.length_cons, List.length_nil] at h2 h3 ⊢; omega, ?_⟩, h2⟩
  rw [h.go, List.length_cons]
  simp only [scriptGo]
  rw [if_neg (by simp), if_pos hok]
  exact scriptGo_more _ _ _ _ (Nat.le_refl _) (by simp only [List.length_cons] at h2; omega) h1
theorem ScrI.bad {w0 : World} {C : Chunk} {t : List UInt8} {x : Tok} {r : List Tok} {acc : List Call} {v cv : Value} {cc : Chunk} (h : ScrI w0 C t (x :: r) acc v cv cc) (hok : (lineOf (x :: r)).2.2.1 = false) : script t = ([], 3, (lineOf (x :: r)).2.1.line, (lineOf (x :: r)).2.1.col) := by
  rw [h.go, List.length_cons]
  simp only [scriptGo]
  rw [if_neg (by simp), if_neg (by simp [hok])]
theorem ScrI.done {w0 : World} {C : Chunk} {t : List UInt8} {l : List Tok} {acc : List Call} {v cv : Value} {cc : Chunk} (h : ScrI w0 C t l acc v cv cc) (hl : (l.length : Int) ≤ 0) : script t = (acc, 0, 0, 0) := by
  obtain rfl : l = [] := List.eq_nil_of_length_eq_zero (by omega)
  rw [h.go]
  exact scriptGo_nil _ _
theorem script_bad {t : List UInt8} (h : ¬ (scan t).2.1 = 0) : script t = ([], (scan t).2) := by unfold script; rw [if_pos h]

theorem c9 {w0 : World} {t : List UInt8} : CtR Pg w0 9 #[st t] [] (fun u H => ∃ v1 c1, Own 43 6 c1 v1 (script t).1.length (callsC (script t).1) ∧ u = .tuple #[v1, fau (script t).2] ∧ H = [c1]) := by
  refine Ct.of_body Go.Proofs.Tryd.func9 rfl 60 rfl rfl (fun R => ?_)
  refine VC.seq ?_
  refine VC.region ?_
  refine V.assign rfl rfl rfl ?_
  refine V.alloc (l := [.int .i64 0, .int .i64 0, .int .i64 0]) rfl rfl rfl (fun b1 => ?_)
  refine V.nil ?_
  refine Post.nextC ?_
  refine VC.seq ?_
  refine VC.region ?_
  refine V.move rfl rfl rfl ?_
  apply V.call rfl rfl rfl (hc := c15 (t := t))
  · repeat' constructor
  rintro v Ho ⟨v1, c1, ho1, rfl, rfl⟩
  obtain ⟨ad1, cp1, rfl, _⟩ := id (ho1.rd (w0 := w0))
  refine V.move rfl rfl rfl ?_
  refine V.extract rfl rfl rfl rfl ?_
  refine V.extract rfl rfl rfl rfl ?_
  refine V.alloc (l := [.int .i64 0, .int .i64 0, .int .i64 0]) rfl rfl rfl (fun b2 => ?_)
  refine V.assign rfl rfl rfl ?_
  apply V.storeAll rfl rfl rfl rfl
  · repeat' constructor
  · exact rfl
  · exact rfl
  refine V.nil ?_
  refine Post.nextC ?_
  refine VC.seq ?_
  refine VC.seq ?_
  refine VC.region ?_
  refine V.fieldAddr 0 23 rfl rfl rfl rfl rfl ?_
  apply V.loadL rfl rfl rfl rfl
  · repeat' constructor
  · repeat' constructor
  refine V.bin rfl rfl rfl rfl (bin_neq _ _ _) ?_
  refine V.nil ?_
  refine Post.nextC ?_
  refine VC.cond rfl (fun h1 => ?_) (fun h1 => ?_)
  · try simp only [decide_eq_true_eq, decide_eq_false_iff_not, Bool.not_eq_true', Bool.not_eq_false', Bool.not_eq_eq_eq_not, Bool.not_true, Bool.not_false, beq_iff_eq, beq_eq_false_iff_ne, ne_eq, Int.not_lt, Int.not_le, Option.isSome_some, Option.isNone_none, Option.isSome_none, Option.isNone_some, Classical.not_not] at h1
    refine VC.seq ?_
    refine VC.drawTail 2 mixed (by kernel_rfl) ?_
    apply V.loadAll rfl rfl rfl rfl
    · repeat' constructor
    · exact rfl
    refine V.assign rfl rfl rfl ?_
    refine V.nil ?_
    refine Post.tail ?_
    apply V.storeAll rfl rfl rfl rfl
    · repeat' constructor
    · exact rfl
    · exact rfl
    refine V.nil ?_
    refine Post.nextC ?_
    refine VC.ret ?_
    refine Post.thenRet (?_)
    apply Post.retV2 rfl (.tmp rfl) (.all rfl rfl (by repeat' constructor) (by exact rfl))
    · exact ⟨.slice none 0 0, [], by rw [script_bad (by assumption)]; exact Own.nil _ _, by rw [script_bad (by assumption)], rfl⟩
    · repeat' constructor
  · try simp only [decide_eq_true_eq, decide_eq_false_iff_not, Bool.not_eq_true', Bool.not_eq_false', Bool.not_eq_eq_eq_not, Bool.not_true, Bool.not_false, beq_iff_eq, beq_eq_false_iff_ne, ne_eq, Int.not_lt, Int.not_le, Option.isSome_some, Option.isNone_none, Option.isSome_none, Option.isNone_some, Classical.not_not] at h1
    refine VC.skip ?_
    refine Post.nextC ?_
    refine VC.seq ?_
    refine VC.region ?_
    refine V.assign rfl rfl rfl ?_
    refine V.nil ?_
    refine Post.nextC ?_
    refine VC.seq ?_
    refine VC.region ?_
    refine V.move rfl rfl rfl ?_
    refine V.buildS [(0, _)] (l := [_]) rfl rfl rfl rfl rfl ?_
    refine V.box rfl rfl rfl rfl (fun b3 => ?_)
    refine V.assign rfl rfl rfl ?_
    refine V.nil ?_
    refine Post.nextC ?_
    refine VC.seq ?_
    refine VC.block ?_
    refine VC.loop (σ := List Tok × List Call × Value × Value × Chunk) (fun x => [(3, pt b1), (6, x.2.2.2.1), (7, pt b3)]) (fun x => rdB b3 x.2.2.1 :: c1 :: x.2.2.2.2 :: [(b1, .cells #[.int .i64 0, .int .i64 0, .int .i64 0] 25 (0, 0))] :: R) (fun x => ScrI w0 c1 t x.1 x.2.1 x.2.2.1 x.2.2.2.1 x.2.2.2.2) (fun x => x.1.length) ((scan t).1, [], .slice ad1 (scan t).1.length cp1, .slice none 0 0, []) (ScrI.start (by assumption) ho1) ?_ ?_ ?_
    · exact ⟨rfl, rfl, rfl, trivial⟩
    · repeat' constructor
    rintro ⟨l, acc, v, cv, cc⟩ (hI : ScrI w0 c1 t l acc v cv cc)
    refine VC.seq ?_
    refine VC.seq ?_
    refine VC.region ?_
    refine V.move rfl rfl rfl ?_
    refine V.nilCheck rfl rfl rfl ?_
    refine V.fieldAddr 0 37 rfl rfl rfl rfl rfl ?_
    apply V.loadL rfl rfl rfl rfl
    · repeat' constructor
    · repeat' constructor
    obtain ⟨ad, cp, rfl, _⟩ := id hI.rd
    refine V.len rfl rfl rfl ?_
    refine V.bin rfl rfl rfl rfl (bin_gtr _ _ _) ?_
    refine V.nil ?_
    refine Post.nextC ?_
    refine VC.cond rfl (fun h2 => ?_) (fun h2 => ?_)
    · try simp only [decide_eq_true_eq, decide_eq_false_iff_not, Bool.not_eq_true', Bool.not_eq_false', Bool.not_eq_eq_eq_not, Bool.not_true, Bool.not_false, beq_iff_eq, beq_eq_false_iff_ne, ne_eq, Int.not_lt, Int.not_le, Option.isSome_some, Option.isNone_none, Option.isSome_none, Option.isNone_some, Classical.not_not] at h2
      refine VC.skip ?_
      refine Post.nextC ?_
      refine VC.block ?_
      refine VC.seq ?_
      refine VC.region ?_
      refine V.move rfl rfl rfl ?_
      refine V.makeFunc rfl rfl rfl rfl ?_
      refine V.assign rfl rfl rfl ?_
      refine V.nil ?_
      refine Post.nextC ?_
      refine VC.seq ?_
      refine VC.seq ?_
      refine VC.region ?_
      obtain ⟨x, r, rfl⟩ := hI.cons (by assumption)
      obtain ⟨_, bb, oo, cp2, e, hc⟩ := hI.rd.item (f := Tok.cells) (i := 0) (x := x) tok5 (by omega) rfl
      simp only [Value.slice.injEq] at e
      obtain ⟨rfl, _, rfl⟩ := e
      have hpos : 0 < (x :: r).length := by simp
      have hlen5 := hI.len
      refine V.move rfl rfl rfl ?_
      refine V.nilCheck rfl rfl rfl ?_
      refine V.fieldAddr 0 37 rfl rfl rfl rfl rfl ?_
      apply V.loadL rfl rfl rfl rfl
      · repeat' constructor
      · repeat' constructor
      refine V.indexO (i := 0) rfl rfl rfl rfl (by omega) ?_
      apply V.loadNC (c := c1) (vs := x.cells) rfl rfl rfl rfl
      · repeat' constructor
      · rfl
      · exact fun j u hu => by rw [add_addr]; exact hc j u hu
      apply V.call rfl rfl rfl (hc := c19 (x := x) (t := [102, 108, 111, 119]))
      · repeat' constructor
      rintro v2 Ho ⟨rfl, rfl⟩
      refine V.nil ?_
      refine Post.nextC ?_
      refine VC.cond rfl (fun h3 => ?_) (fun h3 => ?_)
      · try simp only [decide_eq_true_eq, decide_eq_false_iff_not, Bool.not_eq_true', Bool.not_eq_false', Bool.not_eq_eq_eq_not, Bool.not_true, Bool.not_false, beq_iff_eq, beq_eq_false_iff_ne, ne_eq, Int.not_lt, Int.not_le, Option.isSome_some, Option.isNone_none, Option.isSome_none, Option.isNone_some, Classical.not_not] at h3
        refine VC.region ?_
        refine V.move rfl rfl rfl ?_
        refine V.makeFunc rfl rfl rfl rfl ?_
        refine V.assign rfl rfl rfl ?_
        refine V.nil ?_
        refine Post.nextC ?_
        refine VC.seq ?_
        refine VC.region ?_
        refine V.move rfl rfl rfl ?_
        apply V.callV (first := #[pt b3]) (captured := #[]) (vs := []) rfl rfl rfl rfl (hc := c20 hI.rd (by simp) (fun x hx => (hI.good.fine x hx).2) (by omega) (fun n hn => hI.good.take hn))
        · repeat' constructor
        have hlo : lineOf (x :: r) = flowOf (x :: r) := by simp only [lineOf]; rw [if_pos (by assumption)]
        rw [← hlo]
        rintro v3 Ho ⟨v4, hr4, rfl, rfl⟩
        refine V.move rfl rfl rfl ?_
        refine V.extract rfl rfl rfl rfl ?_
        refine V.extract rfl rfl rfl rfl ?_
        refine V.extract rfl rfl rfl rfl ?_
        refine V.alloc (l := [.int .i64 0, .string ByteArray.empty, .string ByteArray.empty, .string ByteArray.empty, .int .i64 0, .string ByteArray.empty]) rfl rfl rfl (fun b4 => ?_)
        refine V.alloc (l := [.int .i64 0, .string ByteArray.empty, .int .i64 0, .int .i64 0, .int .i64 0]) rfl rfl rfl (fun b5 => ?_)
        apply V.storeAll rfl rfl rfl rfl
        · repeat' constructor
        · exact rfl
        · exact rfl
        apply V.storeAll rfl rfl rfl rfl
        · repeat' constructor
        · exact rfl
        · exact rfl
        refine V.assign rfl rfl rfl ?_
        refine V.nil ?_
        refine Post.nextC ?_
        refine VC.seq ?_
        refine VC.seq ?_
        refine VC.region ?_
        refine V.move rfl rfl rfl ?_
        refine V.not rfl rfl rfl ?_
        refine V.nil ?_
        refine Post.nextC ?_
        refine VC.cond rfl (fun h4 => ?_) (fun h4 => ?_)
        · try simp only [decide_eq_true_eq, decide_eq_false_iff_not, Bool.not_eq_true', Bool.not_eq_false', Bool.not_eq_eq_eq_not, Bool.not_true, Bool.not_false, beq_iff_eq, beq_eq_false_iff_ne, ne_eq, Int.not_lt, Int.not_le, Option.isSome_some, Option.isNone_none, Option.isSome_none, Option.isNone_some, Classical.not_not] at h4
          refine VC.seq ?_
          refine VC.drawTail 6 mixed (by kernel_rfl) ?_
          refine V.fieldAddr 3 3 rfl rfl rfl rfl rfl ?_
          apply V.loadL rfl rfl rfl rfl
          · repeat' constructor
          · repeat' constructor
          refine V.fieldAddr 4 3 rfl rfl rfl rfl rfl ?_
          apply V.loadL rfl rfl rfl rfl
          · repeat' constructor
          · repeat' constructor
          refine V.buildS [(0, _), (1, _), (2, _)] (l := [_, _, _]) rfl rfl rfl rfl rfl ?_
          refine V.assign rfl rfl rfl ?_
          refine V.nil ?_
          refine Post.tail ?_
          apply V.storeAll rfl rfl rfl rfl
          · repeat' constructor
          · exact rfl
          · exact rfl
          refine V.nil ?_
          refine Post.nextC ?_
          refine VC.ret ?_
          refine Post.thenRet (Post.blockRet (Post.thenRet (Post.blockRet (Post.thenRet (?_)))))
          apply Post.retV2 rfl (.tmp rfl) (.all rfl rfl (by repeat' constructor) (by exact rfl))
          · exact ⟨.slice none 0 0, [], by rw [hI.bad (by assumption)]; exact Own.nil _ _, by rw [hI.bad (by assumption)] <;> rfl, rfl⟩
          · repeat' constructor
        · try simp only [decide_eq_true_eq, decide_eq_false_iff_not, Bool.not_eq_true', Bool.not_eq_false', Bool.not_eq_eq_eq_not, Bool.not_true, Bool.not_false, beq_iff_eq, beq_eq_false_iff_ne, ne_eq, Int.not_lt, Int.not_le, Option.isSome_some, Option.isNone_none, Option.isSome_none, Option.isNone_some, Classical.not_not] at h4
          refine VC.skip ?_
          refine Post.nextC ?_
          refine VC.region ?_
          refine V.move rfl rfl rfl ?_
          have hlen3 : (x :: r).length = r.length + 1 := rfl
          apply V.loadAll rfl rfl rfl rfl
          · repeat' constructor
          · exact rfl
          refine V.buildSlice1 (l := (lineOf (x :: r)).1.cells) rfl rfl rfl rfl rfl rfl rfl (fun b9 => ?_)
          apply V.append1 rfl rfl rfl rfl rfl rfl (news := (lineOf (x :: r)).1.cells) (ho := hI.own) (hb := by omega) (h63 := by simp only [maxLen]; omega)
          case hp => repeat' constructor
          case hl => rfl
          case h1 => rfl
          intro cv5 cc5 ho5
          refine V.assign rfl rfl rfl ?_
          refine V.nil ?_
          refine Post.blockNormal (Post.round ((lineOf (x :: r)).2.2.2, acc ++ [(lineOf (x :: r)).1], v4, cv5, cc5) ?_ ?_ ?_ ?_)
          · exact (hI.next (by assumption) hr4 ho5).1
          · exact (hI.next (by assumption) hr4 ho5).2
          · exact ⟨rfl, rfl, rfl, trivial⟩
          · repeat' constructor
      · try simp only [decide_eq_true_eq, decide_eq_false_iff_not, Bool.not_eq_true', Bool.not_eq_false', Bool.not_eq_eq_eq_not, Bool.not_true, Bool.not_false, beq_iff_eq, beq_eq_false_iff_ne, ne_eq, Int.not_lt, Int.not_le, Option.isSome_some, Option.isNone_none, Option.isSome_none, Option.isNone_some, Classical.not_not] at h3
        refine VC.skip ?_
        refine Post.nextC ?_
        refine VC.seq ?_
        refine VC.region ?_
        refine V.move rfl rfl rfl ?_
        apply V.callV (first := #[pt b3]) (captured := #[]) (vs := []) rfl rfl rfl rfl (hc := c18 hI.rd (by rcases hI.good.ends with h | h; cases h; exact h))
        · repeat' constructor
        have hlo : lineOf (x :: r) = callOf (x :: r) := by simp only [lineOf]; rw [if_neg (by simp_all)]
        rw [← hlo]
        rintro v3 Ho ⟨v4, hr4, rfl, rfl⟩
        refine V.move rfl rfl rfl ?_
        refine V.extract rfl rfl rfl rfl ?_
        refine V.extract rfl rfl rfl rfl ?_
        refine V.extract rfl rfl rfl rfl ?_
        refine V.alloc (l := [.int .i64 0, .string ByteArray.empty, .string ByteArray.empty, .string ByteArray.empty, .int .i64 0, .string ByteArray.empty]) rfl rfl rfl (fun b6 => ?_)
        refine V.alloc (l := [.int .i64 0, .string ByteArray.empty, .int .i64 0, .int .i64 0, .int .i64 0]) rfl rfl rfl (fun b7 => ?_)
        apply V.storeAll rfl rfl rfl rfl
        · repeat' constructor
        · exact rfl
        · exact rfl
        apply V.storeAll rfl rfl rfl rfl
        · repeat' constructor
        · exact rfl
        · exact rfl
        refine V.assign rfl rfl rfl ?_
        refine V.nil ?_
        refine Post.nextC ?_
        refine VC.seq ?_
        refine VC.seq ?_
        refine VC.region ?_
        refine V.move rfl rfl rfl ?_
        refine V.not rfl rfl rfl ?_
        refine V.nil ?_
        refine Post.nextC ?_
        refine VC.cond rfl (fun h5 => ?_) (fun h5 => ?_)
        · try simp only [decide_eq_true_eq, decide_eq_false_iff_not, Bool.not_eq_true', Bool.not_eq_false', Bool.not_eq_eq_eq_not, Bool.not_true, Bool.not_false, beq_iff_eq, beq_eq_false_iff_ne, ne_eq, Int.not_lt, Int.not_le, Option.isSome_some, Option.isNone_none, Option.isSome_none, Option.isNone_some, Classical.not_not] at h5
          refine VC.seq ?_
          refine VC.drawTail 6 mixed (by kernel_rfl) ?_
          refine V.fieldAddr 3 3 rfl rfl rfl rfl rfl ?_
          apply V.loadL rfl rfl rfl rfl
          · repeat' constructor
          · repeat' constructor
          refine V.fieldAddr 4 3 rfl rfl rfl rfl rfl ?_
          apply V.loadL rfl rfl rfl rfl
          · repeat' constructor
          · repeat' constructor
          refine V.buildS [(0, _), (1, _), (2, _)] (l := [_, _, _]) rfl rfl rfl rfl rfl ?_
          refine V.assign rfl rfl rfl ?_
          refine V.nil ?_
          refine Post.tail ?_
          apply V.storeAll rfl rfl rfl rfl
          · repeat' constructor
          · exact rfl
          · exact rfl
          refine V.nil ?_
          refine Post.nextC ?_
          refine VC.ret ?_
          refine Post.thenRet (Post.blockRet (Post.thenRet (Post.blockRet (Post.thenRet (?_)))))
          apply Post.retV2 rfl (.tmp rfl) (.all rfl rfl (by repeat' constructor) (by exact rfl))
          · exact ⟨.slice none 0 0, [], by rw [hI.bad (by assumption)]; exact Own.nil _ _, by rw [hI.bad (by assumption)] <;> rfl, rfl⟩
          · repeat' constructor
        · try simp only [decide_eq_true_eq, decide_eq_false_iff_not, Bool.not_eq_true', Bool.not_eq_false', Bool.not_eq_eq_eq_not, Bool.not_true, Bool.not_false, beq_iff_eq, beq_eq_false_iff_ne, ne_eq, Int.not_lt, Int.not_le, Option.isSome_some, Option.isNone_none, Option.isSome_none, Option.isNone_some, Classical.not_not] at h5
          refine VC.skip ?_
          refine Post.nextC ?_
          refine VC.region ?_
          refine V.move rfl rfl rfl ?_
          have hlen3 : (x :: r).length = r.length + 1 := rfl
          apply V.loadAll rfl rfl rfl rfl
          · repeat' constructor
          · exact rfl
          refine V.buildSlice1 (l := (lineOf (x :: r)).1.cells) rfl rfl rfl rfl rfl rfl rfl (fun b9 => ?_)
          apply V.append1 rfl rfl rfl rfl rfl rfl (news := (lineOf (x :: r)).1.cells) (ho := hI.own) (hb := by omega) (h63 := by simp only [maxLen]; omega)
          case hp => repeat' constructor
          case hl => rfl
          case h1 => rfl
          intro cv5 cc5 ho5
          refine V.assign rfl rfl rfl ?_
          refine V.nil ?_
          refine Post.blockNormal (Post.round ((lineOf (x :: r)).2.2.2, acc ++ [(lineOf (x :: r)).1], v4, cv5, cc5) ?_ ?_ ?_ ?_)
          · exact (hI.next (by assumption) hr4 ho5).1
          · exact (hI.next (by assumption) hr4 ho5).2
          · exact ⟨rfl, rfl, rfl, trivial⟩
          · repeat' constructor
    · try simp only [decide_eq_true_eq, decide_eq_false_iff_not, Bool.not_eq_true', Bool.not_eq_false', Bool.not_eq_eq_eq_not, Bool.not_true, Bool.not_false, beq_iff_eq, beq_eq_false_iff_ne, ne_eq, Int.not_lt, Int.not_le, Option.isSome_some, Option.isNone_none, Option.isSome_none, Option.isNone_some, Classical.not_not] at h2
      refine VC.exit ?_
      refine Post.thenExit (Post.thenExit (Post.blockHit (Post.nextC ?_)))
      refine VC.seq ?_
      refine VC.region ?_
      refine V.move rfl rfl rfl ?_
      refine V.buildS [] (l := [.int .i64 0, .int .i64 0, .int .i64 0]) rfl rfl rfl rfl rfl ?_
      refine V.assign rfl rfl rfl ?_
      apply V.storeAll rfl rfl rfl rfl
      · repeat' constructor
      · exact rfl
      · exact rfl
      refine V.nil ?_
      refine Post.nextC ?_
      refine VC.ret ?_
      apply Post.retV2 rfl (.tmp rfl) (.all rfl rfl (by repeat' constructor) (by exact rfl))
      · exact ⟨cv, cc, by rw [hI.done (by assumption)]; exact hI.own, by rw [hI.done (by assumption)] <;> rfl, rfl⟩
      · repeat' constructor

end Go.Proofs.Ln
