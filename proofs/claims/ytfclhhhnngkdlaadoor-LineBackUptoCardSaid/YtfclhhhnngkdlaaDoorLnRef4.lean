/- Contracts of functions of the given program, each proved by walking its code: part of the proof of this claim; no condition beyond those that each theorem names. -/
import Derived.Test.YtfclhhhnngkdlaaDoorLnRef3
set_option linter.unusedVariables false
set_option linter.unusedSimpArgs false
namespace Go.Proofs.Ln
open Go Go.RowKit Go.Proofs.Eng
def up (l : List UInt8) : List UInt8 := l.map (· - 32)
theorem shapes_up : shapes = forms.map fun f => ⟨f.word, f.op, up f.like⟩ := rfl
theorem shapes_get {i : Nat} {f : Form} (h : forms[i]? = some f) : shapes[i]? = some ⟨f.word, f.op, up f.like⟩ := by rw [shapes_up, List.getElem?_map, h]; rfl
theorem like_letters : ∀ f ∈ forms, ∀ w ∈ f.like, w = 97 ∨ w = 98 ∨ w = 110 := by decide
theorem like_len : ∀ f ∈ forms, f.like.length ≤ 3 := by decide
theorem up_get {f : Form} {k : Nat} {w : UInt8} (h : f.like[k]? = some w) : (up f.like)[k]? = some (w - 32) := by simp [up, h]
theorem up_len (l : List UInt8) : (up l).length = l.length := by simp [up]
theorem up_nat {w : UInt8} (h : w = 97 ∨ w = 98 ∨ w = 110) : (w - 32).toNat + 32 = w.toNat ∧ (w.toNat = 97 ∨ w.toNat = 98 ∨ w.toNat = 110) := by
  rcases h with rfl | rfl | rfl <;> decide
/-- a line's call by the reference, and its fault -/
def refOf (ln : List Tok) : Call × Int × Int × Int := if (callOf ln).2.2.1 = true then ((callOf ln).1, 0, 0, 0) else (Call.zero, 3, (callOf ln).2.1.line, (callOf ln).2.1.col)
theorem refOf_no {ln q : List Tok} {c : Call} {t : Tok} (h : callOf ln = (c, t, false, q)) : refOf ln = (Call.zero, 3, t.line, t.col) := by simp [refOf, h]
theorem refOf_yes {ln q : List Tok} {c : Call} {t : Tok} (h : callOf ln = (c, t, true, q)) : refOf ln = (c, 0, 0, 0) := by simp [refOf, h]
theorem callOf_none {x : Tok} {r : List Tok} (h : ¬ x.kind = 1 ∨ forms.find? (fun f => decide (f.word = x.text)) = none) : ∃ q, callOf (x :: r) = (Call.zero, x, false, q) := by
  by_cases hk : x.kind = 1
  · rcases h with h | h
    · exact absurd hk h
    · exact ⟨r, by simp [callOf, hk, h]⟩
  · exact ⟨x :: r, by simp [callOf, hk]⟩
theorem callOf_form {x : Tok} {r : List Tok} {f : Form} (hk : x.kind = 1) (h : forms.find? (fun f => decide (f.word = x.text)) = some f) : callOf (x :: r) = readLike f.like { Call.zero with op := f.op } r := by simp [callOf, hk, h]
theorem drop_tail {α : Type} {r q : List α} {k : Nat} {t : α} (h : r.drop k = t :: q) : r.drop (k + 1) = q ∧ r[k]? = some t := by
  refine ⟨?_, ?_⟩
  · have := congrArg List.tail h
    rwa [List.tail_drop] at this
  · have := congrArg (fun l => l[0]?) h
    simpa using this

theorem c24 {w0 : World} {C : Chunk} {v : Value} {ln : List Tok} (hr : Rd w0 C 5 v ln.length (toks ln)) (he : Ends ln) : CtR Pg w0 24 #[v] [C] (fun u H => u = .tuple #[callV (refOf ln).1, fau (refOf ln).2] ∧ H = [C]) := by
  obtain ⟨x, r, rfl⟩ := he.cons
  obtain ⟨_, bb, oo, cp, rfl, hx⟩ := hr.item (f := Tok.cells) (i := 0) (x := x) tok5 (by omega) rfl
  have hlen : (x :: r).length = r.length + 1 := rfl
  refine Ct.of_body Go.Proofs.Tryd.func24 rfl 129 rfl rfl (fun R => ?_)
  refine VC.seq ?_
  refine VC.region ?_
  refine V.alloc (l := [.int .i64 0, .string ByteArray.empty, .string ByteArray.empty, .string ByteArray.empty, .int .i64 0, .string ByteArray.empty]) rfl rfl rfl (fun b1 => ?_)
  refine V.alloc (l := [.int .i64 0, .int .i64 0, .int .i64 0]) rfl rfl rfl (fun b2 => ?_)
  refine V.nil ?_
  refine Post.nextC ?_
  refine VC.seq ?_
  refine VC.region ?_
  apply V.call rfl rfl rfl (hc := c36)
  · repeat' constructor
  rintro vq Ho ⟨fb, rfl, rfl⟩
  refine V.assign rfl rfl rfl ?_
  refine V.nil ?_
  refine Post.nextC ?_
  refine VC.seq ?_
  refine VC.seq ?_
  refine VC.region ?_
  refine V.assign rfl rfl rfl ?_
  refine V.nil ?_
  refine Post.nextC ?_
  refine VC.block ?_
  refine VC.loop (σ := (Nat)) (fun zz => [(0, .slice (some ⟨bb, oo, none⟩) (x :: r).length cp), (2, pt b1), (3, pt b2), (4, .slice (some ⟨fb, 0, none⟩) 32 32), (5, .int .i64 (zz : Int))]) (fun zz => C :: [(fb, .cells (shapes.flatMap Form.cells).toArray 88 (0, 0))] :: [(b1, .cells (Call.zero).cells.toArray 43 (0, 0))] :: [(b2, .cells #[.int .i64 0, .int .i64 0, .int .i64 0] 25 (0, 0))] :: R) (fun zz => (zz ≤ 32) ∧ (forms.find? (fun f => decide (f.word = x.text)) = (forms.drop zz).find? (fun f => decide (f.word = x.text)) ∨ ¬ x.kind = 1)) (fun zz => 32 - zz) (0) (⟨by omega, .inl rfl⟩) ?_ ?_ ?_
  · exact ⟨rfl, rfl, rfl, rfl, rfl, trivial⟩
  · repeat' constructor
  rintro i ⟨(hi : i ≤ 32), (hI : forms.find? (fun f => decide (f.word = x.text)) = (forms.drop i).find? (fun f => decide (f.word = x.text)) ∨ ¬ x.kind = 1)⟩
  refine VC.sub (E' := [(0, .slice (some ⟨bb, oo, none⟩) (x :: r).length cp), (2, pt b1), (3, pt b2), (4, .slice (some ⟨fb, 0, none⟩) 32 32), (5, .int .i64 (i : Int))]) (H' := C :: [(fb, .cells (shapes.flatMap Form.cells).toArray 88 (0, 0))] :: [(b1, .cells (Call.zero).cells.toArray 43 (0, 0))] :: [(b2, .cells #[.int .i64 0, .int .i64 0, .int .i64 0] 25 (0, 0))] :: R) ⟨rfl, rfl, rfl, rfl, rfl, trivial⟩ (by repeat' constructor) ?_
  refine VC.seq ?_
  refine VC.seq ?_
  refine VC.region ?_
  refine V.move rfl rfl rfl ?_
  refine V.move rfl rfl rfl ?_
  refine V.len rfl rfl rfl ?_
  refine V.bin rfl rfl rfl rfl (bin_lss _ _ _) ?_
  refine V.nil ?_
  refine Post.nextC ?_
  refine VC.cond rfl (fun h1 => ?_) (fun h1 => ?_)
  · try simp only [decide_eq_true_eq, decide_eq_false_iff_not, Bool.not_eq_true', Bool.not_eq_false', Bool.not_eq_eq_eq_not, Bool.not_true, Bool.not_false, beq_iff_eq, beq_eq_false_iff_ne, ne_eq, Int.not_lt, Int.not_le, Option.isSome_some, Option.isNone_none, Option.isSome_none, Option.isNone_some, Classical.not_not] at h1
    refine VC.skip ?_
    refine Post.nextC ?_
    refine VC.seq ?_
    refine VC.block ?_
    refine VC.seq ?_
    refine VC.seq ?_
    refine VC.draw mixed (by kernel_rfl) ?_
    obtain ⟨f, hf⟩ : ∃ f, forms[i]? = some f := ⟨forms[i]'(by rw [forms_len]; omega), List.getElem?_eq_getElem _⟩
    obtain ⟨_, bb2, oo2, cp2, e, hg0⟩ := (Rd.blockN (w0 := w0) fb 88 32 3 (0, 0) (shapes.flatMap Form.cells) rfl (by omega)).item (f := Form.cells) (i := i) form3 (by omega) (shapes_get hf)
    simp only [Value.slice.injEq, Option.some.injEq, Addr.mk.injEq] at e
    obtain ⟨⟨rfl, rfl, _⟩, _, rfl⟩ := e
    have hg : ∀ (j : Nat) (u : Value), [st f.word, .int .i64 f.op, st (up f.like)][j]? = some u → Cel w0 [(fb, .cells (shapes.flatMap Form.cells).toArray 88 (0, 0))] ⟨fb, 0 + i * 3 + j, none⟩ u := hg0
    refine V.move rfl rfl rfl ?_
    refine V.indexO (i := 0) rfl rfl rfl rfl (by omega) ?_
    refine V.fieldAddr 0 3 rfl rfl rfl rfl rfl ?_
    apply V.loadC (c := C) rfl rfl rfl rfl
    · repeat' constructor
    · exact hx 0 _ rfl
    refine V.bin rfl rfl rfl rfl (bin_neq _ _ _) ?_
    refine V.move rfl rfl rfl ?_
    refine V.split (t := 22) rfl (fun h2 => ?_) (fun h2 => ?_)
    · try simp only [decide_eq_true_eq, decide_eq_false_iff_not, Bool.not_eq_true', Bool.not_eq_false', Bool.not_eq_eq_eq_not, Bool.not_true, Bool.not_false, beq_iff_eq, beq_eq_false_iff_ne, ne_eq, Int.not_lt, Int.not_le, Option.isSome_some, Option.isNone_none, Option.isSome_none, Option.isNone_some, Classical.not_not] at h2
      refine V.skip rfl rfl ?_
      refine V.skip rfl rfl ?_
      refine V.skip rfl rfl ?_
      refine V.skip rfl rfl ?_
      refine V.skip rfl rfl ?_
      refine V.skip rfl rfl ?_
      refine V.skip rfl rfl ?_
      refine V.skip rfl rfl ?_
      refine V.skip rfl rfl ?_
      refine V.skip rfl rfl ?_
      refine V.pickT rfl rfl rfl rfl ?_
      refine V.nil ?_
      refine Post.nextC ?_
      refine VC.condT rfl ?_
      refine VC.exit ?_
      refine Post.thenExit (Post.blockHit (Post.nextC ?_))
      refine VC.region ?_
      refine V.move rfl rfl rfl ?_
      refine V.bin rfl rfl rfl rfl (bin_addI (by omega)) ?_
      refine V.assign rfl rfl rfl ?_
      refine V.nil ?_
      refine Post.round (i + 1) ?_ ?_ ?_ ?_
      · show ((i + 1) ≤ 32) ∧ (forms.find? (fun f => decide (f.word = x.text)) = (forms.drop (i + 1)).find? (fun f => decide (f.word = x.text)) ∨ ¬ x.kind = 1)
        refine ⟨by omega, ?_⟩
        first
          | exact .inr (by assumption)
          | (rcases hI with hI | hI
             · have hne : ¬ x.text = f.word := by assumption
               exact .inl (by rw [hI, drop_cons hf, List.find?_cons_of_neg (by simpa using fun e => hne e.symm)])
             · exact .inr hI)
      · show 32 - (i + 1) < 32 - i
        omega
      · exact ⟨rfl, rfl, rfl, rfl, rfl, trivial⟩
      · repeat' constructor
    · try simp only [decide_eq_true_eq, decide_eq_false_iff_not, Bool.not_eq_true', Bool.not_eq_false', Bool.not_eq_eq_eq_not, Bool.not_true, Bool.not_false, beq_iff_eq, beq_eq_false_iff_ne, ne_eq, Int.not_lt, Int.not_le, Option.isSome_some, Option.isNone_none, Option.isSome_none, Option.isNone_some, Classical.not_not] at h2
      refine V.move rfl rfl rfl ?_
      refine V.indexO (i := 0) rfl rfl rfl rfl (by omega) ?_
      refine V.fieldAddr 1 9 rfl rfl rfl rfl rfl ?_
      apply V.loadC (c := C) rfl rfl rfl rfl
      · repeat' constructor
      · exact hx 1 _ rfl
      refine V.move rfl rfl rfl ?_
      refine V.move rfl rfl rfl ?_
      refine V.indexO rfl rfl rfl rfl (by omega) ?_
      refine V.fieldAddr 0 9 rfl rfl rfl rfl rfl ?_
      apply V.loadC (c := [(fb, .cells (shapes.flatMap Form.cells).toArray 88 (0, 0))]) rfl rfl rfl rfl
      · repeat' constructor
      · exact hg 0 _ rfl
      refine V.bin rfl rfl rfl rfl (bin_stneq _ _) ?_
      refine V.pickF rfl rfl rfl rfl ?_
      refine V.nil ?_
      refine Post.nextC ?_
      refine VC.cond rfl (fun h3 => ?_) (fun h3 => ?_)
      · try simp only [decide_eq_true_eq, decide_eq_false_iff_not, Bool.not_eq_true', Bool.not_eq_false', Bool.not_eq_eq_eq_not, Bool.not_true, Bool.not_false, beq_iff_eq, beq_eq_false_iff_ne, ne_eq, Int.not_lt, Int.not_le, Option.isSome_some, Option.isNone_none, Option.isSome_none, Option.isNone_some, Classical.not_not] at h3
        refine VC.exit ?_
        refine Post.thenExit (Post.blockHit (Post.nextC ?_))
        refine VC.region ?_
        refine V.move rfl rfl rfl ?_
        refine V.bin rfl rfl rfl rfl (bin_addI (by omega)) ?_
        refine V.assign rfl rfl rfl ?_
        refine V.nil ?_
        refine Post.round (i + 1) ?_ ?_ ?_ ?_
        · show ((i + 1) ≤ 32) ∧ (forms.find? (fun f => decide (f.word = x.text)) = (forms.drop (i + 1)).find? (fun f => decide (f.word = x.text)) ∨ ¬ x.kind = 1)
          refine ⟨by omega, ?_⟩
          first
            | exact .inr (by assumption)
            | (rcases hI with hI | hI
               · have hne : ¬ x.text = f.word := by assumption
                 exact .inl (by rw [hI, drop_cons hf, List.find?_cons_of_neg (by simpa using fun e => hne e.symm)])
               · exact .inr hI)
        · show 32 - (i + 1) < 32 - i
          omega
        · exact ⟨rfl, rfl, rfl, rfl, rfl, trivial⟩
        · repeat' constructor
      · try simp only [decide_eq_true_eq, decide_eq_false_iff_not, Bool.not_eq_true', Bool.not_eq_false', Bool.not_eq_eq_eq_not, Bool.not_true, Bool.not_false, beq_iff_eq, beq_eq_false_iff_ne, ne_eq, Int.not_lt, Int.not_le, Option.isSome_some, Option.isNone_none, Option.isSome_none, Option.isNone_some, Classical.not_not] at h3
        refine VC.skip ?_
        refine Post.nextC ?_
        refine VC.seq ?_
        refine VC.region ?_
        have hkx : x.kind = 1 := by assumption
        have hfd : forms.find? (fun f => decide (f.word = x.text)) = some f := by
          have hw : x.text = f.word := by assumption
          rcases hI with hI | hI
          · rw [hI, drop_cons hf, List.find?_cons_of_pos (by simp [hw])]
          · exact absurd hkx hI
        have hul := up_len f.like
        have hl3 := like_len f (List.mem_of_getElem? hf)
        refine V.move rfl rfl rfl ?_
        refine V.move rfl rfl rfl ?_
        refine V.indexO rfl rfl rfl rfl (by omega) ?_
        refine V.fieldAddr 1 3 rfl rfl rfl rfl rfl ?_
        apply V.loadC (c := [(fb, .cells (shapes.flatMap Form.cells).toArray 88 (0, 0))]) rfl rfl rfl rfl
        · repeat' constructor
        · exact hg 1 _ rfl
        refine V.buildS [(0, _)] (l := [_, .string ByteArray.empty, .string ByteArray.empty, .string ByteArray.empty, .int .i64 0, .string ByteArray.empty]) rfl rfl rfl rfl rfl ?_
        refine V.alloc (l := [.int .i64 0, .string ByteArray.empty, .string ByteArray.empty, .string ByteArray.empty, .int .i64 0, .string ByteArray.empty]) rfl rfl rfl (fun b3 => ?_)
        apply V.storeAll rfl rfl rfl rfl
        · repeat' constructor
        · exact rfl
        · exact rfl
        refine V.nil ?_
        refine Post.nextC ?_
        refine VC.seq ?_
        refine VC.seq ?_
        refine VC.region ?_
        refine V.assign rfl rfl rfl ?_
        refine V.nil ?_
        refine Post.nextC ?_
        refine VC.block ?_
        refine VC.loop (σ := (Nat) × (Call)) (fun zz => [(0, .slice (some ⟨bb, oo, none⟩) (x :: r).length cp), (2, pt b1), (3, pt b2), (4, .slice (some ⟨fb, 0, none⟩) 32 32), (5, .int .i64 (i : Int)), (6, pt b3), (7, .int .i64 (zz.1 : Int))]) (fun zz => C :: [(fb, .cells (shapes.flatMap Form.cells).toArray 88 (0, 0))] :: [(b1, .cells (Call.zero).cells.toArray 43 (0, 0))] :: [(b2, .cells #[.int .i64 0, .int .i64 0, .int .i64 0] 25 (0, 0))] :: [(b3, .cells (zz.2).cells.toArray 43 (0, 0))] :: R) (fun zz => (zz.1 ≤ f.like.length) ∧ (callOf (x :: r) = readLike (f.like.drop zz.1) zz.2 (r.drop zz.1)) ∧ (Ends (r.drop zz.1))) (fun zz => f.like.length - zz.1) (0, { Call.zero with op := f.op }) (⟨Nat.zero_le _, callOf_form hkx hfd, he.tail (by omega)⟩) ?_ ?_ ?_
        · exact ⟨rfl, rfl, rfl, rfl, rfl, rfl, rfl, trivial⟩
        · repeat' constructor
        rintro ⟨k, c⟩ ⟨(hk : k ≤ f.like.length), (hI2 : callOf (x :: r) = readLike (f.like.drop k) c (r.drop k)), (hE : Ends (r.drop k))⟩
        refine VC.sub (E' := [(0, .slice (some ⟨bb, oo, none⟩) (x :: r).length cp), (2, pt b1), (3, pt b2), (4, .slice (some ⟨fb, 0, none⟩) 32 32), (5, .int .i64 (i : Int)), (6, pt b3), (7, .int .i64 (k : Int))]) (H' := C :: [(fb, .cells (shapes.flatMap Form.cells).toArray 88 (0, 0))] :: [(b1, .cells (Call.zero).cells.toArray 43 (0, 0))] :: [(b2, .cells #[.int .i64 0, .int .i64 0, .int .i64 0] 25 (0, 0))] :: [(b3, .cells (c).cells.toArray 43 (0, 0))] :: R) ⟨rfl, rfl, rfl, rfl, rfl, rfl, rfl, trivial⟩ (by repeat' constructor) ?_
        refine VC.seq ?_
        refine VC.seq ?_
        refine VC.region ?_
        refine V.move rfl rfl rfl ?_
        refine V.move rfl rfl rfl ?_
        refine V.move rfl rfl rfl ?_
        refine V.indexO rfl rfl rfl rfl (by omega) ?_
        refine V.fieldAddr 2 9 rfl rfl rfl rfl rfl ?_
        apply V.loadC (c := [(fb, .cells (shapes.flatMap Form.cells).toArray 88 (0, 0))]) rfl rfl rfl rfl
        · repeat' constructor
        · exact hg 2 _ rfl
        refine V.lenSt rfl rfl rfl ?_
        refine V.bin rfl rfl rfl rfl (bin_lss _ _ _) ?_
        refine V.nil ?_
        refine Post.nextC ?_
        refine VC.cond rfl (fun h4 => ?_) (fun h4 => ?_)
        · try simp only [decide_eq_true_eq, decide_eq_false_iff_not, Bool.not_eq_true', Bool.not_eq_false', Bool.not_eq_eq_eq_not, Bool.not_true, Bool.not_false, beq_iff_eq, beq_eq_false_iff_ne, ne_eq, Int.not_lt, Int.not_le, Option.isSome_some, Option.isNone_none, Option.isSome_none, Option.isNone_some, Classical.not_not] at h4
          refine VC.skip ?_
          refine Post.nextC ?_
          refine VC.seq ?_
          refine VC.block ?_
          refine VC.seq ?_
          refine VC.region ?_
          obtain ⟨t, q, hq⟩ := hE.cons
          obtain ⟨hq2, ht0⟩ := drop_tail hq
          have htl := (List.getElem?_eq_some_iff.1 ht0).1
          obtain ⟨_, bb3, oo3, cp3, e, ht⟩ := hr.item (f := Tok.cells) (i := k + 1) (x := t) tok5 (by omega) (by rw [List.getElem?_cons_succ]; exact ht0)
          simp only [Value.slice.injEq, Option.some.injEq, Addr.mk.injEq] at e
          obtain ⟨⟨rfl, rfl, _⟩, _, rfl⟩ := e
          obtain ⟨w, hw⟩ := getc (t := f.like) (i := k) (by omega)
          have hw3 := like_letters f (List.mem_of_getElem? hf) w (List.mem_of_getElem? hw)
          obtain ⟨hwn, hw4⟩ := up_nat hw3
          refine V.move rfl rfl rfl ?_
          refine V.move rfl rfl rfl ?_
          refine V.bin rfl rfl rfl rfl (bin_addI (by omega)) ?_
          refine V.know (t := 52) (y := .int .i64 ((k + 1 : Nat) : Int)) rfl (by first | rfl | (congr 1; omega)) ?_
          refine V.indexO rfl rfl rfl rfl (by omega) ?_
          apply V.loadNC (c := C) (vs := t.cells) rfl rfl rfl rfl
          · repeat' constructor
          · rfl
          · exact fun j u hu => by rw [add_addr]; exact ht j u hu
          refine V.alloc (l := [.int .i64 0, .string ByteArray.empty, .int .i64 0, .int .i64 0, .int .i64 0]) rfl rfl rfl (fun b4 => ?_)
          apply V.storeAll rfl rfl rfl rfl
          · repeat' constructor
          · exact rfl
          · exact rfl
          refine V.nil ?_
          refine Post.nextC ?_
          refine VC.seq ?_
          refine VC.seq ?_
          refine VC.region ?_
          refine V.move rfl rfl rfl ?_
          refine V.move rfl rfl rfl ?_
          refine V.indexO rfl rfl rfl rfl (by omega) ?_
          refine V.fieldAddr 2 9 rfl rfl rfl rfl rfl ?_
          apply V.loadC (c := [(fb, .cells (shapes.flatMap Form.cells).toArray 88 (0, 0))]) rfl rfl rfl rfl
          · repeat' constructor
          · exact hg 2 _ rfl
          refine V.move rfl rfl rfl ?_
          refine V.indexSt (i := k) (c := w - 32) rfl rfl rfl rfl (up_get hw) ?_
          refine V.bin rfl rfl rfl rfl (bin_eql _ _ _) ?_
          refine V.move rfl rfl rfl ?_
          refine V.split (t := 63) rfl (fun h5 => ?_) (fun h5 => ?_)
          · try simp only [decide_eq_true_eq, decide_eq_false_iff_not, Bool.not_eq_true', Bool.not_eq_false', Bool.not_eq_eq_eq_not, Bool.not_true, Bool.not_false, beq_iff_eq, beq_eq_false_iff_ne, ne_eq, Int.not_lt, Int.not_le, Option.isSome_some, Option.isNone_none, Option.isSome_none, Option.isNone_some, Classical.not_not] at h5
            refine V.fieldAddr 0 3 rfl rfl rfl rfl rfl ?_
            apply V.loadL rfl rfl rfl rfl
            · repeat' constructor
            · repeat' constructor
            refine V.bin rfl rfl rfl rfl (bin_neq _ _ _) ?_
            refine V.pickT rfl rfl rfl rfl ?_
            refine V.move rfl rfl rfl ?_
            refine V.split (t := 68) rfl (fun h6 => ?_) (fun h6 => ?_)
            · try simp only [decide_eq_true_eq, decide_eq_false_iff_not, Bool.not_eq_true', Bool.not_eq_false', Bool.not_eq_eq_eq_not, Bool.not_true, Bool.not_false, beq_iff_eq, beq_eq_false_iff_ne, ne_eq, Int.not_lt, Int.not_le, Option.isSome_some, Option.isNone_none, Option.isSome_none, Option.isNone_some, Classical.not_not] at h6
              refine V.skip rfl rfl ?_
              refine V.skip rfl rfl ?_
              refine V.skip rfl rfl ?_
              refine V.skip rfl rfl ?_
              refine V.skip rfl rfl ?_
              refine V.skip rfl rfl ?_
              refine V.skip rfl rfl ?_
              refine V.skip rfl rfl ?_
              refine V.skip rfl rfl ?_
              refine V.skip rfl rfl ?_
              refine V.skip rfl rfl ?_
              refine V.skip rfl rfl ?_
              refine V.skip rfl rfl ?_
              refine V.pickT rfl rfl rfl rfl ?_
              refine V.nil ?_
              refine Post.nextC ?_
              refine VC.condT rfl ?_
              refine VC.seq ?_
              refine VC.region ?_
              refine V.buildS [] (l := [.int .i64 0, .string ByteArray.empty, .string ByteArray.empty, .string ByteArray.empty, .int .i64 0, .string ByteArray.empty]) rfl rfl rfl rfl rfl ?_
              apply V.loadAll rfl rfl rfl rfl
              · repeat' constructor
              · exact rfl
              apply V.call rfl rfl rfl (hc := c25)
              · repeat' constructor
              rintro vq Ho ⟨rfl, rfl⟩
              apply V.storeAll rfl rfl rfl rfl
              · repeat' constructor
              · exact rfl
              · exact rfl
              apply V.storeAll rfl rfl rfl rfl
              · repeat' constructor
              · exact rfl
              · exact rfl
              refine V.nil ?_
              refine Post.nextC ?_
              refine VC.ret ?_
              refine Post.thenRet (Post.blockRet (Post.thenRet (Post.thenRet (Post.blockRet (Post.thenRet (Post.blockRet (Post.thenRet (Post.thenRet (Post.blockRet (Post.thenRet (?_)))))))))))
              apply Post.retV2 rfl (.all rfl rfl (by repeat' constructor) (by exact rfl)) (.all rfl rfl (by repeat' constructor) (by exact rfl))
              · have hkk : ¬ t.kind = kindOf w := by first | (rw [kind_n (by omega)]; assumption) | (rw [kind_w (by omega)]; assumption) | (exfalso; omega)
                rw [refOf_no (c := Call.zero) (t := t) (q := t :: q) (by rw [hI2, drop_cons hw, hq, readLike_cons, if_neg hkk])]
                exact ⟨rfl, rfl⟩
              · repeat' constructor
            · try simp only [decide_eq_true_eq, decide_eq_false_iff_not, Bool.not_eq_true', Bool.not_eq_false', Bool.not_eq_eq_eq_not, Bool.not_true, Bool.not_false, beq_iff_eq, beq_eq_false_iff_ne, ne_eq, Int.not_lt, Int.not_le, Option.isSome_some, Option.isNone_none, Option.isSome_none, Option.isNone_some, Classical.not_not] at h6
              refine V.move rfl rfl rfl ?_
              refine V.move rfl rfl rfl ?_
              refine V.indexO rfl rfl rfl rfl (by omega) ?_
              refine V.fieldAddr 2 9 rfl rfl rfl rfl rfl ?_
              apply V.loadC (c := [(fb, .cells (shapes.flatMap Form.cells).toArray 88 (0, 0))]) rfl rfl rfl rfl
              · repeat' constructor
              · exact hg 2 _ rfl
              refine V.move rfl rfl rfl ?_
              refine V.indexSt (i := k) (c := w - 32) rfl rfl rfl rfl (up_get hw) ?_
              refine V.bin rfl rfl rfl rfl (bin_neq _ _ _) ?_
              refine V.move rfl rfl rfl ?_
              refine V.split (t := 77) rfl (fun h7 => ?_) (fun h7 => ?_)
              · try simp only [decide_eq_true_eq, decide_eq_false_iff_not, Bool.not_eq_true', Bool.not_eq_false', Bool.not_eq_eq_eq_not, Bool.not_true, Bool.not_false, beq_iff_eq, beq_eq_false_iff_ne, ne_eq, Int.not_lt, Int.not_le, Option.isSome_some, Option.isNone_none, Option.isSome_none, Option.isNone_some, Classical.not_not] at h7
                refine V.fieldAddr 0 3 rfl rfl rfl rfl rfl ?_
                apply V.loadL rfl rfl rfl rfl
                · repeat' constructor
                · repeat' constructor
                refine V.bin rfl rfl rfl rfl (bin_neq _ _ _) ?_
                refine V.pickT rfl rfl rfl rfl ?_
                refine V.pickF rfl rfl rfl rfl ?_
                refine V.nil ?_
                refine Post.nextC ?_
                refine VC.cond rfl (fun h8 => ?_) (fun h8 => ?_)
                · try simp only [decide_eq_true_eq, decide_eq_false_iff_not, Bool.not_eq_true', Bool.not_eq_false', Bool.not_eq_eq_eq_not, Bool.not_true, Bool.not_false, beq_iff_eq, beq_eq_false_iff_ne, ne_eq, Int.not_lt, Int.not_le, Option.isSome_some, Option.isNone_none, Option.isSome_none, Option.isNone_some, Classical.not_not] at h8
                  refine VC.seq ?_
                  refine VC.region ?_
                  refine V.buildS [] (l := [.int .i64 0, .string ByteArray.empty, .string ByteArray.empty, .string ByteArray.empty, .int .i64 0, .string ByteArray.empty]) rfl rfl rfl rfl rfl ?_
                  apply V.loadAll rfl rfl rfl rfl
                  · repeat' constructor
                  · exact rfl
                  apply V.call rfl rfl rfl (hc := c25)
                  · repeat' constructor
                  rintro vq Ho ⟨rfl, rfl⟩
                  apply V.storeAll rfl rfl rfl rfl
                  · repeat' constructor
                  · exact rfl
                  · exact rfl
                  apply V.storeAll rfl rfl rfl rfl
                  · repeat' constructor
                  · exact rfl
                  · exact rfl
                  refine V.nil ?_
                  refine Post.nextC ?_
                  refine VC.ret ?_
                  refine Post.thenRet (Post.blockRet (Post.thenRet (Post.thenRet (Post.blockRet (Post.thenRet (Post.blockRet (Post.thenRet (Post.thenRet (Post.blockRet (Post.thenRet (?_)))))))))))
                  apply Post.retV2 rfl (.all rfl rfl (by repeat' constructor) (by exact rfl)) (.all rfl rfl (by repeat' constructor) (by exact rfl))
                  · have hkk : ¬ t.kind = kindOf w := by first | (rw [kind_n (by omega)]; assumption) | (rw [kind_w (by omega)]; assumption) | (exfalso; omega)
                    rw [refOf_no (c := Call.zero) (t := t) (q := t :: q) (by rw [hI2, drop_cons hw, hq, readLike_cons, if_neg hkk])]
                    exact ⟨rfl, rfl⟩
                  · repeat' constructor
                · try simp only [decide_eq_true_eq, decide_eq_false_iff_not, Bool.not_eq_true', Bool.not_eq_false', Bool.not_eq_eq_eq_not, Bool.not_true, Bool.not_false, beq_iff_eq, beq_eq_false_iff_ne, ne_eq, Int.not_lt, Int.not_le, Option.isSome_some, Option.isNone_none, Option.isSome_none, Option.isNone_some, Classical.not_not] at h8
                  refine VC.skip ?_
                  refine Post.nextC ?_
                  refine VC.seq ?_
                  refine VC.region ?_
                  have hkk : t.kind = kindOf w := by first | (rw [kind_n (by omega)]; assumption) | (rw [kind_w (by omega)]; assumption) | (exfalso; omega)
                  have hw5 : t.kind = 1 ∨ t.kind = 2 := by first | (left; assumption) | (right; assumption) | (exfalso; omega)
                  refine V.move rfl rfl rfl ?_
                  refine V.move rfl rfl rfl ?_
                  refine V.indexO rfl rfl rfl rfl (by omega) ?_
                  refine V.fieldAddr 2 9 rfl rfl rfl rfl rfl ?_
                  apply V.loadC (c := [(fb, .cells (shapes.flatMap Form.cells).toArray 88 (0, 0))]) rfl rfl rfl rfl
                  · repeat' constructor
                  · exact hg 2 _ rfl
                  refine V.move rfl rfl rfl ?_
                  refine V.indexSt (i := k) (c := w - 32) rfl rfl rfl rfl (up_get hw) ?_
                  refine V.nil ?_
                  refine Post.nextC ?_
                  refine VC.block ?_
                  refine VC.seq ?_
                  refine VC.region ?_
                  refine V.bin rfl rfl rfl rfl (bin_eql _ _ _) ?_
                  refine V.assign rfl rfl rfl ?_
                  refine V.nil ?_
                  refine Post.nextC ?_
                  refine VC.cond rfl (fun h9 => ?_) (fun h9 => ?_)
                  · try simp only [decide_eq_true_eq, decide_eq_false_iff_not, Bool.not_eq_true', Bool.not_eq_false', Bool.not_eq_eq_eq_not, Bool.not_true, Bool.not_false, beq_iff_eq, beq_eq_false_iff_ne, ne_eq, Int.not_lt, Int.not_le, Option.isSome_some, Option.isNone_none, Option.isSome_none, Option.isNone_some, Classical.not_not] at h9
                    refine VC.region ?_
                    refine V.fieldAddr 1 9 rfl rfl rfl rfl rfl ?_
                    apply V.loadL rfl rfl rfl rfl
                    · repeat' constructor
                    · repeat' constructor
                    refine V.fieldAddr 1 9 rfl rfl rfl rfl rfl ?_
                    apply V.storeL rfl rfl rfl rfl rfl
                    · repeat' constructor
                    · repeat' constructor
                    refine V.nil ?_
                    refine Post.blockNormal (Post.blockNormal (Post.nextC ?_))
                    refine VC.region ?_
                    refine V.move rfl rfl rfl ?_
                    refine V.bin rfl rfl rfl rfl (bin_addI (by omega)) ?_
                    refine V.assign rfl rfl rfl ?_
                    refine V.nil ?_
                    refine Post.round (k + 1, { c with a := t.text }) ?_ ?_ ?_ ?_
                    · show ((k + 1) ≤ f.like.length) ∧ (callOf (x :: r) = readLike (f.like.drop (k + 1)) ({ c with a := t.text }) (r.drop (k + 1))) ∧ (Ends (r.drop (k + 1)))
                      refine ⟨by omega, ?_, by rw [hq2]; exact (hq ▸ hE).tail (by rcases hw5 with h | h <;> omega)⟩
                      rw [hI2, drop_cons hw, hq, readLike_cons, if_pos hkk, put_a (by omega), hq2]
                    · show f.like.length - (k + 1) < f.like.length - k
                      omega
                    · exact ⟨rfl, rfl, rfl, rfl, rfl, rfl, rfl, trivial⟩
                    · repeat' constructor
                  · try simp only [decide_eq_true_eq, decide_eq_false_iff_not, Bool.not_eq_true', Bool.not_eq_false', Bool.not_eq_eq_eq_not, Bool.not_true, Bool.not_false, beq_iff_eq, beq_eq_false_iff_ne, ne_eq, Int.not_lt, Int.not_le, Option.isSome_some, Option.isNone_none, Option.isSome_none, Option.isNone_some, Classical.not_not] at h9
                    refine VC.seq ?_
                    refine VC.region ?_
                    refine V.bin rfl rfl rfl rfl (bin_eql _ _ _) ?_
                    refine V.assign rfl rfl rfl ?_
                    refine V.nil ?_
                    refine Post.nextC ?_
                    refine VC.cond rfl (fun h10 => ?_) (fun h10 => ?_)
                    · try simp only [decide_eq_true_eq, decide_eq_false_iff_not, Bool.not_eq_true', Bool.not_eq_false', Bool.not_eq_eq_eq_not, Bool.not_true, Bool.not_false, beq_iff_eq, beq_eq_false_iff_ne, ne_eq, Int.not_lt, Int.not_le, Option.isSome_some, Option.isNone_none, Option.isSome_none, Option.isNone_some, Classical.not_not] at h10
                      refine VC.region ?_
                      refine V.fieldAddr 1 9 rfl rfl rfl rfl rfl ?_
                      apply V.loadL rfl rfl rfl rfl
                      · repeat' constructor
                      · repeat' constructor
                      refine V.fieldAddr 2 9 rfl rfl rfl rfl rfl ?_
                      apply V.storeL rfl rfl rfl rfl rfl
                      · repeat' constructor
                      · repeat' constructor
                      refine V.nil ?_
                      refine Post.blockNormal (Post.blockNormal (Post.nextC ?_))
                      refine VC.region ?_
                      refine V.move rfl rfl rfl ?_
                      refine V.bin rfl rfl rfl rfl (bin_addI (by omega)) ?_
                      refine V.assign rfl rfl rfl ?_
                      refine V.nil ?_
                      refine Post.round (k + 1, { c with b := t.text }) ?_ ?_ ?_ ?_
                      · show ((k + 1) ≤ f.like.length) ∧ (callOf (x :: r) = readLike (f.like.drop (k + 1)) ({ c with b := t.text }) (r.drop (k + 1))) ∧ (Ends (r.drop (k + 1)))
                        refine ⟨by omega, ?_, by rw [hq2]; exact (hq ▸ hE).tail (by rcases hw5 with h | h <;> omega)⟩
                        rw [hI2, drop_cons hw, hq, readLike_cons, if_pos hkk, put_b (by omega), hq2]
                      · show f.like.length - (k + 1) < f.like.length - k
                        omega
                      · exact ⟨rfl, rfl, rfl, rfl, rfl, rfl, rfl, trivial⟩
                      · repeat' constructor
                    · try simp only [decide_eq_true_eq, decide_eq_false_iff_not, Bool.not_eq_true', Bool.not_eq_false', Bool.not_eq_eq_eq_not, Bool.not_true, Bool.not_false, beq_iff_eq, beq_eq_false_iff_ne, ne_eq, Int.not_lt, Int.not_le, Option.isSome_some, Option.isNone_none, Option.isSome_none, Option.isNone_some, Classical.not_not] at h10
                      refine VC.region ?_
                      refine V.fieldAddr 2 3 rfl rfl rfl rfl rfl ?_
                      apply V.loadL rfl rfl rfl rfl
                      · repeat' constructor
                      · repeat' constructor
                      refine V.fieldAddr 4 3 rfl rfl rfl rfl rfl ?_
                      apply V.storeL rfl rfl rfl rfl rfl
                      · repeat' constructor
                      · repeat' constructor
                      refine V.nil ?_
                      refine Post.blockNormal (Post.blockNormal (Post.nextC ?_))
                      refine VC.region ?_
                      refine V.move rfl rfl rfl ?_
                      refine V.bin rfl rfl rfl rfl (bin_addI (by omega)) ?_
                      refine V.assign rfl rfl rfl ?_
                      refine V.nil ?_
                      refine Post.round (k + 1, { c with n := t.number }) ?_ ?_ ?_ ?_
                      · show ((k + 1) ≤ f.like.length) ∧ (callOf (x :: r) = readLike (f.like.drop (k + 1)) ({ c with n := t.number }) (r.drop (k + 1))) ∧ (Ends (r.drop (k + 1)))
                        refine ⟨by omega, ?_, by rw [hq2]; exact (hq ▸ hE).tail (by rcases hw5 with h | h <;> omega)⟩
                        rw [hI2, drop_cons hw, hq, readLike_cons, if_pos hkk, put_n (by omega) (by omega), hq2]
                      · show f.like.length - (k + 1) < f.like.length - k
                        omega
                      · exact ⟨rfl, rfl, rfl, rfl, rfl, rfl, rfl, trivial⟩
                      · repeat' constructor
              · try simp only [decide_eq_true_eq, decide_eq_false_iff_not, Bool.not_eq_true', Bool.not_eq_false', Bool.not_eq_eq_eq_not, Bool.not_true, Bool.not_false, beq_iff_eq, beq_eq_false_iff_ne, ne_eq, Int.not_lt, Int.not_le, Option.isSome_some, Option.isNone_none, Option.isSome_none, Option.isNone_some, Classical.not_not] at h7
                refine V.skip rfl rfl ?_
                refine V.skip rfl rfl ?_
                refine V.skip rfl rfl ?_
                refine V.pickF rfl rfl rfl rfl ?_
                refine V.pickF rfl rfl rfl rfl ?_
                refine V.nil ?_
                refine Post.nextC ?_
                refine VC.condF rfl ?_
                refine VC.skip ?_
                refine Post.nextC ?_
                refine VC.seq ?_
                refine VC.region ?_
                have hkk : t.kind = kindOf w := by first | (rw [kind_n (by omega)]; assumption) | (rw [kind_w (by omega)]; assumption) | (exfalso; omega)
                have hw5 : t.kind = 1 ∨ t.kind = 2 := by first | (left; assumption) | (right; assumption) | (exfalso; omega)
                refine V.move rfl rfl rfl ?_
                refine V.move rfl rfl rfl ?_
                refine V.indexO rfl rfl rfl rfl (by omega) ?_
                refine V.fieldAddr 2 9 rfl rfl rfl rfl rfl ?_
                apply V.loadC (c := [(fb, .cells (shapes.flatMap Form.cells).toArray 88 (0, 0))]) rfl rfl rfl rfl
                · repeat' constructor
                · exact hg 2 _ rfl
                refine V.move rfl rfl rfl ?_
                refine V.indexSt (i := k) (c := w - 32) rfl rfl rfl rfl (up_get hw) ?_
                refine V.nil ?_
                refine Post.nextC ?_
                refine VC.block ?_
                refine VC.seq ?_
                refine VC.region ?_
                refine V.bin rfl rfl rfl rfl (bin_eql _ _ _) ?_
                refine V.assign rfl rfl rfl ?_
                refine V.nil ?_
                refine Post.nextC ?_
                refine VC.cond rfl (fun h11 => ?_) (fun h11 => ?_)
                · try simp only [decide_eq_true_eq, decide_eq_false_iff_not, Bool.not_eq_true', Bool.not_eq_false', Bool.not_eq_eq_eq_not, Bool.not_true, Bool.not_false, beq_iff_eq, beq_eq_false_iff_ne, ne_eq, Int.not_lt, Int.not_le, Option.isSome_some, Option.isNone_none, Option.isSome_none, Option.isNone_some, Classical.not_not] at h11
                  refine VC.region ?_
                  refine V.fieldAddr 1 9 rfl rfl rfl rfl rfl ?_
                  apply V.loadL rfl rfl rfl rfl
                  · repeat' constructor
                  · repeat' constructor
                  refine V.fieldAddr 1 9 rfl rfl rfl rfl rfl ?_
                  apply V.storeL rfl rfl rfl rfl rfl
                  · repeat' constructor
                  · repeat' constructor
                  refine V.nil ?_
                  refine Post.blockNormal (Post.blockNormal (Post.nextC ?_))
                  refine VC.region ?_
                  refine V.move rfl rfl rfl ?_
                  refine V.bin rfl rfl rfl rfl (bin_addI (by omega)) ?_
                  refine V.assign rfl rfl rfl ?_
                  refine V.nil ?_
                  refine Post.round (k + 1, { c with a := t.text }) ?_ ?_ ?_ ?_
                  · show ((k + 1) ≤ f.like.length) ∧ (callOf (x :: r) = readLike (f.like.drop (k + 1)) ({ c with a := t.text }) (r.drop (k + 1))) ∧ (Ends (r.drop (k + 1)))
                    refine ⟨by omega, ?_, by rw [hq2]; exact (hq ▸ hE).tail (by rcases hw5 with h | h <;> omega)⟩
                    rw [hI2, drop_cons hw, hq, readLike_cons, if_pos hkk, put_a (by omega), hq2]
                  · show f.like.length - (k + 1) < f.like.length - k
                    omega
                  · exact ⟨rfl, rfl, rfl, rfl, rfl, rfl, rfl, trivial⟩
                  · repeat' constructor
                · try simp only [decide_eq_true_eq, decide_eq_false_iff_not, Bool.not_eq_true', Bool.not_eq_false', Bool.not_eq_eq_eq_not, Bool.not_true, Bool.not_false, beq_iff_eq, beq_eq_false_iff_ne, ne_eq, Int.not_lt, Int.not_le, Option.isSome_some, Option.isNone_none, Option.isSome_none, Option.isNone_some, Classical.not_not] at h11
                  refine VC.seq ?_
                  refine VC.region ?_
                  refine V.bin rfl rfl rfl rfl (bin_eql _ _ _) ?_
                  refine V.assign rfl rfl rfl ?_
                  refine V.nil ?_
                  refine Post.nextC ?_
                  refine VC.cond rfl (fun h12 => ?_) (fun h12 => ?_)
                  · try simp only [decide_eq_true_eq, decide_eq_false_iff_not, Bool.not_eq_true', Bool.not_eq_false', Bool.not_eq_eq_eq_not, Bool.not_true, Bool.not_false, beq_iff_eq, beq_eq_false_iff_ne, ne_eq, Int.not_lt, Int.not_le, Option.isSome_some, Option.isNone_none, Option.isSome_none, Option.isNone_some, Classical.not_not] at h12
                    refine VC.region ?_
                    refine V.fieldAddr 1 9 rfl rfl rfl rfl rfl ?_
                    apply V.loadL rfl rfl rfl rfl
                    · repeat' constructor
                    · repeat' constructor
                    refine V.fieldAddr 2 9 rfl rfl rfl rfl rfl ?_
                    apply V.storeL rfl rfl rfl rfl rfl
                    · repeat' constructor
                    · repeat' constructor
                    refine V.nil ?_
                    refine Post.blockNormal (Post.blockNormal (Post.nextC ?_))
                    refine VC.region ?_
                    refine V.move rfl rfl rfl ?_
                    refine V.bin rfl rfl rfl rfl (bin_addI (by omega)) ?_
                    refine V.assign rfl rfl rfl ?_
                    refine V.nil ?_
                    refine Post.round (k + 1, { c with b := t.text }) ?_ ?_ ?_ ?_
                    · show ((k + 1) ≤ f.like.length) ∧ (callOf (x :: r) = readLike (f.like.drop (k + 1)) ({ c with b := t.text }) (r.drop (k + 1))) ∧ (Ends (r.drop (k + 1)))
                      refine ⟨by omega, ?_, by rw [hq2]; exact (hq ▸ hE).tail (by rcases hw5 with h | h <;> omega)⟩
                      rw [hI2, drop_cons hw, hq, readLike_cons, if_pos hkk, put_b (by omega), hq2]
                    · show f.like.length - (k + 1) < f.like.length - k
                      omega
                    · exact ⟨rfl, rfl, rfl, rfl, rfl, rfl, rfl, trivial⟩
                    · repeat' constructor
                  · try simp only [decide_eq_true_eq, decide_eq_false_iff_not, Bool.not_eq_true', Bool.not_eq_false', Bool.not_eq_eq_eq_not, Bool.not_true, Bool.not_false, beq_iff_eq, beq_eq_false_iff_ne, ne_eq, Int.not_lt, Int.not_le, Option.isSome_some, Option.isNone_none, Option.isSome_none, Option.isNone_some, Classical.not_not] at h12
                    refine VC.region ?_
                    refine V.fieldAddr 2 3 rfl rfl rfl rfl rfl ?_
                    apply V.loadL rfl rfl rfl rfl
                    · repeat' constructor
                    · repeat' constructor
                    refine V.fieldAddr 4 3 rfl rfl rfl rfl rfl ?_
                    apply V.storeL rfl rfl rfl rfl rfl
                    · repeat' constructor
                    · repeat' constructor
                    refine V.nil ?_
                    refine Post.blockNormal (Post.blockNormal (Post.nextC ?_))
                    refine VC.region ?_
                    refine V.move rfl rfl rfl ?_
                    refine V.bin rfl rfl rfl rfl (bin_addI (by omega)) ?_
                    refine V.assign rfl rfl rfl ?_
                    refine V.nil ?_
                    refine Post.round (k + 1, { c with n := t.number }) ?_ ?_ ?_ ?_
                    · show ((k + 1) ≤ f.like.length) ∧ (callOf (x :: r) = readLike (f.like.drop (k + 1)) ({ c with n := t.number }) (r.drop (k + 1))) ∧ (Ends (r.drop (k + 1)))
                      refine ⟨by omega, ?_, by rw [hq2]; exact (hq ▸ hE).tail (by rcases hw5 with h | h <;> omega)⟩
                      rw [hI2, drop_cons hw, hq, readLike_cons, if_pos hkk, put_n (by omega) (by omega), hq2]
                    · show f.like.length - (k + 1) < f.like.length - k
                      omega
                    · exact ⟨rfl, rfl, rfl, rfl, rfl, rfl, rfl, trivial⟩
                    · repeat' constructor
          · try simp only [decide_eq_true_eq, decide_eq_false_iff_not, Bool.not_eq_true', Bool.not_eq_false', Bool.not_eq_eq_eq_not, Bool.not_true, Bool.not_false, beq_iff_eq, beq_eq_false_iff_ne, ne_eq, Int.not_lt, Int.not_le, Option.isSome_some, Option.isNone_none, Option.isSome_none, Option.isNone_some, Classical.not_not] at h5
            refine V.skip rfl rfl ?_
            refine V.skip rfl rfl ?_
            refine V.skip rfl rfl ?_
            refine V.pickF rfl rfl rfl rfl ?_
            refine V.move rfl rfl rfl ?_
            refine V.move rfl rfl rfl ?_
            refine V.move rfl rfl rfl ?_
            refine V.indexO rfl rfl rfl rfl (by omega) ?_
            refine V.fieldAddr 2 9 rfl rfl rfl rfl rfl ?_
            apply V.loadC (c := [(fb, .cells (shapes.flatMap Form.cells).toArray 88 (0, 0))]) rfl rfl rfl rfl
            · repeat' constructor
            · exact hg 2 _ rfl
            refine V.move rfl rfl rfl ?_
            refine V.indexSt (i := k) (c := w - 32) rfl rfl rfl rfl (up_get hw) ?_
            refine V.bin rfl rfl rfl rfl (bin_neq _ _ _) ?_
            refine V.move rfl rfl rfl ?_
            refine V.split (t := 77) rfl (fun h13 => ?_) (fun h13 => ?_)
            · try simp only [decide_eq_true_eq, decide_eq_false_iff_not, Bool.not_eq_true', Bool.not_eq_false', Bool.not_eq_eq_eq_not, Bool.not_true, Bool.not_false, beq_iff_eq, beq_eq_false_iff_ne, ne_eq, Int.not_lt, Int.not_le, Option.isSome_some, Option.isNone_none, Option.isSome_none, Option.isNone_some, Classical.not_not] at h13
              refine V.fieldAddr 0 3 rfl rfl rfl rfl rfl ?_
              apply V.loadL rfl rfl rfl rfl
              · repeat' constructor
              · repeat' constructor
              refine V.bin rfl rfl rfl rfl (bin_neq _ _ _) ?_
              refine V.pickT rfl rfl rfl rfl ?_
              refine V.pickF rfl rfl rfl rfl ?_
              refine V.nil ?_
              refine Post.nextC ?_
              refine VC.cond rfl (fun h14 => ?_) (fun h14 => ?_)
              · try simp only [decide_eq_true_eq, decide_eq_false_iff_not, Bool.not_eq_true', Bool.not_eq_false', Bool.not_eq_eq_eq_not, Bool.not_true, Bool.not_false, beq_iff_eq, beq_eq_false_iff_ne, ne_eq, Int.not_lt, Int.not_le, Option.isSome_some, Option.isNone_none, Option.isSome_none, Option.isNone_some, Classical.not_not] at h14
                refine VC.seq ?_
                refine VC.region ?_
                refine V.buildS [] (l := [.int .i64 0, .string ByteArray.empty, .string ByteArray.empty, .string ByteArray.empty, .int .i64 0, .string ByteArray.empty]) rfl rfl rfl rfl rfl ?_
                apply V.loadAll rfl rfl rfl rfl
                · repeat' constructor
                · exact rfl
                apply V.call rfl rfl rfl (hc := c25)
                · repeat' constructor
                rintro vq Ho ⟨rfl, rfl⟩
                apply V.storeAll rfl rfl rfl rfl
                · repeat' constructor
                · exact rfl
                · exact rfl
                apply V.storeAll rfl rfl rfl rfl
                · repeat' constructor
                · exact rfl
                · exact rfl
                refine V.nil ?_
                refine Post.nextC ?_
                refine VC.ret ?_
                refine Post.thenRet (Post.blockRet (Post.thenRet (Post.thenRet (Post.blockRet (Post.thenRet (Post.blockRet (Post.thenRet (Post.thenRet (Post.blockRet (Post.thenRet (?_)))))))))))
                apply Post.retV2 rfl (.all rfl rfl (by repeat' constructor) (by exact rfl)) (.all rfl rfl (by repeat' constructor) (by exact rfl))
                · have hkk : ¬ t.kind = kindOf w := by first | (rw [kind_n (by omega)]; assumption) | (rw [kind_w (by omega)]; assumption) | (exfalso; omega)
                  rw [refOf_no (c := Call.zero) (t := t) (q := t :: q) (by rw [hI2, drop_cons hw, hq, readLike_cons, if_neg hkk])]
                  exact ⟨rfl, rfl⟩
                · repeat' constructor
              · try simp only [decide_eq_true_eq, decide_eq_false_iff_not, Bool.not_eq_true', Bool.not_eq_false', Bool.not_eq_eq_eq_not, Bool.not_true, Bool.not_false, beq_iff_eq, beq_eq_false_iff_ne, ne_eq, Int.not_lt, Int.not_le, Option.isSome_some, Option.isNone_none, Option.isSome_none, Option.isNone_some, Classical.not_not] at h14
                refine VC.skip ?_
                refine Post.nextC ?_
                refine VC.seq ?_
                refine VC.region ?_
                have hkk : t.kind = kindOf w := by first | (rw [kind_n (by omega)]; assumption) | (rw [kind_w (by omega)]; assumption) | (exfalso; omega)
                have hw5 : t.kind = 1 ∨ t.kind = 2 := by first | (left; assumption) | (right; assumption) | (exfalso; omega)
                refine V.move rfl rfl rfl ?_
                refine V.move rfl rfl rfl ?_
                refine V.indexO rfl rfl rfl rfl (by omega) ?_
                refine V.fieldAddr 2 9 rfl rfl rfl rfl rfl ?_
                apply V.loadC (c := [(fb, .cells (shapes.flatMap Form.cells).toArray 88 (0, 0))]) rfl rfl rfl rfl
                · repeat' constructor
                · exact hg 2 _ rfl
                refine V.move rfl rfl rfl ?_
                refine V.indexSt (i := k) (c := w - 32) rfl rfl rfl rfl (up_get hw) ?_
                refine V.nil ?_
                refine Post.nextC ?_
                refine VC.block ?_
                refine VC.seq ?_
                refine VC.region ?_
                refine V.bin rfl rfl rfl rfl (bin_eql _ _ _) ?_
                refine V.assign rfl rfl rfl ?_
                refine V.nil ?_
                refine Post.nextC ?_
                refine VC.cond rfl (fun h15 => ?_) (fun h15 => ?_)
                · try simp only [decide_eq_true_eq, decide_eq_false_iff_not, Bool.not_eq_true', Bool.not_eq_false', Bool.not_eq_eq_eq_not, Bool.not_true, Bool.not_false, beq_iff_eq, beq_eq_false_iff_ne, ne_eq, Int.not_lt, Int.not_le, Option.isSome_some, Option.isNone_none, Option.isSome_none, Option.isNone_some, Classical.not_not] at h15
                  refine VC.region ?_
                  refine V.fieldAddr 1 9 rfl rfl rfl rfl rfl ?_
                  apply V.loadL rfl rfl rfl rfl
                  · repeat' constructor
                  · repeat' constructor
                  refine V.fieldAddr 1 9 rfl rfl rfl rfl rfl ?_
                  apply V.storeL rfl rfl rfl rfl rfl
                  · repeat' constructor
                  · repeat' constructor
                  refine V.nil ?_
                  refine Post.blockNormal (Post.blockNormal (Post.nextC ?_))
                  refine VC.region ?_
                  refine V.move rfl rfl rfl ?_
                  refine V.bin rfl rfl rfl rfl (bin_addI (by omega)) ?_
                  refine V.assign rfl rfl rfl ?_
                  refine V.nil ?_
                  refine Post.round (k + 1, { c with a := t.text }) ?_ ?_ ?_ ?_
                  · show ((k + 1) ≤ f.like.length) ∧ (callOf (x :: r) = readLike (f.like.drop (k + 1)) ({ c with a := t.text }) (r.drop (k + 1))) ∧ (Ends (r.drop (k + 1)))
                    refine ⟨by omega, ?_, by rw [hq2]; exact (hq ▸ hE).tail (by rcases hw5 with h | h <;> omega)⟩
                    rw [hI2, drop_cons hw, hq, readLike_cons, if_pos hkk, put_a (by omega), hq2]
                  · show f.like.length - (k + 1) < f.like.length - k
                    omega
                  · exact ⟨rfl, rfl, rfl, rfl, rfl, rfl, rfl, trivial⟩
                  · repeat' constructor
                · try simp only [decide_eq_true_eq, decide_eq_false_iff_not, Bool.not_eq_true', Bool.not_eq_false', Bool.not_eq_eq_eq_not, Bool.not_true, Bool.not_false, beq_iff_eq, beq_eq_false_iff_ne, ne_eq, Int.not_lt, Int.not_le, Option.isSome_some, Option.isNone_none, Option.isSome_none, Option.isNone_some, Classical.not_not] at h15
                  refine VC.seq ?_
                  refine VC.region ?_
                  refine V.bin rfl rfl rfl rfl (bin_eql _ _ _) ?_
                  refine V.assign rfl rfl rfl ?_
                  refine V.nil ?_
                  refine Post.nextC ?_
                  refine VC.cond rfl (fun h16 => ?_) (fun h16 => ?_)
                  · try simp only [decide_eq_true_eq, decide_eq_false_iff_not, Bool.not_eq_true', Bool.not_eq_false', Bool.not_eq_eq_eq_not, Bool.not_true, Bool.not_false, beq_iff_eq, beq_eq_false_iff_ne, ne_eq, Int.not_lt, Int.not_le, Option.isSome_some, Option.isNone_none, Option.isSome_none, Option.isNone_some, Classical.not_not] at h16
                    refine VC.region ?_
                    refine V.fieldAddr 1 9 rfl rfl rfl rfl rfl ?_
                    apply V.loadL rfl rfl rfl rfl
                    · repeat' constructor
                    · repeat' constructor
                    refine V.fieldAddr 2 9 rfl rfl rfl rfl rfl ?_
                    apply V.storeL rfl rfl rfl rfl rfl
                    · repeat' constructor
                    · repeat' constructor
                    refine V.nil ?_
                    refine Post.blockNormal (Post.blockNormal (Post.nextC ?_))
                    refine VC.region ?_
                    refine V.move rfl rfl rfl ?_
                    refine V.bin rfl rfl rfl rfl (bin_addI (by omega)) ?_
                    refine V.assign rfl rfl rfl ?_
                    refine V.nil ?_
                    refine Post.round (k + 1, { c with b := t.text }) ?_ ?_ ?_ ?_
                    · show ((k + 1) ≤ f.like.length) ∧ (callOf (x :: r) = readLike (f.like.drop (k + 1)) ({ c with b := t.text }) (r.drop (k + 1))) ∧ (Ends (r.drop (k + 1)))
                      refine ⟨by omega, ?_, by rw [hq2]; exact (hq ▸ hE).tail (by rcases hw5 with h | h <;> omega)⟩
                      rw [hI2, drop_cons hw, hq, readLike_cons, if_pos hkk, put_b (by omega), hq2]
                    · show f.like.length - (k + 1) < f.like.length - k
                      omega
                    · exact ⟨rfl, rfl, rfl, rfl, rfl, rfl, rfl, trivial⟩
                    · repeat' constructor
                  · try simp only [decide_eq_true_eq, decide_eq_false_iff_not, Bool.not_eq_true', Bool.not_eq_false', Bool.not_eq_eq_eq_not, Bool.not_true, Bool.not_false, beq_iff_eq, beq_eq_false_iff_ne, ne_eq, Int.not_lt, Int.not_le, Option.isSome_some, Option.isNone_none, Option.isSome_none, Option.isNone_some, Classical.not_not] at h16
                    refine VC.region ?_
                    refine V.fieldAddr 2 3 rfl rfl rfl rfl rfl ?_
                    apply V.loadL rfl rfl rfl rfl
                    · repeat' constructor
                    · repeat' constructor
                    refine V.fieldAddr 4 3 rfl rfl rfl rfl rfl ?_
                    apply V.storeL rfl rfl rfl rfl rfl
                    · repeat' constructor
                    · repeat' constructor
                    refine V.nil ?_
                    refine Post.blockNormal (Post.blockNormal (Post.nextC ?_))
                    refine VC.region ?_
                    refine V.move rfl rfl rfl ?_
                    refine V.bin rfl rfl rfl rfl (bin_addI (by omega)) ?_
                    refine V.assign rfl rfl rfl ?_
                    refine V.nil ?_
                    refine Post.round (k + 1, { c with n := t.number }) ?_ ?_ ?_ ?_
                    · show ((k + 1) ≤ f.like.length) ∧ (callOf (x :: r) = readLike (f.like.drop (k + 1)) ({ c with n := t.number }) (r.drop (k + 1))) ∧ (Ends (r.drop (k + 1)))
                      refine ⟨by omega, ?_, by rw [hq2]; exact (hq ▸ hE).tail (by rcases hw5 with h | h <;> omega)⟩
                      rw [hI2, drop_cons hw, hq, readLike_cons, if_pos hkk, put_n (by omega) (by omega), hq2]
                    · show f.like.length - (k + 1) < f.like.length - k
                      omega
                    · exact ⟨rfl, rfl, rfl, rfl, rfl, rfl, rfl, trivial⟩
                    · repeat' constructor
            · try simp only [decide_eq_true_eq, decide_eq_false_iff_not, Bool.not_eq_true', Bool.not_eq_false', Bool.not_eq_eq_eq_not, Bool.not_true, Bool.not_false, beq_iff_eq, beq_eq_false_iff_ne, ne_eq, Int.not_lt, Int.not_le, Option.isSome_some, Option.isNone_none, Option.isSome_none, Option.isNone_some, Classical.not_not] at h13
              refine V.skip rfl rfl ?_
              refine V.skip rfl rfl ?_
              refine V.skip rfl rfl ?_
              refine V.pickF rfl rfl rfl rfl ?_
              refine V.pickF rfl rfl rfl rfl ?_
              refine V.nil ?_
              refine Post.nextC ?_
              refine VC.condF rfl ?_
              refine VC.skip ?_
              refine Post.nextC ?_
              refine VC.seq ?_
              refine VC.region ?_
              have hkk : t.kind = kindOf w := by first | (rw [kind_n (by omega)]; assumption) | (rw [kind_w (by omega)]; assumption) | (exfalso; omega)
              have hw5 : t.kind = 1 ∨ t.kind = 2 := by first | (left; assumption) | (right; assumption) | (exfalso; omega)
              refine V.move rfl rfl rfl ?_
              refine V.move rfl rfl rfl ?_
              refine V.indexO rfl rfl rfl rfl (by omega) ?_
              refine V.fieldAddr 2 9 rfl rfl rfl rfl rfl ?_
              apply V.loadC (c := [(fb, .cells (shapes.flatMap Form.cells).toArray 88 (0, 0))]) rfl rfl rfl rfl
              · repeat' constructor
              · exact hg 2 _ rfl
              refine V.move rfl rfl rfl ?_
              refine V.indexSt (i := k) (c := w - 32) rfl rfl rfl rfl (up_get hw) ?_
              refine V.nil ?_
              refine Post.nextC ?_
              refine VC.block ?_
              refine VC.seq ?_
              refine VC.region ?_
              refine V.bin rfl rfl rfl rfl (bin_eql _ _ _) ?_
              refine V.assign rfl rfl rfl ?_
              refine V.nil ?_
              refine Post.nextC ?_
              refine VC.cond rfl (fun h17 => ?_) (fun h17 => ?_)
              · try simp only [decide_eq_true_eq, decide_eq_false_iff_not, Bool.not_eq_true', Bool.not_eq_false', Bool.not_eq_eq_eq_not, Bool.not_true, Bool.not_false, beq_iff_eq, beq_eq_false_iff_ne, ne_eq, Int.not_lt, Int.not_le, Option.isSome_some, Option.isNone_none, Option.isSome_none, Option.isNone_some, Classical.not_not] at h17
                refine VC.region ?_
                refine V.fieldAddr 1 9 rfl rfl rfl rfl rfl ?_
                apply V.loadL rfl rfl rfl rfl
                · repeat' constructor
                · repeat' constructor
                refine V.fieldAddr 1 9 rfl rfl rfl rfl rfl ?_
                apply V.storeL rfl rfl rfl rfl rfl
                · repeat' constructor
                · repeat' constructor
                refine V.nil ?_
                refine Post.blockNormal (Post.blockNormal (Post.nextC ?_))
                refine VC.region ?_
                refine V.move rfl rfl rfl ?_
                refine V.bin rfl rfl rfl rfl (bin_addI (by omega)) ?_
                refine V.assign rfl rfl rfl ?_
                refine V.nil ?_
                refine Post.round (k + 1, { c with a := t.text }) ?_ ?_ ?_ ?_
                · show ((k + 1) ≤ f.like.length) ∧ (callOf (x :: r) = readLike (f.like.drop (k + 1)) ({ c with a := t.text }) (r.drop (k + 1))) ∧ (Ends (r.drop (k + 1)))
                  refine ⟨by omega, ?_, by rw [hq2]; exact (hq ▸ hE).tail (by rcases hw5 with h | h <;> omega)⟩
                  rw [hI2, drop_cons hw, hq, readLike_cons, if_pos hkk, put_a (by omega), hq2]
                · show f.like.length - (k + 1) < f.like.length - k
                  omega
                · exact ⟨rfl, rfl, rfl, rfl, rfl, rfl, rfl, trivial⟩
                · repeat' constructor
              · try simp only [decide_eq_true_eq, decide_eq_false_iff_not, Bool.not_eq_true', Bool.not_eq_false', Bool.not_eq_eq_eq_not, Bool.not_true, Bool.not_false, beq_iff_eq, beq_eq_false_iff_ne, ne_eq, Int.not_lt, Int.not_le, Option.isSome_some, Option.isNone_none, Option.isSome_none, Option.isNone_some, Classical.not_not] at h17
                refine VC.seq ?_
                refine VC.region ?_
                refine V.bin rfl rfl rfl rfl (bin_eql _ _ _) ?_
                refine V.assign rfl rfl rfl ?_
                refine V.nil ?_
                refine Post.nextC ?_
                refine VC.cond rfl (fun h18 => ?_) (fun h18 => ?_)
                · try simp only [decide_eq_true_eq, decide_eq_false_iff_not, Bool.not_eq_true', Bool.not_eq_false', Bool.not_eq_eq_eq_not, Bool.not_true, Bool.not_false, beq_iff_eq, beq_eq_false_iff_ne, ne_eq, Int.not_lt, Int.not_le, Option.isSome_some, Option.isNone_none, Option.isSome_none, Option.isNone_some, Classical.not_not] at h18
                  refine VC.region ?_
                  refine V.fieldAddr 1 9 rfl rfl rfl rfl rfl ?_
                  apply V.loadL rfl rfl rfl rfl
                  · repeat' constructor
                  · repeat' constructor
                  refine V.fieldAddr 2 9 rfl rfl rfl rfl rfl ?_
                  apply V.storeL rfl rfl rfl rfl rfl
                  · repeat' constructor
                  · repeat' constructor
                  refine V.nil ?_
                  refine Post.blockNormal (Post.blockNormal (Post.nextC ?_))
                  refine VC.region ?_
                  refine V.move rfl rfl rfl ?_
                  refine V.bin rfl rfl rfl rfl (bin_addI (by omega)) ?_
                  refine V.assign rfl rfl rfl ?_
                  refine V.nil ?_
                  refine Post.round (k + 1, { c with b := t.text }) ?_ ?_ ?_ ?_
                  · show ((k + 1) ≤ f.like.length) ∧ (callOf (x :: r) = readLike (f.like.drop (k + 1)) ({ c with b := t.text }) (r.drop (k + 1))) ∧ (Ends (r.drop (k + 1)))
                    refine ⟨by omega, ?_, by rw [hq2]; exact (hq ▸ hE).tail (by rcases hw5 with h | h <;> omega)⟩
                    rw [hI2, drop_cons hw, hq, readLike_cons, if_pos hkk, put_b (by omega), hq2]
                  · show f.like.length - (k + 1) < f.like.length - k
                    omega
                  · exact ⟨rfl, rfl, rfl, rfl, rfl, rfl, rfl, trivial⟩
                  · repeat' constructor
                · try simp only [decide_eq_true_eq, decide_eq_false_iff_not, Bool.not_eq_true', Bool.not_eq_false', Bool.not_eq_eq_eq_not, Bool.not_true, Bool.not_false, beq_iff_eq, beq_eq_false_iff_ne, ne_eq, Int.not_lt, Int.not_le, Option.isSome_some, Option.isNone_none, Option.isSome_none, Option.isNone_some, Classical.not_not] at h18
                  refine VC.region ?_
                  refine V.fieldAddr 2 3 rfl rfl rfl rfl rfl ?_
                  apply V.loadL rfl rfl rfl rfl
                  · repeat' constructor
                  · repeat' constructor
                  refine V.fieldAddr 4 3 rfl rfl rfl rfl rfl ?_
                  apply V.storeL rfl rfl rfl rfl rfl
                  · repeat' constructor
                  · repeat' constructor
                  refine V.nil ?_
                  refine Post.blockNormal (Post.blockNormal (Post.nextC ?_))
                  refine VC.region ?_
                  refine V.move rfl rfl rfl ?_
                  refine V.bin rfl rfl rfl rfl (bin_addI (by omega)) ?_
                  refine V.assign rfl rfl rfl ?_
                  refine V.nil ?_
                  refine Post.round (k + 1, { c with n := t.number }) ?_ ?_ ?_ ?_
                  · show ((k + 1) ≤ f.like.length) ∧ (callOf (x :: r) = readLike (f.like.drop (k + 1)) ({ c with n := t.number }) (r.drop (k + 1))) ∧ (Ends (r.drop (k + 1)))
                    refine ⟨by omega, ?_, by rw [hq2]; exact (hq ▸ hE).tail (by rcases hw5 with h | h <;> omega)⟩
                    rw [hI2, drop_cons hw, hq, readLike_cons, if_pos hkk, put_n (by omega) (by omega), hq2]
                  · show f.like.length - (k + 1) < f.like.length - k
                    omega
                  · exact ⟨rfl, rfl, rfl, rfl, rfl, rfl, rfl, trivial⟩
                  · repeat' constructor
        · try simp only [decide_eq_true_eq, decide_eq_false_iff_not, Bool.not_eq_true', Bool.not_eq_false', Bool.not_eq_eq_eq_not, Bool.not_true, Bool.not_false, beq_iff_eq, beq_eq_false_iff_ne, ne_eq, Int.not_lt, Int.not_le, Option.isSome_some, Option.isNone_none, Option.isSome_none, Option.isNone_some, Classical.not_not] at h4
          refine VC.exit ?_
          refine Post.thenExit (Post.thenExit (Post.blockHit (Post.nextC ?_)))
          refine VC.seq ?_
          refine VC.region ?_
          obtain ⟨t, q, hq⟩ := hE.cons
          obtain ⟨hq2, ht0⟩ := drop_tail hq
          have htl := (List.getElem?_eq_some_iff.1 ht0).1
          obtain rfl : k = f.like.length := by omega
          obtain ⟨_, bb3, oo3, cp3, e, ht⟩ := hr.item (f := Tok.cells) (i := f.like.length + 1) (x := t) tok5 (by omega) (by rw [List.getElem?_cons_succ]; exact ht0)
          simp only [Value.slice.injEq, Option.some.injEq, Addr.mk.injEq] at e
          obtain ⟨⟨rfl, rfl, _⟩, _, rfl⟩ := e
          refine V.move rfl rfl rfl ?_
          refine V.move rfl rfl rfl ?_
          refine V.move rfl rfl rfl ?_
          refine V.indexO rfl rfl rfl rfl (by omega) ?_
          refine V.fieldAddr 2 9 rfl rfl rfl rfl rfl ?_
          apply V.loadC (c := [(fb, .cells (shapes.flatMap Form.cells).toArray 88 (0, 0))]) rfl rfl rfl rfl
          · repeat' constructor
          · exact hg 2 _ rfl
          refine V.lenSt rfl rfl rfl ?_
          refine V.bin rfl rfl rfl rfl (bin_addI (by omega)) ?_
          refine V.know (t := 113) (y := .int .i64 ((f.like.length + 1 : Nat) : Int)) rfl (by first | rfl | (congr 1; omega)) ?_
          refine V.indexO rfl rfl rfl rfl (by omega) ?_
          apply V.loadNC (c := C) (vs := t.cells) rfl rfl rfl rfl
          · repeat' constructor
          · rfl
          · exact fun j u hu => by rw [add_addr]; exact ht j u hu
          refine V.alloc (l := [.int .i64 0, .string ByteArray.empty, .int .i64 0, .int .i64 0, .int .i64 0]) rfl rfl rfl (fun b5 => ?_)
          apply V.storeAll rfl rfl rfl rfl
          · repeat' constructor
          · exact rfl
          · exact rfl
          refine V.nil ?_
          refine Post.nextC ?_
          refine VC.seq ?_
          refine VC.seq ?_
          refine VC.region ?_
          refine V.fieldAddr 0 3 rfl rfl rfl rfl rfl ?_
          apply V.loadL rfl rfl rfl rfl
          · repeat' constructor
          · repeat' constructor
          refine V.bin rfl rfl rfl rfl (bin_neq _ _ _) ?_
          refine V.nil ?_
          refine Post.nextC ?_
          refine VC.cond rfl (fun h19 => ?_) (fun h19 => ?_)
          · try simp only [decide_eq_true_eq, decide_eq_false_iff_not, Bool.not_eq_true', Bool.not_eq_false', Bool.not_eq_eq_eq_not, Bool.not_true, Bool.not_false, beq_iff_eq, beq_eq_false_iff_ne, ne_eq, Int.not_lt, Int.not_le, Option.isSome_some, Option.isNone_none, Option.isSome_none, Option.isNone_some, Classical.not_not] at h19
            refine VC.seq ?_
            refine VC.region ?_
            refine V.buildS [] (l := [.int .i64 0, .string ByteArray.empty, .string ByteArray.empty, .string ByteArray.empty, .int .i64 0, .string ByteArray.empty]) rfl rfl rfl rfl rfl ?_
            apply V.loadAll rfl rfl rfl rfl
            · repeat' constructor
            · exact rfl
            apply V.call rfl rfl rfl (hc := c25)
            · repeat' constructor
            rintro vq Ho ⟨rfl, rfl⟩
            apply V.storeAll rfl rfl rfl rfl
            · repeat' constructor
            · exact rfl
            · exact rfl
            apply V.storeAll rfl rfl rfl rfl
            · repeat' constructor
            · exact rfl
            · exact rfl
            refine V.nil ?_
            refine Post.nextC ?_
            refine VC.ret ?_
            refine Post.thenRet (Post.blockRet (Post.thenRet (Post.thenRet (Post.blockRet (Post.thenRet (?_))))))
            apply Post.retV2 rfl (.all rfl rfl (by repeat' constructor) (by exact rfl)) (.all rfl rfl (by repeat' constructor) (by exact rfl))
            · have h4 : ¬ t.kind = 4 := by assumption
              rw [refOf_no (c := c) (t := t) (q := t :: q) (by rw [hI2, List.drop_length, hq, readLike_end, if_neg h4])]
              exact ⟨rfl, rfl⟩
            · repeat' constructor
          · try simp only [decide_eq_true_eq, decide_eq_false_iff_not, Bool.not_eq_true', Bool.not_eq_false', Bool.not_eq_eq_eq_not, Bool.not_true, Bool.not_false, beq_iff_eq, beq_eq_false_iff_ne, ne_eq, Int.not_lt, Int.not_le, Option.isSome_some, Option.isNone_none, Option.isSome_none, Option.isNone_some, Classical.not_not] at h19
            refine VC.skip ?_
            refine Post.nextC ?_
            refine VC.seq ?_
            refine VC.region ?_
            apply V.loadAll rfl rfl rfl rfl
            · repeat' constructor
            · exact rfl
            refine V.buildS [] (l := [.int .i64 0, .int .i64 0, .int .i64 0]) rfl rfl rfl rfl rfl ?_
            apply V.storeAll rfl rfl rfl rfl
            · repeat' constructor
            · exact rfl
            · exact rfl
            apply V.storeAll rfl rfl rfl rfl
            · repeat' constructor
            · exact rfl
            · exact rfl
            refine V.nil ?_
            refine Post.nextC ?_
            refine VC.ret ?_
            refine Post.blockRet (Post.thenRet (Post.thenRet (Post.blockRet (Post.thenRet (?_)))))
            apply Post.retV2 rfl (.all rfl rfl (by repeat' constructor) (by exact rfl)) (.all rfl rfl (by repeat' constructor) (by exact rfl))
            · have h4 : t.kind = 4 := by assumption
              rw [refOf_yes (c := c) (t := t) (q := q) (by rw [hI2, List.drop_length, hq, readLike_end, if_pos h4])]
              exact ⟨rfl, rfl⟩
            · repeat' constructor
  · try simp only [decide_eq_true_eq, decide_eq_false_iff_not, Bool.not_eq_true', Bool.not_eq_false', Bool.not_eq_eq_eq_not, Bool.not_true, Bool.not_false, beq_iff_eq, beq_eq_false_iff_ne, ne_eq, Int.not_lt, Int.not_le, Option.isSome_some, Option.isNone_none, Option.isSome_none, Option.isNone_some, Classical.not_not] at h1
    refine VC.exit ?_
    refine Post.thenExit (Post.thenExit (Post.blockHit (Post.nextC ?_)))
    refine VC.seq ?_
    refine VC.region ?_
    refine V.buildS [] (l := [.int .i64 0, .string ByteArray.empty, .string ByteArray.empty, .string ByteArray.empty, .int .i64 0, .string ByteArray.empty]) rfl rfl rfl rfl rfl ?_
    refine V.move rfl rfl rfl ?_
    refine V.indexO (i := 0) rfl rfl rfl rfl (by omega) ?_
    apply V.loadNC (c := C) (vs := x.cells) rfl rfl rfl rfl
    · repeat' constructor
    · rfl
    · exact fun j u hu => by rw [add_addr]; exact hx j u hu
    apply V.call rfl rfl rfl (hc := c25)
    · repeat' constructor
    rintro vq Ho ⟨rfl, rfl⟩
    apply V.storeAll rfl rfl rfl rfl
    · repeat' constructor
    · exact rfl
    · exact rfl
    apply V.storeAll rfl rfl rfl rfl
    · repeat' constructor
    · exact rfl
    · exact rfl
    refine V.nil ?_
    refine Post.nextC ?_
    refine VC.ret ?_
    apply Post.retV2 rfl (.all rfl rfl (by repeat' constructor) (by exact rfl)) (.all rfl rfl (by repeat' constructor) (by exact rfl))
    · obtain ⟨q, hq⟩ := callOf_none (x := x) (r := r) (by
        rcases hI with hI | hI
        · right; rw [hI, List.drop_of_length_le (by rw [forms_len]; omega)]; rfl
        · exact .inl hI)
      rw [refOf_no hq]
      exact ⟨rfl, rfl⟩
    · repeat' constructor

end Go.Proofs.Ln
