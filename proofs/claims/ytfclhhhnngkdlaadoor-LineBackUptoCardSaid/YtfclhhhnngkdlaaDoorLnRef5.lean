/- Contracts of functions of the given program, each proved by walking its code: part of the proof of this claim; no condition beyond those that each theorem names. -/
import Derived.Test.YtfclhhhnngkdlaaDoorLnLines
set_option linter.unusedVariables false
set_option linter.unusedSimpArgs false
namespace Go.Proofs.Ln
open Go Go.RowKit Go.Proofs.Eng
theorem toks_one (l : List Tok) : (toks l).all (·.oneCell') = true := by
  rw [List.all_eq_true]
  intro u hu
  obtain ⟨x, _, hx⟩ := List.mem_flatMap.1 hu
  simp only [Tok.cells, List.mem_cons, List.not_mem_nil, or_false] at hx
  rcases hx with rfl | rfl | rfl | rfl | rfl <;> rfl
theorem toks_append (a b : List Tok) : toks (a ++ b) = toks a ++ toks b := by simp [toks]
theorem Rd.at1' {w0 : World} {c : Chunk} {v : Value} {n : Nat} {l : List Value} {i : Nat} {u : Value} (h : Rd w0 c 1 v n l) (hi : l[i]? = some u) : i < n ∧ ∃ b o cp, v = .slice (some ⟨b, o, none⟩) n cp ∧ Cel w0 c ⟨b, o + i * 1, none⟩ u := by
  obtain ⟨h1, b, o, cp, h2, h3⟩ := h.at1 hi
  exact ⟨h1, b, o, cp, h2, by rw [Nat.mul_one]; exact h3⟩
theorem flat_le {L : List (List Tok)} {i k n : Nat} (h : (L.drop i).flatten.length ≤ n) : ((L.drop i).take k).flatten.length ≤ n := by
  refine Nat.le_trans ?_ h
  conv => rhs; rw [← List.take_append_drop k (L.drop i)]
  rw [List.flatten_append, List.length_append]
  exact Nat.le_add_right _ _
theorem take_line {L : List (List Tok)} {i j : Nat} {ln : List Tok} (hij : i ≤ j) (hj : L[j]? = some ln) : ((L.drop i).take (j + 1 - i)).flatten = ((L.drop i).take (j - i)).flatten ++ ln := by
  rw [show j + 1 - i = (j - i) + 1 by omega, List.take_add_one, List.getElem?_drop, show i + (j - i) = j by omega, hj]
  simp
theorem flat_split {L : List (List Tok)} {i j : Nat} (hij : i ≤ j) : (L.drop i).flatten = ((L.drop i).take (j - i)).flatten ++ (L.drop j).flatten := by
  conv => lhs; rw [← List.take_append_drop (j - i) (L.drop i)]
  rw [List.flatten_append, List.drop_drop, show i + (j - i) = j by omega]
theorem flowLines_on {L : List (List Tok)} {j : Nat} {ln : List Tok} (hj : L[j]? = some ln) (ha : aloneL ln = false) : flowLines (L.drop j) = (flowLines (L.drop (j + 1))).map (· + ln.length) := by
  rw [drop_cons hj]
  simp only [flowLines]
  rw [if_neg (by simp [ha])]
theorem flowLines_hit {L : List (List Tok)} {j : Nat} {ln : List Tok} (hj : L[j]? = some ln) (ha : aloneL ln = true) : flowLines (L.drop j) = some ln.length := by
  rw [drop_cons hj]
  simp only [flowLines]
  rw [if_pos ha]
theorem alone_yes {y : Tok} {q : List Tok} (h1 : isWord y [101, 110, 100] = true) (h2 : ((y :: q).length : Int) = 2) : aloneL (y :: q) = true := by
  match q, h2 with
  | [z], _ => exact h1
  | [], h => simp at h
  | _ :: _ :: _, h => simp at h; omega
theorem alone_no {y : Tok} {q : List Tok} (h : isWord y [101, 110, 100] = false ∨ ¬ ((y :: q).length : Int) = 2) : aloneL (y :: q) = false := by
  match q with
  | [z] =>
    rcases h with h | h
    · exact h
    · exact absurd rfl h
  | [] => rfl
  | _ :: _ :: _ => rfl
theorem getLast_flat {L : List (List Tok)} {i : Nat} {z : Tok} {all : List Tok} (he : L.drop i ≠ []) (h : (L.drop i).flatten = all) (hz : all[all.length - 1]? = some z) : (L.drop i).flatten.getLast? = some z := by
  rw [h, List.getLast?_eq_getElem?]
  exact hz
/-- the flow's own line, at i: the tokens of the lines i to j - 1 are gathered -/
structure FlI (L : List (List Tok)) (i j : Nat) (all : List Tok) : Prop where
  ij : i ≤ j
  al : all = ((L.drop i).take (j - i)).flatten
  fl : flowLines (L.drop i) = (flowLines (L.drop j)).map (· + all.length)
theorem FlI.start (L : List (List Tok)) (i : Nat) : FlI L i i [] := ⟨Nat.le_refl _, by simp, by simp⟩
theorem FlI.next {L : List (List Tok)} {i j : Nat} {all ln : List Tok} (h : FlI L i j all) (hj : L[j]? = some ln) (ha : aloneL ln = false) : FlI L i (j + 1) (all ++ ln) := by
  obtain ⟨h1, h2, h3⟩ := h
  refine ⟨by omega, by rw [take_line h1 hj, h2], ?_⟩
  rw [h3, flowLines_on hj ha, Option.map_map]
  congr 1
  funext k
  simp only [Function.comp_apply, List.length_append]
  omega
theorem FlI.hit {L : List (List Tok)} {i j : Nat} {all ln : List Tok} (h : FlI L i j all) (hj : L[j]? = some ln) (ha : aloneL ln = true) : flowLines (L.drop i) = some (all ++ ln).length ∧ (L.drop i).flatten = (all ++ ln) ++ (L.drop (j + 1)).flatten := by
  obtain ⟨h1, h2, h3⟩ := h
  refine ⟨by rw [h3, flowLines_hit hj ha]; simp; omega, ?_⟩
  rw [flat_split (j := j + 1) (by omega), take_line h1 hj, h2]
theorem FlI.miss {L : List (List Tok)} {i : Nat} {all : List Tok} (h : FlI L i L.length all) : flowLines (L.drop i) = none ∧ (L.drop i).flatten = all := by
  obtain ⟨h1, h2, h3⟩ := h
  refine ⟨by rw [h3, List.drop_length]; rfl, ?_⟩
  rw [h2, List.take_of_length_le (by rw [List.length_drop]; omega)]

theorem c10 {w0 : World} {t : List UInt8} : CtR Pg w0 10 #[st t] [] (fun u H => ∃ v1 c1, Own 43 6 c1 v1 (script t).1.length (callsC (script t).1) ∧ u = .tuple #[v1, fau (script t).2] ∧ H = [c1]) := by
  refine Ct.of_body Go.Proofs.Tryd.func10 rfl 101 rfl rfl (fun R => ?_)
  refine VC.seq ?_
  refine VC.region ?_
  refine V.assign rfl rfl rfl ?_
  refine V.alloc (l := [.int .i64 0, .int .i64 0, .int .i64 0]) rfl rfl rfl (fun b1 => ?_)
  refine V.nil ?_
  refine Post.nextC ?_
  refine VC.seq ?_
  refine VC.region ?_
  refine V.move rfl rfl rfl ?_
  apply V.call rfl rfl rfl (hc := c21 (t := t))
  · repeat' constructor
  rintro v Ho ⟨v1, c1, ho1, rfl, rfl⟩
  obtain ⟨ad1, cp1, rfl, _⟩ := id (ho1.rd (w0 := w0))
  refine V.move rfl rfl rfl ?_
  refine V.extract rfl rfl rfl rfl ?_
  refine V.extract rfl rfl rfl rfl ?_
  refine V.alloc (l := [.int .i64 0, .int .i64 0, .int .i64 0]) rfl rfl rfl (fun b2 => ?_)
  refine V.assign rfl rfl rfl ?_
  apply V.storeAll rfl rfl rfl rfl
  · repeat' constructor
  · exact rfl
  · exact rfl
  refine V.nil ?_
  refine Post.nextC ?_
  refine VC.seq ?_
  refine VC.seq ?_
  refine VC.region ?_
  refine V.fieldAddr 0 23 rfl rfl rfl rfl rfl ?_
  apply V.loadL rfl rfl rfl rfl
  · repeat' constructor
  · repeat' constructor
  refine V.bin rfl rfl rfl rfl (bin_neq _ _ _) ?_
  refine V.nil ?_
  refine Post.nextC ?_
  refine VC.cond rfl (fun h1 => ?_) (fun h1 => ?_)
  · try simp only [decide_eq_true_eq, decide_eq_false_iff_not, Bool.not_eq_true', Bool.not_eq_false', Bool.not_eq_eq_eq_not, Bool.not_true, Bool.not_false, beq_iff_eq, beq_eq_false_iff_ne, ne_eq, Int.not_lt, Int.not_le, Option.isSome_some, Option.isNone_none, Option.isSome_none, Option.isNone_some, Classical.not_not] at h1
    refine VC.seq ?_
    refine VC.drawTail 2 mixed (by kernel_rfl) ?_
    apply V.loadAll rfl rfl rfl rfl
    · repeat' constructor
    · exact rfl
    refine V.assign rfl rfl rfl ?_
    refine V.nil ?_
    refine Post.tail ?_
    apply V.storeAll rfl rfl rfl rfl
    · repeat' constructor
    · exact rfl
    · exact rfl
    refine V.nil ?_
    refine Post.nextC ?_
    refine VC.ret ?_
    refine Post.thenRet (?_)
    apply Post.retV2 rfl (.tmp rfl) (.all rfl rfl (by repeat' constructor) (by exact rfl))
    · exact ⟨.slice none 0 0, [], by rw [script_bad (by assumption)]; exact Own.nil _ _, by rw [script_bad (by assumption)], rfl⟩
    · repeat' constructor
  · try simp only [decide_eq_true_eq, decide_eq_false_iff_not, Bool.not_eq_true', Bool.not_eq_false', Bool.not_eq_eq_eq_not, Bool.not_true, Bool.not_false, beq_iff_eq, beq_eq_false_iff_ne, ne_eq, Int.not_lt, Int.not_le, Option.isSome_some, Option.isNone_none, Option.isSome_none, Option.isNone_some, Classical.not_not] at h1
    refine VC.skip ?_
    refine Post.nextC ?_
    refine VC.seq ?_
    refine VC.region ?_
    refine V.assign rfl rfl rfl ?_
    refine V.nil ?_
    refine Post.nextC ?_
    refine VC.seq ?_
    refine VC.region ?_
    refine V.move rfl rfl rfl ?_
    apply V.call rfl rfl rfl (hc := c22 ho1.rd (by have := (scan_good (t := t) (by assumption)).2; omega))
    · repeat' constructor
    rintro v2 Ho ⟨co, D, vs, hVo, hD, rfl⟩
    have hgood := (scan_good (t := t) (by assumption)).1
    obtain ⟨hL1, hL2⟩ := hgood.lines'
    have hJ0 : ScrJ t ((linesGo (scan t).1 []).drop 0).flatten [] (.slice none 0 0) [] := by rw [List.drop_zero, hL1]; exact ScrJ.start (by assumption)
    have hLl : (linesGo (scan t).1 []).flatten.length ≤ 65537 := by rw [hL1]; exact (scan_good (by assumption)).2
    generalize linesGo (scan t).1 [] = L at hVo hD hL2 hJ0 hLl
    obtain ⟨ado, cpo, rfl, hcl1, hcl2, _, hado⟩ := id (hVo.rd (w0 := w0))
    simp only [maxLen] at hcl2
    refine V.assign rfl rfl rfl ?_
    refine V.nil ?_
    refine Post.nextC ?_
    refine VC.seq ?_
    refine VC.seq ?_
    refine VC.region ?_
    refine V.assign rfl rfl rfl ?_
    refine V.nil ?_
    refine Post.nextC ?_
    refine VC.block ?_
    refine VC.loop (σ := (Nat) × (List Call) × (Value) × (Chunk)) (fun zz => [(3, pt b1), (6, zz.2.2.1), (7, .slice ado L.length cpo), (8, .int .i64 (zz.1 : Int))]) (fun zz => co :: D :: c1 :: zz.2.2.2 :: [(b1, .cells #[.int .i64 0, .int .i64 0, .int .i64 0] 25 (0, 0))] :: R) (fun zz => (zz.1 ≤ L.length) ∧ (ScrJ t (L.drop zz.1).flatten zz.2.1 zz.2.2.1 zz.2.2.2)) (fun zz => L.length - zz.1) (0, [], .slice none 0 0, []) (⟨Nat.zero_le _, hJ0⟩) ?_ ?_ ?_
    · exact ⟨rfl, rfl, rfl, rfl, trivial⟩
    · repeat' constructor
    rintro ⟨i, acc, cv, cc⟩ ⟨(hi : i ≤ L.length), (hJ : ScrJ t (L.drop i).flatten acc cv cc)⟩
    refine VC.sub (E' := [(3, pt b1), (6, cv), (7, .slice ado L.length cpo), (8, .int .i64 (i : Int))]) (H' := co :: D :: c1 :: cc :: [(b1, .cells #[.int .i64 0, .int .i64 0, .int .i64 0] 25 (0, 0))] :: R) ⟨rfl, rfl, rfl, rfl, trivial⟩ (by repeat' constructor) ?_
    have hlenJ := hJ.len
    refine VC.seq ?_
    refine VC.seq ?_
    refine VC.region ?_
    refine V.move rfl rfl rfl ?_
    refine V.move rfl rfl rfl ?_
    refine V.len rfl rfl rfl ?_
    refine V.bin rfl rfl rfl rfl (bin_lss _ _ _) ?_
    refine V.nil ?_
    refine Post.nextC ?_
    refine VC.cond rfl (fun h2 => ?_) (fun h2 => ?_)
    · try simp only [decide_eq_true_eq, decide_eq_false_iff_not, Bool.not_eq_true', Bool.not_eq_false', Bool.not_eq_eq_eq_not, Bool.not_true, Bool.not_false, beq_iff_eq, beq_eq_false_iff_ne, ne_eq, Int.not_lt, Int.not_le, Option.isSome_some, Option.isNone_none, Option.isSome_none, Option.isNone_some, Classical.not_not] at h2
      refine VC.skip ?_
      refine Post.nextC ?_
      refine VC.seq ?_
      refine VC.block ?_
      refine VC.seq ?_
      refine VC.seq ?_
      refine VC.region ?_
      obtain ⟨lnA, hlnA⟩ := getc (t := L) (i := i) (by omega)
      obtain ⟨lvA, hvA, hlrA⟩ := hD.2.2 i lnA hlnA
      have hilA : IsLine lnA := hL2 lnA (List.mem_of_getElem? hlnA)
      obtain ⟨x, r, rfl⟩ := hilA.ends.cons
      obtain ⟨_, bo, oo, cpo1, e, hcelA⟩ := Rd.at1' (hVo.rd (w0 := w0)) (i := i) hvA
      simp only [Value.slice.injEq, Option.some.injEq, Addr.mk.injEq] at e
      obtain ⟨⟨rfl, rfl, _⟩, _, rfl⟩ := e
      obtain ⟨_, blA, olA, clA, rfl, hxA⟩ := hlrA.item (f := Tok.cells) (i := 0) (x := x) tok5 (by omega) rfl
      refine V.move rfl rfl rfl ?_
      refine V.move rfl rfl rfl ?_
      refine V.indexO rfl rfl rfl rfl (by omega) ?_
      apply V.loadC (c := co) rfl rfl rfl rfl
      · repeat' constructor
      · exact hcelA
      refine V.indexO (i := 0) rfl rfl rfl rfl (by omega) ?_
      apply V.loadNC (c := D) (vs := x.cells) rfl rfl rfl rfl
      · repeat' constructor
      · rfl
      · exact fun j u hu => by rw [add_addr]; exact hxA j u hu
      apply V.call rfl rfl rfl (hc := c23 (x := x))
      · repeat' constructor
      rintro vq Ho ⟨rfl, rfl⟩
      refine V.not rfl rfl rfl ?_
      refine V.nil ?_
      refine Post.nextC ?_
      refine VC.cond rfl (fun h3 => ?_) (fun h3 => ?_)
      · try simp only [decide_eq_true_eq, decide_eq_false_iff_not, Bool.not_eq_true', Bool.not_eq_false', Bool.not_eq_eq_eq_not, Bool.not_true, Bool.not_false, beq_iff_eq, beq_eq_false_iff_ne, ne_eq, Int.not_lt, Int.not_le, Option.isSome_some, Option.isNone_none, Option.isSome_none, Option.isNone_some, Classical.not_not] at h3
        refine VC.seq ?_
        refine VC.region ?_
        refine V.move rfl rfl rfl ?_
        refine V.move rfl rfl rfl ?_
        refine V.indexO rfl rfl rfl rfl (by omega) ?_
        apply V.loadC (c := co) rfl rfl rfl rfl
        · repeat' constructor
        · exact hcelA
        apply V.call rfl rfl rfl (hc := c24 hlrA hilA.ends)
        · repeat' constructor
        rintro vq Ho ⟨rfl, rfl⟩
        rcases hok : (callOf (x :: r)).2.2.1 with _ | _
        ·
          have hrf : refOf (x :: r) = (Call.zero, 3, (callOf (x :: r)).2.1.line, (callOf (x :: r)).2.1.col) := by simp [refOf, hok]
          rw [hrf]
          refine V.move rfl rfl rfl ?_
          refine V.extract rfl rfl rfl rfl ?_
          refine V.extract rfl rfl rfl rfl ?_
          refine V.alloc (l := [.int .i64 0, .string ByteArray.empty, .string ByteArray.empty, .string ByteArray.empty, .int .i64 0, .string ByteArray.empty]) rfl rfl rfl (fun b3 => ?_)
          refine V.alloc (l := [.int .i64 0, .int .i64 0, .int .i64 0]) rfl rfl rfl (fun b4 => ?_)
          apply V.storeAll rfl rfl rfl rfl
          · repeat' constructor
          · exact rfl
          · exact rfl
          apply V.storeAll rfl rfl rfl rfl
          · repeat' constructor
          · exact rfl
          · exact rfl
          refine V.nil ?_
          refine Post.nextC ?_
          refine VC.seq ?_
          refine VC.seq ?_
          refine VC.region ?_
          refine V.fieldAddr 0 23 rfl rfl rfl rfl rfl ?_
          apply V.loadL rfl rfl rfl rfl
          · repeat' constructor
          · repeat' constructor
          refine V.bin rfl rfl rfl rfl (bin_neq _ _ _) ?_
          refine V.know (t := 49) (y := .bool true) rfl (rfl) ?_
          refine V.nil ?_
          refine Post.nextC ?_
          refine VC.condT rfl ?_
          refine VC.seq ?_
          refine VC.drawTail 2 mixed (by kernel_rfl) ?_
          apply V.loadAll rfl rfl rfl rfl
          · repeat' constructor
          · exact rfl
          refine V.assign rfl rfl rfl ?_
          refine V.nil ?_
          refine Post.tail ?_
          apply V.storeAll rfl rfl rfl rfl
          · repeat' constructor
          · exact rfl
          · exact rfl
          refine V.nil ?_
          refine Post.nextC ?_
          refine VC.ret ?_
          refine Post.thenRet (Post.thenRet (Post.blockRet (Post.thenRet (Post.thenRet (Post.blockRet (Post.thenRet (?_)))))))
          apply Post.retV2 rfl (.tmp rfl) (.all rfl rfl (by repeat' constructor) (by exact rfl))
          · have hfl0 : (L.drop i).flatten = (x :: r) ++ (L.drop (i + 1)).flatten := by rw [drop_cons hlnA]; rfl
            have hlo := lineOf_call (rest := (L.drop (i + 1)).flatten) hilA (by assumption)
            rw [← hfl0] at hlo
            have e := hJ.bad (by rw [hfl0]; simp) (by rw [hlo]; exact hok)
            rw [hlo] at e
            exact ⟨.slice none 0 0, [], by rw [e]; exact Own.nil _ _, by rw [e], rfl⟩
          · repeat' constructor
        ·
          have hrf : refOf (x :: r) = ((callOf (x :: r)).1, 0, 0, 0) := by simp [refOf, hok]
          rw [hrf]
          refine V.move rfl rfl rfl ?_
          refine V.extract rfl rfl rfl rfl ?_
          refine V.extract rfl rfl rfl rfl ?_
          refine V.alloc (l := [.int .i64 0, .string ByteArray.empty, .string ByteArray.empty, .string ByteArray.empty, .int .i64 0, .string ByteArray.empty]) rfl rfl rfl (fun b5 => ?_)
          refine V.alloc (l := [.int .i64 0, .int .i64 0, .int .i64 0]) rfl rfl rfl (fun b6 => ?_)
          apply V.storeAll rfl rfl rfl rfl
          · repeat' constructor
          · exact rfl
          · exact rfl
          apply V.storeAll rfl rfl rfl rfl
          · repeat' constructor
          · exact rfl
          · exact rfl
          refine V.nil ?_
          refine Post.nextC ?_
          refine VC.seq ?_
          refine VC.seq ?_
          refine VC.region ?_
          refine V.fieldAddr 0 23 rfl rfl rfl rfl rfl ?_
          apply V.loadL rfl rfl rfl rfl
          · repeat' constructor
          · repeat' constructor
          refine V.bin rfl rfl rfl rfl (bin_neq _ _ _) ?_
          refine V.know (t := 49) (y := .bool false) rfl (rfl) ?_
          refine V.nil ?_
          refine Post.nextC ?_
          refine VC.condF rfl ?_
          refine VC.skip ?_
          refine Post.nextC ?_
          refine VC.seq ?_
          refine VC.region ?_
          refine V.move rfl rfl rfl ?_
          apply V.loadAll rfl rfl rfl rfl
          · repeat' constructor
          · exact rfl
          refine V.buildSlice1 (l := (callOf (x :: r)).1.cells) rfl rfl rfl rfl rfl rfl rfl (fun b9 => ?_)
          apply V.append1 rfl rfl rfl rfl rfl rfl (news := (callOf (x :: r)).1.cells) (ho := hJ.own) (hb := by omega) (h63 := by simp only [maxLen]; omega)
          case hp => repeat' constructor
          case hl => rfl
          case h1 => rfl
          intro cv5 cc5 ho5
          refine V.assign rfl rfl rfl ?_
          refine V.nil ?_
          refine Post.nextC ?_
          refine VC.exit ?_
          refine Post.thenExit (Post.blockHit (Post.nextC ?_))
          refine VC.region ?_
          refine V.move rfl rfl rfl ?_
          refine V.bin rfl rfl rfl rfl (bin_addI (by omega)) ?_
          refine V.assign rfl rfl rfl ?_
          refine V.nil ?_
          refine Post.round (i + 1, acc ++ [(callOf (x :: r)).1], cv5, cc5) ?_ ?_ ?_ ?_
          · show ((i + 1) ≤ L.length) ∧ (ScrJ t (L.drop (i + 1)).flatten (acc ++ [(callOf (x :: r)).1]) (cv5) (cc5))
            have hlo := lineOf_call (rest := (L.drop (i + 1)).flatten) hilA (by assumption)
            rw [callOf_done hilA hok, hok, List.nil_append] at hlo
            have hfl0 : (L.drop i).flatten = (x :: r) ++ (L.drop (i + 1)).flatten := by rw [drop_cons hlnA]; rfl
            rw [← hfl0] at hlo
            have := hJ.next (by rw [hlo]) (by rw [hlo]; exact ho5)
            rw [hlo] at this
            exact ⟨by omega, this⟩
          · show L.length - (i + 1) < L.length - i
            omega
          · exact ⟨rfl, rfl, rfl, rfl, trivial⟩
          · repeat' constructor
      · try simp only [decide_eq_true_eq, decide_eq_false_iff_not, Bool.not_eq_true', Bool.not_eq_false', Bool.not_eq_eq_eq_not, Bool.not_true, Bool.not_false, beq_iff_eq, beq_eq_false_iff_ne, ne_eq, Int.not_lt, Int.not_le, Option.isSome_some, Option.isNone_none, Option.isSome_none, Option.isNone_some, Classical.not_not] at h3
        refine VC.skip ?_
        refine Post.nextC ?_
        refine VC.seq ?_
        refine VC.region ?_
        refine V.assign rfl rfl rfl ?_
        refine V.nil ?_
        refine Post.nextC ?_
        refine VC.seq ?_
        refine VC.block ?_
        refine VC.loop (σ := (Nat) × (List Tok) × (Value) × (Chunk)) (fun zz => [(3, pt b1), (6, cv), (7, .slice (some ⟨bo, oo, none⟩) L.length cpo), (8, .int .i64 (zz.1 : Int)), (11, zz.2.2.1)]) (fun zz => co :: D :: c1 :: cc :: zz.2.2.2 :: [(b1, .cells #[.int .i64 0, .int .i64 0, .int .i64 0] 25 (0, 0))] :: R) (fun zz => (zz.1 < L.length) ∧ (Own 41 5 zz.2.2.2 zz.2.2.1 zz.2.1.length (toks zz.2.1)) ∧ (FlI L i zz.1 zz.2.1)) (fun zz => L.length - zz.1) (i, [], .slice none 0 0, []) (⟨by omega, Own.nil _ _, FlI.start L i⟩) ?_ ?_ ?_
        · exact ⟨rfl, rfl, rfl, rfl, rfl, trivial⟩
        · repeat' constructor
        rintro ⟨j, all, av, ac⟩ ⟨(hj : j < L.length), (hA : Own 41 5 ac av all.length (toks all)), (hF : FlI L i j all)⟩
        refine VC.sub (E' := [(3, pt b1), (6, cv), (7, .slice (some ⟨bo, oo, none⟩) L.length cpo), (8, .int .i64 (j : Int)), (11, av)]) (H' := co :: D :: c1 :: cc :: ac :: [(b1, .cells #[.int .i64 0, .int .i64 0, .int .i64 0] 25 (0, 0))] :: R) ⟨rfl, rfl, rfl, rfl, rfl, trivial⟩ (by repeat' constructor) ?_
        obtain ⟨lnB, hlnB⟩ := getc (t := L) (i := j) (by omega)
        obtain ⟨lvB, hvB, hlrB⟩ := hD.2.2 j lnB hlnB
        have hilB : IsLine lnB := hL2 lnB (List.mem_of_getElem? hlnB)
        obtain ⟨y, q, rfl⟩ := hilB.ends.cons
        obtain ⟨_, boB, ooB, cpoB, e, hcelB⟩ := Rd.at1' (hVo.rd (w0 := w0)) (i := j) hvB
        simp only [Value.slice.injEq, Option.some.injEq, Addr.mk.injEq] at e
        obtain ⟨⟨rfl, rfl, _⟩, _, rfl⟩ := e
        obtain ⟨_, blB, olB, clB, rfl, hxB⟩ := hlrB.item (f := Tok.cells) (i := 0) (x := y) tok5 (by omega) rfl
        have htl := take_line hF.ij hlnB
        have hfle : (all ++ (y :: q)).length ≤ 65537 := by
          have := flat_le (L := L) (i := i) (k := j + 1 - i) (n := 65537) (by omega)
          rw [htl, ← hF.al] at this
          exact this
        have hlap : (all ++ (y :: q)).length = all.length + (y :: q).length := List.length_append
        have hyq : (y :: q).length = q.length + 1 := rfl
        have hij := hF.ij
        refine VC.block ?_
        refine VC.seq ?_
        refine VC.region ?_
        refine V.move rfl rfl rfl ?_
        refine V.move rfl rfl rfl ?_
        refine V.move rfl rfl rfl ?_
        refine V.indexO rfl rfl rfl rfl (by omega) ?_
        apply V.loadC (c := co) rfl rfl rfl rfl
        · repeat' constructor
        · exact hcelB
        apply V.appendR rfl rfl rfl rfl rfl rfl (c1 := D) (ho := hA) (hr := hlrB) (h1 := toks_one _) (hb := by omega) (h63 := by simp only [maxLen]; omega)
        case hp => repeat' constructor
        case hp1 => right; repeat' constructor
        intro av2 ac2 hA2
        rw [← toks_append, ← hlap] at hA2
        obtain ⟨adA, cpA, rfl, _⟩ := id (hA2.rd (w0 := w0))
        refine V.assign rfl rfl rfl ?_
        refine V.nil ?_
        refine Post.nextC ?_
        refine VC.seq ?_
        refine VC.seq ?_
        refine VC.region ?_
        refine V.move rfl rfl rfl ?_
        refine V.move rfl rfl rfl ?_
        refine V.indexO rfl rfl rfl rfl (by omega) ?_
        apply V.loadC (c := co) rfl rfl rfl rfl
        · repeat' constructor
        · exact hcelB
        refine V.indexO (i := 0) rfl rfl rfl rfl (by omega) ?_
        apply V.loadNC (c := D) (vs := y.cells) rfl rfl rfl rfl
        · repeat' constructor
        · rfl
        · exact fun j u hu => by rw [add_addr]; exact hxB j u hu
        apply V.call rfl rfl rfl (hc := c23 (x := y))
        · repeat' constructor
        rintro vq Ho ⟨rfl, rfl⟩
        refine V.move rfl rfl rfl ?_
        refine V.split (t := 68) rfl (fun h4 => ?_) (fun h4 => ?_)
        · try simp only [decide_eq_true_eq, decide_eq_false_iff_not, Bool.not_eq_true', Bool.not_eq_false', Bool.not_eq_eq_eq_not, Bool.not_true, Bool.not_false, beq_iff_eq, beq_eq_false_iff_ne, ne_eq, Int.not_lt, Int.not_le, Option.isSome_some, Option.isNone_none, Option.isSome_none, Option.isNone_some, Classical.not_not] at h4
          refine V.move rfl rfl rfl ?_
          refine V.move rfl rfl rfl ?_
          refine V.indexO rfl rfl rfl rfl (by omega) ?_
          apply V.loadC (c := co) rfl rfl rfl rfl
          · repeat' constructor
          · exact hcelB
          refine V.len rfl rfl rfl ?_
          refine V.bin rfl rfl rfl rfl (bin_eql _ _ _) ?_
          refine V.pickT rfl rfl rfl rfl ?_
          refine V.nil ?_
          refine Post.nextC ?_
          refine VC.cond rfl (fun h5 => ?_) (fun h5 => ?_)
          · try simp only [decide_eq_true_eq, decide_eq_false_iff_not, Bool.not_eq_true', Bool.not_eq_false', Bool.not_eq_eq_eq_not, Bool.not_true, Bool.not_false, beq_iff_eq, beq_eq_false_iff_ne, ne_eq, Int.not_lt, Int.not_le, Option.isSome_some, Option.isNone_none, Option.isSome_none, Option.isNone_some, Classical.not_not] at h5
            refine VC.exit ?_
            refine Post.thenExit (Post.blockMiss rfl (Post.thenExit (Post.blockHit (Post.nextC ?_))))
            refine VC.seq ?_
            refine VC.region ?_
            have hal : aloneL (y :: q) = true := alone_yes (by assumption) (by assumption)
            obtain ⟨hfl1, hfl2⟩ := hF.hit hlnB hal
            have hnn := flowEnd_flowLines (ln := x :: r) (rest := L.drop (i + 1)) hilA (fun l hl => hL2 l (List.mem_of_mem_drop hl)) (aloneL_flow (by assumption))
            rw [← drop_cons hlnA, hfl1] at hnn
            obtain ⟨tx, htx'⟩ := hJ.good.take hnn
            have htx : showGo false (all ++ (y :: q)) = some tx := by rw [hfl2, List.take_left] at htx'; exact htx'
            refine V.move rfl rfl rfl ?_
            apply V.call rfl rfl rfl (hc := c26 hA2.rd (fun z hz => (hJ.good.fine z (by rw [hfl2]; exact List.mem_append_left _ hz)).2) (by omega))
            · repeat' constructor
            rw [htx]
            rintro vq Ho ⟨rfl, rfl⟩
            refine V.move rfl rfl rfl ?_
            refine V.extract rfl rfl rfl rfl ?_
            refine V.extract rfl rfl rfl rfl ?_
            refine V.assign rfl rfl rfl ?_
            refine V.assign rfl rfl rfl ?_
            refine V.nil ?_
            refine Post.nextC ?_
            refine VC.region ?_
            refine V.move rfl rfl rfl ?_
            refine V.move rfl rfl rfl ?_
            refine V.buildS [(0, _), (5, _)] (l := [_, .string ByteArray.empty, .string ByteArray.empty, .string ByteArray.empty, .int .i64 0, _]) rfl rfl rfl rfl rfl ?_
            refine V.buildSlice1 (l := ({ Call.zero with op := 18, text := tx } : Call).cells) rfl rfl rfl rfl rfl rfl rfl (fun b9 => ?_)
            apply V.append1 rfl rfl rfl rfl rfl rfl (news := ({ Call.zero with op := 18, text := tx } : Call).cells) (ho := hJ.own) (hb := by omega) (h63 := by simp only [maxLen]; omega)
            case hp => repeat' constructor
            case hl => rfl
            case h1 => rfl
            intro cv5 cc5 ho5
            refine V.assign rfl rfl rfl ?_
            refine V.nil ?_
            refine Post.blockNormal (Post.nextC ?_)
            refine VC.region ?_
            refine V.move rfl rfl rfl ?_
            refine V.bin rfl rfl rfl rfl (bin_addI (by omega)) ?_
            refine V.assign rfl rfl rfl ?_
            refine V.nil ?_
            refine Post.round (j + 1, acc ++ [({ Call.zero with op := 18, text := tx } : Call)], cv5, cc5) ?_ ?_ ?_ ?_
            · show ((j + 1) ≤ L.length) ∧ (ScrJ t (L.drop (j + 1)).flatten (acc ++ [({ Call.zero with op := 18, text := tx } : Call)]) (cv5) (cc5))
              have hlo : lineOf (L.drop i).flatten = (({ Call.zero with op := 18, text := tx } : Call), Tok.zero, true, (L.drop (j + 1)).flatten) := by
                rw [drop_cons hlnA] at hfl1 hfl2 htx' ⊢
                rw [lineOf_flow (fun ln hl => hL2 ln (by rw [← drop_cons hlnA] at hl; exact List.mem_of_mem_drop hl)) (by assumption) hfl1 htx']
                rw [hfl2, List.drop_left]
              have := hJ.next (by rw [hlo]) (by rw [hlo]; exact ho5)
              rw [hlo] at this
              exact ⟨by omega, this⟩
            · show L.length - (j + 1) < L.length - i
              omega
            · exact ⟨rfl, rfl, rfl, rfl, trivial⟩
            · repeat' constructor
          · try simp only [decide_eq_true_eq, decide_eq_false_iff_not, Bool.not_eq_true', Bool.not_eq_false', Bool.not_eq_eq_eq_not, Bool.not_true, Bool.not_false, beq_iff_eq, beq_eq_false_iff_ne, ne_eq, Int.not_lt, Int.not_le, Option.isSome_some, Option.isNone_none, Option.isSome_none, Option.isNone_some, Classical.not_not] at h5
            refine VC.skip ?_
            refine Post.nextC ?_
            refine VC.seq ?_
            refine VC.region ?_
            refine V.move rfl rfl rfl ?_
            refine V.bin rfl rfl rfl rfl (bin_addI (by omega)) ?_
            refine V.assign rfl rfl rfl ?_
            refine V.nil ?_
            refine Post.nextC ?_
            refine VC.seq ?_
            refine VC.region ?_
            refine V.move rfl rfl rfl ?_
            refine V.move rfl rfl rfl ?_
            refine V.len rfl rfl rfl ?_
            refine V.bin rfl rfl rfl rfl (bin_eql _ _ _) ?_
            refine V.nil ?_
            refine Post.nextC ?_
            refine VC.cond rfl (fun h6 => ?_) (fun h6 => ?_)
            · try simp only [decide_eq_true_eq, decide_eq_false_iff_not, Bool.not_eq_true', Bool.not_eq_false', Bool.not_eq_eq_eq_not, Bool.not_true, Bool.not_false, beq_iff_eq, beq_eq_false_iff_ne, ne_eq, Int.not_lt, Int.not_le, Option.isSome_some, Option.isNone_none, Option.isSome_none, Option.isNone_some, Classical.not_not] at h6
              refine VC.seq ?_
              refine VC.region ?_
              obtain ⟨z, hz⟩ : ∃ z, (all ++ (y :: q))[(all ++ (y :: q)).length - 1]? = some z := ⟨(all ++ (y :: q))[(all ++ (y :: q)).length - 1]'(by omega), List.getElem?_eq_getElem _⟩
              obtain ⟨_, bz, oz, cz, e, hzc⟩ := (hA2.rd (w0 := w0)).item (f := Tok.cells) (i := (all ++ (y :: q)).length - 1) tok5 (by omega) hz
              simp only [Value.slice.injEq] at e
              obtain ⟨rfl, _, rfl⟩ := e
              refine V.move rfl rfl rfl ?_
              refine V.move rfl rfl rfl ?_
              refine V.len rfl rfl rfl ?_
              refine V.bin rfl rfl rfl rfl (bin_subI (by omega)) ?_
              refine V.know (t := 85) (y := .int .i64 (((all ++ (y :: q)).length - 1 : Nat) : Int)) rfl (by first | rfl | (congr 1; omega)) ?_
              refine V.indexO rfl rfl rfl rfl (by omega) ?_
              apply V.loadNC (c := ac2) (vs := z.cells) rfl rfl rfl rfl
              · repeat' constructor
              · rfl
              · exact fun j u hu => by rw [add_addr]; exact hzc j u hu
              apply V.call rfl rfl rfl (hc := c25)
              · repeat' constructor
              rintro vq Ho ⟨rfl, rfl⟩
              refine V.assign rfl rfl rfl ?_
              apply V.storeAll rfl rfl rfl rfl
              · repeat' constructor
              · exact rfl
              · exact rfl
              refine V.nil ?_
              refine Post.nextC ?_
              refine VC.ret ?_
              refine Post.blockRet (Post.thenRet (Post.blockRet (Post.thenRet (Post.blockRet (Post.thenRet (Post.thenRet (Post.blockRet (Post.thenRet (?_)))))))))
              apply Post.retV2 rfl (.tmp rfl) (.all rfl rfl (by repeat' constructor) (by exact rfl))
              · have hF2 := hF.next hlnB (alone_no (by first | (left; assumption) | (right; assumption)))
                have hjl : j + 1 = L.length := by omega
                rw [hjl] at hF2
                obtain ⟨m1, m2⟩ := hF2.miss
                rw [drop_cons hlnA] at m1
                obtain ⟨n1, n2⟩ := lineOf_noflow (z := z) (fun ln hl => hL2 ln (by rw [← drop_cons hlnA] at hl; exact List.mem_of_mem_drop hl)) (by assumption) m1 (by rw [← drop_cons hlnA, m2, List.getLast?_eq_getElem?]; exact hz)
                rw [← drop_cons hlnA] at n1 n2
                have e := hJ.bad (by rw [m2]; simp) n1
                rw [n2] at e
                exact ⟨.slice none 0 0, [], by rw [e]; exact Own.nil _ _, by rw [e], rfl⟩
              · repeat' constructor
            · try simp only [decide_eq_true_eq, decide_eq_false_iff_not, Bool.not_eq_true', Bool.not_eq_false', Bool.not_eq_eq_eq_not, Bool.not_true, Bool.not_false, beq_iff_eq, beq_eq_false_iff_ne, ne_eq, Int.not_lt, Int.not_le, Option.isSome_some, Option.isNone_none, Option.isSome_none, Option.isNone_some, Classical.not_not] at h6
              refine VC.skip ?_
              refine Post.blockNormal (Post.round (j + 1, all ++ (y :: q), .slice adA (all ++ (y :: q)).length cpA, ac2) ?_ ?_ ?_ ?_)
              · show ((j + 1) < L.length) ∧ (Own 41 5 (ac2) (.slice adA (all ++ (y :: q)).length cpA) (all ++ (y :: q)).length (toks (all ++ (y :: q)))) ∧ (FlI L i (j + 1) (all ++ (y :: q)))
                exact ⟨by omega, hA2, hF.next hlnB (alone_no (by first | (left; assumption) | (right; assumption)))⟩
              · show L.length - (j + 1) < L.length - j
                omega
              · exact ⟨rfl, rfl, rfl, rfl, rfl, trivial⟩
              · repeat' constructor
        · try simp only [decide_eq_true_eq, decide_eq_false_iff_not, Bool.not_eq_true', Bool.not_eq_false', Bool.not_eq_eq_eq_not, Bool.not_true, Bool.not_false, beq_iff_eq, beq_eq_false_iff_ne, ne_eq, Int.not_lt, Int.not_le, Option.isSome_some, Option.isNone_none, Option.isSome_none, Option.isNone_some, Classical.not_not] at h4
          refine V.skip rfl rfl ?_
          refine V.skip rfl rfl ?_
          refine V.skip rfl rfl ?_
          refine V.skip rfl rfl ?_
          refine V.skip rfl rfl ?_
          refine V.skip rfl rfl ?_
          refine V.pickF rfl rfl rfl rfl ?_
          refine V.nil ?_
          refine Post.nextC ?_
          refine VC.condF rfl ?_
          refine VC.skip ?_
          refine Post.nextC ?_
          refine VC.seq ?_
          refine VC.region ?_
          refine V.move rfl rfl rfl ?_
          refine V.bin rfl rfl rfl rfl (bin_addI (by omega)) ?_
          refine V.assign rfl rfl rfl ?_
          refine V.nil ?_
          refine Post.nextC ?_
          refine VC.seq ?_
          refine VC.region ?_
          refine V.move rfl rfl rfl ?_
          refine V.move rfl rfl rfl ?_
          refine V.len rfl rfl rfl ?_
          refine V.bin rfl rfl rfl rfl (bin_eql _ _ _) ?_
          refine V.nil ?_
          refine Post.nextC ?_
          refine VC.cond rfl (fun h7 => ?_) (fun h7 => ?_)
          · try simp only [decide_eq_true_eq, decide_eq_false_iff_not, Bool.not_eq_true', Bool.not_eq_false', Bool.not_eq_eq_eq_not, Bool.not_true, Bool.not_false, beq_iff_eq, beq_eq_false_iff_ne, ne_eq, Int.not_lt, Int.not_le, Option.isSome_some, Option.isNone_none, Option.isSome_none, Option.isNone_some, Classical.not_not] at h7
            refine VC.seq ?_
            refine VC.region ?_
            obtain ⟨z, hz⟩ : ∃ z, (all ++ (y :: q))[(all ++ (y :: q)).length - 1]? = some z := ⟨(all ++ (y :: q))[(all ++ (y :: q)).length - 1]'(by omega), List.getElem?_eq_getElem _⟩
            obtain ⟨_, bz, oz, cz, e, hzc⟩ := (hA2.rd (w0 := w0)).item (f := Tok.cells) (i := (all ++ (y :: q)).length - 1) tok5 (by omega) hz
            simp only [Value.slice.injEq] at e
            obtain ⟨rfl, _, rfl⟩ := e
            refine V.move rfl rfl rfl ?_
            refine V.move rfl rfl rfl ?_
            refine V.len rfl rfl rfl ?_
            refine V.bin rfl rfl rfl rfl (bin_subI (by omega)) ?_
            refine V.know (t := 85) (y := .int .i64 (((all ++ (y :: q)).length - 1 : Nat) : Int)) rfl (by first | rfl | (congr 1; omega)) ?_
            refine V.indexO rfl rfl rfl rfl (by omega) ?_
            apply V.loadNC (c := ac2) (vs := z.cells) rfl rfl rfl rfl
            · repeat' constructor
            · rfl
            · exact fun j u hu => by rw [add_addr]; exact hzc j u hu
            apply V.call rfl rfl rfl (hc := c25)
            · repeat' constructor
            rintro vq Ho ⟨rfl, rfl⟩
            refine V.assign rfl rfl rfl ?_
            apply V.storeAll rfl rfl rfl rfl
            · repeat' constructor
            · exact rfl
            · exact rfl
            refine V.nil ?_
            refine Post.nextC ?_
            refine VC.ret ?_
            refine Post.blockRet (Post.thenRet (Post.blockRet (Post.thenRet (Post.blockRet (Post.thenRet (Post.thenRet (Post.blockRet (Post.thenRet (?_)))))))))
            apply Post.retV2 rfl (.tmp rfl) (.all rfl rfl (by repeat' constructor) (by exact rfl))
            · have hF2 := hF.next hlnB (alone_no (by first | (left; assumption) | (right; assumption)))
              have hjl : j + 1 = L.length := by omega
              rw [hjl] at hF2
              obtain ⟨m1, m2⟩ := hF2.miss
              rw [drop_cons hlnA] at m1
              obtain ⟨n1, n2⟩ := lineOf_noflow (z := z) (fun ln hl => hL2 ln (by rw [← drop_cons hlnA] at hl; exact List.mem_of_mem_drop hl)) (by assumption) m1 (by rw [← drop_cons hlnA, m2, List.getLast?_eq_getElem?]; exact hz)
              rw [← drop_cons hlnA] at n1 n2
              have e := hJ.bad (by rw [m2]; simp) n1
              rw [n2] at e
              exact ⟨.slice none 0 0, [], by rw [e]; exact Own.nil _ _, by rw [e], rfl⟩
            · repeat' constructor
          · try simp only [decide_eq_true_eq, decide_eq_false_iff_not, Bool.not_eq_true', Bool.not_eq_false', Bool.not_eq_eq_eq_not, Bool.not_true, Bool.not_false, beq_iff_eq, beq_eq_false_iff_ne, ne_eq, Int.not_lt, Int.not_le, Option.isSome_some, Option.isNone_none, Option.isSome_none, Option.isNone_some, Classical.not_not] at h7
            refine VC.skip ?_
            refine Post.blockNormal (Post.round (j + 1, all ++ (y :: q), .slice adA (all ++ (y :: q)).length cpA, ac2) ?_ ?_ ?_ ?_)
            · show ((j + 1) < L.length) ∧ (Own 41 5 (ac2) (.slice adA (all ++ (y :: q)).length cpA) (all ++ (y :: q)).length (toks (all ++ (y :: q)))) ∧ (FlI L i (j + 1) (all ++ (y :: q)))
              exact ⟨by omega, hA2, hF.next hlnB (alone_no (by first | (left; assumption) | (right; assumption)))⟩
            · show L.length - (j + 1) < L.length - j
              omega
            · exact ⟨rfl, rfl, rfl, rfl, rfl, trivial⟩
            · repeat' constructor
    · try simp only [decide_eq_true_eq, decide_eq_false_iff_not, Bool.not_eq_true', Bool.not_eq_false', Bool.not_eq_eq_eq_not, Bool.not_true, Bool.not_false, beq_iff_eq, beq_eq_false_iff_ne, ne_eq, Int.not_lt, Int.not_le, Option.isSome_some, Option.isNone_none, Option.isSome_none, Option.isNone_some, Classical.not_not] at h2
      refine VC.exit ?_
      refine Post.thenExit (Post.thenExit (Post.blockHit (Post.nextC ?_)))
      refine VC.seq ?_
      refine VC.region ?_
      refine V.move rfl rfl rfl ?_
      refine V.buildS [] (l := [.int .i64 0, .int .i64 0, .int .i64 0]) rfl rfl rfl rfl rfl ?_
      refine V.assign rfl rfl rfl ?_
      apply V.storeAll rfl rfl rfl rfl
      · repeat' constructor
      · exact rfl
      · exact rfl
      refine V.nil ?_
      refine Post.nextC ?_
      refine VC.ret ?_
      apply Post.retV2 rfl (.tmp rfl) (.all rfl rfl (by repeat' constructor) (by exact rfl))
      · obtain rfl : i = L.length := by omega
        rw [List.drop_length] at hJ
        have e := hJ.done
        exact ⟨cv, cc, by rw [e]; exact hJ.own, by rw [e], rfl⟩
      · repeat' constructor

end Go.Proofs.Ln
