/- Plain laws: tokens by their lines, and what a line or a flow's lines tell. No condition. -/
import Derived.Test.YtfclhhhnngkdlaaDoorLnRef4
set_option linter.unusedVariables false
set_option linter.unusedSimpArgs false
namespace Go.Proofs.Ln
open Go Go.RowKit Go.Proofs.Eng

/-- a line's tokens: some, and its end -/
def IsLine (ln : List Tok) : Prop := ∃ m z, ln = m ++ [z] ∧ z.kind = 4 ∧ m ≠ [] ∧ ∀ x ∈ m, x.kind ≠ 4
theorem IsLine.ends {ln : List Tok} (h : IsLine ln) : Ends ln := by
  obtain ⟨m, z, e, hz, _⟩ := h
  exact ⟨m, z, e, hz⟩
theorem linesGo_spec : ∀ (l one : List Tok), (∀ x ∈ one, x.kind ≠ 4) → noEmpty (!one.isEmpty) l = true → (l = [] → one = []) → (l = [] ∨ Ends l) → (linesGo l one).flatten = one ++ l ∧ ∀ ln ∈ linesGo l one, IsLine ln
  | [], one, _, _, h0, _ => by
    rw [h0 rfl]
    exact ⟨rfl, fun ln h => by simp [linesGo] at h⟩
  | x :: r, one, h1, hn, _, he => by
    have he' : Ends (x :: r) := by rcases he with h | h; cases h; exact h
    by_cases h4 : x.kind = 4
    · rw [linesGo_line h4]
      have hn' : one.isEmpty = false ∧ noEmpty false r = true := by simpa [noEmpty, h4] using hn
      have her : r = [] ∨ Ends r := by
        obtain ⟨l', y, e, hy⟩ := he'
        cases l' with
        | nil => left; simp at e; exact e.2
        | cons z l' => right; simp at e; exact ⟨l', y, e.2, hy⟩
      obtain ⟨e1, e2⟩ := linesGo_spec r [] (fun x hx => by cases hx) hn'.2 (fun _ => rfl) her
      refine ⟨by rw [List.flatten_cons, e1]; simp, fun ln hl => ?_⟩
      rcases List.mem_cons.1 hl with rfl | hl
      · exact ⟨one, x, rfl, h4, fun e => by rw [e] at hn'; simp at hn', h1⟩
      · exact e2 ln hl
    · rw [linesGo_on h4]
      have hn' : noEmpty true r = true := by simpa [noEmpty, h4] using hn
      have her := he'.tail h4
      obtain ⟨e1, e2⟩ := linesGo_spec r (one ++ [x]) (fun y hy => by
        rcases List.mem_append.1 hy with hy | hy
        · exact h1 y hy
        · obtain rfl : y = x := by simpa using hy
          exact h4) (by rw [show (one ++ [x]).isEmpty = false by simp]; exact hn') (fun h => by subst h; obtain ⟨_, _, h⟩ := her.cons; cases h) (.inr her)
      exact ⟨by rw [e1]; simp, e2⟩
theorem Good.lines' {l : List Tok} (h : Good l) : (linesGo l []).flatten = l ∧ ∀ ln ∈ linesGo l [], IsLine ln := by
  have := linesGo_spec l [] (fun x hx => by cases hx) h.lines (fun _ => rfl) h.ends
  simpa using this
/-- is it a line that is end alone? -/
def aloneL : List Tok → Bool
  | [y, _] => isWord y [101, 110, 100]
  | _ => false
def flowLines : List (List Tok) → Option Nat
  | [] => none
  | ln :: rest => if aloneL ln = true then some ln.length else (flowLines rest).map (· + ln.length)
theorem flowEnd_skip {x : Tok} (h : x.kind ≠ 4) : ∀ l : List Tok, flowEnd (x :: l) = (flowEnd l).map (· + 1)
  | [] => rfl
  | [_] => rfl
  | y :: z :: r => by
    have : isAlone x y z = false := by simp [isAlone, h]
    simp only [flowEnd]
    rw [if_neg (by simp [this])]
theorem flowEnd_lines : ∀ (rest : List (List Tok)) (m : List Tok) (z : Tok), (∀ ln ∈ rest, IsLine ln) → (∀ x ∈ m, x.kind ≠ 4) → z.kind = 4 → flowEnd (m ++ z :: rest.flatten) = (flowLines rest).map (· + (m.length + 1))
  | rest, x :: m, z, hr, hm, hz => by
    rw [List.cons_append, flowEnd_skip (hm x (List.mem_cons_self ..)), flowEnd_lines rest m z hr (fun y hy => hm y (List.mem_cons_of_mem _ hy)) hz, Option.map_map]
    congr 1
  | [], [], z, hr, hm, hz => rfl
  | ln :: rest, [], z, hr, hm, hz => by
    obtain ⟨m', z', e, hz', hne, hm'⟩ := hr ln (List.mem_cons_self ..)
    have hr' : ∀ l ∈ rest, IsLine l := fun l hl => hr l (List.mem_cons_of_mem _ hl)
    obtain ⟨y, m2, rfl⟩ : ∃ y m2, m' = y :: m2 := by
      cases m' with
      | nil => exact absurd rfl hne
      | cons y m2 => exact ⟨y, m2, rfl⟩
    have ih := flowEnd_lines rest (y :: m2) z' hr' hm' hz'
    have hflat : (ln :: rest).flatten = (y :: m2) ++ z' :: rest.flatten := by rw [List.flatten_cons, e]; simp
    rw [hflat, List.nil_append]
    cases m2 with
    | nil =>
      have e2 : ln = [y, z'] := by rw [e]; rfl
      subst e2
      simp only [List.cons_append, List.nil_append, flowEnd, flowLines]
      have hal : aloneL [y, z'] = isWord y [101, 110, 100] := rfl
      have ha : isAlone z y z' = isWord y [101, 110, 100] := by simp [isAlone, hz, hz']
      rw [ha]
      by_cases hw : isWord y [101, 110, 100] = true
      · rw [if_pos hw, if_pos (hal.trans hw)]; rfl
      · rw [if_neg hw, if_neg (fun h => hw (hal.symm.trans h))]
        have ih' : flowEnd (y :: z' :: rest.flatten) = (flowLines rest).map (· + 2) := ih
        rw [ih', Option.map_map, Option.map_map]
        rfl
    | cons y2 m3 =>
      have ha : isAlone z y y2 = false := by
        have := hm' y2 (by simp)
        simp [isAlone, this]
      have hna : aloneL ln = false := by
        rw [e]
        cases m3 <;> rfl
      simp only [List.cons_append, flowEnd, flowLines, hna]
      rw [if_neg (by simp [ha]), if_neg (by simp)]
      have ih' : flowEnd (y :: y2 :: (m3 ++ z' :: rest.flatten)) = (flowLines rest).map (· + ((y :: y2 :: m3).length + 1)) := ih
      rw [ih', Option.map_map, Option.map_map]
      congr 1
      funext k
      rw [e]
      simp
termination_by rest m => (rest.length, m.length)
theorem flowEnd_flowLines {ln : List Tok} {rest : List (List Tok)} (h : IsLine ln) (hr : ∀ l ∈ rest, IsLine l) (ha : aloneL ln = false) : flowEnd (ln :: rest).flatten = flowLines (ln :: rest) := by
  obtain ⟨m, z, e, hz, hne, hm⟩ := h
  have := flowEnd_lines rest m z hr hm hz
  simp only [flowLines]
  rw [if_neg (by simp [ha]), List.flatten_cons, e]
  simpa using this
/-! a line that is followed by others -/
theorem readLike_append : ∀ (like : List UInt8) (c : Call) (l rest : List Tok), Ends l → readLike like c (l ++ rest) = ((readLike like c l).1, (readLike like c l).2.1, (readLike like c l).2.2.1, (readLike like c l).2.2.2 ++ rest)
  | like, c, [], rest, h => by obtain ⟨_, _, h⟩ := h.cons; cases h
  | [], c, x :: r, rest, h => by
    rw [List.cons_append, readLike_end, readLike_end]
    split <;> rfl
  | w :: ws, c, x :: r, rest, h => by
    rw [List.cons_append, readLike_cons, readLike_cons]
    split
    · rename_i hk
      exact readLike_append ws _ r rest (h.tail (by rw [hk]; unfold kindOf; split <;> decide))
    · rfl
theorem callOf_append {l rest : List Tok} (h : Ends l) : callOf (l ++ rest) = ((callOf l).1, (callOf l).2.1, (callOf l).2.2.1, (callOf l).2.2.2 ++ rest) := by
  obtain ⟨x, r, rfl⟩ := h.cons
  simp only [List.cons_append, callOf]
  split
  · rename_i hk
    split
    · rfl
    · exact readLike_append _ _ _ _ (h.tail (by omega))
  · rfl
theorem callOf_done {l : List Tok} (h : IsLine l) (hok : (callOf l).2.2.1 = true) : (callOf l).2.2.2 = [] := by
  obtain ⟨m, z, e, hz, hne, hm⟩ := h
  obtain ⟨m', z', e', hz'⟩ := callOf_rest (l := l) (rest := (callOf l).2.2.2) (c := (callOf l).1) (t := (callOf l).2.1) (by rw [← hok])
  rcases List.eq_nil_or_concat (callOf l).2.2.2 with h0 | ⟨q, y, hq⟩
  · exact h0
  · exfalso
    rw [List.concat_eq_append] at hq
    rw [hq, e] at e'
    have h1 : m = m' ++ [z'] ++ q := by
      rw [← List.append_assoc] at e'
      exact (List.append_inj' e' rfl).1
    exact hm z' (by rw [h1]; simp) hz'
theorem lineOf_call {x : Tok} {r rest : List Tok} (h : IsLine (x :: r)) (hw : isWord x [102, 108, 111, 119] = false) : lineOf ((x :: r) ++ rest) = ((callOf (x :: r)).1, (callOf (x :: r)).2.1, (callOf (x :: r)).2.2.1, (callOf (x :: r)).2.2.2 ++ rest) := by
  rw [← callOf_append h.ends]
  simp only [List.cons_append, lineOf]
  rw [if_neg (by simp [hw])]
theorem aloneL_flow {x : Tok} {r : List Tok} (hw : isWord x [102, 108, 111, 119] = true) : aloneL (x :: r) = false := by
  match r with
  | [] => rfl
  | [z] =>
    simp only [aloneL]
    simp [isWord] at hw ⊢
    intro _
    rw [hw.2]
    decide
  | _ :: _ :: _ => rfl
/-- a round of the reference's Script -/
structure ScrJ (t : List UInt8) (l : List Tok) (acc : List Call) (cv : Value) (cc : Chunk) : Prop where
  good : Good l
  own : Own 43 6 cc cv acc.length (callsC acc)
  len : acc.length + l.length ≤ 65537
  go : script t = scriptGo l.length l acc
theorem ScrJ.start {t : List UInt8} (h0 : (scan t).2.1 = 0) : ScrJ t (scan t).1 [] (.slice none 0 0) [] := by
  obtain ⟨h1, h2⟩ := scan_good h0
  exact ⟨h1, Own.nil _ _, by simpa using h2, by unfold script; rw [if_neg (by simpa using h0)]⟩
theorem ScrJ.next {t : List UInt8} {l : List Tok} {acc : List Call} {cv cv' : Value} {cc cc' : Chunk} (h : ScrJ t l acc cv cc) (hok : (lineOf l).2.2.1 = true) (ho : Own 43 6 cc' cv' (acc.length + 1) (callsC acc ++ (lineOf l).1.cells)) :
    ScrJ t (lineOf l).2.2.2 (acc ++ [(lineOf l).1]) cv' cc' := by
  obtain ⟨h1, h2⟩ := lineOf_rest h.good hok
  have h3 := h.len
  refine ⟨h1, by simpa [callsC] using ho, by simp only [List.length_append, List.length_cons, List.length_nil]; omega, ?_⟩
  obtain ⟨n, hn⟩ : ∃ n, l.length = n + 1 := ⟨l.length - 1, by omega⟩
  rw [h.go, hn]
  simp only [scriptGo]
  rw [if_neg (fun e => by rw [e] at hn; simp at hn), if_pos hok]
  exact scriptGo_more _ _ _ _ (Nat.le_refl _) (by omega) h1
theorem ScrJ.bad {t : List UInt8} {l : List Tok} {acc : List Call} {cv : Value} {cc : Chunk} (h : ScrJ t l acc cv cc) (hl : l ≠ []) (hok : (lineOf l).2.2.1 = false) : script t = ([], 3, (lineOf l).2.1.line, (lineOf l).2.1.col) := by
  obtain ⟨n, hn⟩ : ∃ n, l.length = n + 1 := ⟨l.length - 1, by have := List.length_pos_iff.2 hl; omega⟩
  rw [h.go, hn]
  simp only [scriptGo]
  rw [if_neg hl, if_neg (by simp [hok])]
theorem ScrJ.done {t : List UInt8} {acc : List Call} {cv : Value} {cc : Chunk} (h : ScrJ t [] acc cv cc) : script t = (acc, 0, 0, 0) := by
  rw [h.go]
  exact scriptGo_nil _ _
theorem lineOf_flow {x : Tok} {r : List Tok} {rest : List (List Tok)} {n : Nat} {tx : List UInt8} (h : ∀ ln ∈ (x :: r) :: rest, IsLine ln) (hw : isWord x [102, 108, 111, 119] = true) (hn : flowLines ((x :: r) :: rest) = some n) (ht : showGo false (((x :: r) :: rest).flatten.take n) = some tx) :
    lineOf ((x :: r) :: rest).flatten = ({ Call.zero with op := 18, text := tx }, Tok.zero, true, ((x :: r) :: rest).flatten.drop n) := by
  have h1 := flowEnd_flowLines (h _ (List.mem_cons_self ..)) (fun l hl => h l (List.mem_cons_of_mem _ hl)) (aloneL_flow hw)
  rw [hn] at h1
  rw [List.flatten_cons] at *
  simp only [List.cons_append, lineOf] at *
  rw [if_pos hw]
  simp only [flowOf, h1, ht]
  rfl
theorem lineOf_noflow {x : Tok} {r : List Tok} {rest : List (List Tok)} {z : Tok} (h : ∀ ln ∈ (x :: r) :: rest, IsLine ln) (hw : isWord x [102, 108, 111, 119] = true) (hn : flowLines ((x :: r) :: rest) = none) (hz : ((x :: r) :: rest).flatten.getLast? = some z) :
    (lineOf ((x :: r) :: rest).flatten).2.2.1 = false ∧ (lineOf ((x :: r) :: rest).flatten).2.1 = z := by
  have h1 := flowEnd_flowLines (h _ (List.mem_cons_self ..)) (fun l hl => h l (List.mem_cons_of_mem _ hl)) (aloneL_flow hw)
  rw [hn] at h1
  rw [List.flatten_cons] at *
  simp only [List.cons_append, lineOf] at *
  rw [if_pos hw]
  simp only [flowOf, h1]
  refine ⟨trivial, ?_⟩
  rw [List.getLastD_eq_getLast?, hz]
  rfl
end Go.Proofs.Ln
