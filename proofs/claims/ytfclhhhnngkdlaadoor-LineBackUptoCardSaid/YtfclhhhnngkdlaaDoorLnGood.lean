/- Plain laws on the scanner's tokens: each is one that Scan tells, no line is empty, the last one ends a line. No condition. -/
import Derived.Test.YtfclhhhnngkdlaaDoorLnFlow
set_option linter.unusedVariables false
set_option linter.unusedSimpArgs false
namespace Go.Proofs.Ln
open Go Go.RowKit Go.Proofs.Eng

/-- has the line begun, behind these tokens? -/
def begun : Bool → List Tok → Bool
  | b, [] => b
  | b, x :: r => begun (decide (x.kind ≠ 4)) r
/-- no line is empty -/
def noEmpty : Bool → List Tok → Bool
  | _, [] => true
  | b, x :: r => if x.kind = 4 then b && noEmpty false r else noEmpty true r
theorem begun_snoc : ∀ (l : List Tok) (b : Bool) (x : Tok), begun b (l ++ [x]) = decide (x.kind ≠ 4)
  | [], b, x => rfl
  | y :: l, b, x => by simp only [List.cons_append, begun]; exact begun_snoc l _ x
theorem noEmpty_append : ∀ (l m : List Tok) (b : Bool), noEmpty b (l ++ m) = (noEmpty b l && noEmpty (begun b l) m)
  | [], m, b => by simp [noEmpty, begun]
  | y :: l, m, b => by
    simp only [List.cons_append, noEmpty, begun]
    by_cases h : y.kind = 4
    · rw [if_pos h, if_pos h, noEmpty_append l m false, decide_eq_false (by simpa using h), Bool.and_assoc]
    · rw [if_neg h, if_neg h, noEmpty_append l m true, decide_eq_true h]
theorem noEmpty_one (b : Bool) (x : Tok) : noEmpty b [x] = (!decide (x.kind = 4) || b) := by
  simp only [noEmpty]
  by_cases h : x.kind = 4
  · rw [if_pos h]; simp [h]
  · rw [if_neg h]; simp [h]
/-- a token that Scan tells -/
def Fine (x : Tok) : Prop := right x = true ∧ x.text.length ≤ 100000
structure GoodS (s : Sc) : Prop where
  fine : ∀ x ∈ s.l, Fine x
  lines : noEmpty false s.l = true
  any : s.any = begun false s.l
  len : s.t.length ≤ 100000
theorem takeWhile_idem (t : List UInt8) (p : UInt8 → Bool) : (t.takeWhile p).takeWhile p = t.takeWhile p := by
  induction t with
  | nil => rfl
  | cons a t ih =>
    by_cases h : p a
    · simp [List.takeWhile_cons_of_pos h, ih]
    · simp [List.takeWhile_cons_of_neg h]
theorem takeWhile_get0 {t : List UInt8} {p : UInt8 → Bool} {c : UInt8} {r : List UInt8} (ht : t = c :: r) (hc : p c = true) : (t.takeWhile p)[0]? = some c := by
  subst ht
  simp [List.takeWhile_cons_of_pos hc]
theorem GoodS.snoc {s : Sc} {t : List UInt8} {line col : Int} {any : Bool} {x : Tok} (h : GoodS s) (hx : Fine x) (h4 : x.kind ≠ 4 ∨ s.any = true) (ha : any = decide (x.kind ≠ 4)) (hl : t.length ≤ 100000) : GoodS ⟨t, line, col, any, s.l ++ [x]⟩ := by
  refine ⟨fun y hy => ?_, ?_, ?_, hl⟩
  · rcases List.mem_append.1 hy with hy | hy
    · exact h.fine y hy
    · obtain rfl : y = x := by simpa using hy
      exact hx
  · show noEmpty false (s.l ++ [x]) = true
    rw [noEmpty_append, h.lines, noEmpty_one, ← h.any]
    rcases h4 with h4 | h4
    · simp [h4]
    · simp [h4]
  · show any = begun false (s.l ++ [x])
    rw [begun_snoc, ha]
theorem numb_take {t : List UInt8} {n : Nat} (hn : (numb t).1 = n) (h0 : n ≠ 0) : numb (t.take n) = (n, (numb t).2) ∧ (t.take n).length = n := by
  unfold numb at hn ⊢
  split at hn
  · exact absurd hn.symm h0
  · rename_i hb
    have hlen : (t.takeWhile digit).length = n := hn
    have htk : t.take n = t.takeWhile digit := by rw [← hlen, take_takeWhile]
    have hb' : bad t n = false := by rw [← hlen]; simpa using hb
    have hle : n ≤ t.length := by rw [← hlen]; exact takeWhile_le t digit
    have e1 : (t.take n).takeWhile digit = t.takeWhile digit := by rw [htk, takeWhile_idem]
    have e2 : bad (t.take n) n = false := by
      unfold bad at hb' ⊢
      simp only [Bool.or_eq_false_iff, Bool.and_eq_false_iff, decide_eq_false_iff_not] at hb' ⊢
      refine ⟨⟨hb'.1.1, ?_⟩, .inl (by rw [List.length_take]; omega)⟩
      rcases hb'.1.2 with h | h
      · exact .inl h
      · refine .inr ?_
        rw [List.getElem?_take]
        split
        · exact h
        · simp
    have hbt : bad t (List.takeWhile digit t).length = false := by simpa using hb
    rw [e1, hlen, if_neg (by simp [e2]), if_neg (by simp [hb']), hlen.symm]
    simp only [and_true, true_and]
    rw [take_takeWhile]
theorem GoodS.step {s : Sc} {c : UInt8} {r : List UInt8} (h : GoodS s) (ht : s.t = c :: r) (h0 : (s.step c).2 = 0) : GoodS (s.step c).1 := by
  have hl := h.len
  have pass : ∀ n, GoodS (s.pass n) := fun n => ⟨h.fine, h.lines, h.any, by simp only [Sc.pass, List.length_drop]; omega⟩
  revert h0
  unfold Sc.step
  split
  · exact fun _ => pass 1
  · split
    · exact fun _ => pass _
    · split
      · intro _
        unfold Sc.ends
        split
        · rename_i hany
          exact h.snoc ⟨by simp [right], by simp⟩ (.inr hany) (by simp) (by simp only [List.length_drop]; omega)
        · rename_i hany
          have hany' : s.any = false := by simpa using hany
          exact ⟨h.fine, h.lines, by show false = begun false s.l; rw [← h.any, hany'], by simp only [List.length_drop]; omega⟩
      · split
        · rename_i hs
          split
          · intro h0; cases h0
          · intro h00
            rename_i hn
            have hin : inName c = true := by simp [inName, hs]
            have hrt : right ⟨1, s.t.take (s.t.takeWhile inName).length, 0, s.line, s.col⟩ = true := by
              rw [right1 rfl]
              have hlg : legal (s.t.take (s.t.takeWhile inName).length) = true := by
                rw [take_takeWhile]
                rw [legal_small (c := c) (by omega) (by rw [takeWhile_idem]) (takeWhile_get0 ht hin)]
                exact hs
              simp [hlg]
            exact h.snoc ⟨hrt, by simp only [List.length_take]; omega⟩ (.inl (by simp)) (by simp) (by simp only [List.length_drop]; omega)
        · split
          · split
            · intro h0; cases h0
            · intro h00
              rename_i hn
              obtain ⟨e1, e2⟩ := numb_take (t := s.t) rfl hn
              have hrt : right ⟨2, s.t.take (numb s.t).1, ((numb s.t).2 : Int), s.line, s.col⟩ = true := by
                rw [right2 rfl]
                dsimp only
                rw [e1, e2]
                simp
                omega
              exact h.snoc ⟨hrt, by simp only [List.length_take]; omega⟩ (.inl (by simp)) (by simp) (by simp only [List.length_drop]; omega)
          · split
            · intro h00
              rename_i hm
              have hrt : right ⟨3, s.t.take 1, 0, s.line, s.col⟩ = true := by
                rw [right3y (c := c) rfl (by rw [ht]; rfl)]
                simp [hm]
              exact h.snoc ⟨hrt, by simp only [List.length_take]; omega⟩ (.inl (by simp)) (by simp) (by simp only [List.length_drop]; omega)
            · intro h0; cases h0
theorem GoodS.go : ∀ (n : Nat) (s : Sc), GoodS s → (Sc.go n s).2 = 0 → GoodS (Sc.go n s).1
  | 0, s, h, _ => h
  | n + 1, s, h, h0 => by
    revert h0
    simp only [Sc.go]
    split
    · exact fun _ => h
    · rename_i c r ht
      split
      · rename_i hs
        exact GoodS.go n _ (h.step ht hs)
      · rename_i hs
        exact fun h0 => absurd h0 hs
theorem Sc.go_len : ∀ (n : Nat) (s : Sc) (M : Nat), s.fits M → (Sc.go n s).2 = 0 → (Sc.go n s).1.fits M
  | 0, s, M, h, _ => h
  | n + 1, s, M, h, h0 => by
    revert h0
    simp only [Sc.go]
    split
    · exact fun _ => h
    · rename_i c r ht
      split
      · rename_i hs
        exact Sc.go_len n _ M (Sc.step_fits ht h hs).1
      · rename_i hs
        exact fun h0 => absurd h0 hs
/-- tokens that stand at a line's beginning -/
structure Good (l : List Tok) : Prop where
  fine : ∀ x ∈ l, Fine x
  lines : noEmpty false l = true
  ends : l = [] ∨ Ends l
theorem scan_good {t : List UInt8} (h0 : (scan t).2.1 = 0) : Good (scan t).1 ∧ (scan t).1.length ≤ 65537 := by
  have hlen : ¬ 65536 < t.length := fun h => by rw [scan_big h] at h0; cases h0
  unfold scan at h0 ⊢
  rw [if_neg hlen] at h0 ⊢
  have hg0 : GoodS ⟨t, 1, 1, false, []⟩ := ⟨fun x hx => (by cases hx), rfl, rfl, by show t.length ≤ 100000; omega⟩
  have hf0 : (⟨t, 1, 1, false, []⟩ : Sc).fits t.length := (ScI.start t).fits
  by_cases hz : (Sc.go t.length ⟨t, 1, 1, false, []⟩).2 = 0
  · rw [if_neg (by simpa using hz)]
    have hg := hg0.go t.length _ hz
    have hf := Sc.go_len t.length _ t.length hf0 hz
    generalize (Sc.go t.length ⟨t, 1, 1, false, []⟩).1 = s at hg hf
    obtain ⟨f1, _⟩ := hf
    by_cases hany : s.any = true
    · rw [if_pos hany]
      have h2 := hg.snoc (t := []) (line := 0) (col := 0) (any := false) (x := ⟨4, [], 0, s.line, s.col⟩) ⟨by simp [right], by simp⟩ (.inr hany) (by simp) (by simp)
      refine ⟨⟨h2.fine, h2.lines, .inr ⟨_, _, rfl, rfl⟩⟩, ?_⟩
      simp only [List.length_append, List.length_cons, List.length_nil]
      omega
    · rw [if_neg hany]
      have hb : begun false s.l = false := by rw [← hg.any]; simpa using hany
      refine ⟨⟨hg.fine, hg.lines, ?_⟩, by dsimp only; omega⟩
      rcases List.eq_nil_or_concat s.l with e | ⟨l', x, e⟩
      · exact .inl e
      · refine .inr ⟨l', x, by simpa using e, ?_⟩
        rw [e, List.concat_eq_append, begun_snoc] at hb
        simpa using hb
  · rw [if_pos hz] at h0
    exact absurd h0 hz
/-! what is left behind a line -/
theorem show_some : ∀ (l : List Tok) (b : Bool), (∀ x ∈ l, Fine x) → noEmpty b l = true → (l = [] → b = false) → (l = [] ∨ Ends l) → ∃ t, showGo b l = some t
  | [], b, _, _, hb, _ => by
    have := hb rfl
    subst this
    exact ⟨[], rfl⟩
  | x :: r, b, hf, hn, _, he => by
    have he' : Ends (x :: r) := by rcases he with h | h; cases h; exact h
    have hx := (hf x (List.mem_cons_self ..)).1
    by_cases h4 : x.kind = 4
    · have hn' : b = true ∧ noEmpty false r = true := by simpa [noEmpty, h4] using hn
      have her : r = [] ∨ Ends r := by
        obtain ⟨l', y, e, hy⟩ := he'
        cases l' with
        | nil => left; simp at e; exact e.2
        | cons z l' => right; simp at e; exact ⟨l', y, e.2, hy⟩
      obtain ⟨t, ht⟩ := show_some r false (fun y hy => hf y (List.mem_cons_of_mem _ hy)) hn'.2 (fun _ => rfl) her
      exact ⟨_, by rw [showGo_line hx h4 hn'.1, ht]; rfl⟩
    · have hn' : noEmpty true r = true := by simpa [noEmpty, h4] using hn
      have her := he'.tail h4
      obtain ⟨t, ht⟩ := show_some r true (fun y hy => hf y (List.mem_cons_of_mem _ hy)) hn' (fun h => by subst h; obtain ⟨_, _, h⟩ := her.cons; cases h) (.inr her)
      by_cases hs : b = true ∧ x.text ≠ [44] ∧ x.text ≠ [58]
      · exact ⟨_, by rw [showGo_sep hx h4 hs, ht]; rfl⟩
      · exact ⟨_, by rw [showGo_tok hx h4 hs, ht]; rfl⟩
theorem flowEnd_spec : ∀ (l : List Tok) (n : Nat), flowEnd l = some n → ∃ m z, l.take n = m ++ [z] ∧ z.kind = 4 ∧ n ≤ l.length ∧ 3 ≤ n
  | x :: y :: z :: r, n, h => by
    simp only [flowEnd] at h
    split at h
    · rename_i ha
      obtain rfl : 3 = n := by simpa using h
      refine ⟨[x, y], z, rfl, ?_, by simp, Nat.le_refl _⟩
      simp [isAlone] at ha
      exact ha.2
    · obtain ⟨k, hk, rfl⟩ := Option.map_eq_some_iff.1 h
      obtain ⟨m, w, h1, h2, h3, h4⟩ := flowEnd_spec (y :: z :: r) k hk
      exact ⟨x :: m, w, by rw [List.take_succ_cons, h1]; rfl, h2, by simp at h3 ⊢; omega, by omega⟩
  | [], n, h => by simp [flowEnd] at h
  | [_], n, h => by simp [flowEnd] at h
  | [_, _], n, h => by simp [flowEnd] at h
theorem Good.take {l : List Tok} {n : Nat} (h : Good l) (hn : flowEnd l = some n) : ∃ t, showGo false (l.take n) = some t := by
  obtain ⟨m, z, h1, h2, h3, h4⟩ := flowEnd_spec l n hn
  refine show_some _ false (fun x hx => h.fine x (List.mem_of_mem_take hx)) ?_ (fun _ => rfl) (.inr ⟨m, z, h1, h2⟩)
  have := h.lines
  rw [← List.take_append_drop n l, noEmpty_append, Bool.and_eq_true] at this
  exact this.1
theorem Good.drop {l m : List Tok} {z : Tok} {n : Nat} (h : Good l) (h1 : l.take n = m ++ [z]) (h2 : z.kind = 4) : Good (l.drop n) := by
  refine ⟨fun x hx => h.fine x (List.mem_of_mem_drop hx), ?_, ?_⟩
  · have := h.lines
    rw [← List.take_append_drop n l, noEmpty_append, Bool.and_eq_true, h1, begun_snoc, decide_eq_false (by simpa using h2)] at this
    exact this.2
  · rcases h.ends with e | ⟨l', x, e, hx⟩
    · subst e; left; simp
    · rcases List.eq_nil_or_concat (l.drop n) with e2 | ⟨l2, y, e2⟩
      · exact .inl e2
      · refine .inr ⟨l2, y, by simpa using e2, ?_⟩
        have h3 : l' ++ [x] = l.take n ++ l2 ++ [y] := by rw [← e, List.append_assoc]; simp only [List.concat_eq_append] at e2; rw [← e2, List.take_append_drop]
        have := (List.append_inj' h3 rfl).2
        simp only [List.cons.injEq, and_true] at this
        rw [← this]; exact hx
/-- what readLike leaves, when all is well, stands behind a line's end -/
theorem readLike_rest : ∀ (like : List UInt8) (c c' : Call) (l rest : List Tok) (t : Tok), readLike like c l = (c', t, true, rest) → ∃ m z, l = m ++ [z] ++ rest ∧ z.kind = 4
  | like, c, c', [], rest, t, h => by cases like <;> simp [readLike] at h
  | [], c, c', x :: r, rest, t, h => by
    rw [readLike_end] at h
    split at h
    · rename_i hk
      simp only [Prod.mk.injEq] at h
      obtain ⟨_, _, _, rfl⟩ := h
      exact ⟨[], x, rfl, hk⟩
    · simp at h
  | w :: ws, c, c', x :: r, rest, t, h => by
    rw [readLike_cons] at h
    split at h
    · obtain ⟨m, z, e, hz⟩ := readLike_rest ws _ c' r rest t h
      exact ⟨x :: m, z, by rw [e]; rfl, hz⟩
    · simp at h
theorem callOf_rest {l rest : List Tok} {c : Call} {t : Tok} (h : callOf l = (c, t, true, rest)) : ∃ m z, l = m ++ [z] ++ rest ∧ z.kind = 4 := by
  cases l with
  | nil => simp [callOf] at h
  | cons x r =>
    simp only [callOf] at h
    split at h
    · split at h
      · simp at h
      · obtain ⟨m, z, e, hz⟩ := readLike_rest _ _ _ _ _ _ h
        exact ⟨x :: m, z, by rw [e]; rfl, hz⟩
    · simp at h
/-- a line, or a flow's lines -/
def lineOf : List Tok → Call × Tok × Bool × List Tok
  | [] => (Call.zero, Tok.zero, false, [])
  | x :: r => if isWord x [102, 108, 111, 119] = true then flowOf (x :: r) else callOf (x :: r)
theorem lineOf_rest {l : List Tok} (hg : Good l) (h : (lineOf l).2.2.1 = true) : Good (lineOf l).2.2.2 ∧ (lineOf l).2.2.2.length < l.length := by
  cases l with
  | nil => simp [lineOf] at h
  | cons x r =>
    simp only [lineOf] at h ⊢
    split at h
    · rename_i hw
      rw [if_pos hw]
      unfold flowOf at h ⊢
      split at h
      · rename_i n hn
        obtain ⟨m, z, h1, h2, h3, h4⟩ := flowEnd_spec _ n hn
        exact ⟨hg.drop h1 h2, by simp only [List.length_drop]; omega⟩
      · simp at h
    · rename_i hw
      rw [if_neg hw]
      obtain ⟨m, z, e, hz⟩ := callOf_rest (l := x :: r) (rest := (callOf (x :: r)).2.2.2) (c := (callOf (x :: r)).1) (t := (callOf (x :: r)).2.1) (by rw [← h])
      have h1 : (x :: r).take (m.length + 1) = m ++ [z] := by
        rw [e, show m.length + 1 = (m ++ [z]).length by simp, List.append_assoc, ← List.append_assoc, List.take_left]
      have h2 : (x :: r).drop (m.length + 1) = (callOf (x :: r)).2.2.2 := by
        conv => lhs; rw [e]
        rw [show m.length + 1 = (m ++ [z]).length by simp, List.append_assoc, ← List.append_assoc, List.drop_left]
      refine ⟨h2 ▸ hg.drop h1 hz, ?_⟩
      have := congrArg List.length e
      simp only [List.length_append, List.length_cons, List.length_nil] at this ⊢
      omega
end Go.Proofs.Ln
