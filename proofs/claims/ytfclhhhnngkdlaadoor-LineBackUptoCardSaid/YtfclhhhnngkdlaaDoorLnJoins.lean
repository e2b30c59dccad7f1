/- Plain law: two texts with a line's end between them tell what both tell. No condition beyond the length that a text may have. -/
import Derived.Test.YtfclhhhnngkdlaaDoorLnPlace
set_option linter.unusedVariables false
set_option linter.unusedSimpArgs false
namespace Go.Proofs.Ln
open Go Go.RowKit Go.Proofs.Eng

/-- steps that go well -/
inductive Runs : Sc → Sc → Prop
  | nil (s : Sc) : Runs s s
  | cons {s s' : Sc} {c : UInt8} {r : List UInt8} (ht : s.t = c :: r) (h0 : (s.step c).2 = 0) (h : Runs (s.step c).1 s') : Runs s s'
theorem Runs.trans {a b c : Sc} (h : Runs a b) (h' : Runs b c) : Runs a c := by
  induction h with
  | nil => exact h'
  | cons ht h0 _ ih => exact .cons ht h0 (ih h')
theorem runs_of_go {M : Nat} : ∀ (n : Nat) (s : Sc), s.t.length ≤ n → s.fits M → (Sc.go n s).2 = 0 → Runs s (Sc.go n s).1 ∧ (Sc.go n s).1.t = []
  | 0, s, hn, _, _ => ⟨.nil s, List.eq_nil_of_length_eq_zero (by simp only [Sc.go]; omega)⟩
  | n + 1, s, hn, hf, h0 => by
    simp only [Sc.go] at h0 ⊢
    split at h0
    · rename_i ht
      exact ⟨.nil s, ht⟩
    · rename_i c r ht
      split at h0
      · rename_i hs
        obtain ⟨h1, h2⟩ := Sc.step_fits ht hf hs
        rw [if_pos hs]
        obtain ⟨h3, h4⟩ := runs_of_go n _ (by omega) h1 h0
        exact ⟨.cons ht hs h3, h4⟩
      · rename_i hs
        exact absurd h0 hs
theorem go_of_runs {M : Nat} {s s' : Sc} (h : Runs s s') (ht' : s'.t = []) : ∀ n, s.t.length ≤ n → s.fits M → Sc.go n s = (s', 0) := by
  induction h with
  | nil s => intro n _ _; exact Sc.go_nil ht' n
  | @cons s s' c r ht h0 h ih =>
    intro n hn hf
    obtain ⟨n, rfl⟩ : ∃ m, n = m + 1 := ⟨n - 1, by simp [ht] at hn; omega⟩
    obtain ⟨h1, h2⟩ := Sc.step_fits ht hf h0
    simp only [Sc.go, ht]
    rw [if_pos h0]
    exact ih ht' n (by omega) h1
/-- the tokens at the text's end -/
def Sc.fin (s : Sc) : List Tok := if s.any then s.l ++ [⟨4, [], 0, s.line, s.col⟩] else s.l
abbrev Sc.init (t : List UInt8) : Sc := ⟨t, 1, 1, false, []⟩
theorem init_fits (t : List UInt8) : (Sc.init t).fits t.length := (ScI.start t).fits
theorem scan_runs {t : List UInt8} (h0 : (scan t).2.1 = 0) : t.length ≤ 65536 ∧ ∃ s, Runs (Sc.init t) s ∧ s.t = [] ∧ scan t = (s.fin, 0, 0, 0) := by
  have hlen : ¬ 65536 < t.length := fun h => by rw [scan_big h] at h0; cases h0
  by_cases hz : (Sc.go t.length (Sc.init t)).2 = 0
  · obtain ⟨h1, h2⟩ := runs_of_go t.length (Sc.init t) (Nat.le_refl _) (init_fits t) hz
    refine ⟨by omega, _, h1, h2, ?_⟩
    unfold scan
    rw [if_neg hlen, if_neg (by simpa using hz)]
    rfl
  · unfold scan at h0
    rw [if_neg hlen, if_pos hz] at h0
    exact absurd h0 hz
theorem scan_of_runs {t : List UInt8} {s : Sc} (hl : t.length ≤ 65536) (h : Runs (Sc.init t) s) (ht : s.t = []) : scan t = (s.fin, 0, 0, 0) := by
  have hg := go_of_runs h ht t.length (Nat.le_refl _) (init_fits t)
  unfold scan
  rw [if_neg (by omega), hg, if_neg (by simp)]
  rfl
/-! the text goes on behind a line's end -/
def Sc.ext (s : Sc) (b : List UInt8) : Sc := { s with t := s.t ++ 10 :: b }
theorem takeWhile_ext {p : UInt8 → Bool} (hp : p 10 = false) (t b : List UInt8) : (t ++ 10 :: b).takeWhile p = t.takeWhile p := by
  induction t with
  | nil => simp [List.takeWhile_cons_of_neg, hp]
  | cons a t ih =>
    by_cases h : p a
    · rw [List.cons_append, List.takeWhile_cons_of_pos h, List.takeWhile_cons_of_pos h, ih]
    · rw [List.cons_append, List.takeWhile_cons_of_neg h, List.takeWhile_cons_of_neg h]
theorem bad_ext (t b : List UInt8) : bad (t ++ 10 :: b) (t.takeWhile digit).length = bad t (t.takeWhile digit).length := by
  have hle := takeWhile_le t digit
  generalize hn : (t.takeWhile digit).length = n at *
  unfold bad
  by_cases h0 : n = 0
  · simp [h0]
  · have e0 : (t ++ 10 :: b)[0]? = t[0]? := by rw [List.getElem?_append_left (by omega)]
    rw [e0]
    congr 1
    by_cases hlt : n < t.length
    · rw [decide_eq_true (p := n < t.length) hlt, decide_eq_true (p := n < (t ++ 10 :: b).length) (by simp; omega), List.getElem?_append_left hlt]
    · rw [decide_eq_false hlt, List.getElem?_append_right (by omega), show n - t.length = 0 by omega]
      simp [inName, small, digit]
theorem numb_ext (t b : List UInt8) : numb (t ++ 10 :: b) = numb t := by
  unfold numb
  rw [takeWhile_ext (by decide), bad_ext]
theorem Sc.step_ext {s : Sc} {c : UInt8} {r : List UInt8} (b : List UInt8) (ht : s.t = c :: r) : (s.ext b).step c = ((s.step c).1.ext b, (s.step c).2) := by
  have hl : 1 ≤ s.t.length := by simp [ht]
  have pass : ∀ n, n ≤ s.t.length → (s.ext b).pass n = (s.pass n).ext b := fun n hn => by
    simp only [Sc.pass, Sc.ext]
    rw [List.drop_append_of_le_length hn]
  have tell : ∀ k n v, n ≤ s.t.length → (s.ext b).tell k n v = (s.tell k n v).ext b := fun k n v hn => by
    simp only [Sc.tell, Sc.ext]
    rw [List.drop_append_of_le_length hn, List.take_append_of_le_length hn]
  have w1 : ((s.ext b).t.takeWhile fun c => decide (c.toNat ≠ 10)) = s.t.takeWhile fun c => decide (c.toNat ≠ 10) := takeWhile_ext (by decide) _ _
  have w2 : (s.ext b).t.takeWhile inName = s.t.takeWhile inName := takeWhile_ext (by decide) _ _
  have w3 : numb (s.ext b).t = numb s.t := numb_ext _ _
  unfold Sc.step
  rw [w1, w2, w3]
  split
  · rw [pass 1 hl]
  · split
    · rw [pass _ (takeWhile_le _ _)]
    · split
      · simp only [Sc.ends, Sc.ext]
        rw [List.drop_append_of_le_length hl]
        rfl
      · split
        · split
          · rfl
          · rw [tell _ _ _ (takeWhile_le _ _)]
        · split
          · split
            · rfl
            · rw [tell _ _ _ (numb_le _)]
          · split
            · rw [tell _ _ _ hl]
            · rfl
theorem Runs.ext {s s' : Sc} (b : List UInt8) (h : Runs s s') : Runs (s.ext b) (s'.ext b) := by
  induction h with
  | nil s => exact .nil _
  | @cons s s' c r ht h0 h ih =>
    have e := Sc.step_ext b ht
    exact .cons (c := c) (r := r ++ 10 :: b) (by simp [Sc.ext, ht]) (by rw [e]; exact h0) (by rw [e]; exact ih)
/-! the same text, further down -/
/-- a token elsewhere -/
def Tok.mv (p : Tok → Int × Int) (x : Tok) : Tok := { x with line := (p x).1, col := (p x).2 }
abbrev Tok.sh (k : Int) (x : Tok) : Tok := x.mv fun y => (y.line + k, y.col)
def Sc.shift (s : Sc) (k : Int) (l : List Tok) : Sc := ⟨s.t, s.line + k, s.col, s.any, l ++ s.l.map (Tok.sh k)⟩
theorem Sc.step_shift (s : Sc) (k : Int) (l : List Tok) (c : UInt8) : (s.shift k l).step c = ((s.step c).1.shift k l, (s.step c).2) := by
  have tell : ∀ kd n v, (s.shift k l).tell kd n v = (s.tell kd n v).shift k l := fun kd n v => by
    simp [Sc.tell, Sc.shift, Tok.sh, Tok.mv]
  have ends : (s.shift k l).ends = s.ends.shift k l := by
    simp only [Sc.ends, Sc.shift]
    rw [show s.line + k + 1 = s.line + 1 + k by omega]
    by_cases hany : s.any = true
    · simp [hany, Tok.sh, Tok.mv]
    · simp [hany]
  unfold Sc.step
  rw [show (s.shift k l).t = s.t from rfl]
  split
  · rfl
  · split
    · rfl
    · split
      · rw [ends]
      · split
        · split
          · rfl
          · rw [tell]
        · split
          · split
            · rfl
            · rw [tell]
          · split
            · rw [tell]
            · rfl
theorem Runs.shift {s s' : Sc} (k : Int) (l : List Tok) (h : Runs s s') : Runs (s.shift k l) (s'.shift k l) := by
  induction h with
  | nil s => exact .nil _
  | @cons s s' c r ht h0 h ih =>
    have e := Sc.step_shift s k l c
    exact .cons (c := c) (r := r) ht (by rw [e]; exact h0) (by rw [e]; exact ih)
theorem fin_shift (s : Sc) (k : Int) (l : List Tok) : (s.shift k l).fin = l ++ s.fin.map (Tok.sh k) := by
  simp only [Sc.fin, Sc.shift]
  by_cases hany : s.any = true
  · simp [hany, Tok.sh, Tok.mv]
  · simp [hany]
theorem join_scan {a b : List UInt8} (ha : (scan a).2.1 = 0) (hb : (scan b).2.1 = 0) (hl : a.length + b.length + 1 ≤ 65536) : ∃ k, scan (a ++ 10 :: b) = ((scan a).1 ++ (scan b).1.map (Tok.sh k), 0, 0, 0) := by
  obtain ⟨_, sa, ra, ta, ea⟩ := scan_runs ha
  obtain ⟨_, sb, rb, tb, eb⟩ := scan_runs hb
  have r1 : Runs (Sc.init (a ++ 10 :: b)) (sa.ext b) := ra.ext b
  have he : (sa.ext b).step 10 = (⟨b, sa.line + 1, 1, false, sa.fin⟩, 0) := by
    rw [step3 (by decide)]
    simp [Sc.ends, Sc.ext, ta, Sc.fin]
  have r2 : Runs (sa.ext b) ⟨b, sa.line + 1, 1, false, sa.fin⟩ := .cons (c := 10) (r := b) (by simp [Sc.ext, ta]) (by rw [he]) (by rw [he]; exact .nil _)
  have r3 : Runs ⟨b, sa.line + 1, 1, false, sa.fin⟩ (sb.shift sa.line sa.fin) := by
    have := rb.shift sa.line sa.fin
    have e : (Sc.init b).shift sa.line sa.fin = ⟨b, sa.line + 1, 1, false, sa.fin⟩ := by
      simp only [Sc.shift, List.map_nil, List.append_nil]
      rw [Int.add_comm]
    rwa [e] at this
  refine ⟨sa.line, ?_⟩
  rw [scan_of_runs (s := sb.shift sa.line sa.fin) (by simp; omega) ((r1.trans r2).trans r3) tb, fin_shift, ea, eb]
/-! what a script tells hangs on no place -/
theorem right_sh (k : Tok → Int × Int) (x : Tok) : right (x.mv k) = right x := rfl
theorem showGo_sh (k : Tok → Int × Int) : ∀ (l : List Tok) (b : Bool), showGo b (l.map (Tok.mv k)) = showGo b l
  | [], b => rfl
  | x :: r, b => by
    simp only [List.map_cons, showGo]
    rw [showGo_sh k r false, showGo_sh k r true]
    rfl
theorem flowEnd_sh (k : Tok → Int × Int) : ∀ l : List Tok, flowEnd (l.map (Tok.mv k)) = flowEnd l
  | [] => rfl
  | [_] => rfl
  | [_, _] => rfl
  | x :: y :: z :: r => by
    have ih := flowEnd_sh k (y :: z :: r)
    simp only [List.map_cons] at ih ⊢
    simp only [flowEnd]
    rw [ih]
    rfl
theorem readLike_sh (k : Tok → Int × Int) : ∀ (like : List UInt8) (c : Call) (l : List Tok), Ends l → (readLike like c (l.map (Tok.mv k))).1 = (readLike like c l).1 ∧ (readLike like c (l.map (Tok.mv k))).2.2.1 = (readLike like c l).2.2.1 ∧ (readLike like c (l.map (Tok.mv k))).2.2.2 = (readLike like c l).2.2.2.map (Tok.mv k)
  | like, c, [], h => by obtain ⟨_, _, h⟩ := h.cons; cases h
  | [], c, x :: r, h => by
    rw [List.map_cons, readLike_end, readLike_end]
    show _ ∧ _ ∧ _
    by_cases h4 : x.kind = 4
    · rw [if_pos (show (x.mv k).kind = 4 from h4), if_pos h4]; exact ⟨rfl, rfl, rfl⟩
    · rw [if_neg (show ¬ (x.mv k).kind = 4 from h4), if_neg h4]; exact ⟨rfl, rfl, rfl⟩
  | w :: ws, c, x :: r, h => by
    rw [List.map_cons, readLike_cons, readLike_cons]
    by_cases hk : x.kind = kindOf w
    · rw [if_pos (show (x.mv k).kind = kindOf w from hk), if_pos hk]
      exact readLike_sh k ws _ r (h.tail (by rw [hk]; unfold kindOf; split <;> decide))
    · rw [if_neg (show ¬ (x.mv k).kind = kindOf w from hk), if_neg hk]; exact ⟨rfl, rfl, rfl⟩
theorem lineOf_sh (k : Tok → Int × Int) {l : List Tok} (h : Ends l) : (lineOf (l.map (Tok.mv k))).1 = (lineOf l).1 ∧ (lineOf (l.map (Tok.mv k))).2.2.1 = (lineOf l).2.2.1 ∧ (lineOf (l.map (Tok.mv k))).2.2.2 = (lineOf l).2.2.2.map (Tok.mv k) := by
  obtain ⟨x, r, rfl⟩ := h.cons
  simp only [List.map_cons, lineOf]
  have hw : isWord (x.mv k) [102, 108, 111, 119] = isWord x [102, 108, 111, 119] := rfl
  rw [hw]
  by_cases hf : isWord x [102, 108, 111, 119] = true
  · rw [if_pos hf, if_pos hf]
    have e := flowEnd_sh k (x :: r)
    rw [List.map_cons] at e
    unfold flowOf
    rw [e]
    cases hn : flowEnd (x :: r) with
    | none => exact ⟨rfl, rfl, rfl⟩
    | some n =>
      have e2 : (Tok.mv k x :: r.map (Tok.mv k)) = (x :: r).map (Tok.mv k) := rfl
      dsimp only
      rw [e2, ← List.map_take, ← List.map_drop, showGo_sh]
      exact ⟨rfl, rfl, rfl⟩
  · rw [if_neg hf, if_neg hf]
    simp only [callOf]
    by_cases h1 : x.kind = 1
    · rw [if_pos (show (x.mv k).kind = 1 from h1), if_pos h1]
      have ht : (x.mv k).text = x.text := rfl
      rw [ht]
      cases forms.find? (fun f => decide (f.word = x.text)) with
      | none => exact ⟨rfl, rfl, rfl⟩
      | some f => exact readLike_sh k _ _ r (h.tail (by omega))
    · rw [if_neg (show ¬ (x.mv k).kind = 1 from h1), if_neg h1]; exact ⟨rfl, rfl, rfl⟩
theorem Ends.sh {l : List Tok} (k : Tok → Int × Int) (h : Ends l) : Ends (l.map (Tok.mv k)) := by
  obtain ⟨l', x, rfl, hx⟩ := h
  exact ⟨l'.map (Tok.mv k), x.mv k, by simp, hx⟩
theorem noEmpty_sh (k : Tok → Int × Int) : ∀ (l : List Tok) (b : Bool), noEmpty b (l.map (Tok.mv k)) = noEmpty b l
  | [], b => rfl
  | x :: r, b => by
    simp only [List.map_cons, noEmpty]
    rw [noEmpty_sh k r false, noEmpty_sh k r true]
    rfl
theorem Good.sh {l : List Tok} (k : Tok → Int × Int) (h : Good l) : Good (l.map (Tok.mv k)) := by
  refine ⟨fun x hx => ?_, by rw [noEmpty_sh]; exact h.lines, ?_⟩
  · obtain ⟨y, hy, rfl⟩ := List.mem_map.1 hx
    exact h.fine y hy
  · rcases h.ends with e | e
    · left; rw [e]; rfl
    · exact .inr (e.sh k)
/-- the calls of tokens, if all is well; else none -/
theorem scriptGo_sh (k : Tok → Int × Int) : ∀ (n : Nat) (l : List Tok) (acc : List Call), Good l → l.length ≤ n → (scriptGo n l acc).2.1 = 0 → scriptGo n (l.map (Tok.mv k)) acc = scriptGo n l acc
  | 0, l, acc, _, _, _ => rfl
  | n + 1, l, acc, hg, hl, h0 => by
    rcases hg.ends with e | he
    · subst e; rfl
    · obtain ⟨h1, h2, h3⟩ := lineOf_sh k he
      have hne : l ≠ [] := by obtain ⟨x, r, e⟩ := he.cons; rw [e]; exact List.cons_ne_nil _ _
      simp only [scriptGo] at h0 ⊢
      rw [if_neg hne] at h0 ⊢
      rw [if_neg (by simpa using hne), h2]
      by_cases hok : (lineOf l).2.2.1 = true
      · rw [if_pos hok] at h0 ⊢
        rw [if_pos hok, h1, h3]
        obtain ⟨g1, g2⟩ := lineOf_rest hg hok
        exact scriptGo_sh k n _ _ g1 (by omega) h0
      · rw [if_neg hok] at h0
        simp at h0
theorem flowEnd_append : ∀ (l m : List Tok) (n : Nat), flowEnd l = some n → flowEnd (l ++ m) = some n
  | [], m, n, h => by simp [flowEnd] at h
  | [_], m, n, h => by simp [flowEnd] at h
  | [_, _], m, n, h => by simp [flowEnd] at h
  | x :: y :: z :: r, m, n, h => by
    simp only [flowEnd, List.cons_append] at h ⊢
    split at h
    · rename_i ha; rw [if_pos ha]; exact h
    · rename_i ha
      rw [if_neg ha]
      obtain ⟨q, hq, rfl⟩ := Option.map_eq_some_iff.1 h
      have := flowEnd_append (y :: z :: r) m q hq
      simp only [List.cons_append] at this
      rw [this]; rfl
theorem lineOf_append {l m : List Tok} (h : Ends l) (hok : (lineOf l).2.2.1 = true) : (lineOf (l ++ m)).1 = (lineOf l).1 ∧ (lineOf (l ++ m)).2.2.1 = true ∧ (lineOf (l ++ m)).2.2.2 = (lineOf l).2.2.2 ++ m := by
  obtain ⟨x, r, rfl⟩ := h.cons
  simp only [List.cons_append, lineOf] at hok ⊢
  by_cases hf : isWord x [102, 108, 111, 119] = true
  · rw [if_pos hf] at hok ⊢
    rw [if_pos hf]
    unfold flowOf at hok ⊢
    split at hok
    · rename_i n hn
      have e := flowEnd_append (x :: r) m n hn
      rw [List.cons_append] at e
      obtain ⟨_, _, _, _, hle, _⟩ := flowEnd_spec _ n hn
      rw [e]
      dsimp only
      have e1 : (x :: (r ++ m)).take n = (x :: r).take n := by rw [← List.cons_append, List.take_append_of_le_length hle]
      have e2 : (x :: (r ++ m)).drop n = (x :: r).drop n ++ m := by rw [← List.cons_append, List.drop_append_of_le_length hle]
      rw [e1, e2]
      exact ⟨rfl, rfl, rfl⟩
    · simp at hok
  · rw [if_neg hf] at hok ⊢
    rw [if_neg hf]
    have e := callOf_append (rest := m) h
    rw [List.cons_append] at e
    rw [e]
    exact ⟨rfl, hok, rfl⟩
theorem scriptGo_acc : ∀ (n : Nat) (l : List Tok) (acc : List Call), (scriptGo n l acc).2.1 = (scriptGo n l []).2.1 ∧ ((scriptGo n l []).2.1 = 0 → scriptGo n l acc = (acc ++ (scriptGo n l []).1, 0, 0, 0))
  | 0, l, acc => by simp [scriptGo]
  | n + 1, l, acc => by
    simp only [scriptGo]
    split
    · simp
    · split
      · obtain ⟨h1, h2⟩ := scriptGo_acc n (lineOf l).2.2.2 (acc ++ [(lineOf l).1])
        obtain ⟨h3, h4⟩ := scriptGo_acc n (lineOf l).2.2.2 ([] ++ [(lineOf l).1])
        refine ⟨by rw [h1, h3], fun h => ?_⟩
        rw [h3] at h
        rw [h2 h, h4 h]
        simp
      · simp
theorem scriptGo_append : ∀ (n : Nat) (l m : List Tok) (acc : List Call), Good l → Good (l ++ m) → l.length ≤ n → (scriptGo n l acc).2.1 = 0 →
    ∀ n', (l ++ m).length ≤ n' → scriptGo n' (l ++ m) acc = scriptGo n' m (scriptGo n l acc).1
  | 0, l, m, acc, hg, hgm, hl, h0 => by
    intro n' hn'
    obtain rfl : l = [] := List.eq_nil_of_length_eq_zero (by omega)
    rfl
  | n + 1, l, m, acc, hg, hgm, hl, h0 => by
    intro n' hn'
    rcases hg.ends with e | he
    · subst e; rfl
    · have hne : l ≠ [] := by obtain ⟨x, r, e⟩ := he.cons; rw [e]; exact List.cons_ne_nil _ _
      have hpos := List.length_pos_iff.2 hne
      simp only [scriptGo] at h0 ⊢
      rw [if_neg hne] at h0 ⊢
      by_cases hok : (lineOf l).2.2.1 = true
      · rw [if_pos hok] at h0 ⊢
        obtain ⟨h1, h2, h3⟩ := lineOf_append (m := m) he hok
        obtain ⟨g1, g2⟩ := lineOf_rest hg hok
        obtain ⟨g3, g4⟩ := lineOf_rest hgm h2
        rw [h3] at g3 g4
        obtain ⟨n', rfl⟩ : ∃ q, n' = q + 1 := ⟨n' - 1, by simp only [List.length_append] at hn'; omega⟩
        have hmg : Good m := by
          obtain ⟨l', y, e, hy⟩ := he
          have := hgm.drop (n := l.length) (m := l') (z := y) (by rw [List.take_left]; exact e) hy
          rwa [List.drop_left] at this
        have ih := scriptGo_append n (lineOf l).2.2.2 m (acc ++ [(lineOf l).1]) g1 g3 (by omega) h0 n' (by omega)
        have hstep : scriptGo (n' + 1) (l ++ m) acc = scriptGo n' ((lineOf l).2.2.2 ++ m) (acc ++ [(lineOf l).1]) := by
          simp only [scriptGo]
          rw [if_neg (by simp [hne]), if_pos h2, h1, h3]
        rw [hstep, ih]
        have hmn : m.length ≤ n' := by simp only [List.length_append] at hn'; omega
        exact (scriptGo_more m.length n' m _ (Nat.le_refl _) hmn hmg).trans (scriptGo_more m.length (n' + 1) m _ (Nat.le_refl _) (by omega) hmg).symm
      · rw [if_neg hok] at h0
        simp at h0
theorem script_ok {t : List UInt8} (h : (script t).2.1 = 0) : (scan t).2.1 = 0 ∧ script t = scriptGo (scan t).1.length (scan t).1 [] := by
  have h0 : (scan t).2.1 = 0 := by
    apply Classical.byContradiction
    intro hn
    rw [script_bad hn] at h
    exact hn h
  exact ⟨h0, by unfold script; rw [if_neg (by simpa using h0)]⟩
/-- two sets of tokens, one behind the other -/
theorem scriptGo_two {l m : List Tok} {k : Tok → Int × Int} (hl : Good l) (hm : Good m) (hl0 : (scriptGo l.length l []).2.1 = 0) (hm0 : (scriptGo m.length m []).2.1 = 0) :
    scriptGo (l ++ m.map (Tok.mv k)).length (l ++ m.map (Tok.mv k)) [] = ((scriptGo l.length l []).1 ++ (scriptGo m.length m []).1, 0, 0, 0) := by
  have hms := hm.sh k
  have hlm : Good (l ++ m.map (Tok.mv k)) := by
    refine ⟨fun x hx => ?_, ?_, ?_⟩
    · rcases List.mem_append.1 hx with h | h
      · exact hl.fine x h
      · exact hms.fine x h
    · rw [noEmpty_append, hl.lines, Bool.true_and]
      rcases hl.ends with e | ⟨l', x, e, hx⟩
      · subst e; exact hms.lines
      · rw [e, begun_snoc, decide_eq_false (by simpa using hx)]; exact hms.lines
    · rcases hms.ends with e | ⟨l', x, e, hx⟩
      · rw [e, List.append_nil]; exact hl.ends
      · exact .inr ⟨l ++ l', x, by rw [e]; simp, hx⟩
  rw [scriptGo_append l.length l (m.map (Tok.mv k)) [] hl hlm (Nat.le_refl _) hl0 _ (Nat.le_refl _)]
  have hml : (m.map (Tok.mv k)).length = m.length := List.length_map ..
  rw [scriptGo_more (m.map (Tok.mv k)).length (l ++ m.map (Tok.mv k)).length (m.map (Tok.mv k)) _ (Nat.le_refl _) (by simp) hms, hml]
  have h1 := (scriptGo_acc m.length m (scriptGo l.length l []).1).2 hm0
  rw [scriptGo_sh k m.length m _ hm (Nat.le_refl _) (by rw [h1]), h1]
theorem join_script {a b : List UInt8} (ha : (script a).2.1 = 0) (hb : (script b).2.1 = 0) (hl : a.length + b.length + 1 ≤ 65536) : script (a ++ 10 :: b) = ((script a).1 ++ (script b).1, 0, 0, 0) := by
  obtain ⟨ha0, ea⟩ := script_ok ha
  obtain ⟨hb0, eb⟩ := script_ok hb
  obtain ⟨k, hk⟩ := join_scan ha0 hb0 hl
  have := scriptGo_two (k := fun y => (y.line + k, y.col)) (scan_good ha0).1 (scan_good hb0).1 (by rw [← ea]; exact ha) (by rw [← eb]; exact hb)
  unfold script
  rw [if_neg (by rw [hk]; simp), hk]
  dsimp only
  rw [this, if_neg (by simpa using ha0), if_neg (by simpa using hb0)]
theorem scriptGo_len : ∀ (n : Nat) (l : List Tok) (acc : List Call), Good l → l.length ≤ n → (scriptGo n l acc).1.length ≤ acc.length + l.length
  | 0, l, acc, _, _ => by simp [scriptGo]
  | n + 1, l, acc, hg, hl => by
    simp only [scriptGo]
    split
    · simp
    · split
      · rename_i hok
        obtain ⟨g1, g2⟩ := lineOf_rest hg hok
        have := scriptGo_len n (lineOf l).2.2.2 (acc ++ [(lineOf l).1]) g1 (by omega)
        simp only [List.length_append, List.length_cons, List.length_nil] at this
        omega
      · simp
theorem script_len (t : List UInt8) : (script t).1.length ≤ 65537 := by
  by_cases h : (scan t).2.1 = 0
  · obtain ⟨h1, h2⟩ := scan_good h
    have := scriptGo_len (scan t).1.length (scan t).1 [] h1 (Nat.le_refl _)
    unfold script
    rw [if_neg (by simpa using h)]
    simp only [List.length_nil] at this
    omega
  · rw [script_bad h]; simp
theorem calls_one (l : List Call) : (callsC l).all (·.oneCell') = true := by
  rw [List.all_eq_true]
  intro u hu
  obtain ⟨x, _, hx⟩ := List.mem_flatMap.1 hu
  simp only [Call.cells, List.mem_cons, List.not_mem_nil, or_false] at hx
  rcases hx with rfl | rfl | rfl | rfl | rfl | rfl <;> rfl
theorem calls_append (a b : List Call) : callsC (a ++ b) = callsC a ++ callsC b := by simp [callsC]
end Go.Proofs.Ln
