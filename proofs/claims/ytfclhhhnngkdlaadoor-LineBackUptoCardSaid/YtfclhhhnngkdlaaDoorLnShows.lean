/- Plain law: what Show prints of right tokens, Scan tells again, and so does Script. No condition beyond the length that a text may have. -/
import Derived.Test.YtfclhhhnngkdlaaDoorLnJoins
import Derived.Test.YtfclhhhnngkdlaaDoorLnAnswer
set_option linter.unusedVariables false
set_option linter.unusedSimpArgs false
namespace Go.Proofs.Ln
open Go Go.RowKit Go.Proofs.Eng

/-- a token without its place -/
abbrev Tok.bare (x : Tok) : Tok := x.mv fun _ => (0, 0)
theorem takeWhile_put {p : UInt8 → Bool} {d : UInt8} (hp : p d = false) (t b : List UInt8) : (t ++ d :: b).takeWhile p = t.takeWhile p := by
  induction t with
  | nil => simp [List.takeWhile_cons_of_neg, hp]
  | cons a t ih =>
    by_cases h : p a
    · rw [List.cons_append, List.takeWhile_cons_of_pos h, List.takeWhile_cons_of_pos h, ih]
    · rw [List.cons_append, List.takeWhile_cons_of_neg h, List.takeWhile_cons_of_neg h]
theorem inName_no {d : UInt8} (h : inName d = false) : small d = false ∧ digit d = false ∧ ¬ (d.toNat : Int) = 45 := by
  simp only [inName, Bool.or_eq_false_iff, decide_eq_false_iff_not] at h
  exact ⟨h.1.1, h.1.2, by omega⟩
theorem numb_put {t : List UInt8} {d : UInt8} (h : rightNum t = true) (hd : inName d = false) (b : List UInt8) : numb (t ++ d :: b) = (t.length, dval t) := by
  obtain ⟨h1, h2, h3⟩ := rightNum_spec h
  obtain ⟨d1, d2, d3⟩ := inName_no hd
  have := numb_yes (t := t ++ d :: b) (i := 0) (k := t.length) (by rw [List.drop_zero, takeWhile_put d2, takeWhile_all h3]; rfl) (by omega) (by simpa using h) (.inr ⟨d, by simp, d2, d1, d3⟩)
  simpa using this
theorem legal_spec {t : List UInt8} (h : legal t = true) : t.length ≤ 24 ∧ t.takeWhile inName = t ∧ ∃ c r, t = c :: r ∧ small c = true := by
  simp only [legal, Bool.and_eq_true, decide_eq_true_eq] at h
  obtain ⟨⟨h1, h2⟩, h3⟩ := h
  refine ⟨h1, (List.takeWhile_sublist _).eq_of_length h2, ?_⟩
  cases t with
  | nil => simp at h3
  | cons c r => exact ⟨c, r, rfl, h3⟩
theorem mark_spec {c : UInt8} (h : isMark c = true) : (¬ ((c.toNat : Int) = 32 ∨ (c.toNat : Int) = 9)) ∧ (¬ (c.toNat : Int) = 35) ∧ (¬ (c.toNat : Int) = 10) ∧ small c = false ∧ digit c = false := by
  simp only [isMark, Bool.or_eq_true, beq_iff_eq] at h
  rcases h with (((((h | h) | h) | h) | h) | h) | h <;> subst h <;> decide
theorem tok_step {s : Sc} {x : Tok} {d : UInt8} {q : List UInt8} (hr : right x = true) (h4 : ¬ x.kind = 4) (ht : s.t = x.text ++ d :: q) (hd : inName d = false) : ∃ c r, s.t = c :: r ∧ s.step c = (s.tell x.kind x.text.length x.number, 0) := by
  by_cases h1 : x.kind = 1
  · rw [right1 h1, Bool.and_eq_true] at hr
    obtain ⟨hl, hn⟩ := hr
    have hn : x.number = 0 := of_decide_eq_true hn
    obtain ⟨hl1, hl2, c, r, hx, hl3⟩ := legal_spec hl
    refine ⟨c, r ++ d :: q, by rw [ht, hx]; rfl, ?_⟩
    have e : s.t.takeWhile inName = x.text := by rw [ht, takeWhile_put hd, hl2]
    rw [step4 hl3, e, if_neg (by omega), h1, hn]
  · by_cases h2 : x.kind = 2
    · rw [right2r h2, Bool.and_eq_true] at hr
      obtain ⟨hl, hn⟩ := hr
      have hn : x.number = (dval x.text : Int) := of_decide_eq_true hn
      obtain ⟨l1, l2, l3⟩ := rightNum_spec hl
      have e := numb_put hl hd q
      rw [← ht] at e
      obtain ⟨c, r, hx⟩ : ∃ c r, x.text = c :: r := by
        cases hx : x.text with
        | nil => rw [hx] at l1; simp at l1
        | cons c r => exact ⟨c, r, rfl⟩
      refine ⟨c, r ++ d :: q, by rw [ht, hx]; rfl, ?_⟩
      rw [step5 (l3 c (by rw [hx]; exact List.mem_cons_self ..)), e, if_neg (by dsimp only; omega), h2, hn]
    · by_cases h3 : x.kind = 3
      · rw [right3 h3, Bool.and_eq_true] at hr
        obtain ⟨hl, hn⟩ := hr
        have hn : x.number = 0 := of_decide_eq_true hn
        obtain ⟨c, hx, hm⟩ : ∃ c, x.text = [c] ∧ isMark c = true := by
          match x.text, hl with
          | [c], hl => exact ⟨c, rfl, hl⟩
        obtain ⟨m1, m2, m3, m4, m5⟩ := mark_spec hm
        refine ⟨c, d :: q, by rw [ht, hx]; rfl, ?_⟩
        rw [step6 m1 m2 m3 m4 m5, if_pos hm, h3, hn, hx]
        rfl
      · rw [right4 h1 h2 h3] at hr
        simp [h4] at hr
theorem show_head {r : List Tok} {t : List UInt8} (h : showGo true r = some t) : ∃ d q, t = d :: q ∧ inName d = false := by
  cases r with
  | nil => simp [showGo] at h
  | cons x r =>
    simp only [showGo] at h
    split at h
    · cases h
    · split at h
      · obtain ⟨q, _, rfl⟩ := Option.map_eq_some_iff.1 h
        exact ⟨10, q, rfl, by decide⟩
      · obtain ⟨q, _, rfl⟩ := Option.map_eq_some_iff.1 h
        by_cases hs : True ∧ x.text ≠ [44] ∧ x.text ≠ [58]
        · exact ⟨32, x.text ++ q, by rw [if_pos (by simpa using hs)]; rfl, by decide⟩
        · have : x.text = [44] ∨ x.text = [58] := by
            by_cases h44 : x.text = [44]
            · exact .inl h44
            · by_cases h58 : x.text = [58]
              · exact .inr h58
              · exact absurd ⟨trivial, h44, h58⟩ hs
          rw [if_neg (by simpa using hs)]
          rcases this with e | e
          · exact ⟨44, q, by rw [e]; rfl, by decide⟩
          · exact ⟨58, q, by rw [e]; rfl, by decide⟩
theorem show_runs : ∀ (L : List Tok) (s : Sc), showGo s.any L = some s.t → ∃ s', Runs s s' ∧ s'.t = [] ∧ s'.any = false ∧ s'.l.map Tok.bare = s.l.map Tok.bare ++ L.map Tok.bare
  | [], s, h => by
    simp only [showGo] at h
    split at h
    · cases h
    · rename_i ha
      exact ⟨s, .nil s, (Option.some.inj h).symm, by simpa using ha, by simp⟩
  | x :: r, s, h => by
    simp only [showGo] at h
    split at h
    · cases h
    · rename_i hok
      simp only [not_or, Bool.not_eq_false, not_and] at hok
      obtain ⟨hr, hb⟩ := hok
      split at h
      · rename_i h4
        obtain ⟨t', ht', e⟩ := Option.map_eq_some_iff.1 h
        have hany : s.any = true := by simpa using hb h4
        have es : s.step 10 = (⟨t', s.line + 1, 1, false, s.l ++ [⟨4, [], 0, s.line, s.col⟩]⟩, 0) := by
          rw [step3 (by decide)]
          simp [Sc.ends, ← e, hany]
        obtain ⟨s', h1, h2, h3, h5⟩ := show_runs r ⟨t', s.line + 1, 1, false, s.l ++ [⟨4, [], 0, s.line, s.col⟩]⟩ ht'
        refine ⟨s', .cons (c := 10) (r := t') e.symm (by rw [es]) (by rw [es]; exact h1), h2, h3, ?_⟩
        rw [h5]
        rw [right4 (by omega) (by omega) (by omega)] at hr
        simp only [Bool.and_eq_true, decide_eq_true_eq] at hr
        have : x.bare = ⟨4, [], 0, 0, 0⟩ := by
          obtain ⟨kind, text, number, line, col⟩ := x
          simp only [Tok.mv] at hr ⊢
          rw [hr.1.1, hr.1.2, hr.2]
        simp [this, Tok.mv]
      · rename_i h4
        obtain ⟨t', ht', e⟩ := Option.map_eq_some_iff.1 h
        obtain ⟨d, q, ed, hd⟩ := show_head ht'
        have main : ∀ s1 : Sc, s1.t = x.text ++ t' → s1.l = s.l → ∃ s', Runs s1 s' ∧ s'.t = [] ∧ s'.any = false ∧ s'.l.map Tok.bare = s.l.map Tok.bare ++ (x :: r).map Tok.bare := by
          intro s1 h1t h1l
          obtain ⟨c, r1, ec, es⟩ := tok_step (s := s1) hr h4 (by rw [h1t, ed]) hd
          have ett : (s1.tell x.kind x.text.length x.number).t = t' := by simp [Sc.tell, h1t]
          have etl : (s1.tell x.kind x.text.length x.number).l.map Tok.bare = s.l.map Tok.bare ++ [x.bare] := by simp [Sc.tell, h1t, h1l, Tok.mv]
          obtain ⟨s', h1, h2, h3, h5⟩ := show_runs r (s1.tell x.kind x.text.length x.number) (by rw [ett]; exact ht')
          refine ⟨s', .cons ec (by rw [es]) (by rw [es]; exact h1), h2, h3, ?_⟩
          rw [h5, etl]
          simp
        by_cases hs : s.any = true ∧ x.text ≠ [44] ∧ x.text ≠ [58]
        · rw [if_pos hs] at e
          have e1 : s.t = 32 :: (x.text ++ t') := e.symm
          have es : s.step 32 = (s.pass 1, 0) := step1 (by decide)
          obtain ⟨s', h1, h2⟩ := main (s.pass 1) (by simp [Sc.pass, e1]) rfl
          exact ⟨s', .cons e1 (by rw [es]) (by rw [es]; exact h1), h2⟩
        · rw [if_neg hs] at e
          exact main s e.symm rfl
theorem scan_show {L : List Tok} {t : List UInt8} (h : showGo false L = some t) (hl : t.length ≤ 65536) : (scan t).2.1 = 0 ∧ (scan t).1.map Tok.bare = L.map Tok.bare := by
  obtain ⟨s', h1, h2, h3, h5⟩ := show_runs L (Sc.init t) h
  rw [scan_of_runs hl h1 h2]
  refine ⟨rfl, ?_⟩
  simp only [Sc.fin, h3, Bool.false_eq_true, if_false]
  simpa using h5
theorem scriptGo_sh0 (k : Tok → Int × Int) : ∀ (n : Nat) (l : List Tok) (acc : List Call), Good l → l.length ≤ n → (scriptGo n (l.map (Tok.mv k)) acc).2.1 = (scriptGo n l acc).2.1
  | 0, l, acc, _, _ => rfl
  | n + 1, l, acc, hg, hl => by
    rcases hg.ends with e | he
    · subst e; rfl
    · obtain ⟨h1, h2, h3⟩ := lineOf_sh k he
      have hne : l ≠ [] := by obtain ⟨x, r, e⟩ := he.cons; rw [e]; exact List.cons_ne_nil _ _
      simp only [scriptGo]
      rw [if_neg hne, if_neg (by simpa using hne), h2]
      by_cases hok : (lineOf l).2.2.1 = true
      · rw [if_pos hok, if_pos hok, h1, h3]
        obtain ⟨g1, g2⟩ := lineOf_rest hg hok
        exact scriptGo_sh0 k n _ _ g1 (by omega)
      · rw [if_neg hok, if_neg hok]
theorem script_show {L : List Tok} {t : List UInt8} (hg : Good L) (h : showGo false L = some t) (hl : t.length ≤ 65536) (h0 : (scriptGo L.length L []).2.1 = 0) : script t = scriptGo L.length L [] := by
  obtain ⟨h1, h2⟩ := scan_show h hl
  obtain ⟨g1, _⟩ := scan_good h1
  have hlen : (scan t).1.length = L.length := by simpa using congrArg List.length h2
  have e1 := scriptGo_sh (fun _ => (0, 0)) L.length L [] hg (Nat.le_refl _) h0
  have e2 := scriptGo_sh0 (fun _ => (0, 0)) L.length (scan t).1 [] g1 (by omega)
  have e3 := scriptGo_sh (fun _ => (0, 0)) L.length (scan t).1 [] g1 (by omega)
  have h2' : (scan t).1.map (Tok.mv fun _ => (0, 0)) = L.map (Tok.mv fun _ => (0, 0)) := h2
  rw [h2', e1] at e2 e3
  unfold script
  rw [if_neg (by simpa using h1), hlen, e3 (by rw [← e2]; exact h0)]
theorem show_append : ∀ (L M : List Tok) (b : Bool) (t u : List UInt8), showGo b L = some t → showGo false M = some u → showGo b (L ++ M) = some (t ++ u)
  | [], M, b, t, u, h, hm => by
    simp only [showGo] at h
    split at h
    · cases h
    · rename_i hb
      obtain rfl := Option.some.inj h
      obtain rfl : b = false := by simpa using hb
      exact hm
  | x :: r, M, b, t, u, h, hm => by
    simp only [showGo, List.cons_append] at h ⊢
    split at h
    · cases h
    · rename_i hok
      rw [if_neg hok]
      split at h
      · rename_i h4
        obtain ⟨q, hq, rfl⟩ := Option.map_eq_some_iff.1 h
        rw [if_pos h4, show_append r M false q u hq hm]
        rfl
      · rename_i h4
        obtain ⟨q, hq, rfl⟩ := Option.map_eq_some_iff.1 h
        rw [if_neg h4, show_append r M true q u hq hm]
        simp
/-! a call's own text -/
def tokOf (w : UInt8) (c : Call) : Tok := if w = 97 then ⟨1, c.a, 0, 0, 0⟩ else if w = 98 then ⟨1, c.b, 0, 0, 0⟩ else ⟨2, Lib.itoa c.n, c.n, 0, 0⟩
def fieldOk (w : UInt8) (c : Call) : Bool := if w = 97 then legal c.a else if w = 98 then legal c.b else decide (0 ≤ c.n) && decide (c.n ≤ 999999999)
def lineToks (f : Form) (c : Call) : List Tok := ⟨1, f.word, 0, 0, 0⟩ :: (f.like.map (fun w => tokOf w c) ++ [⟨4, [], 0, 0, 0⟩])
def lineText (f : Form) (c : Call) : List UInt8 := f.word ++ (f.like.flatMap fun w => 32 :: (tokOf w c).text) ++ [10]
def takes (like : List UInt8) (d c : Call) : Call := like.foldl (fun d w => d.put w (tokOf w c)) d
theorem dec_short : ∀ (k n : Nat), n < 10 ^ (k + 1) → (Lib.decDigits n).length ≤ k + 1
  | 0, n, h => by rw [Lib.decDigits_one (by simpa using h)]; simp
  | k + 1, n, h => by
    by_cases h1 : n < 10
    · rw [Lib.decDigits_one h1]; simp
    · rw [dec_big h1, List.length_append]
      have := dec_short k (n / 10) (by rw [Nat.pow_succ] at h; omega)
      simp only [List.length_cons, List.length_nil]
      omega
theorem dec_right (n : Nat) : 1 ≤ (Lib.decDigits n).length ∧ (∀ c ∈ Lib.decDigits n, digit c = true) ∧ dval (Lib.decDigits n) = n ∧ (1 ≤ n → ∃ c, (Lib.decDigits n)[0]? = some c ∧ c.toNat ≠ 48) := by
  induction n using Nat.strongRecOn with
  | _ n ih =>
  have dg : ∀ m, m < 10 → (UInt8.ofNat (48 + m)).toNat = 48 + m := fun m hm => by rw [UInt8.toNat_ofNat']; omega
  by_cases h1 : n < 10
  · rw [Lib.decDigits_one h1]
    refine ⟨by simp, fun c hc => ?_, ?_, fun hn => ⟨_, rfl, ?_⟩⟩
    · obtain rfl : c = UInt8.ofNat (48 + n) := by simpa using hc
      simp only [digit, Bool.and_eq_true, decide_eq_true_eq]
      rw [dg n h1]; omega
    · simp only [dval, List.foldl_cons, List.foldl_nil]
      rw [dg n h1]; omega
    · rw [dg n h1]; omega
  · obtain ⟨i1, i2, i3, i4⟩ := ih (n / 10) (by omega)
    rw [dec_big h1]
    refine ⟨by rw [List.length_append]; omega, fun c hc => ?_, ?_, fun hn => ?_⟩
    · rcases List.mem_append.1 hc with hc | hc
      · exact i2 c hc
      · obtain rfl : c = UInt8.ofNat (48 + n % 10) := by simpa using hc
        simp only [digit, Bool.and_eq_true, decide_eq_true_eq]
        rw [dg _ (by omega)]; omega
    · rw [dval_snoc, i3, dg _ (by omega)]; omega
    · obtain ⟨c, hc, h⟩ := i4 (by omega)
      exact ⟨c, by rw [List.getElem?_append_left (by omega)]; exact hc, h⟩
theorem dec_num {n : Nat} (h : n ≤ 999999999) : rightNum (Lib.decDigits n) = true := by
  obtain ⟨h1, h2, h3, h4⟩ := dec_right n
  refine rightNum_yes h1 (dec_short 8 n (by omega)) ?_ h2
  by_cases h0 : n = 0
  · subst h0; left; rw [Lib.decDigits_one (by omega)]; simp
  · exact .inr (h4 (by omega))
theorem tokOf_right {w : UInt8} {c : Call} (h : fieldOk w c = true) : right (tokOf w c) = true := by
  unfold fieldOk at h
  unfold tokOf
  split at h
  · rw [if_pos (by assumption), right1 rfl]; simpa using h
  · rw [if_neg (by assumption)]
    split at h
    · rw [if_pos (by assumption), right1 rfl]; simpa using h
    · rw [if_neg (by assumption), right2r rfl]
      simp only [Bool.and_eq_true, decide_eq_true_eq] at h ⊢
      obtain ⟨n, hn⟩ : ∃ n : Nat, c.n = n := ⟨c.n.toNat, by omega⟩
      rw [hn, Lib.itoa_nonneg]
      exact ⟨dec_num (by omega), by rw [(dec_right n).2.2.1]⟩
theorem tokOf_len {w : UInt8} {c : Call} (h : fieldOk w c = true) : (tokOf w c).text.length ≤ 24 := by
  have := tokOf_right h
  unfold tokOf at this ⊢
  split
  · rw [if_pos (by assumption), right1 rfl, Bool.and_eq_true] at this
    exact (legal_spec this.1).1
  · rw [if_neg (by assumption)] at this
    split
    · rw [if_pos (by assumption), right1 rfl, Bool.and_eq_true] at this
      exact (legal_spec this.1).1
    · rw [if_neg (by assumption), right2r rfl, Bool.and_eq_true] at this
      have := (rightNum_spec this.1).2.1
      dsimp only at this ⊢
      omega
theorem tokOf_kind {w : UInt8} {c : Call} (h : w = 97 ∨ w = 98 ∨ w = 110) : (tokOf w c).kind = kindOf w := by
  rcases h with h | h | h <;> subst h <;> rfl
theorem kindOf4 (w : UInt8) : ¬ kindOf w = 4 := by unfold kindOf; split <;> decide
theorem readLike_fields (c : Call) (z : Tok) (hz : z.kind = 4) : ∀ (like : List UInt8) (d : Call), (∀ w ∈ like, w = 97 ∨ w = 98 ∨ w = 110) → readLike like d (like.map (fun w => tokOf w c) ++ [z]) = (takes like d c, z, true, [])
  | [], d, _ => by rw [List.map_nil, List.nil_append, readLike_end, if_pos hz]; rfl
  | w :: ws, d, h => by
    rw [List.map_cons, List.cons_append, readLike_cons, if_pos (tokOf_kind (h w (List.mem_cons_self ..))), readLike_fields c z hz ws _ (fun v hv => h v (List.mem_cons_of_mem _ hv))]
    rfl
theorem find_word : ∀ f ∈ forms, forms.find? (fun g => decide (g.word = f.word)) = some f := by decide
theorem find_op : ∀ f ∈ forms, forms.find? (fun g => decide (g.op = f.op)) = some f := by decide
theorem word_legal : ∀ f ∈ forms, legal f.word = true ∧ f.word.length ≤ 8 ∧ f.word ≠ [102, 108, 111, 119] ∧ f.op ≠ 18 := by decide
theorem line_one {f : Form} {c : Call} (hf : f ∈ forms) (hop : f.op = c.op) : scriptGo (lineToks f c).length (lineToks f c) [] = ([takes f.like { Call.zero with op := c.op } c], 0, 0, 0) := by
  obtain ⟨w1, w2, w3, w4⟩ := word_legal f hf
  have e : lineOf (lineToks f c) = (takes f.like { Call.zero with op := c.op } c, ⟨4, [], 0, 0, 0⟩, true, []) := by
    unfold lineToks
    simp only [lineOf]
    rw [if_neg (by simp [isWord, w3])]
    simp only [callOf, if_pos]
    rw [find_word f hf]
    dsimp only
    rw [readLike_fields c _ rfl f.like _ (like_letters f hf), hop]
  have hn : (lineToks f c).length = (f.like.length + 1) + 1 := by simp [lineToks]
  rw [hn]
  have hne : lineToks f c ≠ [] := by simp [lineToks]
  rw [scriptGo, if_neg hne, e]
  dsimp only
  rw [if_pos rfl, scriptGo_nil]
  rfl
theorem showGo_fields (c : Call) : ∀ (like : List UInt8), (∀ w ∈ like, fieldOk w c = true) → (∀ w ∈ like, w = 97 ∨ w = 98 ∨ w = 110) → showGo true (like.map (fun w => tokOf w c) ++ [⟨4, [], 0, 0, 0⟩]) = some ((like.flatMap fun w => 32 :: (tokOf w c).text) ++ [10])
  | [], _, _ => rfl
  | w :: ws, h, hl => by
    have hr := tokOf_right (h w (List.mem_cons_self ..))
    have hk := tokOf_kind (c := c) (hl w (List.mem_cons_self ..))
    have h4 : ¬ (tokOf w c).kind = 4 := by rw [hk]; exact kindOf4 w
    have hs : (tokOf w c).text ≠ [44] ∧ (tokOf w c).text ≠ [58] := by
      by_cases h1 : (tokOf w c).kind = 1
      · rw [right1 h1, Bool.and_eq_true] at hr
        constructor <;> intro e <;> (rw [e] at hr; exact absurd hr.1 (by decide))
      · have h2 : (tokOf w c).kind = 2 := by
          rw [hk] at h1 ⊢
          unfold kindOf at h1 ⊢
          split
          · rfl
          · rw [if_neg (by assumption)] at h1; exact absurd rfl h1
        rw [right2r h2, Bool.and_eq_true] at hr
        constructor <;> intro e <;> (rw [e] at hr; exact absurd hr.1 (by decide))
    rw [List.map_cons, List.cons_append, showGo_sep hr h4 ⟨rfl, hs⟩, showGo_fields c ws (fun v hv => h v (List.mem_cons_of_mem _ hv)) (fun v hv => hl v (List.mem_cons_of_mem _ hv))]
    simp
theorem line_show {f : Form} {c : Call} (hf : f ∈ forms) (hok : ∀ w ∈ f.like, fieldOk w c = true) : showGo false (lineToks f c) = some (lineText f c) := by
  obtain ⟨w1, w2, w3, w4⟩ := word_legal f hf
  unfold lineToks
  rw [showGo_tok (by rw [right1 rfl]; simpa using w1) (by dsimp only; omega) (by simp), showGo_fields c f.like hok (like_letters f hf)]
  simp [lineText]
theorem line_good {f : Form} {c : Call} (hf : f ∈ forms) (hok : ∀ w ∈ f.like, fieldOk w c = true) : Good (lineToks f c) := by
  obtain ⟨w1, w2, w3, w4⟩ := word_legal f hf
  have h4 : ∀ x ∈ f.like.map (fun w => tokOf w c), x.kind ≠ 4 := fun x hx => by
    obtain ⟨w, hw, rfl⟩ := List.mem_map.1 hx
    rw [tokOf_kind (like_letters f hf w hw)]
    exact kindOf4 w
  refine ⟨fun x hx => ?_, ?_, .inr ⟨⟨1, f.word, 0, 0, 0⟩ :: f.like.map (fun w => tokOf w c), _, rfl, rfl⟩⟩
  · rcases List.mem_cons.1 hx with rfl | hx
    · exact ⟨by rw [right1 rfl]; simpa using w1, by dsimp only; omega⟩
    · rcases List.mem_append.1 hx with hx | hx
      · obtain ⟨w, hw, rfl⟩ := List.mem_map.1 hx
        exact ⟨tokOf_right (hok w hw), by have := tokOf_len (hok w hw); omega⟩
      · obtain rfl : x = ⟨4, [], 0, 0, 0⟩ := by simpa using hx
        exact ⟨by decide, by simp⟩
  · unfold lineToks
    simp only [noEmpty]
    rw [if_neg (by decide)]
    have gen : ∀ l : List Tok, (∀ x ∈ l, x.kind ≠ 4) → noEmpty true (l ++ [⟨4, [], 0, 0, 0⟩]) = true := by
      intro l
      induction l with
      | nil => intro _; rfl
      | cons x l ih =>
        intro h
        simp only [List.cons_append, noEmpty]
        rw [if_neg (h x (List.mem_cons_self ..))]
        exact ih fun y hy => h y (List.mem_cons_of_mem _ hy)
    exact gen _ h4
theorem line_len {f : Form} {c : Call} (hf : f ∈ forms) (hok : ∀ w ∈ f.like, fieldOk w c = true) : (lineText f c).length ≤ 100 := by
  obtain ⟨w1, w2, w3, w4⟩ := word_legal f hf
  have gen : ∀ l : List UInt8, (∀ w ∈ l, fieldOk w c = true) → (l.flatMap fun w => 32 :: (tokOf w c).text).length ≤ 25 * l.length := by
    intro l
    induction l with
    | nil => intro _; simp
    | cons w l ih =>
      intro h
      rw [List.flatMap_cons, List.length_append, List.length_cons, List.length_cons]
      have h1 := tokOf_len (h w (List.mem_cons_self ..))
      have h2 := ih fun y hy => h y (List.mem_cons_of_mem _ hy)
      omega
  have h1 := gen f.like hok
  have h2 := like_len f hf
  unfold lineText
  rw [List.length_append, List.length_append, List.length_cons, List.length_nil]
  omega
/-- the text of a call that tells it -/
theorem line_script {f : Form} {c : Call} (hf : f ∈ forms) (hop : f.op = c.op) (hok : ∀ w ∈ f.like, fieldOk w c = true) (hc : takes f.like { Call.zero with op := c.op } c = c) : script (lineText f c) = ([c], 0, 0, 0) := by
  have h1 := line_one (c := c) hf hop
  rw [hc] at h1
  rw [script_show (line_good hf hok) (line_show hf hok) (by have := line_len hf hok; omega) (by rw [h1]), h1]
/-! a call that a script tells -/
theorem tok_legal {x : Tok} (h : right x = true) (hk : x.kind = 1) : legal x.text = true := by
  rw [right1 hk, Bool.and_eq_true] at h; exact h.1
theorem tok_number {x : Tok} (h : right x = true) (hk : x.kind = 2) : 0 ≤ x.number ∧ x.number ≤ 999999999 := by
  rw [right2r hk, Bool.and_eq_true] at h
  have h2 : x.number = (dval x.text : Int) := of_decide_eq_true h.2
  obtain ⟨h3, h4, h5⟩ := rightNum_spec h.1
  have h6 := dval_lt x.text h5
  have h7 : (10 : Nat) ^ x.text.length ≤ 10 ^ 9 := Nat.pow_le_pow_right (by omega) h4
  omega
theorem rl_cons {w : UInt8} {ws : List UInt8} {d : Call} {l : List Tok} (h : (readLike (w :: ws) d l).2.2.1 = true) : ∃ t r, l = t :: r ∧ t.kind = kindOf w ∧ readLike (w :: ws) d l = readLike ws (d.put w t) r := by
  cases l with
  | nil => simp [readLike] at h
  | cons t r =>
    rw [readLike_cons] at h ⊢
    split at h
    · rename_i hk
      exact ⟨t, r, rfl, hk, by rw [if_pos hk]⟩
    · simp at h
theorem rl_nil {d : Call} {l : List Tok} (h : (readLike [] d l).2.2.1 = true) : (readLike [] d l).1 = d := by
  cases l with
  | nil => simp [readLike] at h
  | cons t r =>
    rw [readLike_end] at h ⊢
    split at h
    · rename_i hk; rw [if_pos hk]
    · simp at h
theorem likes : ∀ f ∈ forms, f.like = [] ∨ f.like = [97] ∨ f.like = [98] ∨ f.like = [110] ∨ f.like = [97, 98] ∨ f.like = [97, 110] ∨ f.like = [98, 110] ∨ f.like = [97, 98, 110] := by decide
theorem likeGo_ok {like : List UInt8} (hl : like = [] ∨ like = [97] ∨ like = [98] ∨ like = [110] ∨ like = [97, 98] ∨ like = [97, 110] ∨ like = [98, 110] ∨ like = [97, 98, 110]) {op : Int} {l : List Tok} (hr : ∀ x ∈ l, right x = true) (h : (readLike like { Call.zero with op := op } l).2.2.1 = true) :
    (readLike like { Call.zero with op := op } l).1.op = op ∧ (∀ w ∈ like, fieldOk w (readLike like { Call.zero with op := op } l).1 = true) ∧ takes like { Call.zero with op := op } (readLike like { Call.zero with op := op } l).1 = (readLike like { Call.zero with op := op } l).1 := by
  have name : ∀ {x : Tok}, x ∈ l → x.kind = 1 → legal x.text = true := fun hx hk => tok_legal (hr _ hx) hk
  have num : ∀ {x : Tok}, x ∈ l → x.kind = 2 → 0 ≤ x.number ∧ x.number ≤ 999999999 := fun hx hk => tok_number (hr _ hx) hk
  rcases hl with rfl | rfl | rfl | rfl | rfl | rfl | rfl | rfl
  · rw [rl_nil h]
    exact ⟨rfl, fun w hw => (by cases hw), rfl⟩
  · obtain ⟨t, r, rfl, k1, e1⟩ := rl_cons h
    rw [e1] at h ⊢
    rw [rl_nil h]
    have := name (List.mem_cons_self ..) k1
    exact ⟨rfl, by simpa [fieldOk, Call.put] using this, rfl⟩
  · obtain ⟨t, r, rfl, k1, e1⟩ := rl_cons h
    rw [e1] at h ⊢
    rw [rl_nil h]
    have := name (List.mem_cons_self ..) k1
    exact ⟨rfl, by simpa [fieldOk, Call.put] using this, rfl⟩
  · obtain ⟨t, r, rfl, k1, e1⟩ := rl_cons h
    rw [e1] at h ⊢
    rw [rl_nil h]
    have := num (List.mem_cons_self ..) k1
    exact ⟨rfl, by simpa [fieldOk, Call.put] using this, rfl⟩
  · obtain ⟨t, r, rfl, k1, e1⟩ := rl_cons h
    rw [e1] at h ⊢
    obtain ⟨t2, r2, rfl, k2, e2⟩ := rl_cons h
    rw [e2] at h ⊢
    rw [rl_nil h]
    have n1 := name (List.mem_cons_self ..) k1
    have n2 := name (List.mem_cons_of_mem _ (List.mem_cons_self ..)) k2
    exact ⟨rfl, by simpa [fieldOk, Call.put] using ⟨n1, n2⟩, rfl⟩
  · obtain ⟨t, r, rfl, k1, e1⟩ := rl_cons h
    rw [e1] at h ⊢
    obtain ⟨t2, r2, rfl, k2, e2⟩ := rl_cons h
    rw [e2] at h ⊢
    rw [rl_nil h]
    have n1 := name (List.mem_cons_self ..) k1
    have n2 := num (List.mem_cons_of_mem _ (List.mem_cons_self ..)) k2
    exact ⟨rfl, by simpa [fieldOk, Call.put] using ⟨n1, n2⟩, rfl⟩
  · obtain ⟨t, r, rfl, k1, e1⟩ := rl_cons h
    rw [e1] at h ⊢
    obtain ⟨t2, r2, rfl, k2, e2⟩ := rl_cons h
    rw [e2] at h ⊢
    rw [rl_nil h]
    have n1 := name (List.mem_cons_self ..) k1
    have n2 := num (List.mem_cons_of_mem _ (List.mem_cons_self ..)) k2
    exact ⟨rfl, by simpa [fieldOk, Call.put] using ⟨n1, n2⟩, rfl⟩
  · obtain ⟨t, r, rfl, k1, e1⟩ := rl_cons h
    rw [e1] at h ⊢
    obtain ⟨t2, r2, rfl, k2, e2⟩ := rl_cons h
    rw [e2] at h ⊢
    obtain ⟨t3, r3, rfl, k3, e3⟩ := rl_cons h
    rw [e3] at h ⊢
    rw [rl_nil h]
    have n1 := name (List.mem_cons_self ..) k1
    have n2 := name (List.mem_cons_of_mem _ (List.mem_cons_self ..)) k2
    have n3 := num (List.mem_cons_of_mem _ (List.mem_cons_of_mem _ (List.mem_cons_self ..))) k3
    exact ⟨rfl, by simpa [fieldOk, Call.put] using ⟨n1, n2, n3⟩, rfl⟩
theorem flowEnd_take : ∀ (l : List Tok) (n : Nat), flowEnd l = some n → flowEnd (l.take n) = some n
  | [], n, h => by simp [flowEnd] at h
  | [_], n, h => by simp [flowEnd] at h
  | [_, _], n, h => by simp [flowEnd] at h
  | x :: y :: z :: r, n, h => by
    have hs := flowEnd_spec _ n h
    simp only [flowEnd] at h
    split at h
    · rename_i ha
      obtain rfl : 3 = n := Option.some.inj h
      simp [flowEnd, ha]
    · rename_i ha
      obtain ⟨q, hq, rfl⟩ := Option.map_eq_some_iff.1 h
      have h3 : 3 ≤ q := (flowEnd_spec _ q hq).choose_spec.choose_spec.2.2.2
      have ih := flowEnd_take (y :: z :: r) q hq
      obtain ⟨m, rfl⟩ : ∃ m, q = m + 2 := ⟨q - 2, by omega⟩
      simp only [List.take_succ_cons] at ih ⊢
      simp only [flowEnd, if_neg ha]
      rw [ih]
      rfl
/-- tokens that tell a call, and their text -/
structure Tells (c : Call) (L : List Tok) (t : List UInt8) : Prop where
  good : Good L
  text : showGo false L = some t
  one : scriptGo L.length L [] = ([c], 0, 0, 0)
/-- a call that has a text -/
inductive Said (c : Call) : Prop
  | flow (L : List Tok) (h18 : c.op = 18) (h : Tells c L c.text) (hz : c.a = [] ∧ c.b = [] ∧ c.n = 0)
  | line (f : Form) (hf : f ∈ forms) (hop : f.op = c.op) (hok : ∀ w ∈ f.like, fieldOk w c = true) (hc : takes f.like { Call.zero with op := c.op } c = c)
theorem Said.small {c : Call} (h : Said c) : c.a.length ≤ 24 ∧ c.b.length ≤ 24 ∧ 0 ≤ c.n ∧ c.n ≤ 999999999 := by
  rcases h with ⟨_, _, _, ha, hb, hn⟩ | ⟨f, hf, hop, hok, hc⟩
  · rw [ha, hb, hn]; decide
  · have h1 : (∀ w ∈ f.like, fieldOk w c = true) → takes f.like { Call.zero with op := c.op } c = c → c.a.length ≤ 24 ∧ c.b.length ≤ 24 ∧ 0 ≤ c.n ∧ c.n ≤ 999999999 := by
      have na : fieldOk 97 c = true → c.a.length ≤ 24 := fun h => (legal_spec (show legal c.a = true from h)).1
      have nb : fieldOk 98 c = true → c.b.length ≤ 24 := fun h => (legal_spec (show legal c.b = true from h)).1
      have nn : fieldOk 110 c = true → 0 ≤ c.n ∧ c.n ≤ 999999999 := fun h => by
        have h' : (decide (0 ≤ c.n) && decide (c.n ≤ 999999999)) = true := h
        simpa using h'
      have za : ∀ {d : Call}, d = c → d.a = [] → c.a.length ≤ 24 := fun e h => by rw [← e, h]; simp
      have zb : ∀ {d : Call}, d = c → d.b = [] → c.b.length ≤ 24 := fun e h => by rw [← e, h]; simp
      have zn : ∀ {d : Call}, d = c → d.n = 0 → 0 ≤ c.n ∧ c.n ≤ 999999999 := fun e h => by rw [← e, h]; decide
      rcases likes f hf with e | e | e | e | e | e | e | e <;> rw [e] <;> intro h1 h2
      · exact ⟨za h2 rfl, zb h2 rfl, zn h2 rfl⟩
      · exact ⟨na (h1 _ (by simp)), zb h2 rfl, zn h2 rfl⟩
      · exact ⟨za h2 rfl, nb (h1 _ (by simp)), zn h2 rfl⟩
      · exact ⟨za h2 rfl, zb h2 rfl, nn (h1 _ (by simp))⟩
      · exact ⟨na (h1 _ (by simp)), nb (h1 _ (by simp)), zn h2 rfl⟩
      · exact ⟨na (h1 _ (by simp)), zb h2 rfl, nn (h1 _ (by simp))⟩
      · exact ⟨za h2 rfl, nb (h1 _ (by simp)), nn (h1 _ (by simp))⟩
      · exact ⟨na (h1 _ (by simp)), nb (h1 _ (by simp)), nn (h1 _ (by simp))⟩
    exact h1 hok hc
theorem Said.of_line {l : List Tok} (hg : Good l) (hok : (lineOf l).2.2.1 = true) : Said (lineOf l).1 := by
  cases l with
  | nil => simp [lineOf] at hok
  | cons x r =>
    simp only [lineOf] at hok ⊢
    by_cases hw : isWord x [102, 108, 111, 119] = true
    · rw [if_pos hw] at hok ⊢
      unfold flowOf at hok ⊢
      cases hn : flowEnd (x :: r) with
      | none => rw [hn] at hok; simp at hok
      | some n =>
        dsimp only
        obtain ⟨m, z, h1, h2, h3, h4⟩ := flowEnd_spec _ n hn
        obtain ⟨t, ht⟩ := hg.take hn
        have hgl : Good ((x :: r).take n) := by
          refine ⟨fun y hy => hg.fine y (List.mem_of_mem_take hy), ?_, .inr ⟨m, z, h1, h2⟩⟩
          have := hg.lines
          rw [← List.take_append_drop n (x :: r), noEmpty_append, Bool.and_eq_true] at this
          exact this.1
        have hlen : ((x :: r).take n).length = n := by rw [List.length_take]; omega
        refine .flow ((x :: r).take n) rfl ⟨hgl, by rw [ht]; rfl, ?_⟩ ⟨rfl, rfl, rfl⟩
        have ht2 := flowEnd_take _ n hn
        obtain ⟨k, rfl⟩ : ∃ k, n = k + 1 := ⟨n - 1, by omega⟩
        rw [hlen]
        simp only [scriptGo]
        rw [if_neg (fun e => by rw [e] at hlen; simp at hlen)]
        have e : lineOf ((x :: r).take (k + 1)) = ({ Call.zero with op := 18, text := (showGo false ((x :: r).take (k + 1))).getD [] }, Tok.zero, true, []) := by
          rw [List.take_succ_cons] at ht2 hlen ⊢
          simp only [lineOf]
          rw [if_pos hw]
          unfold flowOf
          rw [ht2]
          dsimp only
          rw [List.take_of_length_le (by omega), List.drop_of_length_le (by omega)]
        rw [e, if_pos rfl]
        exact scriptGo_nil _ _
    · rw [if_neg hw] at hok ⊢
      simp only [callOf] at hok ⊢
      by_cases h1 : x.kind = 1
      · rw [if_pos h1] at hok ⊢
        cases hf : forms.find? (fun f => decide (f.word = x.text)) with
        | none => rw [hf] at hok; simp at hok
        | some f =>
          rw [hf] at hok
          dsimp only at hok ⊢
          have hm := List.mem_of_find?_eq_some hf
          obtain ⟨e1, e2, e3⟩ := likeGo_ok (likes f hm) (op := f.op) (l := r) (fun y hy => (hg.fine y (List.mem_cons_of_mem _ hy)).1) hok
          exact .line f hm e1.symm e2 (by rw [e1]; exact e3)
      · rw [if_neg h1] at hok; simp at hok
theorem scriptGo_said : ∀ (n : Nat) (l : List Tok) (acc : List Call), Good l → l.length ≤ n → (∀ c ∈ acc, Said c) → (scriptGo n l acc).2.1 = 0 → ∀ c ∈ (scriptGo n l acc).1, Said c
  | 0, l, acc, _, _, ha, _ => ha
  | n + 1, l, acc, hg, hl, ha, h0 => by
    simp only [scriptGo] at h0 ⊢
    split
    · exact ha
    · rename_i hne
      rw [if_neg hne] at h0
      by_cases hok : (lineOf l).2.2.1 = true
      · rw [if_pos hok] at h0 ⊢
        obtain ⟨g1, g2⟩ := lineOf_rest hg hok
        refine scriptGo_said n _ _ g1 (by omega) (fun c hc => ?_) h0
        rcases List.mem_append.1 hc with hc | hc
        · exact ha c hc
        · obtain rfl : c = (lineOf l).1 := by simpa using hc
          exact Said.of_line hg hok
      · rw [if_neg hok] at h0
        simp at h0
theorem script_empty {t : List UInt8} (h : ¬ (script t).2.1 = 0) : (script t).1 = [] := by
  by_cases h0 : (scan t).2.1 = 0
  · exact (script_place h0 h).1
  · rw [script_bad h0]
theorem script_said {t : List UInt8} : ∀ c ∈ (script t).1, Said c := by
  intro c hc
  by_cases h : (script t).2.1 = 0
  · obtain ⟨h0, e⟩ := script_ok h
    rw [e] at hc h
    exact scriptGo_said _ _ [] (scan_good h0).1 (Nat.le_refl _) (fun c hc => by cases hc) h c hc
  · rw [script_empty h] at hc; cases hc
/-! what Show tells -/
def showText (c : Call) : Option (List UInt8) := if c.op = 18 then some c.text else (forms.find? fun g => decide (g.op = c.op)).map fun f => lineText f c
def showOf (c : Call) : List UInt8 × Int := match showText c with
  | none => ([], 3)
  | some t => if (script t).1 = [c] then (t, 0) else ([], 3)
theorem find_form {c : Call} {f : Form} (h : forms.find? (fun g => decide (g.op = c.op)) = some f) : f ∈ forms ∧ f.op = c.op := ⟨List.mem_of_find?_eq_some h, by simpa using List.find?_some h⟩
theorem find_of {c : Call} {f : Form} (hf : f ∈ forms) (hop : f.op = c.op) : forms.find? (fun g => decide (g.op = c.op)) = some f := by rw [← hop]; exact find_op f hf
theorem line_iff {f : Form} {c : Call} (hf : f ∈ forms) (hop : f.op = c.op) : (script (lineText f c)).1 = [c] ↔ (f.like.all (fun w => fieldOk w c) = true ∧ takes f.like { Call.zero with op := c.op } c = c) := by
  constructor
  · intro h
    rcases script_said (t := lineText f c) c (by rw [h]; exact List.mem_cons_self ..) with ⟨L, h18, _, _⟩ | ⟨g, hg, hgo, hok, hc⟩
    · exact absurd (hop.trans h18) (word_legal f hf).2.2.2
    · obtain rfl : f = g := Option.some.inj ((find_of hf hop).symm.trans (find_of hg hgo))
      exact ⟨List.all_eq_true.2 hok, hc⟩
  · rintro ⟨h1, h2⟩
    rw [line_script hf hop (List.all_eq_true.1 h1) h2]
/-- the document's answer -/
def showRef (c : Call) : List UInt8 × Bool := if c.op = 18 then (c.text, decide ((script c.text).2.1 = 0) && decide ((script c.text).1 = [c]))
  else match forms.find? (fun g => decide (g.op = c.op)) with
    | none => ([], false)
    | some f => if f.like.all (fun w => fieldOk w c) = true then (lineText f c, decide (takes f.like { Call.zero with op := c.op } c = c)) else ([], false)
theorem show_ref (c : Call) : showOf c = if (showRef c).2 = true then ((showRef c).1, 0) else ([], 3) := by
  by_cases h18 : c.op = 18
  · have e1 : showOf c = if (script c.text).1 = [c] then (c.text, 0) else ([], 3) := by unfold showOf showText; rw [if_pos h18]
    have e2 : showRef c = (c.text, decide ((script c.text).2.1 = 0) && decide ((script c.text).1 = [c])) := by unfold showRef; rw [if_pos h18]
    rw [e1, e2]
    by_cases h : (script c.text).1 = [c]
    · have h0 : (script c.text).2.1 = 0 := Classical.byContradiction fun hn => by rw [script_empty hn] at h; cases h
      rw [if_pos h, if_pos (by simp [h, h0])]
    · rw [if_neg h, if_neg (by simp [h])]
  · cases hf : forms.find? (fun g => decide (g.op = c.op)) with
    | none =>
      have e1 : showOf c = ([], 3) := by unfold showOf showText; rw [if_neg h18, hf]; rfl
      have e2 : showRef c = ([], false) := by unfold showRef; rw [if_neg h18, hf]
      rw [e1, e2]
      rfl
    | some f =>
      obtain ⟨hm, hop⟩ := find_form hf
      have hi := line_iff (c := c) hm hop
      have e1 : showOf c = if (script (lineText f c)).1 = [c] then (lineText f c, 0) else ([], 3) := by unfold showOf showText; rw [if_neg h18, hf]; rfl
      have e2 : showRef c = if f.like.all (fun w => fieldOk w c) = true then (lineText f c, decide (takes f.like { Call.zero with op := c.op } c = c)) else ([], false) := by unfold showRef; rw [if_neg h18, hf]
      rw [e1, e2]
      by_cases h1 : f.like.all (fun w => fieldOk w c) = true
      · rw [if_pos h1]
        by_cases h2 : takes f.like { Call.zero with op := c.op } c = c
        · rw [if_pos (hi.2 ⟨h1, h2⟩), if_pos (by simp [h2])]
        · rw [if_neg (fun h => h2 (hi.1 h).2), if_neg (by simp [h2])]
      · rw [if_neg h1, if_neg (fun h => h1 (hi.1 h).1), if_neg (by simp)]
/-! there and back -/
theorem show_said {c : Call} (h : Said c) : ((showOf c).2 = 0 ∧ ∃ L, Tells c L (showOf c).1 ∧ (showOf c).1.length ≤ 65536) ∨ ((showOf c).2 ≠ 0 ∧ 65536 < c.text.length) := by
  rcases h with ⟨L, h18, h, _⟩ | ⟨f, hf, hop, hok, hc⟩
  · by_cases hl : c.text.length ≤ 65536
    · left
      have hs := script_show h.good h.text hl (by rw [h.one])
      rw [h.one] at hs
      have e : showOf c = (c.text, 0) := by
        unfold showOf showText
        rw [if_pos h18]
        dsimp only
        rw [if_pos (by rw [hs])]
      rw [e]
      exact ⟨rfl, L, h, hl⟩
    · right
      refine ⟨?_, by omega⟩
      unfold showOf showText
      rw [if_pos h18]
      dsimp only
      have : (script c.text).1 = [] := by
        rw [script_bad (by rw [scan_big (by omega)]; decide)]
      rw [this, if_neg (by simp)]
      simp
  · left
    have h18 : ¬ c.op = 18 := fun e => (word_legal f hf).2.2.2 (hop.trans e)
    have e : showOf c = (lineText f c, 0) := by
      unfold showOf showText
      rw [if_neg h18, find_of hf hop]
      dsimp only [Option.map_some]
      rw [if_pos ((line_iff hf hop).2 ⟨List.all_eq_true.2 hok, hc⟩)]
    rw [e]
    have h1 := line_one (c := c) hf hop
    rw [hc] at h1
    exact ⟨rfl, lineToks f c, ⟨line_good hf hok, line_show hf hok, h1⟩, by have := line_len hf hok; dsimp only; omega⟩
/-- the calls so far, in one text -/
structure Sofar (cs : List Call) (t : List UInt8) : Prop where
  toks : ∃ L, Good L ∧ showGo false L = some t ∧ scriptGo L.length L [] = (cs, 0, 0, 0)
  len : t.length ≤ 65536 * cs.length
theorem Sofar.nil : Sofar [] [] := ⟨⟨[], ⟨fun x hx => (by cases hx), rfl, .inl rfl⟩, rfl, rfl⟩, by simp⟩
theorem Sofar.snoc {cs : List Call} {t u : List UInt8} {c : Call} {M : List Tok} (h : Sofar cs t) (hm : Tells c M u) (hl : u.length ≤ 65536) : Sofar (cs ++ [c]) (t ++ u) := by
  obtain ⟨⟨L, h1, h2, h3⟩, h4⟩ := h
  have e : M.map (Tok.mv fun y => (y.line, y.col)) = M := by
    have : (Tok.mv fun y => (y.line, y.col)) = id := by funext y; rfl
    rw [this, List.map_id]
  have h5 := scriptGo_two (k := fun y => (y.line, y.col)) h1 hm.good (by rw [h3]) (by rw [hm.one])
  rw [e, h3, hm.one] at h5
  have hg : Good (L ++ M) := by
    refine ⟨fun x hx => ?_, ?_, ?_⟩
    · rcases List.mem_append.1 hx with hx | hx
      · exact h1.fine x hx
      · exact hm.good.fine x hx
    · rw [noEmpty_append, h1.lines, Bool.true_and]
      rcases h1.ends with e | ⟨l', x, e, hx⟩
      · subst e; exact hm.good.lines
      · rw [e, begun_snoc, decide_eq_false (by simpa using hx)]; exact hm.good.lines
    · rcases hm.good.ends with e | ⟨l', x, e, hx⟩
      · rw [e, List.append_nil]; exact h1.ends
      · exact .inr ⟨L ++ l', x, by rw [e]; simp, hx⟩
  exact ⟨⟨L ++ M, hg, show_append L M false t u h2 hm.text, h5⟩, by simp only [List.length_append, List.length_cons, List.length_nil]; omega⟩
theorem Sofar.script {cs : List Call} {t : List UInt8} (h : Sofar cs t) (hl : t.length ≤ 65536) : script t = (cs, 0, 0, 0) := by
  obtain ⟨⟨L, h1, h2, h3⟩, h4⟩ := h
  rw [script_show h1 h2 hl (by rw [h3]), h3]
theorem script_long {t : List UInt8} (h : 65536 < t.length) : (Go.Proofs.Ln.script t).2.1 = 2 := by
  rw [script_bad (by rw [scan_big h]; decide), scan_big h]
theorem showOf_zero {c : Call} (h : (showOf c).2 = 0) : Go.Proofs.Ln.script (showOf c).1 = ([c], 0, 0, 0) := by
  unfold showOf at h ⊢
  split at h
  · simp at h
  · split at h
    · rename_i hs
      rw [if_pos hs]
      have h0 : ∀ q, (Go.Proofs.Ln.script q).1 = [c] → Go.Proofs.Ln.script q = ([c], 0, 0, 0) := by
        intro q hq
        have hz : (Go.Proofs.Ln.script q).2.1 = 0 := Classical.byContradiction fun hn => by rw [script_empty hn] at hq; cases hq
        have := script_fine (script_ok hz).1 hz
        rw [Prod.ext_iff]
        exact ⟨hq, this⟩
      exact h0 _ hs
    · simp at h
end Go.Proofs.Ln
