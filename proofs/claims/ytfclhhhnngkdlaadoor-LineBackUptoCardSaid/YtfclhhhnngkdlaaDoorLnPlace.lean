/- Plain law: a script's fault stands where one of the text's tokens stands. No condition. -/
import Derived.Test.YtfclhhhnngkdlaaDoorLnAns
set_option linter.unusedVariables false
set_option linter.unusedSimpArgs false
namespace Go.Proofs.Ln
open Go Go.RowKit Go.Proofs.Eng

theorem readLike_bad : ∀ (like : List UInt8) (c : Call) (l : List Tok), Ends l → (readLike like c l).2.1 ∈ l
  | like, c, [], h => by obtain ⟨_, _, h⟩ := h.cons; cases h
  | [], c, x :: r, h => by
    rw [readLike_end]
    split <;> exact List.mem_cons_self ..
  | w :: ws, c, x :: r, h => by
    rw [readLike_cons]
    split
    · rename_i hk
      exact List.mem_cons_of_mem _ (readLike_bad ws _ r (h.tail (by rw [hk]; unfold kindOf; split <;> decide)))
    · exact List.mem_cons_self ..
theorem callOf_bad {l : List Tok} (h : Ends l) : (callOf l).2.1 ∈ l := by
  obtain ⟨x, r, rfl⟩ := h.cons
  simp only [callOf]
  split
  · rename_i hk
    split
    · exact List.mem_cons_self ..
    · exact List.mem_cons_of_mem _ (readLike_bad _ _ r (h.tail (by omega)))
  · exact List.mem_cons_self ..
theorem lineOf_bad {l : List Tok} (h : Ends l) (hok : (lineOf l).2.2.1 = false) : (lineOf l).2.1 ∈ l := by
  obtain ⟨x, r, rfl⟩ := h.cons
  simp only [lineOf] at hok ⊢
  split
  · rename_i hw
    rw [if_pos hw] at hok
    unfold flowOf at hok ⊢
    split at hok
    · simp at hok
    · show (x :: r).getLastD Tok.zero ∈ x :: r
      rw [List.getLastD_cons]
      exact List.getLastD_mem_cons
  · exact callOf_bad h
theorem lineOf_sub {l : List Tok} (hok : (lineOf l).2.2.1 = true) : ∀ x ∈ (lineOf l).2.2.2, x ∈ l := by
  cases l with
  | nil => simp [lineOf] at hok
  | cons y r =>
    simp only [lineOf] at hok ⊢
    split
    · rename_i hw
      rw [if_pos hw] at hok
      unfold flowOf at hok ⊢
      split
      · exact fun x hx => List.mem_of_mem_drop hx
      · exact fun x hx => hx
    · rename_i hw
      rw [if_neg hw] at hok
      obtain ⟨m, z, e, hz⟩ := callOf_rest (l := y :: r) (rest := (callOf (y :: r)).2.2.2) (c := (callOf (y :: r)).1) (t := (callOf (y :: r)).2.1) (by rw [← hok])
      intro x hx
      rw [e]
      exact List.mem_append_right _ hx
theorem scriptGo_fault : ∀ (n : Nat) (l : List Tok) (acc : List Call), Good l → l.length ≤ n →
    (scriptGo n l acc).2 = (0, 0, 0) ∨ ((scriptGo n l acc).1 = [] ∧ (scriptGo n l acc).2.1 = 3 ∧ ∃ x ∈ l, x.line = (scriptGo n l acc).2.2.1 ∧ x.col = (scriptGo n l acc).2.2.2)
  | 0, l, acc, _, _ => .inl rfl
  | n + 1, l, acc, hg, hl => by
    simp only [scriptGo]
    split
    · exact .inl rfl
    · rename_i hne
      have he : Ends l := hg.ends.resolve_left hne
      split
      · rename_i hok
        obtain ⟨h1, h2⟩ := lineOf_rest hg hok
        rcases scriptGo_fault n (lineOf l).2.2.2 (acc ++ [(lineOf l).1]) h1 (by omega) with h | ⟨a, b, x, hx, c⟩
        · exact .inl h
        · exact .inr ⟨a, b, x, lineOf_sub hok x hx, c⟩
      · rename_i hok
        exact .inr ⟨rfl, rfl, _, lineOf_bad he (by simpa using hok), rfl, rfl⟩
theorem script_fault {t : List UInt8} (h0 : (scan t).2.1 = 0) : (script t).2 = (0, 0, 0) ∨ ((script t).1 = [] ∧ (script t).2.1 = 3 ∧ ∃ x ∈ (scan t).1, x.line = (script t).2.2.1 ∧ x.col = (script t).2.2.2) := by
  have hg := (scan_good h0).1
  unfold script
  rw [if_neg (by simpa using h0)]
  exact scriptGo_fault _ _ _ hg (Nat.le_refl _)
theorem script_fine {t : List UInt8} (h0 : (scan t).2.1 = 0) (h1 : (script t).2.1 = 0) : (script t).2 = (0, 0, 0) := by
  rcases script_fault h0 with h | ⟨_, h, _⟩
  · exact h
  · omega
theorem script_place {t : List UInt8} (h0 : (scan t).2.1 = 0) (h1 : ¬ (script t).2.1 = 0) : (script t).1 = [] ∧ (script t).2.1 = 3 ∧ ∃ (i : Nat) (x : Tok), (scan t).1[i]? = some x ∧ x.line = (script t).2.2.1 ∧ x.col = (script t).2.2.2 := by
  rcases script_fault h0 with h | ⟨a, b, x, hx, c⟩
  · exact absurd (by rw [h]) h1
  · obtain ⟨i, hi⟩ := List.mem_iff_getElem?.1 hx
    exact ⟨a, b, i, x, hi, c⟩
end Go.Proofs.Ln
