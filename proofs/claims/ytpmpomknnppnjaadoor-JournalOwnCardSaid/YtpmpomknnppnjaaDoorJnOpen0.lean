/- Contracts of functions of the given program, each proved by walking its code: part of the proof of this claim; no condition beyond those that each theorem names. -/
import Derived.Test.YtpmpomknnppnjaaDoorJnApp
set_option linter.unusedVariables false
set_option linter.unusedSimpArgs false
namespace Go.Proofs.Jn
open Go Go.RowKit Go.Proofs.Eng
/-- from block p on, behind k records, these records stand and then the end, at block en -/
def At (img : Bytes) (nb : Nat) : Nat → Nat → List Bytes → Nat → Prop
  | p, _, [], en => p = en ∧ p < nb ∧ blk img p = zb
  | p, k, r :: rs, en => p < nb ∧ blk img p = titleB r.length (k + 1) ∧ r.length ≤ 131072 ∧ p + span r.length + 1 < nb ∧ (∀ i, i < span r.length → blk img (p + 1 + i) = ((pad r).drop (16 * i)).take 16) ∧ At img nb (p + span r.length + 1) (k + 1) rs en
theorem At.le {img : Bytes} {nb : Nat} : ∀ {rs : List Bytes} {p k en : Nat}, At img nb p k rs en → p + rs.length ≤ en ∧ en < nb
  | [], p, k, en, h => by obtain ⟨h1, h2, h3⟩ := h; simp; omega
  | r :: rs, p, k, en, h => by
    obtain ⟨h1, h2, h3, h4, h5, h6⟩ := h
    have := At.le h6
    simp only [List.length_cons]
    omega
theorem At.mono {img img' : Bytes} {nb : Nat} : ∀ {rs : List Bytes} {p k en : Nat}, At img nb p k rs en → (∀ q, p ≤ q → q ≤ en → blk img' q = blk img q) → At img' nb p k rs en
  | [], p, k, en, ⟨h1, h2, h3⟩, hb => ⟨h1, h2, by rw [hb p (Nat.le_refl _) (by omega)]; exact h3⟩
  | r :: rs, p, k, en, ⟨h1, h2, h3, h4, h5, h6⟩, hb => by
    have hle := (At.le h6).1
    refine ⟨h1, by rw [hb p (Nat.le_refl _) (by omega)]; exact h2, h3, h4, fun i hi => ?_, At.mono h6 fun q hq1 hq2 => hb q (by omega) hq2⟩
    rw [hb _ (by omega) (by omega)]
    exact h5 i hi
/-- one record more -/
theorem At.snoc {img img' : Bytes} {nb : Nat} {r : Bytes} : ∀ {rs : List Bytes} {p k en : Nat}, At img nb p k rs en → (∀ q, p ≤ q → q < en → blk img' q = blk img q) → blk img' en = titleB r.length (k + rs.length + 1) → r.length ≤ 131072 →
    en + span r.length + 1 < nb → (∀ i, i < span r.length → blk img' (en + 1 + i) = ((pad r).drop (16 * i)).take 16) → blk img' (en + span r.length + 1) = zb → At img' nb p k (rs ++ [r]) (en + span r.length + 1)
  | [], p, k, en, ⟨h1, h2, h3⟩, hb, ht, hr, hf, hd, hz => by
    subst h1
    exact ⟨h2, by simpa using ht, hr, hf, hd, rfl, hf, hz⟩
  | r0 :: rs, p, k, en, ⟨h1, h2, h3, h4, h5, h6⟩, hb, ht, hr, hf, hd, hz => by
    have hle := (At.le h6).1
    refine ⟨h1, by rw [hb p (Nat.le_refl _) (by omega)]; exact h2, h3, h4, fun i hi => ?_, At.snoc h6 (fun q hq1 hq2 => hb q (by omega) hq2) ?_ hr hf hd hz⟩
    · rw [hb _ (by omega) (by omega)]
      exact h5 i hi
    · rw [ht, List.length_cons, show k + (rs.length + 1) + 1 = k + 1 + rs.length + 1 by omega]
theorem laid_other {img : Bytes} {nb e : Nat} {r : Bytes} (hl : img.length = 16 * nb) : ∀ n, e + n ≤ nb → ∀ q, q < nb → (q < e ∨ e + n ≤ q) → blk (laid img e r n) q = blk img q
  | 0, _, q, _, _ => rfl
  | n + 1, h, q, hq, ho => by
    rw [laid, blk_setBlk_ne (laid_length hl n (by omega)) (by omega) hq (blkZ_length r n) (by omega)]
    exact laid_other hl n (by omega) q hq (by omega)
theorem laid_same {img : Bytes} {nb e : Nat} {r : Bytes} (hl : img.length = 16 * nb) : ∀ n, e + n ≤ nb → ∀ i, i < n → blk (laid img e r n) (e + i) = blkZ r i
  | 0, _, i, hi => by omega
  | n + 1, h, i, hi => by
    rcases Nat.lt_or_ge i n with hlt | hge
    · rw [laid, blk_setBlk_ne (laid_length hl n (by omega)) (by omega) (by omega) (blkZ_length r n) (by omega)]
      exact laid_same hl n (by omega) i hlt
    · obtain rfl : i = n := by omega
      exact blk_setBlk_same (laid_length hl i (by omega)) (by omega) (blkZ_length r i)
/-- an Append that did not come to its end leaves what stood -/
theorem At.part {img : Bytes} {nb p k en m : Nat} {rs : List Bytes} {r : Bytes} (hl : img.length = 16 * nb) (h : At img nb p k rs en) (hm : en + 1 + m ≤ nb) : At (laid img (en + 1) r m) nb p k rs en :=
  h.mono fun q h1 h2 => laid_other hl m hm q (by have := (At.le h).2; omega) (by omega)
/-- .. and one that did leaves one record more -/
theorem At.full {img : Bytes} {nb p en : Nat} {rs : List Bytes} {r : Bytes} (hl : img.length = 16 * nb) (h : At img nb p 0 rs en) (hr : r.length ≤ 131072) (hf : en + span r.length + 1 < nb) :
    At (setBlk (laid img (en + 1) r (span r.length + 1)) en (titleB r.length (rs.length + 1))) nb p 0 (rs ++ [r]) (en + span r.length + 1) := by
  have hll := laid_length (r := r) (e := en + 1) hl (span r.length + 1) (by omega)
  have hle := At.le h
  refine h.snoc (fun q h1 h2 => ?_) ?_ hr hf (fun i hi => ?_) ?_
  · rw [blk_setBlk_ne hll (by omega) (by omega) (titleB_length _ _) (by omega)]
    exact laid_other hl _ (by omega) q (by omega) (by omega)
  · rw [blk_setBlk_same hll (by omega) (titleB_length _ _), Nat.zero_add]
  · rw [blk_setBlk_ne hll (by omega) (by omega) (titleB_length _ _) (by omega), laid_same hl _ (by omega) i (by omega)]
    exact blkZ_pad r i hi
  · rw [blk_setBlk_ne hll (by omega) (by omega) (titleB_length _ _) (by omega), show en + span r.length + 1 = en + 1 + span r.length by omega, laid_same hl _ (by omega) _ (by omega)]
    exact blkZ_end r
/-- records that were told: their values and their blocks -/
def Recs : List Bytes → List Value → Chunk → Prop
  | [], vs, c => vs = [] ∧ c = []
  | r :: rs, vs, c => ∃ v vs' c1 c2, vs = v :: vs' ∧ c = c1 ++ c2 ∧ RecIs c1 v r ∧ Recs rs vs' c2
theorem Recs.snoc : ∀ {rs : List Bytes} {vs : List Value} {c c1 : Chunk} {v : Value} {r : Bytes}, Recs rs vs c → RecIs c1 v r → Recs (rs ++ [r]) (vs ++ [v]) (c ++ c1)
  | [], vs, c, c1, v, r, ⟨h1, h2⟩, h => by
    subst h1 h2
    exact ⟨v, [], c1, [], rfl, by simp, h, rfl, rfl⟩
  | r0 :: rs, vs, c, c1, v, r, ⟨v0, vs', d1, d2, h1, h2, h3, h4⟩, h => by
    subst h1 h2
    exact ⟨v0, vs' ++ [v], d1, d2 ++ c1, rfl, by simp, h3, Recs.snoc h4 h⟩
theorem Recs.length : ∀ {rs : List Bytes} {vs : List Value} {c : Chunk}, Recs rs vs c → vs.length = rs.length
  | [], vs, c, ⟨h1, h2⟩ => by simp [h1]
  | r0 :: rs, vs, c, ⟨v0, vs', d1, d2, h1, h2, h3, h4⟩ => by simp [h1, Recs.length h4]
theorem Recs.one {rs : List Bytes} {vs : List Value} {c : Chunk} : ∀ (h : Recs rs vs c), ∀ v ∈ vs, v.oneCell' = true := by
  induction rs generalizing vs c with
  | nil => rintro ⟨rfl, rfl⟩; simp
  | cons r rs ih =>
    rintro ⟨v0, vs', d1, d2, rfl, rfl, h3, h4⟩ v hv
    rcases List.mem_cons.1 hv with rfl | hv
    · rcases h3 with ⟨_, rfl, _⟩ | ⟨_, _, _, rfl, _⟩ <;> rfl
    · exact ih h4 v hv
/-- rows of bytes that can be read -/
def RdL (w0 : World) (c : Chunk) (vs : List Value) (rs : List Bytes) : Prop :=
  vs.length = rs.length ∧ ∀ (i : Nat) (v : Value) (r : Bytes), vs[i]? = some v → rs[i]? = some r → Rd w0 c 1 v r.length (r.map byv)
theorem Recs.rd {w0 : World} : ∀ {rs : List Bytes} {vs : List Value} {c : Chunk}, Recs rs vs c → (∀ r ∈ rs, r.length ≤ 131072) → RdL w0 c vs rs
  | [], vs, c, ⟨h1, h2⟩, hr => ⟨by simp [h1], fun i v r hv => by simp [h1] at hv⟩
  | r0 :: rs, vs, c, ⟨v0, vs', d1, d2, h1, h2, h3, h4⟩, hr => by
    subst h1 h2
    refine ⟨by simp [h4.length], fun i v r hv h5 => ?_⟩
    cases i with
    | zero =>
      simp at hv h5
      subst hv h5
      exact (h3.rd (hr _ (List.mem_cons_self ..))).mono (fun x hx => List.mem_append_left _ hx)
    | succ i => exact ((Recs.rd h4 fun r h => hr r (List.mem_cons_of_mem _ h)).2 i v r (by simpa using hv) (by simpa using h5)).mono (fun x hx => List.mem_append_right _ hx)
theorem At.small {img : Bytes} {nb : Nat} : ∀ {rs : List Bytes} {p k en : Nat}, At img nb p k rs en → ∀ r ∈ rs, r.length ≤ 131072
  | [], p, k, en, h => by simp
  | r :: rs, p, k, en, ⟨h1, h2, h3, h4, h5, h6⟩ => by
    intro x hx
    rcases List.mem_cons.1 hx with rfl | hx
    · exact h3
    · exact At.small h6 x hx
/-- what one step of the reading told -/
def NextIs (img : Bytes) (nb p k en : Nat) (rs : List Bytes) (b : Bool) (v1 : Value) (c1 : Chunk) (p' k' : Nat) : Prop :=
  (rs = [] ∧ b = false ∧ c1 = [] ∧ p' = p ∧ k' = k) ∨ ∃ r rs', rs = r :: rs' ∧ b = true ∧ RecIs c1 v1 r ∧ k' = k + 1 ∧ At img nb p' (k + 1) rs' en
theorem c27u {w0 : World} {j d bb nb p k en boots : Nat} {down : Bool} {s : DS} {img : Bytes} {rs : List Bytes} (hl : img.length = 16 * nb) (hnb : nb ≤ 65536) (hd : s.dn = false) (h : At img nb p k rs en) (hk : k + rs.length ≤ 100000) :
    CtR Pg w0 27 #[.pointer (some ⟨j, 0, none⟩)] [jB j d boots (k : Int) (p : Int) down, dkS d bb nb s, imB bb img] (fun v H => ∃ v1 c1 b p' k', v = .tuple #[v1, .bool b, .bool true] ∧ NextIs img nb p k en rs b v1 c1 p' k' ∧ v1.oneCell' = true ∧ H = [c1, jB j d boots (k' : Int) (p' : Int) down, dkS d bb nb s, imB bb img]) := by
  cases rs with
  | nil =>
    obtain ⟨h1, h2, h3⟩ := h
    exact (c27e hl hnb h2 hd h3).ret_regroup fun v H ⟨hv, hH⟩ => ⟨_, ⟨_, [], false, p, k, hv, .inl ⟨rfl, rfl, rfl, rfl, rfl⟩, rfl, rfl⟩, by rw [hH]; simp⟩
  | cons r rs =>
    obtain ⟨h1, h2, h3, h4, h5, h6⟩ := h
    simp only [List.length_cons] at hk
    refine (c27r hl hnb h1 hd h2 h3 (by omega) h4 h5).ret_mono ?_
    rintro v H ⟨v1, c1, hv, hr, hH⟩
    refine ⟨v1, c1, true, _, _, hv, .inr ⟨r, rs, rfl, rfl, hr, rfl, h6⟩, ?_, hH⟩
    rcases hr with ⟨_, rfl, _⟩ | ⟨_, _, _, rfl, _⟩ <;> rfl

end Go.Proofs.Jn
