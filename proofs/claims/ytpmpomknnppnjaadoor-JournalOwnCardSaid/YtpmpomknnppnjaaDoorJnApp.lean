/- Contracts of functions of the given program, each proved by walking its code: part of the proof of this claim; no condition beyond those that each theorem names. -/
import Derived.Test.YtpmpomknnppnjaaDoorJnNext
set_option linter.unusedVariables false
set_option linter.unusedSimpArgs false
namespace Go.Proofs.Jn
open Go Go.RowKit Go.Proofs.Eng
def tryE (s : DS) : Int := if s.dn then 50 else 0
def tryS (s : DS) : DS := if s.dn then s else s.wrote
def tryI (s : DS) (img : Bytes) (i : Nat) (xs : Bytes) : Bytes := if s.dn then img else setBlk img i xs
theorem c30u {w0 : World} {j d bb nb i boots : Nat} {len end_ : Int} {down : Bool} {s : DS} {img xs : Bytes} (hl : img.length = 16 * nb) (hnb : nb ≤ 65536) (hi : i < nb) (hx : xs.length = 16) (hs : s.ok 1000000000000000) :
    CtR Pg w0 30 #[.pointer (some ⟨j, 0, none⟩), .int .i64 (i : Int), .agg (xs.map byv).toArray] [jB j d boots len end_ down, dkS d bb nb s, imB bb img] (fun v H => v = .int .i64 (tryE s) ∧ H = [jB j d boots len end_ s.dn, dkS d bb nb (tryS s), imB bb (tryI s img i xs)]) := by
  cases hd : s.dn with
  | true => simpa only [tryE, tryS, tryI, hd, if_true] using c30d hnb hi hd
  | false => simpa only [tryE, tryS, tryI, hd, Bool.false_eq_true, if_false] using c30 hl hnb hi hx hs hd
theorem tryE_t {s : DS} (h : ¬ tryE s = 0) : s.dn = true := by
  cases hd : s.dn with
  | true => rfl
  | false => simp [tryE, hd] at h
theorem tryE_f {s : DS} (h : tryE s = 0) : s.dn = false := by
  cases hd : s.dn with
  | false => rfl
  | true => simp [tryE, hd] at h
theorem tryS_t {s : DS} (h : s.dn = true) : tryS s = s := by simp [tryS, h]
theorem tryS_f {s : DS} (h : s.dn = false) : tryS s = s.wrote := by simp [tryS, h]
theorem tryI_t {s : DS} {img xs : Bytes} {i : Nat} (h : s.dn = true) : tryI s img i xs = img := by simp [tryI, h]
theorem tryI_f {s : DS} {img xs : Bytes} {i : Nat} (h : s.dn = false) : tryI s img i xs = setBlk img i xs := by simp [tryI, h]
theorem take_min16 (l : Bytes) (n : Nat) (h : l.length = n) : (l.map byv).take (min 16 n * 1) = (l.take 16).map byv := by
  rw [Nat.mul_one, List.map_take, Nat.min_def]
  split
  · rfl
  · rw [List.take_of_length_le (by simp; omega), List.take_of_length_le (by simp; omega)]
theorem DS.ok_wrote {s : DS} {m : Int} (h : s.ok m) : s.wrote.ok (m + 1) := by
  obtain ⟨wr, dn, fu, lf⟩ := s
  obtain ⟨h1, h2, h3⟩ := h
  simp only at h1 h2 h3
  cases fu with
  | false => exact ⟨by simp [DS.wrote]; omega, by simp [DS.wrote]; omega, by simp [DS.wrote]⟩
  | true =>
    have := h3 rfl
    refine ⟨by simp [DS.wrote]; omega, by simp [DS.wrote]; omega, fun h => ?_⟩
    simp [DS.wrote] at h ⊢
    omega
/-- so many writes later -/
def DS.after (s : DS) : Nat → DS
  | 0 => s
  | n + 1 => (s.after n).wrote
theorem DS.ok_after {s : DS} {m : Int} (h : s.ok m) : ∀ n, (s.after n).ok (m + n)
  | 0 => by simpa [DS.after] using h
  | n + 1 => by
    have := DS.ok_wrote (DS.ok_after h n)
    rw [Int.add_assoc] at this
    exact this
/-- the i-th block of a record, the rest of it zeros -/
def zpad (l : Bytes) : Bytes := l.take 16 ++ List.replicate (16 - min 16 l.length) 0
def blkZ (r : Bytes) (i : Nat) : Bytes := zpad (r.drop (16 * i))
theorem blkZ_length (r : Bytes) (i : Nat) : (blkZ r i).length = 16 := by
  simp only [blkZ, zpad, List.length_append, List.length_take, List.length_replicate]
  omega
theorem blkZ_pad (r : Bytes) (i : Nat) (hi : i < span r.length) : blkZ r i = ((pad r).drop (16 * i)).take 16 := by
  have hsp : span r.length = (r.length + 15) / 16 := rfl
  apply List.ext_getElem
  · rw [blkZ_length]
    simp only [List.length_take, List.length_drop, pad_length]
    omega
  · intro k h1 h2
    have hk : k < 16 := by rw [blkZ_length] at h1; exact h1
    simp only [blkZ, zpad, pad, List.getElem_take, List.getElem_drop]
    rw [List.getElem_append, List.getElem_append]
    simp only [List.length_take, List.length_drop]
    by_cases hlt : 16 * i + k < r.length
    · rw [dif_pos (by omega), dif_pos hlt]
      simp
    · rw [dif_neg (by omega), dif_neg hlt]
      simp
theorem blkZ_end (r : Bytes) : blkZ r (span r.length) = zb := by
  have h : r.drop (16 * span r.length) = [] := List.drop_of_length_le (by unfold span; omega)
  rw [blkZ, h]
  rfl
theorem copy_blkZ (r : Bytes) (i : Nat) : (#[Value.int .u8 0, .int .u8 0, .int .u8 0, .int .u8 0, .int .u8 0, .int .u8 0, .int .u8 0, .int .u8 0, .int .u8 0, .int .u8 0, .int .u8 0, .int .u8 0, .int .u8 0, .int .u8 0, .int .u8 0, .int .u8 0].toList.take 0 ++ ((r.drop (min (16 * i) r.length)).take 16).map byv ++ #[Value.int .u8 0, .int .u8 0, .int .u8 0, .int .u8 0, .int .u8 0, .int .u8 0, .int .u8 0, .int .u8 0, .int .u8 0, .int .u8 0, .int .u8 0, .int .u8 0, .int .u8 0, .int .u8 0, .int .u8 0, .int .u8 0].toList.drop (0 + (((r.drop (min (16 * i) r.length)).take 16).map byv).length)).toArray = ((blkZ r i).map byv).toArray := by
  have hz : #[Value.int .u8 0, .int .u8 0, .int .u8 0, .int .u8 0, .int .u8 0, .int .u8 0, .int .u8 0, .int .u8 0, .int .u8 0, .int .u8 0, .int .u8 0, .int .u8 0, .int .u8 0, .int .u8 0, .int .u8 0, .int .u8 0].toList = List.replicate 16 (byv 0) := rfl
  have hd : r.drop (min (16 * i) r.length) = r.drop (16 * i) := by
    rcases Nat.le_total (16 * i) r.length with h | h
    · rw [Nat.min_eq_left h]
    · rw [Nat.min_eq_right h, List.drop_of_length_le (Nat.le_refl _), List.drop_of_length_le h]
  rw [hz, hd, List.take_zero, List.nil_append, blkZ, zpad, List.map_append, List.map_replicate, List.drop_replicate]
  congr 3
  simp only [List.length_map, List.length_take]
  omega
/-- all of the blocks' cells -/
def cellsZ (r : Bytes) : Nat → List Value
  | 0 => []
  | n + 1 => cellsZ r n ++ (blkZ r n).map byv
theorem cellsZ_length (r : Bytes) : ∀ n, (cellsZ r n).length = n * 16
  | 0 => rfl
  | n + 1 => by simp [cellsZ, cellsZ_length r n, blkZ_length]; omega
theorem cellsZ_get (r : Bytes) : ∀ (n k : Nat), k < n → ∀ (q : Nat) (u : Value), ((blkZ r k).map byv)[q]? = some u → (cellsZ r n)[k * 16 + q]? = some u
  | 0, k, hk, q, u, h => by omega
  | n + 1, k, hk, q, u, h => by
    have hq : q < 16 := by
      have := (List.getElem?_eq_some_iff.1 h).1
      simpa [blkZ_length] using this
    rcases Nat.lt_or_ge k n with hlt | hge
    · rw [cellsZ, List.getElem?_append_left (by rw [cellsZ_length]; omega)]
      exact cellsZ_get r n k hlt q u h
    · obtain rfl : k = n := by omega
      rw [cellsZ, List.getElem?_append_right (by rw [cellsZ_length]; omega), cellsZ_length, Nat.add_sub_cancel_left]
      exact h
theorem sixteen {l : Bytes} (h : l.length = 16) : ∃ a b c d e f g h i j k m n o p q, l = [a, b, c, d, e, f, g, h, i, j, k, m, n, o, p, q] := by
  match l, h with
  | [a, b, c, d, e, f, g, h, i, j, k, m, n, o, p, q], _ => exact ⟨a, b, c, d, e, f, g, h, i, j, k, m, n, o, p, q, rfl⟩
/-- the blocks laid one behind the other -/
def laid (img : Bytes) (e : Nat) (r : Bytes) : Nat → Bytes
  | 0 => img
  | n + 1 => setBlk (laid img e r n) (e + n) (blkZ r n)
theorem after_step {s : DS} {q : Nat} (h : ∀ q', q' < q → (s.after q').dn = false) (hd : (s.after q).dn = false) : ∀ q', q' < q + 1 → (s.after q').dn = false := by
  intro q2 h2
  rcases Nat.lt_or_ge q2 q with h3 | h3
  · exact h q2 h3
  · rw [show q2 = q by omega]; exact hd
theorem laid_length {img : Bytes} {nb e : Nat} {r : Bytes} (hl : img.length = 16 * nb) : ∀ n, e + n ≤ nb → (laid img e r n).length = 16 * nb
  | 0, _ => hl
  | n + 1, h => setBlk_length (laid_length hl n (by omega)) (by omega) (blkZ_length r n)

theorem c10a {w0 : World} {j d bb nb en ln boots : Nat} {s : DS} {img r : Bytes} {v : Value} {c : Chunk} {m : Nat} (hr : Rd w0 c 1 v m (r.map byv)) (hm : m ≤ 131072) (hnb : nb ≤ 65536) (hen : en < nb) : CtR Pg w0 10 #[.pointer (some ⟨j, 0, none⟩), v] [jB j d boots (ln : Int) (en : Int) true, dkS d bb nb s, imB bb img, c] (fun u H => u = .int .i64 50 ∧ H = [jB j d boots (ln : Int) (en : Int) true, dkS d bb nb s, imB bb img, c]) := by
  obtain ⟨ad, cp, rfl, hle1, hle2, hle3, hle4⟩ := id hr
  obtain rfl : r.length = m := by simpa using hle3
  have hsp2 : span r.length ≤ 8192 := by unfold span; omega
  have hcp : cp ≤ 9223372036854775807 := by simp only [maxLen] at hle2; omega
  obtain ⟨wr, dn, fu, lf⟩ := s
  refine Ct.of_body Go.Proofs.Tryd.func10 rfl 120 rfl rfl (fun R => ?_)
  refine VC.seq ?_
  refine VC.region ?_
  refine V.assign rfl rfl rfl ?_
  refine V.nil ?_
  refine Post.nextC ?_
  refine VC.seq ?_
  refine VC.region ?_
  refine V.move rfl rfl rfl ?_
  refine V.len rfl rfl rfl ?_
  apply V.call rfl rfl rfl (hc := c29 (m := r.length) (by omega))
  · repeat' constructor
  rintro v Ho ⟨rfl, rfl⟩
  refine V.assign rfl rfl rfl ?_
  refine V.nil ?_
  refine Post.nextC ?_
  refine VC.seq ?_
  refine VC.seq ?_
  refine VC.region ?_
  refine V.move rfl rfl rfl ?_
  refine V.len rfl rfl rfl ?_
  refine V.bin rfl rfl rfl rfl (bin_gtr _ _ _) ?_
  refine V.know (t := 16) (y := .bool false) rfl (by simp; omega) ?_
  refine V.nil ?_
  refine Post.nextC ?_
  refine VC.condF rfl ?_
  refine VC.skip ?_
  refine Post.nextC ?_
  refine VC.seq ?_
  refine VC.region ?_
  refine V.move rfl rfl rfl ?_
  refine V.move rfl rfl rfl ?_
  refine V.nilCheck rfl rfl rfl ?_
  refine V.fieldAddr 4 4 rfl rfl rfl rfl rfl ?_
  apply V.loadL rfl rfl rfl rfl
  · repeat' constructor
  · repeat' constructor
  refine V.know (t := 21) (y := .bool true) rfl (rfl) ?_
  refine V.move rfl rfl rfl ?_
  refine V.skip rfl rfl ?_
  refine V.skip rfl rfl ?_
  refine V.skip rfl rfl ?_
  refine V.skip rfl rfl ?_
  refine V.skip rfl rfl ?_
  refine V.skip rfl rfl ?_
  refine V.pickT rfl rfl rfl rfl ?_
  refine V.nilCheck rfl rfl rfl ?_
  refine V.fieldAddr 4 4 rfl rfl rfl rfl rfl ?_
  apply V.storeL rfl rfl rfl rfl rfl
  · repeat' constructor
  · repeat' constructor
  refine V.nil ?_
  refine Post.nextC ?_
  refine VC.seq ?_
  refine VC.block ?_
  refine VC.seq ?_
  refine VC.region ?_
  refine V.move rfl rfl rfl ?_
  refine V.nilCheck rfl rfl rfl ?_
  refine V.fieldAddr 4 4 rfl rfl rfl rfl rfl ?_
  apply V.loadL rfl rfl rfl rfl
  · repeat' constructor
  · repeat' constructor
  refine V.assign rfl rfl rfl ?_
  refine V.nil ?_
  refine Post.nextC ?_
  refine VC.cond rfl (fun h1 => ?_) (fun h1 => ?_)
  · try simp only [decide_eq_true_eq, decide_eq_false_iff_not, Bool.not_eq_true', Bool.not_eq_false', Bool.not_eq_eq_eq_not, Bool.not_true, Bool.not_false, beq_iff_eq, beq_eq_false_iff_ne, ne_eq, Int.not_lt, Int.not_le, Option.isSome_some, Option.isNone_none, Option.isSome_none, Option.isNone_some] at h1
    refine VC.seq ?_
    refine VC.region ?_
    refine V.assign rfl rfl rfl ?_
    refine V.nil ?_
    refine Post.nextC ?_
    refine VC.ret ?_
    refine Post.blockRet (Post.thenRet (?_))
    apply Post.ret1 rfl rfl 
    · exact ⟨rfl, rfl⟩
    · repeat' constructor
  · try simp only [decide_eq_true_eq, decide_eq_false_iff_not, Bool.not_eq_true', Bool.not_eq_false', Bool.not_eq_eq_eq_not, Bool.not_true, Bool.not_false, beq_iff_eq, beq_eq_false_iff_ne, ne_eq, Int.not_lt, Int.not_le, Option.isSome_some, Option.isNone_none, Option.isSome_none, Option.isNone_some] at h1
    cases h1

theorem c10b {w0 : World} {j d bb nb en ln boots : Nat} {s : DS} {img r : Bytes} {v : Value} {c : Chunk} {m : Nat} (hr : Rd w0 c 1 v m (r.map byv)) (hm : m ≤ 131072) (hnb : nb ≤ 65536) (hen : en < nb) (hd : s.dn = true) : CtR Pg w0 10 #[.pointer (some ⟨j, 0, none⟩), v] [jB j d boots (ln : Int) (en : Int) false, dkS d bb nb s, imB bb img, c] (fun u H => u = .int .i64 50 ∧ H = [jB j d boots (ln : Int) (en : Int) true, dkS d bb nb s, imB bb img, c]) := by
  obtain ⟨ad, cp, rfl, hle1, hle2, hle3, hle4⟩ := id hr
  obtain rfl : r.length = m := by simpa using hle3
  have hsp2 : span r.length ≤ 8192 := by unfold span; omega
  have hcp : cp ≤ 9223372036854775807 := by simp only [maxLen] at hle2; omega
  obtain ⟨wr, dn, fu, lf⟩ := s
  obtain rfl : dn = true := hd
  refine Ct.of_body Go.Proofs.Tryd.func10 rfl 120 rfl rfl (fun R => ?_)
  refine VC.seq ?_
  refine VC.region ?_
  refine V.assign rfl rfl rfl ?_
  refine V.nil ?_
  refine Post.nextC ?_
  refine VC.seq ?_
  refine VC.region ?_
  refine V.move rfl rfl rfl ?_
  refine V.len rfl rfl rfl ?_
  apply V.call rfl rfl rfl (hc := c29 (m := r.length) (by omega))
  · repeat' constructor
  rintro v Ho ⟨rfl, rfl⟩
  refine V.assign rfl rfl rfl ?_
  refine V.nil ?_
  refine Post.nextC ?_
  refine VC.seq ?_
  refine VC.seq ?_
  refine VC.region ?_
  refine V.move rfl rfl rfl ?_
  refine V.len rfl rfl rfl ?_
  refine V.bin rfl rfl rfl rfl (bin_gtr _ _ _) ?_
  refine V.know (t := 16) (y := .bool false) rfl (by simp; omega) ?_
  refine V.nil ?_
  refine Post.nextC ?_
  refine VC.condF rfl ?_
  refine VC.skip ?_
  refine Post.nextC ?_
  refine VC.seq ?_
  refine VC.region ?_
  refine V.move rfl rfl rfl ?_
  refine V.move rfl rfl rfl ?_
  refine V.nilCheck rfl rfl rfl ?_
  refine V.fieldAddr 4 4 rfl rfl rfl rfl rfl ?_
  apply V.loadL rfl rfl rfl rfl
  · repeat' constructor
  · repeat' constructor
  refine V.know (t := 21) (y := .bool false) rfl (rfl) ?_
  refine V.move rfl rfl rfl ?_
  refine V.move rfl rfl rfl ?_
  refine V.nilCheck rfl rfl rfl ?_
  refine V.fieldAddr 0 23 rfl rfl rfl rfl rfl ?_
  apply V.loadL rfl rfl rfl rfl
  · repeat' constructor
  · repeat' constructor
  apply V.call rfl rfl rfl (hc := c23)
  · repeat' constructor
  rintro v Ho ⟨rfl, rfl⟩
  refine V.not rfl rfl rfl ?_
  refine V.know (t := 28) (y := .bool true) rfl (rfl) ?_
  refine V.pickF rfl rfl rfl rfl ?_
  refine V.nilCheck rfl rfl rfl ?_
  refine V.fieldAddr 4 4 rfl rfl rfl rfl rfl ?_
  apply V.storeL rfl rfl rfl rfl rfl
  · repeat' constructor
  · repeat' constructor
  refine V.nil ?_
  refine Post.nextC ?_
  refine VC.seq ?_
  refine VC.block ?_
  refine VC.seq ?_
  refine VC.region ?_
  refine V.move rfl rfl rfl ?_
  refine V.nilCheck rfl rfl rfl ?_
  refine V.fieldAddr 4 4 rfl rfl rfl rfl rfl ?_
  apply V.loadL rfl rfl rfl rfl
  · repeat' constructor
  · repeat' constructor
  refine V.assign rfl rfl rfl ?_
  refine V.nil ?_
  refine Post.nextC ?_
  refine VC.cond rfl (fun h1 => ?_) (fun h1 => ?_)
  · try simp only [decide_eq_true_eq, decide_eq_false_iff_not, Bool.not_eq_true', Bool.not_eq_false', Bool.not_eq_eq_eq_not, Bool.not_true, Bool.not_false, beq_iff_eq, beq_eq_false_iff_ne, ne_eq, Int.not_lt, Int.not_le, Option.isSome_some, Option.isNone_none, Option.isSome_none, Option.isNone_some] at h1
    refine VC.seq ?_
    refine VC.region ?_
    refine V.assign rfl rfl rfl ?_
    refine V.nil ?_
    refine Post.nextC ?_
    refine VC.ret ?_
    refine Post.blockRet (Post.thenRet (?_))
    apply Post.ret1 rfl rfl 
    · exact ⟨rfl, rfl⟩
    · repeat' constructor
  · try simp only [decide_eq_true_eq, decide_eq_false_iff_not, Bool.not_eq_true', Bool.not_eq_false', Bool.not_eq_eq_eq_not, Bool.not_true, Bool.not_false, beq_iff_eq, beq_eq_false_iff_ne, ne_eq, Int.not_lt, Int.not_le, Option.isSome_some, Option.isNone_none, Option.isSome_none, Option.isNone_some] at h1
    cases h1

-- annotations not used: [('dead', ('cond', 37, False))]
theorem c10c {w0 : World} {j d bb nb en ln boots : Nat} {s : DS} {img r : Bytes} {v : Value} {c : Chunk} {m : Nat} (hr : Rd w0 c 1 v m (r.map byv)) (hm : m ≤ 131072) (hnb : nb ≤ 65536) (hen : en < nb) (hd : s.dn = false) (hf : nb ≤ en + span m + 1) : CtR Pg w0 10 #[.pointer (some ⟨j, 0, none⟩), v] [jB j d boots (ln : Int) (en : Int) false, dkS d bb nb s, imB bb img, c] (fun u H => u = .int .i64 51 ∧ H = [jB j d boots (ln : Int) (en : Int) false, dkS d bb nb s, imB bb img, c]) := by
  obtain ⟨ad, cp, rfl, hle1, hle2, hle3, hle4⟩ := id hr
  obtain rfl : r.length = m := by simpa using hle3
  have hsp2 : span r.length ≤ 8192 := by unfold span; omega
  have hcp : cp ≤ 9223372036854775807 := by simp only [maxLen] at hle2; omega
  obtain ⟨wr, dn, fu, lf⟩ := s
  obtain rfl : dn = false := hd
  refine Ct.of_body Go.Proofs.Tryd.func10 rfl 120 rfl rfl (fun R => ?_)
  refine VC.seq ?_
  refine VC.region ?_
  refine V.assign rfl rfl rfl ?_
  refine V.nil ?_
  refine Post.nextC ?_
  refine VC.seq ?_
  refine VC.region ?_
  refine V.move rfl rfl rfl ?_
  refine V.len rfl rfl rfl ?_
  apply V.call rfl rfl rfl (hc := c29 (m := r.length) (by omega))
  · repeat' constructor
  rintro v Ho ⟨rfl, rfl⟩
  refine V.assign rfl rfl rfl ?_
  refine V.nil ?_
  refine Post.nextC ?_
  refine VC.seq ?_
  refine VC.seq ?_
  refine VC.region ?_
  refine V.move rfl rfl rfl ?_
  refine V.len rfl rfl rfl ?_
  refine V.bin rfl rfl rfl rfl (bin_gtr _ _ _) ?_
  refine V.know (t := 16) (y := .bool false) rfl (by simp; omega) ?_
  refine V.nil ?_
  refine Post.nextC ?_
  refine VC.condF rfl ?_
  refine VC.skip ?_
  refine Post.nextC ?_
  refine VC.seq ?_
  refine VC.region ?_
  refine V.move rfl rfl rfl ?_
  refine V.move rfl rfl rfl ?_
  refine V.nilCheck rfl rfl rfl ?_
  refine V.fieldAddr 4 4 rfl rfl rfl rfl rfl ?_
  apply V.loadL rfl rfl rfl rfl
  · repeat' constructor
  · repeat' constructor
  refine V.know (t := 21) (y := .bool false) rfl (rfl) ?_
  refine V.move rfl rfl rfl ?_
  refine V.move rfl rfl rfl ?_
  refine V.nilCheck rfl rfl rfl ?_
  refine V.fieldAddr 0 23 rfl rfl rfl rfl rfl ?_
  apply V.loadL rfl rfl rfl rfl
  · repeat' constructor
  · repeat' constructor
  apply V.call rfl rfl rfl (hc := c23)
  · repeat' constructor
  rintro v Ho ⟨rfl, rfl⟩
  refine V.not rfl rfl rfl ?_
  refine V.know (t := 28) (y := .bool false) rfl (rfl) ?_
  refine V.pickF rfl rfl rfl rfl ?_
  refine V.nilCheck rfl rfl rfl ?_
  refine V.fieldAddr 4 4 rfl rfl rfl rfl rfl ?_
  apply V.storeL rfl rfl rfl rfl rfl
  · repeat' constructor
  · repeat' constructor
  refine V.nil ?_
  refine Post.nextC ?_
  refine VC.seq ?_
  refine VC.block ?_
  refine VC.seq ?_
  refine VC.region ?_
  refine V.move rfl rfl rfl ?_
  refine V.nilCheck rfl rfl rfl ?_
  refine V.fieldAddr 4 4 rfl rfl rfl rfl rfl ?_
  apply V.loadL rfl rfl rfl rfl
  · repeat' constructor
  · repeat' constructor
  refine V.assign rfl rfl rfl ?_
  refine V.nil ?_
  refine Post.nextC ?_
  refine VC.cond rfl (fun h1 => ?_) (fun h1 => ?_)
  · try simp only [decide_eq_true_eq, decide_eq_false_iff_not, Bool.not_eq_true', Bool.not_eq_false', Bool.not_eq_eq_eq_not, Bool.not_true, Bool.not_false, beq_iff_eq, beq_eq_false_iff_ne, ne_eq, Int.not_lt, Int.not_le, Option.isSome_some, Option.isNone_none, Option.isSome_none, Option.isNone_some] at h1
    cases h1
  · try simp only [decide_eq_true_eq, decide_eq_false_iff_not, Bool.not_eq_true', Bool.not_eq_false', Bool.not_eq_eq_eq_not, Bool.not_true, Bool.not_false, beq_iff_eq, beq_eq_false_iff_ne, ne_eq, Int.not_lt, Int.not_le, Option.isSome_some, Option.isNone_none, Option.isSome_none, Option.isNone_some] at h1
    refine VC.seq ?_
    refine VC.draw mixed (by kernel_rfl) ?_
    refine V.move rfl rfl rfl ?_
    refine V.nilCheck rfl rfl rfl ?_
    refine V.fieldAddr 3 3 rfl rfl rfl rfl rfl ?_
    apply V.loadL rfl rfl rfl rfl
    · repeat' constructor
    · repeat' constructor
    refine V.move rfl rfl rfl ?_
    refine V.bin rfl rfl rfl rfl (bin_addI (by omega)) ?_
    refine V.bin rfl rfl rfl rfl (bin_addI (by omega)) ?_
    refine V.know (t := 44) (y := .int .i64 ((en + span r.length + 1 : Nat) : Int)) rfl (by first | rfl | (congr 1; omega)) ?_
    refine V.move rfl rfl rfl ?_
    refine V.nilCheck rfl rfl rfl ?_
    refine V.fieldAddr 0 23 rfl rfl rfl rfl rfl ?_
    apply V.loadL rfl rfl rfl rfl
    · repeat' constructor
    · repeat' constructor
    apply V.callQ (.int .i64 (((16 * nb : Nat) : Int) / 16)) rfl rfl rfl (hc := c15 (n := 16 * nb) (by omega))
    · repeat' constructor
    · rintro u Ho ⟨rfl, rfl⟩; exact ⟨rfl, by repeat' constructor⟩
    refine V.bin rfl rfl rfl rfl (bin_geq _ _ _) ?_
    refine V.know (t := 50) (y := .bool true) rfl (by simp; omega) ?_
    refine V.assign rfl rfl rfl ?_
    refine V.nil ?_
    refine Post.nextC ?_
    refine VC.condT rfl ?_
    refine VC.seq ?_
    refine VC.region ?_
    refine V.assign rfl rfl rfl ?_
    refine V.nil ?_
    refine Post.nextC ?_
    refine VC.ret ?_
    refine Post.blockRet (Post.thenRet (?_))
    apply Post.ret1 rfl rfl 
    · exact ⟨rfl, rfl⟩
    · repeat' constructor

-- annotations not used: [('dead', ('cond', 37, True))]
theorem c10w {w0 : World} {j d bb nb en ln boots : Nat} {s : DS} {img r : Bytes} {v : Value} {c : Chunk} {m : Nat} (hr : Rd w0 c 1 v m (r.map byv)) (hm : m ≤ 131072) (hnb : nb ≤ 65536) (hen : en < nb) (hl : img.length = 16 * nb) (hs : s.ok 100000000000000) (hd : s.dn = false) (hf : en + span m + 1 < nb) (hln : ln < 1000000) : CtR Pg w0 10 #[.pointer (some ⟨j, 0, none⟩), v] [jB j d boots (ln : Int) (en : Int) false, dkS d bb nb s, imB bb img, c] (fun u H => (u = .int .i64 0 ∧ (∀ q, q < span m + 2 → (s.after q).dn = false) ∧ H = [jB j d boots ((ln + 1 : Nat) : Int) ((en + span m + 1 : Nat) : Int) false, dkS d bb nb (s.after (span m + 2)), imB bb (setBlk (laid img (en + 1) r (span m + 1)) en (titleB m (ln + 1))), c]) ∨ (∃ k, k ≤ span m + 1 ∧ u = .int .i64 50 ∧ (s.after k).dn = true ∧ (∀ q, q < k → (s.after q).dn = false) ∧ H = [jB j d boots (ln : Int) (en : Int) true, dkS d bb nb (s.after k), imB bb (laid img (en + 1) r k), c])) := by
  obtain ⟨ad, cp, rfl, hle1, hle2, hle3, hle4⟩ := id hr
  obtain rfl : r.length = m := by simpa using hle3
  have hsp2 : span r.length ≤ 8192 := by unfold span; omega
  have hcp : cp ≤ 9223372036854775807 := by simp only [maxLen] at hle2; omega
  have hok : ∀ q, q ≤ 10000 → (s.after q).ok 1000000000000000 := fun q hq => ⟨(DS.ok_after hs q).1, by have := (DS.ok_after hs q).2.1; omega, (DS.ok_after hs q).2.2⟩
  refine Ct.of_body Go.Proofs.Tryd.func10 rfl 120 rfl rfl (fun R => ?_)
  refine VC.seq ?_
  refine VC.region ?_
  refine V.assign rfl rfl rfl ?_
  refine V.nil ?_
  refine Post.nextC ?_
  refine VC.seq ?_
  refine VC.region ?_
  refine V.move rfl rfl rfl ?_
  refine V.len rfl rfl rfl ?_
  apply V.call rfl rfl rfl (hc := c29 (m := r.length) (by omega))
  · repeat' constructor
  rintro v Ho ⟨rfl, rfl⟩
  refine V.assign rfl rfl rfl ?_
  refine V.nil ?_
  refine Post.nextC ?_
  refine VC.seq ?_
  refine VC.seq ?_
  refine VC.region ?_
  refine V.move rfl rfl rfl ?_
  refine V.len rfl rfl rfl ?_
  refine V.bin rfl rfl rfl rfl (bin_gtr _ _ _) ?_
  refine V.know (t := 16) (y := .bool false) rfl (by simp; omega) ?_
  refine V.nil ?_
  refine Post.nextC ?_
  refine VC.condF rfl ?_
  refine VC.skip ?_
  refine Post.nextC ?_
  refine VC.seq ?_
  refine VC.region ?_
  refine V.move rfl rfl rfl ?_
  refine V.move rfl rfl rfl ?_
  refine V.nilCheck rfl rfl rfl ?_
  refine V.fieldAddr 4 4 rfl rfl rfl rfl rfl ?_
  apply V.loadL rfl rfl rfl rfl
  · repeat' constructor
  · repeat' constructor
  refine V.know (t := 21) (y := .bool false) rfl (rfl) ?_
  refine V.move rfl rfl rfl ?_
  refine V.move rfl rfl rfl ?_
  refine V.nilCheck rfl rfl rfl ?_
  refine V.fieldAddr 0 23 rfl rfl rfl rfl rfl ?_
  apply V.loadL rfl rfl rfl rfl
  · repeat' constructor
  · repeat' constructor
  apply V.call rfl rfl rfl (hc := c23)
  · repeat' constructor
  rintro v Ho ⟨rfl, rfl⟩
  refine V.know (t := 27) (y := .bool true) rfl (by rw [hd]; rfl) ?_
  refine V.not rfl rfl rfl ?_
  refine V.know (t := 28) (y := .bool false) rfl (rfl) ?_
  refine V.pickF rfl rfl rfl rfl ?_
  refine V.nilCheck rfl rfl rfl ?_
  refine V.fieldAddr 4 4 rfl rfl rfl rfl rfl ?_
  apply V.storeL rfl rfl rfl rfl rfl
  · repeat' constructor
  · repeat' constructor
  refine V.nil ?_
  refine Post.nextC ?_
  refine VC.seq ?_
  refine VC.block ?_
  refine VC.seq ?_
  refine VC.region ?_
  refine V.move rfl rfl rfl ?_
  refine V.nilCheck rfl rfl rfl ?_
  refine V.fieldAddr 4 4 rfl rfl rfl rfl rfl ?_
  apply V.loadL rfl rfl rfl rfl
  · repeat' constructor
  · repeat' constructor
  refine V.assign rfl rfl rfl ?_
  refine V.nil ?_
  refine Post.nextC ?_
  refine VC.cond rfl (fun h1 => ?_) (fun h1 => ?_)
  · try simp only [decide_eq_true_eq, decide_eq_false_iff_not, Bool.not_eq_true', Bool.not_eq_false', Bool.not_eq_eq_eq_not, Bool.not_true, Bool.not_false, beq_iff_eq, beq_eq_false_iff_ne, ne_eq, Int.not_lt, Int.not_le, Option.isSome_some, Option.isNone_none, Option.isSome_none, Option.isNone_some] at h1
    cases h1
  · try simp only [decide_eq_true_eq, decide_eq_false_iff_not, Bool.not_eq_true', Bool.not_eq_false', Bool.not_eq_eq_eq_not, Bool.not_true, Bool.not_false, beq_iff_eq, beq_eq_false_iff_ne, ne_eq, Int.not_lt, Int.not_le, Option.isSome_some, Option.isNone_none, Option.isSome_none, Option.isNone_some] at h1
    refine VC.seq ?_
    refine VC.draw mixed (by kernel_rfl) ?_
    refine V.move rfl rfl rfl ?_
    refine V.nilCheck rfl rfl rfl ?_
    refine V.fieldAddr 3 3 rfl rfl rfl rfl rfl ?_
    apply V.loadL rfl rfl rfl rfl
    · repeat' constructor
    · repeat' constructor
    refine V.move rfl rfl rfl ?_
    refine V.bin rfl rfl rfl rfl (bin_addI (by omega)) ?_
    refine V.bin rfl rfl rfl rfl (bin_addI (by omega)) ?_
    refine V.know (t := 44) (y := .int .i64 ((en + span r.length + 1 : Nat) : Int)) rfl (by first | rfl | (congr 1; omega)) ?_
    refine V.move rfl rfl rfl ?_
    refine V.nilCheck rfl rfl rfl ?_
    refine V.fieldAddr 0 23 rfl rfl rfl rfl rfl ?_
    apply V.loadL rfl rfl rfl rfl
    · repeat' constructor
    · repeat' constructor
    apply V.callQ (.int .i64 (((16 * nb : Nat) : Int) / 16)) rfl rfl rfl (hc := c15 (n := 16 * nb) (by omega))
    · repeat' constructor
    · rintro u Ho ⟨rfl, rfl⟩; exact ⟨rfl, by repeat' constructor⟩
    refine V.bin rfl rfl rfl rfl (bin_geq _ _ _) ?_
    refine V.know (t := 50) (y := .bool false) rfl (by simp; omega) ?_
    refine V.assign rfl rfl rfl ?_
    refine V.nil ?_
    refine Post.nextC ?_
    refine VC.condF rfl ?_
    refine VC.skip ?_
    refine Post.blockNormal (Post.nextC ?_)
    refine VC.seq ?_
    refine VC.region ?_
    refine V.assign rfl rfl rfl ?_
    refine V.nil ?_
    refine Post.nextC ?_
    refine VC.seq ?_
    refine VC.seq ?_
    refine VC.region ?_
    refine V.move rfl rfl rfl ?_
    refine V.bin rfl rfl rfl rfl (bin_addI (by omega)) ?_
    refine V.move rfl rfl rfl ?_
    refine V.nil ?_
    refine Post.nextC ?_
    refine VC.block ?_
    refine VC.loop (σ := Nat × Value × Chunk) (fun t => [(0, .pointer (some ⟨j, 0, none⟩)), (1, .slice ad r.length cp), (5, .int .i64 (span r.length : Int)), (6, t.2.1), (52, .int .i64 ((span r.length + 1 : Nat) : Int)), (53, .int .i64 (t.1 : Int))]) (fun t => t.2.2 :: jB j d boots (ln : Int) (en : Int) false :: dkS d bb nb s :: imB bb img :: c :: R) (fun t => t.1 ≤ span r.length + 1 ∧ Own 59 16 t.2.2 t.2.1 t.1 (cellsZ r t.1)) (fun t => span r.length + 1 - t.1) (0, .slice none 0 0, []) ⟨Nat.zero_le _, Own.nil 59 16⟩ ?_ ?_ ?_
    · exact ⟨rfl, rfl, rfl, rfl, rfl, rfl, trivial⟩
    · repeat' constructor
    rintro ⟨i, v1, c1⟩ ⟨hi1, ho⟩
    simp only at hi1 ho
    refine VC.seq ?_
    refine VC.region ?_
    refine V.bin rfl rfl rfl rfl (bin_lss _ _ _) ?_
    refine V.nil ?_
    refine Post.nextC ?_
    refine VC.seq ?_
    refine VC.cond rfl (fun h2 => ?_) (fun h2 => ?_)
    · try simp only [decide_eq_true_eq, decide_eq_false_iff_not, Bool.not_eq_true', Bool.not_eq_false', Bool.not_eq_eq_eq_not, Bool.not_true, Bool.not_false, beq_iff_eq, beq_eq_false_iff_ne, ne_eq, Int.not_lt, Int.not_le, Option.isSome_some, Option.isNone_none, Option.isSome_none, Option.isNone_some] at h2
      refine VC.skip ?_
      refine Post.nextC ?_
      refine VC.seq ?_
      refine VC.block ?_
      refine VC.seq ?_
      refine VC.region ?_
      refine V.move rfl rfl rfl ?_
      refine V.assign rfl rfl rfl ?_
      refine V.nil ?_
      refine Post.nextC ?_
      refine VC.seq ?_
      refine VC.region ?_
      refine V.alloc (l := [.int .u8 0, .int .u8 0, .int .u8 0, .int .u8 0, .int .u8 0, .int .u8 0, .int .u8 0, .int .u8 0, .int .u8 0, .int .u8 0, .int .u8 0, .int .u8 0, .int .u8 0, .int .u8 0, .int .u8 0, .int .u8 0]) rfl rfl rfl (fun b1 => ?_)
      refine V.nil ?_
      refine Post.nextC ?_
      refine VC.seq ?_
      refine VC.drawTail 8 mixed (by kernel_rfl) ?_
      refine V.sliceA rfl rfl rfl ?_
      refine V.move rfl rfl rfl ?_
      refine V.move rfl rfl rfl ?_
      refine V.bin rfl rfl rfl rfl (bin_mulI (by omega)) ?_
      refine V.know (t := 59) (y := .int .i64 ((16 * i : Nat) : Int)) rfl (by first | rfl | (congr 1; omega)) ?_
      refine V.move rfl rfl rfl ?_
      refine V.len rfl rfl rfl ?_
      refine V.minI rfl rfl rfl rfl ?_
      refine V.know (t := 62) (y := .int .i64 ((min (16 * i) r.length : Nat) : Int)) rfl (by first | rfl | (congr 1; omega)) ?_
      refine V.sliceL (i := min (16 * i) r.length) rfl rfl rfl rfl (by omega) (by omega) (fun a1 ha1 _ => ?_)
      refine V.nil ?_
      refine Post.tail ?_
      have hrd := Rd.drop hr (i := min (16 * i) r.length) (a1 := a1) (by omega) ha1
      rw [Nat.mul_one, ← List.map_drop] at hrd
      have hrd := hrd.take (i := min 16 (r.length - min (16 * i) r.length)) (by omega)
      rw [take_min16 _ _ (by rw [List.length_drop])] at hrd
      apply V.copy (news := ((r.drop (min (16 * i) r.length)).take 16).map byv) rfl rfl rfl rfl (hn := hrd.reads (.inr ?hq)) (h1 := all_byv _)
      case hp => repeat' constructor
      case hq => repeat' constructor
      case hl => simp; omega
      case hk => simp; omega
      rw [copy_blkZ]
      refine V.nil ?_
      refine Post.nextC ?_
      refine VC.region ?_
      refine V.move rfl rfl rfl ?_
      have hbl := blkZ_length r i
      apply V.loadAll rfl rfl rfl rfl
      · repeat' constructor
      · simp [hbl]
      refine V.buildSlice1 (l := (blkZ r i).map byv) rfl rfl rfl rfl (by simp [hbl]) rfl rfl (fun b2 => ?_)
      apply V.append1 rfl rfl rfl rfl rfl rfl (news := (blkZ r i).map byv) (ho := ho) (hb := by omega) (h63 := by simp only [maxLen]; omega)
      case hp => repeat' constructor
      case hl => simp [hbl]
      case h1 => exact all_byv _
      intro v2 c2 ho2
      refine V.assign rfl rfl rfl ?_
      refine V.nil ?_
      refine Post.blockNormal (Post.nextC ?_)
      refine VC.region ?_
      refine V.bin rfl rfl rfl rfl (bin_addI (by omega)) ?_
      refine V.move rfl rfl rfl ?_
      refine V.nil ?_
      refine Post.round (i + 1, v2, c2) ?_ ?_ ?_ ?_
      · exact ⟨by simp only; omega, ho2⟩
      · simp only; omega
      · exact ⟨rfl, rfl, rfl, rfl, rfl, rfl, trivial⟩
      · repeat' constructor
    · try simp only [decide_eq_true_eq, decide_eq_false_iff_not, Bool.not_eq_true', Bool.not_eq_false', Bool.not_eq_eq_eq_not, Bool.not_true, Bool.not_false, beq_iff_eq, beq_eq_false_iff_ne, ne_eq, Int.not_lt, Int.not_le, Option.isSome_some, Option.isNone_none, Option.isSome_none, Option.isNone_some] at h2
      refine VC.exit ?_
      refine Post.thenExit (Post.thenExit (Post.blockHit (Post.nextC ?_)))
      refine VC.seq ?_
      refine VC.seq ?_
      refine VC.region ?_
      obtain ⟨a2, cp2, rfl, hg1, hg2, hg3, hg4⟩ := id (ho.rd (w0 := w0))
      have hi2 : i = span r.length + 1 := by omega
      obtain ⟨gb, go, rfl, hgc⟩ : ∃ b o, a2 = some ⟨b, o, none⟩ ∧ ∀ j u, (cellsZ r i)[j]? = some u → Cel w0 c1 ⟨b, o + j, none⟩ u := by
        rcases hg4 with h | h
        · have := congrArg List.length h
          rw [cellsZ_length] at this
          simp at this
          omega
        · exact h
      refine V.move rfl rfl rfl ?_
      refine V.len rfl rfl rfl ?_
      refine V.move rfl rfl rfl ?_
      refine V.nil ?_
      refine Post.nextC ?_
      refine VC.block ?_
      refine VC.loop (σ := Nat) (fun q => [(0, .pointer (some ⟨j, 0, none⟩)), (1, .slice ad r.length cp), (5, .int .i64 (span r.length : Int)), (70, .slice (some ⟨gb, go, none⟩) i cp2), (71, .int .i64 (i : Int)), (72, .int .i64 (q : Int))]) (fun q => c1 :: jB j d boots (ln : Int) (en : Int) false :: dkS d bb nb (s.after q) :: imB bb (laid img (en + 1) r q) :: c :: R) (fun q => q ≤ i ∧ ∀ q', q' < q → (s.after q').dn = false) (fun q => i - q) 0 ⟨Nat.zero_le _, fun q' h => by omega⟩ ?_ ?_ ?_
      · exact ⟨rfl, rfl, rfl, rfl, rfl, rfl, trivial⟩
      · repeat' constructor
      rintro q ⟨hq1, hq2⟩
      refine VC.seq ?_
      refine VC.region ?_
      refine V.bin rfl rfl rfl rfl (bin_lss _ _ _) ?_
      refine V.nil ?_
      refine Post.nextC ?_
      refine VC.seq ?_
      refine VC.cond rfl (fun h3 => ?_) (fun h3 => ?_)
      · try simp only [decide_eq_true_eq, decide_eq_false_iff_not, Bool.not_eq_true', Bool.not_eq_false', Bool.not_eq_eq_eq_not, Bool.not_true, Bool.not_false, beq_iff_eq, beq_eq_false_iff_ne, ne_eq, Int.not_lt, Int.not_le, Option.isSome_some, Option.isNone_none, Option.isSome_none, Option.isNone_some] at h3
        refine VC.skip ?_
        refine Post.nextC ?_
        refine VC.seq ?_
        refine VC.block ?_
        refine VC.seq ?_
        refine VC.region ?_
        refine V.move rfl rfl rfl ?_
        refine V.indexO (i := q) rfl rfl rfl rfl (by omega) ?_
        have hcel : ∀ j u, ((blkZ r q).map byv)[j]? = some u → Cel w0 c1 ((⟨gb, go + q * 16, none⟩ : Addr).add j) u := fun j u hu => by
          rw [add_addr]
          have := hgc _ _ (cellsZ_get r i q (by omega) j u hu)
          rwa [← Nat.add_assoc] at this
        apply V.loadNC (vs := (blkZ r q).map byv) rfl rfl rfl rfl
        · repeat' constructor
        · simp [blkZ_length]
        · exact hcel
        refine V.alloc (l := [.int .u8 0, .int .u8 0, .int .u8 0, .int .u8 0, .int .u8 0, .int .u8 0, .int .u8 0, .int .u8 0, .int .u8 0, .int .u8 0, .int .u8 0, .int .u8 0, .int .u8 0, .int .u8 0, .int .u8 0, .int .u8 0]) rfl rfl rfl (fun b2 => ?_)
        refine V.assign rfl rfl rfl ?_
        apply V.storeAll rfl rfl rfl (all_byv _)
        · repeat' constructor
        · simp [blkZ_length]
        · rfl
        refine V.nil ?_
        refine Post.nextC ?_
        refine VC.seq ?_
        refine VC.drawTail 9 mixed (by kernel_rfl) ?_
        refine V.move rfl rfl rfl ?_
        refine V.move rfl rfl rfl ?_
        refine V.nilCheck rfl rfl rfl ?_
        refine V.fieldAddr 3 3 rfl rfl rfl rfl rfl ?_
        apply V.loadL rfl rfl rfl rfl
        · repeat' constructor
        · repeat' constructor
        refine V.bin rfl rfl rfl rfl (bin_addI (by omega)) ?_
        refine V.know (t := 82) (y := .int .i64 ((en + 1 : Nat) : Int)) rfl (by first | rfl | (congr 1; omega)) ?_
        refine V.move rfl rfl rfl ?_
        refine V.bin rfl rfl rfl rfl (bin_addI (by omega)) ?_
        refine V.know (t := 84) (y := .int .i64 ((en + 1 + q : Nat) : Int)) rfl (by first | rfl | (congr 1; omega)) ?_
        apply V.loadAll rfl rfl rfl rfl
        · repeat' constructor
        · simp [blkZ_length]
        refine V.nil ?_
        refine Post.tail ?_
        apply V.call rfl rfl rfl (hc := c30u (i := en + 1 + q) (img := laid img (en + 1) r q) (xs := blkZ r q) (s := s.after q) (laid_length hl q (by omega)) hnb (by omega) (blkZ_length r q) (hok q (by omega)))
        · repeat' constructor
        rintro v Ho ⟨rfl, rfl⟩
        refine V.bin rfl rfl rfl rfl (bin_neq _ _ _) ?_
        refine V.nil ?_
        refine Post.nextC ?_
        refine VC.cond rfl (fun h4 => ?_) (fun h4 => ?_)
        · try simp only [decide_eq_true_eq, decide_eq_false_iff_not, Bool.not_eq_true', Bool.not_eq_false', Bool.not_eq_eq_eq_not, Bool.not_true, Bool.not_false, beq_iff_eq, beq_eq_false_iff_ne, ne_eq, Int.not_lt, Int.not_le, Option.isSome_some, Option.isNone_none, Option.isSome_none, Option.isNone_some] at h4
          refine VC.seq ?_
          refine VC.region ?_
          have hdn := tryE_t h4
          rw [tryS_t hdn, tryI_t hdn, hdn]
          refine V.assign rfl rfl rfl ?_
          refine V.nil ?_
          refine Post.nextC ?_
          refine VC.ret ?_
          refine Post.blockRet (Post.thenRet (Post.thenRet (Post.blockRet (Post.thenRet (?_)))))
          apply Post.ret1 rfl rfl 
          · first
              | exact .inl ⟨rfl, after_step hq2 hdn, rfl⟩
              | exact .inr ⟨_, by omega, rfl, hdn, hq2, rfl⟩
          · repeat' constructor
        · try simp only [decide_eq_true_eq, decide_eq_false_iff_not, Bool.not_eq_true', Bool.not_eq_false', Bool.not_eq_eq_eq_not, Bool.not_true, Bool.not_false, beq_iff_eq, beq_eq_false_iff_ne, ne_eq, Int.not_lt, Int.not_le, Option.isSome_some, Option.isNone_none, Option.isSome_none, Option.isNone_some] at h4
          refine VC.skip ?_
          refine Post.blockNormal (Post.nextC ?_)
          refine VC.region ?_
          have hdn := tryE_f (Classical.not_not.1 h4)
          rw [tryS_f hdn, tryI_f hdn, hdn]
          refine V.bin rfl rfl rfl rfl (bin_addI (by omega)) ?_
          refine V.move rfl rfl rfl ?_
          refine V.nil ?_
          refine Post.round (q + 1) ?_ ?_ ?_ ?_
          · exact ⟨by omega, after_step hq2 hdn⟩
          · omega
          · exact ⟨rfl, rfl, rfl, rfl, rfl, rfl, trivial⟩
          · repeat' constructor
      · try simp only [decide_eq_true_eq, decide_eq_false_iff_not, Bool.not_eq_true', Bool.not_eq_false', Bool.not_eq_eq_eq_not, Bool.not_true, Bool.not_false, beq_iff_eq, beq_eq_false_iff_ne, ne_eq, Int.not_lt, Int.not_le, Option.isSome_some, Option.isNone_none, Option.isSome_none, Option.isNone_some] at h3
        refine VC.exit ?_
        refine Post.thenExit (Post.thenExit (Post.blockHit (Post.nextC ?_)))
        refine VC.seq ?_
        refine VC.seq ?_
        refine VC.drawTail 13 mixed (by kernel_rfl) ?_
        obtain rfl : q = span r.length + 1 := by omega
        refine V.move rfl rfl rfl ?_
        refine V.move rfl rfl rfl ?_
        refine V.nilCheck rfl rfl rfl ?_
        refine V.fieldAddr 3 3 rfl rfl rfl rfl rfl ?_
        apply V.loadL rfl rfl rfl rfl
        · repeat' constructor
        · repeat' constructor
        refine V.move rfl rfl rfl ?_
        refine V.len rfl rfl rfl ?_
        refine V.move rfl rfl rfl ?_
        refine V.nilCheck rfl rfl rfl ?_
        refine V.fieldAddr 2 3 rfl rfl rfl rfl rfl ?_
        apply V.loadL rfl rfl rfl rfl
        · repeat' constructor
        · repeat' constructor
        refine V.bin rfl rfl rfl rfl (bin_addI (by omega)) ?_
        refine V.know (t := 100) (y := .int .i64 ((ln + 1 : Nat) : Int)) rfl (by first | rfl | (congr 1; omega)) ?_
        apply V.callQ (.agg ((titleB r.length (ln + 1)).map byv).toArray) rfl rfl rfl (hc := c31 (m := r.length) (num := ln + 1) (by omega) (by omega))
        · repeat' constructor
        · rintro u Ho ⟨rfl, rfl⟩; exact ⟨rfl, by repeat' constructor⟩
        refine V.nil ?_
        refine Post.tail ?_
        apply V.call rfl rfl rfl (hc := c30u (i := en) (img := laid img (en + 1) r (span r.length + 1)) (xs := titleB r.length (ln + 1)) (s := s.after (span r.length + 1)) (laid_length hl _ (by omega)) hnb hen (titleB_length _ _) (hok _ (by omega)))
        · repeat' constructor
        rintro v Ho ⟨rfl, rfl⟩
        refine V.bin rfl rfl rfl rfl (bin_neq _ _ _) ?_
        refine V.nil ?_
        refine Post.nextC ?_
        refine VC.cond rfl (fun h5 => ?_) (fun h5 => ?_)
        · try simp only [decide_eq_true_eq, decide_eq_false_iff_not, Bool.not_eq_true', Bool.not_eq_false', Bool.not_eq_eq_eq_not, Bool.not_true, Bool.not_false, beq_iff_eq, beq_eq_false_iff_ne, ne_eq, Int.not_lt, Int.not_le, Option.isSome_some, Option.isNone_none, Option.isSome_none, Option.isNone_some] at h5
          refine VC.seq ?_
          refine VC.region ?_
          have hdn := tryE_t h5
          rw [tryS_t hdn, tryI_t hdn, hdn]
          refine V.assign rfl rfl rfl ?_
          refine V.nil ?_
          refine Post.nextC ?_
          refine VC.ret ?_
          refine Post.thenRet (?_)
          apply Post.ret1 rfl rfl 
          · first
              | exact .inl ⟨rfl, after_step hq2 hdn, rfl⟩
              | exact .inr ⟨_, by omega, rfl, hdn, hq2, rfl⟩
          · repeat' constructor
        · try simp only [decide_eq_true_eq, decide_eq_false_iff_not, Bool.not_eq_true', Bool.not_eq_false', Bool.not_eq_eq_eq_not, Bool.not_true, Bool.not_false, beq_iff_eq, beq_eq_false_iff_ne, ne_eq, Int.not_lt, Int.not_le, Option.isSome_some, Option.isNone_none, Option.isSome_none, Option.isNone_some] at h5
          refine VC.skip ?_
          refine Post.nextC ?_
          refine VC.seq ?_
          refine VC.region ?_
          have hdn := tryE_f (Classical.not_not.1 h5)
          rw [tryS_f hdn, tryI_f hdn, hdn]
          refine V.move rfl rfl rfl ?_
          refine V.nilCheck rfl rfl rfl ?_
          refine V.fieldAddr 2 3 rfl rfl rfl rfl rfl ?_
          apply V.loadL rfl rfl rfl rfl
          · repeat' constructor
          · repeat' constructor
          refine V.bin rfl rfl rfl rfl (bin_addI (by omega)) ?_
          refine V.know (t := 108) (y := .int .i64 ((ln + 1 : Nat) : Int)) rfl (by first | rfl | (congr 1; omega)) ?_
          refine V.nilCheck rfl rfl rfl ?_
          refine V.fieldAddr 2 3 rfl rfl rfl rfl rfl ?_
          apply V.storeL rfl rfl rfl rfl rfl
          · repeat' constructor
          · repeat' constructor
          refine V.nil ?_
          refine Post.nextC ?_
          refine VC.seq ?_
          refine VC.region ?_
          refine V.move rfl rfl rfl ?_
          refine V.nilCheck rfl rfl rfl ?_
          refine V.fieldAddr 3 3 rfl rfl rfl rfl rfl ?_
          apply V.loadL rfl rfl rfl rfl
          · repeat' constructor
          · repeat' constructor
          refine V.move rfl rfl rfl ?_
          refine V.bin rfl rfl rfl rfl (bin_addI (by omega)) ?_
          refine V.bin rfl rfl rfl rfl (bin_addI (by omega)) ?_
          refine V.know (t := 117) (y := .int .i64 ((en + span r.length + 1 : Nat) : Int)) rfl (by first | rfl | (congr 1; omega)) ?_
          refine V.nilCheck rfl rfl rfl ?_
          refine V.fieldAddr 3 3 rfl rfl rfl rfl rfl ?_
          apply V.storeL rfl rfl rfl rfl rfl
          · repeat' constructor
          · repeat' constructor
          refine V.nil ?_
          refine Post.nextC ?_
          refine VC.seq ?_
          refine VC.region ?_
          refine V.assign rfl rfl rfl ?_
          refine V.nil ?_
          refine Post.nextC ?_
          refine VC.ret ?_
          apply Post.ret1 rfl rfl 
          · first
              | exact .inl ⟨rfl, after_step hq2 hdn, rfl⟩
              | exact .inr ⟨_, by omega, rfl, hdn, hq2, rfl⟩
          · repeat' constructor

end Go.Proofs.Jn
