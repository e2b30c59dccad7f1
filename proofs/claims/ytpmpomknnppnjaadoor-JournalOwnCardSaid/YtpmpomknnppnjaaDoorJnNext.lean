/- Contracts of functions of the given program, each proved by walking its code: part of the proof of this claim; no condition beyond those that each theorem names. -/
import Derived.Test.YtpmpomknnppnjaaDoorJnJour
set_option linter.unusedVariables false
set_option linter.unusedSimpArgs false
namespace Go.Proofs.Jn
open Go Go.RowKit Go.Proofs.Eng
theorem zeros_get {xs : Bytes} (hz : ∀ x ∈ xs, x = 0) {k : Nat} (hk : k < xs.length) : (xs.map byv)[k]? = some (.int .u8 0) := by
  have h0 : xs[k] = 0 := hz _ (List.getElem_mem hk)
  rw [List.getElem?_map, List.getElem?_eq_getElem hk, h0]
  rfl

/-- a record's bytes and the zeros behind it -/
def pad (r : Bytes) : Bytes := r ++ List.replicate (16 * span r.length - r.length) 0
theorem pad_length (r : Bytes) : (pad r).length = 16 * span r.length := by
  simp [pad]
  unfold span
  omega
theorem pad_zero (r : Bytes) : ∀ x ∈ (pad r).drop r.length, x = 0 := by
  intro x hx
  rw [pad, List.drop_left] at hx
  exact List.eq_of_mem_replicate hx
theorem pad_take (r : Bytes) : (pad r).take r.length = r := by simp [pad]
/-- a record as it is told: all of its own block's head, and no room behind it -/
def RecIs (c : Chunk) (v : Value) (r : Bytes) : Prop :=
  (c = [] ∧ v = .slice none 0 0 ∧ r = []) ∨ ∃ g cur, c = [(g, .cells cur 5 (0, 0))] ∧ v = .slice (some ⟨g, 0, none⟩) r.length r.length ∧ cur.toList.take r.length = r.map byv
theorem RecIs.rd {w0 : World} {c : Chunk} {v : Value} {r : Bytes} (h : RecIs c v r) (hr : r.length ≤ 131072) : Rd w0 c 1 v r.length (r.map byv) := by
  rcases h with ⟨rfl, rfl, rfl⟩ | ⟨g, cur, rfl, rfl, h⟩
  · exact Rd.nil w0 [] 1
  · refine ⟨_, _, rfl, Nat.le_refl _, by simp only [maxLen]; omega, by simp, .inr ⟨g, 0, rfl, fun j u hu => ⟨rfl, cur, 5, (0, 0), .inl (List.mem_singleton.2 rfl), ?_⟩⟩⟩
    have hj : j < r.length := by simpa using (List.getElem?_eq_some_iff.1 hu).1
    rw [← h, List.getElem?_take, if_pos hj] at hu
    simpa using hu
theorem own_step {c : Chunk} {v : Value} {r b : Bytes} {i : Nat} (h : Own 5 1 c v (16 * i + 16) ((((pad r).take (16 * i)).map byv) ++ b.map byv)) (hb : b = ((pad r).drop (16 * i)).take 16) (hi : i < span r.length) :
    Own 5 1 c v (16 * (i + 1)) (((pad r).take (16 * (i + 1))).map byv) := by
  rw [← List.map_append, hb, ← List.take_add] at h
  rw [show 16 * (i + 1) = 16 * i + 16 by omega]
  exact h
theorem recIs_of_own {c : Chunk} {ad : Option Addr} {m cp : Nat} {r : Bytes} (h : Own 5 1 c (.slice ad m cp) (16 * span r.length) (((pad r).take (16 * span r.length)).map byv)) (hr : r.length ≤ 16 * span r.length) : RecIs c (.slice ad r.length r.length) r := by
  obtain ⟨hl, ⟨rfl, h1, h2⟩ | ⟨g, cap, cur, rfl, h1, h2, h3, h4, h5⟩⟩ := h
  · simp only [Value.slice.injEq] at h1
    obtain ⟨rfl, _, _⟩ := h1
    have h0 : r.length = 0 := by omega
    exact .inl ⟨rfl, by rw [h0], List.eq_nil_of_length_eq_zero h0⟩
  · simp only [Value.slice.injEq] at h1
    obtain ⟨rfl, _, _⟩ := h1
    refine .inr ⟨g, cur, rfl, rfl, ?_⟩
    have := congrArg (List.take r.length) h5
    rw [List.take_take, Nat.mul_one, Nat.min_eq_left hr, List.take_of_length_le (l := pad r) (by rw [pad_length]; omega), ← List.map_take, pad_take] at this
    exact this

theorem c50 {w0 : World} {ad : Option Addr} {m cp : Nat} {c : Chunk} {xs : Bytes} (hr : Rd w0 c 1 (.slice ad m cp) m (xs.map byv)) (hz : ∀ x ∈ xs, x = 0) : CtR Pg w0 50 #[.slice ad m cp, .int .u8 0] [c] (fun v H => v = .slice ad 0 cp ∧ H = [c]) := by
  obtain ⟨_, _, heq, hle1, hle2, hle3, hle4⟩ := id hr
  simp only [Value.slice.injEq] at heq
  obtain ⟨rfl, _, rfl⟩ := heq
  have hxl : xs.length = m := by simpa using hle3
  have hm63 : m ≤ 9223372036854775807 := by simp only [maxLen] at hle2; omega
  refine Ct.of_body Go.Proofs.Tryd.func50 rfl 24 rfl rfl (fun R => ?_)
  refine VC.seq ?_
  refine VC.region ?_
  refine V.assign rfl rfl rfl ?_
  refine V.nil ?_
  refine Post.nextC ?_
  refine VC.seq ?_
  refine VC.block ?_
  refine VC.loop (σ := Nat) (fun k => [(0, .slice ad (m - k) cp), (1, .int .u8 0)]) (fun k => c :: R) (fun k => k ≤ m) (fun k => m - k) 0 (by omega) ?_ ?_ ?_
  · exact ⟨rfl, rfl, trivial⟩
  · repeat' constructor
  intro k hk
  refine VC.seq ?_
  refine VC.seq ?_
  refine VC.region ?_
  refine V.move rfl rfl rfl ?_
  refine V.len rfl rfl rfl ?_
  refine V.bin rfl rfl rfl rfl (bin_gtr _ _ _) ?_
  refine V.move rfl rfl rfl ?_
  refine V.split (t := 8) rfl (fun h1 => ?_) (fun h1 => ?_)
  · try simp only [decide_eq_true_eq, decide_eq_false_iff_not, Bool.not_eq_true', Bool.not_eq_false', Bool.not_eq_eq_eq_not, Bool.not_true, Bool.not_false, beq_iff_eq, beq_eq_false_iff_ne, ne_eq, Int.not_lt, Int.not_le, Option.isSome_some, Option.isNone_none, Option.isSome_none, Option.isNone_some] at h1
    refine V.move rfl rfl rfl ?_
    refine V.move rfl rfl rfl ?_
    refine V.len rfl rfl rfl ?_
    refine V.bin rfl rfl rfl rfl (bin_subI (by omega)) ?_
    refine V.know (t := 12) (y := .int .i64 ((m - k - 1 : Nat) : Int)) rfl (by first | rfl | (congr 1; omega)) ?_
    obtain ⟨b, o, rfl, hc⟩ : ∃ b o, ad = some ⟨b, o, none⟩ ∧ ∀ j u, (xs.map byv)[j]? = some u → Cel w0 c ⟨b, o + j, none⟩ u := by
      rcases hle4 with h | h
      · simp at h
        subst h
        simp at hxl
        omega
      · exact h
    have hcel : Cel w0 c ⟨b, o + (m - k - 1) * 1, none⟩ (.int .u8 0) := by
      have := hc (m - k - 1) _ (zeros_get hz (by omega))
      rwa [Nat.mul_one]
    refine V.indexO (i := m - k - 1) rfl rfl rfl rfl (by omega) ?_
    apply V.loadC rfl rfl rfl rfl
    · repeat' constructor
    · assumption
    refine V.move rfl rfl rfl ?_
    refine V.bin rfl rfl rfl rfl (bin_eql _ _ _) ?_
    refine V.know (t := 16) (y := .bool true) rfl (by simp) ?_
    refine V.pickT rfl rfl rfl rfl ?_
    refine V.nil ?_
    refine Post.nextC ?_
    refine VC.condT rfl ?_
    refine VC.skip ?_
    refine Post.nextC ?_
    refine VC.block ?_
    refine VC.region ?_
    refine V.move rfl rfl rfl ?_
    refine V.move rfl rfl rfl ?_
    refine V.len rfl rfl rfl ?_
    refine V.bin rfl rfl rfl rfl (bin_subI (by omega)) ?_
    refine V.know (t := 21) (y := .int .i64 ((m - k - 1 : Nat) : Int)) rfl (by first | rfl | (congr 1; omega)) ?_
    refine V.sliceH rfl rfl rfl rfl (by omega) ?_
    refine V.assign rfl rfl rfl ?_
    refine V.nil ?_
    refine Post.blockNormal (Post.round (k + 1) ?_ ?_ ?_ ?_)
    · omega
    · omega
    · exact ⟨by rw [show m - (k + 1) = m - k - 1 by omega]; rfl, rfl, trivial⟩
    · repeat' constructor
  · try simp only [decide_eq_true_eq, decide_eq_false_iff_not, Bool.not_eq_true', Bool.not_eq_false', Bool.not_eq_eq_eq_not, Bool.not_true, Bool.not_false, beq_iff_eq, beq_eq_false_iff_ne, ne_eq, Int.not_lt, Int.not_le, Option.isSome_some, Option.isNone_none, Option.isSome_none, Option.isNone_some] at h1
    refine V.skip rfl rfl ?_
    refine V.skip rfl rfl ?_
    refine V.skip rfl rfl ?_
    refine V.skip rfl rfl ?_
    refine V.skip rfl rfl ?_
    refine V.skip rfl rfl ?_
    refine V.skip rfl rfl ?_
    refine V.skip rfl rfl ?_
    refine V.pickF rfl rfl rfl rfl ?_
    refine V.nil ?_
    refine Post.nextC ?_
    refine VC.condF rfl ?_
    refine VC.exit ?_
    refine Post.thenExit (Post.thenExit (Post.blockHit (Post.nextC ?_)))
    refine VC.seq ?_
    refine VC.region ?_
    refine V.move rfl rfl rfl ?_
    refine V.assign rfl rfl rfl ?_
    refine V.nil ?_
    refine Post.nextC ?_
    refine VC.ret ?_
    apply Post.ret1 rfl rfl 
    · obtain rfl : k = m := by omega
      exact ⟨by rw [Nat.sub_self], rfl⟩
    · repeat' constructor

theorem c49 {w0 : World} {ad : Option Addr} {cp : Nat} : CtR Pg w0 49 #[.slice ad 0 cp, .int .u8 0] [] (fun v H => v = .slice none 0 0 ∧ H = []) := by
  refine Ct.of_body Go.Proofs.Tryd.func49 rfl 21 rfl rfl (fun R => ?_)
  refine VC.seq ?_
  refine VC.region ?_
  refine V.assign rfl rfl rfl ?_
  refine V.nil ?_
  refine Post.nextC ?_
  refine VC.seq ?_
  refine VC.block ?_
  refine VC.loop (σ := Nat) (fun k => [(0, .slice ad 0 cp), (1, .int .u8 0)]) (fun k => R) (fun k => k = 0) (fun k => 0) 0 rfl ?_ ?_ ?_
  · exact ⟨rfl, rfl, trivial⟩
  · repeat' constructor
  intro k hk
  refine VC.seq ?_
  refine VC.seq ?_
  refine VC.region ?_
  refine V.move rfl rfl rfl ?_
  refine V.len rfl rfl rfl ?_
  refine V.bin rfl rfl rfl rfl (bin_gtr _ _ _) ?_
  refine V.know (t := 7) (y := .bool false) rfl (by simp) ?_
  refine V.move rfl rfl rfl ?_
  refine V.skip rfl rfl ?_
  refine V.skip rfl rfl ?_
  refine V.skip rfl rfl ?_
  refine V.skip rfl rfl ?_
  refine V.skip rfl rfl ?_
  refine V.pickF rfl rfl rfl rfl ?_
  refine V.nil ?_
  refine Post.nextC ?_
  refine VC.condF rfl ?_
  refine VC.exit ?_
  refine Post.thenExit (Post.thenExit (Post.blockHit (Post.nextC ?_)))
  refine VC.seq ?_
  refine VC.seq ?_
  refine VC.region ?_
  refine V.move rfl rfl rfl ?_
  refine V.len rfl rfl rfl ?_
  refine V.bin rfl rfl rfl rfl (bin_eql _ _ _) ?_
  refine V.know (t := 19) (y := .bool true) rfl (by simp) ?_
  refine V.nil ?_
  refine Post.nextC ?_
  refine VC.condT rfl ?_
  refine VC.seq ?_
  refine VC.region ?_
  refine V.assign rfl rfl rfl ?_
  refine V.nil ?_
  refine Post.nextC ?_
  refine VC.ret ?_
  refine Post.thenRet (?_)
  apply Post.ret1 rfl rfl 
  · exact ⟨rfl, rfl⟩
  · repeat' constructor

theorem c41 {w0 : World} {ad : Option Addr} {m cp : Nat} {c : Chunk} {xs : Bytes} (hr : Rd w0 c 1 (.slice ad m cp) m (xs.map byv)) (hz : ∀ x ∈ xs, x = 0) : CtR Pg w0 41 #[.slice ad m cp, .string ⟨#[0]⟩] [c] (fun v H => v = .slice none 0 0 ∧ H = [c]) := by
  obtain ⟨_, _, heq, hle1, hle2, hle3, hle4⟩ := id hr
  simp only [Value.slice.injEq] at heq
  obtain ⟨rfl, _, rfl⟩ := heq
  have hxl : xs.length = m := by simpa using hle3
  have hm63 : m ≤ 9223372036854775807 := by simp only [maxLen] at hle2; omega
  refine Ct.of_body Go.Proofs.Tryd.func41 rfl 42 rfl rfl (fun R => ?_)
  refine VC.seq ?_
  refine VC.region ?_
  refine V.assign rfl rfl rfl ?_
  refine V.nil ?_
  refine Post.nextC ?_
  refine VC.seq ?_
  refine VC.seq ?_
  refine VC.region ?_
  refine V.move rfl rfl rfl ?_
  refine V.len rfl rfl rfl ?_
  refine V.bin rfl rfl rfl rfl (bin_eql _ _ _) ?_
  refine V.nil ?_
  refine Post.nextC ?_
  refine VC.cond rfl (fun h1 => ?_) (fun h1 => ?_)
  · try simp only [decide_eq_true_eq, decide_eq_false_iff_not, Bool.not_eq_true', Bool.not_eq_false', Bool.not_eq_eq_eq_not, Bool.not_true, Bool.not_false, beq_iff_eq, beq_eq_false_iff_ne, ne_eq, Int.not_lt, Int.not_le, Option.isSome_some, Option.isNone_none, Option.isSome_none, Option.isNone_some] at h1
    refine VC.seq ?_
    refine VC.region ?_
    refine V.assign rfl rfl rfl ?_
    refine V.nil ?_
    refine Post.nextC ?_
    refine VC.ret ?_
    refine Post.thenRet (?_)
    apply Post.ret1 rfl rfl 
    · exact ⟨rfl, rfl⟩
    · repeat' constructor
  · try simp only [decide_eq_true_eq, decide_eq_false_iff_not, Bool.not_eq_true', Bool.not_eq_false', Bool.not_eq_eq_eq_not, Bool.not_true, Bool.not_false, beq_iff_eq, beq_eq_false_iff_ne, ne_eq, Int.not_lt, Int.not_le, Option.isSome_some, Option.isNone_none, Option.isSome_none, Option.isNone_some] at h1
    refine VC.skip ?_
    refine Post.nextC ?_
    refine VC.seq ?_
    refine VC.seq ?_
    refine VC.region ?_
    refine V.move rfl rfl rfl ?_
    refine V.bin rfl rfl rfl rfl (bin_seql _ _) ?_
    refine V.know (t := 11) (y := .bool false) rfl (congrArg Value.bool (by decide)) ?_
    refine V.nil ?_
    refine Post.nextC ?_
    refine VC.condF rfl ?_
    refine VC.skip ?_
    refine Post.nextC ?_
    refine VC.seq ?_
    refine VC.seq ?_
    refine VC.region ?_
    refine V.move rfl rfl rfl ?_
    refine V.lenS rfl rfl rfl ?_
    refine V.bin rfl rfl rfl rfl (bin_eql _ _ _) ?_
    refine V.know (t := 15) (y := .bool true) rfl (rfl) ?_
    refine V.move rfl rfl rfl ?_
    refine V.move rfl rfl rfl ?_
    refine V.indexS (i := 0) rfl rfl rfl rfl (by decide) ?_
    refine V.bin rfl rfl rfl rfl (bin_lss _ _ _) ?_
    refine V.know (t := 19) (y := .bool true) rfl (congrArg Value.bool (by decide)) ?_
    refine V.pickT rfl rfl rfl rfl ?_
    refine V.nil ?_
    refine Post.nextC ?_
    refine VC.condT rfl ?_
    refine VC.seq ?_
    refine VC.draw mixed (by kernel_rfl) ?_
    refine V.move rfl rfl rfl ?_
    refine V.move rfl rfl rfl ?_
    refine V.indexS (i := 0) rfl rfl rfl rfl (by decide) ?_
    apply V.callQ (.slice ad 0 cp) rfl rfl rfl (hc := c50 hr hz)
    · repeat' constructor
    · rintro u Ho ⟨rfl, rfl⟩; exact ⟨rfl, by repeat' constructor⟩
    refine V.move rfl rfl rfl ?_
    refine V.indexS (i := 0) rfl rfl rfl rfl (by decide) ?_
    apply V.callQ (.slice none 0 0) rfl rfl rfl (hc := c49 (ad := ad) (cp := cp))
    · repeat' constructor
    · rintro u Ho ⟨rfl, rfl⟩; exact ⟨rfl, by repeat' constructor⟩
    refine V.assign rfl rfl rfl ?_
    refine V.nil ?_
    refine Post.nextC ?_
    refine VC.ret ?_
    refine Post.thenRet (?_)
    apply Post.ret1 rfl rfl 
    · exact ⟨rfl, rfl⟩
    · repeat' constructor

theorem c27e {w0 : World} {j d bb nb en ln boots : Nat} {down : Bool} {s : DS} {img : Bytes} (hl : img.length = 16 * nb) (hnb : nb ≤ 65536) (hi : en < nb) (hd : s.dn = false) (hz : blk img en = zb) : CtR Pg w0 27 #[.pointer (some ⟨j, 0, none⟩)] [jB j d boots (ln : Int) (en : Int) down, dkS d bb nb s, imB bb img] (fun v H => v = .tuple #[.slice none 0 0, .bool false, .bool true] ∧ H = [jB j d boots (ln : Int) (en : Int) down, dkS d bb nb s, imB bb img]) := by
  have hbl := blk_length hl hi
  refine Ct.of_body Go.Proofs.Tryd.func27 rfl 94 rfl rfl (fun R => ?_)
  refine VC.seq ?_
  refine VC.region ?_
  refine V.assign rfl rfl rfl ?_
  refine V.assign rfl rfl rfl ?_
  refine V.assign rfl rfl rfl ?_
  refine V.nil ?_
  refine Post.nextC ?_
  refine VC.seq ?_
  refine VC.region ?_
  refine V.move rfl rfl rfl ?_
  refine V.move rfl rfl rfl ?_
  refine V.nilCheck rfl rfl rfl ?_
  refine V.fieldAddr 3 3 rfl rfl rfl rfl rfl ?_
  apply V.loadL rfl rfl rfl rfl
  · repeat' constructor
  · repeat' constructor
  apply V.call rfl rfl rfl (hc := c24 hl hnb hi hd)
  · repeat' constructor
  rintro v Ho ⟨rfl, rfl⟩
  refine V.alloc (l := [.int .u8 0, .int .u8 0, .int .u8 0, .int .u8 0, .int .u8 0, .int .u8 0, .int .u8 0, .int .u8 0, .int .u8 0, .int .u8 0, .int .u8 0, .int .u8 0, .int .u8 0, .int .u8 0, .int .u8 0, .int .u8 0]) rfl rfl rfl (fun b1 => ?_)
  apply V.storeAll rfl rfl rfl (all_byv _)
  · repeat' constructor
  · simp [hbl]
  · rfl
  refine V.nil ?_
  refine Post.nextC ?_
  refine VC.seq ?_
  refine VC.seq ?_
  refine VC.region ?_
  apply V.loadAll rfl rfl rfl rfl
  · repeat' constructor
  · simp [hbl]
  refine V.buildA [] (l := [.int .u8 0, .int .u8 0, .int .u8 0, .int .u8 0, .int .u8 0, .int .u8 0, .int .u8 0, .int .u8 0, .int .u8 0, .int .u8 0, .int .u8 0, .int .u8 0, .int .u8 0, .int .u8 0, .int .u8 0, .int .u8 0]) rfl rfl rfl rfl rfl ?_
  refine V.bin rfl rfl rfl rfl (bin_eqlBytes (blk img en) zb hbl rfl) ?_
  refine V.know (t := 18) (y := .bool true) rfl (by simp [hz]) ?_
  refine V.nil ?_
  refine Post.nextC ?_
  refine VC.condT rfl ?_
  refine VC.seq ?_
  refine VC.region ?_
  refine V.assign rfl rfl rfl ?_
  refine V.assign rfl rfl rfl ?_
  refine V.assign rfl rfl rfl ?_
  refine V.nil ?_
  refine Post.nextC ?_
  refine VC.ret ?_
  refine Post.thenRet (?_)
  apply Post.ret3 rfl rfl rfl rfl 
  · exact ⟨rfl, rfl⟩
  · repeat' constructor

theorem c27r {w0 : World} {j d bb nb en ln boots : Nat} {down : Bool} {s : DS} {img : Bytes} {r : Bytes} (hl : img.length = 16 * nb) (hnb : nb ≤ 65536) (hi : en < nb) (hd : s.dn = false) (hb : blk img en = titleB r.length (ln + 1)) (hrl : r.length ≤ 131072) (hln : ln < 1000000) (hsp : en + span r.length + 1 < nb) (hdat : ∀ i, i < span r.length → blk img (en + 1 + i) = ((pad r).drop (16 * i)).take 16) : CtR Pg w0 27 #[.pointer (some ⟨j, 0, none⟩)] [jB j d boots (ln : Int) (en : Int) down, dkS d bb nb s, imB bb img] (fun v H => ∃ v1 c1, v = .tuple #[v1, .bool true, .bool true] ∧ RecIs c1 v1 r ∧ H = [c1, jB j d boots ((ln + 1 : Nat) : Int) ((en + span r.length + 1 : Nat) : Int) down, dkS d bb nb s, imB bb img]) := by
  have htl := titleB_length r.length (ln + 1)
  have hpl := pad_length r
  have hsp2 : span r.length ≤ 8192 := by unfold span; omega
  have hsp3 : r.length ≤ 16 * span r.length := by unfold span; omega
  refine Ct.of_body Go.Proofs.Tryd.func27 rfl 94 rfl rfl (fun R => ?_)
  refine VC.seq ?_
  refine VC.region ?_
  refine V.assign rfl rfl rfl ?_
  refine V.assign rfl rfl rfl ?_
  refine V.assign rfl rfl rfl ?_
  refine V.nil ?_
  refine Post.nextC ?_
  refine VC.seq ?_
  refine VC.region ?_
  refine V.move rfl rfl rfl ?_
  refine V.move rfl rfl rfl ?_
  refine V.nilCheck rfl rfl rfl ?_
  refine V.fieldAddr 3 3 rfl rfl rfl rfl rfl ?_
  apply V.loadL rfl rfl rfl rfl
  · repeat' constructor
  · repeat' constructor
  apply V.call rfl rfl rfl (hc := c24 hl hnb hi hd)
  · repeat' constructor
  rintro v Ho ⟨rfl, rfl⟩
  rw [hb]
  refine V.alloc (l := [.int .u8 0, .int .u8 0, .int .u8 0, .int .u8 0, .int .u8 0, .int .u8 0, .int .u8 0, .int .u8 0, .int .u8 0, .int .u8 0, .int .u8 0, .int .u8 0, .int .u8 0, .int .u8 0, .int .u8 0, .int .u8 0]) rfl rfl rfl (fun b1 => ?_)
  apply V.storeAll rfl rfl rfl (all_byv _)
  · repeat' constructor
  · simp [htl]
  · rfl
  refine V.nil ?_
  refine Post.nextC ?_
  refine VC.seq ?_
  refine VC.seq ?_
  refine VC.region ?_
  apply V.loadAll rfl rfl rfl rfl
  · repeat' constructor
  · simp [htl]
  refine V.buildA [] (l := [.int .u8 0, .int .u8 0, .int .u8 0, .int .u8 0, .int .u8 0, .int .u8 0, .int .u8 0, .int .u8 0, .int .u8 0, .int .u8 0, .int .u8 0, .int .u8 0, .int .u8 0, .int .u8 0, .int .u8 0, .int .u8 0]) rfl rfl rfl rfl rfl ?_
  refine V.bin rfl rfl rfl rfl (bin_eqlBytes (titleB r.length (ln + 1)) zb htl rfl) ?_
  refine V.know (t := 18) (y := .bool false) rfl (by simp [titleB_ne]) ?_
  refine V.nil ?_
  refine Post.nextC ?_
  refine VC.condF rfl ?_
  refine VC.skip ?_
  refine Post.nextC ?_
  refine VC.seq ?_
  refine VC.region ?_
  apply V.loadAll rfl rfl rfl rfl
  · repeat' constructor
  · simp [htl]
  apply V.call rfl rfl rfl (hc := c25 (bs := titleB r.length (ln + 1)) htl)
  · repeat' constructor
  rintro v Ho ⟨rfl, rfl⟩
  rw [titleB_val _ _ (by omega)]
  refine V.assign rfl rfl rfl ?_
  refine V.nil ?_
  refine Post.nextC ?_
  refine VC.seq ?_
  refine VC.seq ?_
  refine VC.draw mixed (by kernel_rfl) ?_
  refine V.move rfl rfl rfl ?_
  refine V.bin rfl rfl rfl rfl (bin_gtr _ _ _) ?_
  refine V.know (t := 22) (y := .bool false) rfl (by simp; omega) ?_
  refine V.move rfl rfl rfl ?_
  apply V.loadAll rfl rfl rfl rfl
  · repeat' constructor
  · simp [htl]
  refine V.move rfl rfl rfl ?_
  refine V.conv _ rfl rfl rfl (IntWalk.i64_in _ (by omega)) ?_
  refine V.move rfl rfl rfl ?_
  refine V.nilCheck rfl rfl rfl ?_
  refine V.fieldAddr 2 3 rfl rfl rfl rfl rfl ?_
  apply V.loadL rfl rfl rfl rfl
  · repeat' constructor
  · repeat' constructor
  refine V.bin rfl rfl rfl rfl (bin_addI (by omega)) ?_
  refine V.know (t := 31) (y := .int .i64 ((ln + 1 : Nat) : Int)) rfl (by first | rfl | (congr 1; omega)) ?_
  apply V.callQ (.agg ((titleB r.length (ln + 1)).map byv).toArray) rfl rfl rfl (hc := c31 (m := r.length) (num := ln + 1) (by omega) (by omega))
  · repeat' constructor
  · rintro u Ho ⟨rfl, rfl⟩; exact ⟨rfl, by repeat' constructor⟩
  refine V.bin rfl rfl rfl rfl (bin_neqBytes (titleB r.length (ln + 1)) (titleB r.length (ln + 1)) htl htl) ?_
  refine V.know (t := 33) (y := .bool false) rfl (by simp) ?_
  refine V.pickF rfl rfl rfl rfl ?_
  refine V.nil ?_
  refine Post.nextC ?_
  refine VC.condF rfl ?_
  refine VC.skip ?_
  refine Post.nextC ?_
  refine VC.seq ?_
  refine VC.region ?_
  refine V.move rfl rfl rfl ?_
  refine V.conv _ rfl rfl rfl (IntWalk.i64_in _ (by omega)) ?_
  apply V.call rfl rfl rfl (hc := c29 (m := r.length) (by omega))
  · repeat' constructor
  rintro v Ho ⟨rfl, rfl⟩
  refine V.assign rfl rfl rfl ?_
  refine V.nil ?_
  refine Post.nextC ?_
  refine VC.seq ?_
  refine VC.seq ?_
  refine VC.draw mixed (by kernel_rfl) ?_
  refine V.move rfl rfl rfl ?_
  refine V.nilCheck rfl rfl rfl ?_
  refine V.fieldAddr 3 3 rfl rfl rfl rfl rfl ?_
  apply V.loadL rfl rfl rfl rfl
  · repeat' constructor
  · repeat' constructor
  refine V.move rfl rfl rfl ?_
  refine V.bin rfl rfl rfl rfl (bin_addI (by omega)) ?_
  refine V.bin rfl rfl rfl rfl (bin_addI (by omega)) ?_
  refine V.know (t := 44) (y := .int .i64 ((en + span r.length + 1 : Nat) : Int)) rfl (by first | rfl | (congr 1; omega)) ?_
  refine V.move rfl rfl rfl ?_
  refine V.nilCheck rfl rfl rfl ?_
  refine V.fieldAddr 0 23 rfl rfl rfl rfl rfl ?_
  apply V.loadL rfl rfl rfl rfl
  · repeat' constructor
  · repeat' constructor
  apply V.callQ (.int .i64 (((16 * nb : Nat) : Int) / 16)) rfl rfl rfl (hc := c15 (n := 16 * nb) (by omega))
  · repeat' constructor
  · rintro u Ho ⟨rfl, rfl⟩; exact ⟨rfl, by repeat' constructor⟩
  refine V.bin rfl rfl rfl rfl (bin_geq _ _ _) ?_
  refine V.know (t := 50) (y := .bool false) rfl (by simp; omega) ?_
  refine V.nil ?_
  refine Post.nextC ?_
  refine VC.condF rfl ?_
  refine VC.skip ?_
  refine Post.nextC ?_
  refine VC.seq ?_
  refine VC.seq ?_
  refine VC.region ?_
  refine V.move rfl rfl rfl ?_
  refine V.move rfl rfl rfl ?_
  refine V.nil ?_
  refine Post.nextC ?_
  refine VC.block ?_
  refine VC.loop (σ := Nat × Value × Chunk) (fun s => [(0, .pointer (some ⟨j, 0, none⟩)), (2, s.2.1), (6, .int .u64 (r.length : Int)), (7, .int .i64 (span r.length : Int)), (51, .int .i64 (span r.length : Int)), (52, .int .i64 (s.1 : Int))]) (fun t => t.2.2 :: jB j d boots (ln : Int) (en : Int) down :: dkS d bb nb s :: imB bb img :: R) (fun t => t.1 ≤ span r.length ∧ Own 5 1 t.2.2 t.2.1 (16 * t.1) (((pad r).take (16 * t.1)).map byv)) (fun t => span r.length - t.1) (0, .slice none 0 0, []) ⟨Nat.zero_le _, Own.nil 5 1⟩ ?_ ?_ ?_
  · exact ⟨rfl, rfl, rfl, rfl, rfl, rfl, trivial⟩
  · repeat' constructor
  rintro ⟨i, v1, c1⟩ ⟨hi1, ho⟩
  simp only at hi1 ho
  refine VC.seq ?_
  refine VC.region ?_
  refine V.bin rfl rfl rfl rfl (bin_lss _ _ _) ?_
  refine V.nil ?_
  refine Post.nextC ?_
  refine VC.seq ?_
  refine VC.cond rfl (fun h1 => ?_) (fun h1 => ?_)
  · try simp only [decide_eq_true_eq, decide_eq_false_iff_not, Bool.not_eq_true', Bool.not_eq_false', Bool.not_eq_eq_eq_not, Bool.not_true, Bool.not_false, beq_iff_eq, beq_eq_false_iff_ne, ne_eq, Int.not_lt, Int.not_le, Option.isSome_some, Option.isNone_none, Option.isSome_none, Option.isNone_some] at h1
    refine VC.skip ?_
    refine Post.nextC ?_
    refine VC.seq ?_
    refine VC.block ?_
    refine VC.seq ?_
    refine VC.region ?_
    refine V.move rfl rfl rfl ?_
    refine V.assign rfl rfl rfl ?_
    refine V.nil ?_
    refine Post.nextC ?_
    refine VC.seq ?_
    refine VC.region ?_
    refine V.move rfl rfl rfl ?_
    refine V.move rfl rfl rfl ?_
    refine V.nilCheck rfl rfl rfl ?_
    refine V.fieldAddr 3 3 rfl rfl rfl rfl rfl ?_
    apply V.loadL rfl rfl rfl rfl
    · repeat' constructor
    · repeat' constructor
    refine V.bin rfl rfl rfl rfl (bin_addI (by omega)) ?_
    refine V.know (t := 60) (y := .int .i64 ((en + 1 : Nat) : Int)) rfl (by first | rfl | (congr 1; omega)) ?_
    refine V.move rfl rfl rfl ?_
    refine V.bin rfl rfl rfl rfl (bin_addI (by omega)) ?_
    refine V.know (t := 62) (y := .int .i64 ((en + 1 + i : Nat) : Int)) rfl (by first | rfl | (congr 1; omega)) ?_
    apply V.call rfl rfl rfl (hc := c24 (i := en + 1 + i) hl hnb (by omega) hd)
    · repeat' constructor
    rintro v Ho ⟨rfl, rfl⟩
    have hbli : (blk img (en + 1 + i)).length = 16 := blk_length hl (by omega)
    refine V.alloc (l := [.int .u8 0, .int .u8 0, .int .u8 0, .int .u8 0, .int .u8 0, .int .u8 0, .int .u8 0, .int .u8 0, .int .u8 0, .int .u8 0, .int .u8 0, .int .u8 0, .int .u8 0, .int .u8 0, .int .u8 0, .int .u8 0]) rfl rfl rfl (fun b2 => ?_)
    apply V.storeAll rfl rfl rfl (all_byv _)
    · repeat' constructor
    · simp [hbli]
    · rfl
    refine V.nil ?_
    refine Post.nextC ?_
    refine VC.region ?_
    refine V.move rfl rfl rfl ?_
    refine V.sliceA rfl rfl rfl ?_
    apply V.appendR (news := (blk img (en + 1 + i)).map byv) rfl rfl rfl rfl rfl rfl (ho := ho) (hp1 := .inr ?hq) (hr := Rd.block _ 59 16 (0, 0) _ (by simp [hbli]) (by omega)) (h1 := all_byv _) (hb := by omega) (h63 := by simp only [maxLen]; omega)
    case hp => repeat' constructor
    case hq => repeat' constructor
    intro v2 c2 ho2
    refine V.assign rfl rfl rfl ?_
    refine V.nil ?_
    refine Post.blockNormal (Post.nextC ?_)
    refine VC.region ?_
    refine V.bin rfl rfl rfl rfl (bin_addI (by omega)) ?_
    refine V.move rfl rfl rfl ?_
    refine V.nil ?_
    refine Post.round (i + 1, v2, c2) ?_ ?_ ?_ ?_
    · exact ⟨by simp only; omega, own_step ho2 (hdat i (by omega)) (by omega)⟩
    · simp only; omega
    · exact ⟨rfl, rfl, rfl, rfl, rfl, rfl, trivial⟩
    · repeat' constructor
  · try simp only [decide_eq_true_eq, decide_eq_false_iff_not, Bool.not_eq_true', Bool.not_eq_false', Bool.not_eq_eq_eq_not, Bool.not_true, Bool.not_false, beq_iff_eq, beq_eq_false_iff_ne, ne_eq, Int.not_lt, Int.not_le, Option.isSome_some, Option.isNone_none, Option.isSome_none, Option.isNone_some] at h1
    refine VC.exit ?_
    refine Post.thenExit (Post.thenExit (Post.blockHit (Post.nextC ?_)))
    refine VC.seq ?_
    refine VC.seq ?_
    refine VC.region ?_
    obtain rfl : i = span r.length := by omega
    obtain ⟨ad, cp, rfl, hle1, hle2, hle3, hle4⟩ := id (ho.rd (w0 := w0))
    refine V.move rfl rfl rfl ?_
    refine V.move rfl rfl rfl ?_
    refine V.sliceL (i := r.length) rfl rfl rfl rfl (by omega) (by omega) (fun a1 ha1 _ => ?_)
    have hrd : Rd w0 c1 1 (.slice a1 (16 * span r.length - r.length) (cp - r.length)) (16 * span r.length - r.length) (((pad r).drop r.length).map byv) := by
      have h := Rd.drop (ho.rd (w0 := w0)) (i := r.length) (a1 := a1) (by omega) ha1
      rw [List.take_of_length_le (by omega), Nat.mul_one, ← List.map_drop] at h
      exact h
    apply V.call rfl rfl rfl (hc := c41 (c := c1) (xs := (pad r).drop r.length) hrd (pad_zero r))
    · repeat' constructor
    rintro v Ho ⟨rfl, rfl⟩
    refine V.len rfl rfl rfl ?_
    refine V.bin rfl rfl rfl rfl (bin_gtr _ _ _) ?_
    refine V.know (t := 73) (y := .bool false) rfl (by simp) ?_
    refine V.nil ?_
    refine Post.nextC ?_
    refine VC.condF rfl ?_
    refine VC.skip ?_
    refine Post.nextC ?_
    refine VC.seq ?_
    refine VC.region ?_
    refine V.move rfl rfl rfl ?_
    refine V.nilCheck rfl rfl rfl ?_
    refine V.fieldAddr 2 3 rfl rfl rfl rfl rfl ?_
    apply V.loadL rfl rfl rfl rfl
    · repeat' constructor
    · repeat' constructor
    refine V.bin rfl rfl rfl rfl (bin_addI (by omega)) ?_
    refine V.know (t := 78) (y := .int .i64 ((ln + 1 : Nat) : Int)) rfl (by first | rfl | (congr 1; omega)) ?_
    refine V.nilCheck rfl rfl rfl ?_
    refine V.fieldAddr 2 3 rfl rfl rfl rfl rfl ?_
    apply V.storeL rfl rfl rfl rfl rfl
    · repeat' constructor
    · repeat' constructor
    refine V.nil ?_
    refine Post.nextC ?_
    refine VC.seq ?_
    refine VC.region ?_
    refine V.move rfl rfl rfl ?_
    refine V.nilCheck rfl rfl rfl ?_
    refine V.fieldAddr 3 3 rfl rfl rfl rfl rfl ?_
    apply V.loadL rfl rfl rfl rfl
    · repeat' constructor
    · repeat' constructor
    refine V.move rfl rfl rfl ?_
    refine V.bin rfl rfl rfl rfl (bin_addI (by omega)) ?_
    refine V.bin rfl rfl rfl rfl (bin_addI (by omega)) ?_
    refine V.know (t := 87) (y := .int .i64 ((en + span r.length + 1 : Nat) : Int)) rfl (by first | rfl | (congr 1; omega)) ?_
    refine V.nilCheck rfl rfl rfl ?_
    refine V.fieldAddr 3 3 rfl rfl rfl rfl rfl ?_
    apply V.storeL rfl rfl rfl rfl rfl
    · repeat' constructor
    · repeat' constructor
    refine V.nil ?_
    refine Post.nextC ?_
    refine VC.seq ?_
    refine VC.region ?_
    refine V.move rfl rfl rfl ?_
    refine V.move rfl rfl rfl ?_
    refine V.move rfl rfl rfl ?_
    refine V.sliceHM (j := r.length) (q := r.length) rfl rfl rfl rfl rfl (by omega) (by omega) ?_
    refine V.assign rfl rfl rfl ?_
    refine V.assign rfl rfl rfl ?_
    refine V.assign rfl rfl rfl ?_
    refine V.nil ?_
    refine Post.nextC ?_
    refine VC.ret ?_
    apply Post.ret3 rfl rfl rfl rfl 
    · exact ⟨_, c1, rfl, recIs_of_own ho (by omega), rfl⟩
    · repeat' constructor

end Go.Proofs.Jn
