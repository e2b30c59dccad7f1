/- Contracts of functions of the given program, each proved by walking its code: part of the proof of this claim; no condition beyond those that each theorem names. -/
import Derived.Test.YtpmpomknnppnjaaDoorJnBook
set_option linter.unusedVariables false
set_option linter.unusedSimpArgs false
namespace Go.Proofs.Jn
open Go Go.RowKit Go.Proofs.Eng
/-- the first i lists written full -/
def prt (rs : List Bytes) (i : Nat) : List Bytes := rs.mapIdx fun j r => if j < i then List.replicate r.length (mk1 j) else r
def lens (rs : List Bytes) : List Nat := rs.map List.length
theorem prt_zero (rs : List Bytes) : prt rs 0 = rs := by
  apply List.ext_getElem?
  intro j
  simp [prt]
theorem prt_all {rs : List Bytes} {i : Nat} (h : rs.length ≤ i) : prt rs i = full (lens rs) := by
  apply List.ext_getElem?
  intro j
  simp only [prt, full, lens, List.getElem?_mapIdx, List.getElem?_map]
  cases hj : rs[j]? with
  | none => rfl
  | some r =>
    have : j < rs.length := (List.getElem?_eq_some_iff.1 hj).1
    simp [show j < i by omega]
theorem prt_get {rs : List Bytes} {i : Nat} {r : Bytes} (h : rs[i]? = some r) : (prt rs i)[i]? = some r := by simp [prt, h]
theorem prt_step {rs : List Bytes} {i : Nat} {r : Bytes} (h : rs[i]? = some r) : (prt rs i).set i (List.replicate r.length (mk1 i)) = prt rs (i + 1) := by
  have hi := (List.getElem?_eq_some_iff.1 h).1
  apply List.ext_getElem?
  intro j
  simp only [prt, List.getElem?_set, List.length_mapIdx, List.getElem?_mapIdx]
  by_cases hj : i = j
  · subst hj
    rw [if_pos rfl, if_pos hi, h]
    simp
  · rw [if_neg hj]
    cases hr : rs[j]? with
    | none => rfl
    | some r2 =>
      have : (j < i) = (j < i + 1) := by rw [eq_iff_iff]; omega
      simp only [Option.map_some, this]
theorem set_same {α : Type} {l : List α} {i : Nat} {x : α} (h : l[i]? = some x) : l.set i x = l := by
  apply List.ext_getElem?
  intro j
  rw [List.getElem?_set]
  split
  · rename_i e
    subst e
    rw [if_pos (List.getElem?_eq_some_iff.1 h).1, h]
  · rfl
theorem Recs.split : ∀ {rs : List Bytes} {vs : List Value} {c : Chunk}, Recs rs vs c → ∀ {i : Nat} {v : Value} {r : Bytes}, vs[i]? = some v → rs[i]? = some r →
    ∃ cA ci cB, c = cA ++ (ci ++ cB) ∧ RecIs ci v r ∧ ∀ r' ci', RecIs ci' v r' → Recs (rs.set i r') vs (cA ++ (ci' ++ cB))
  | [], vs, c, _, i, v, r, _, hr => by simp at hr
  | r0 :: rs, vs, c, ⟨v0, vs', c1, c2, h1, h2, h3, h4⟩, i, v, r, hv, hr => by
    subst h1 h2
    cases i with
    | zero =>
      simp only [List.getElem?_cons_zero, Option.some.injEq] at hv hr
      subst hv hr
      exact ⟨[], c1, c2, rfl, h3, fun r' ci' h => ⟨v0, vs', ci', c2, rfl, rfl, h, h4⟩⟩
    | succ i =>
      simp only [List.getElem?_cons_succ] at hv hr
      obtain ⟨cA, ci, cB, rfl, h5, h6⟩ := Recs.split h4 hv hr
      exact ⟨c1 ++ cA, ci, cB, by simp, h5, fun r' ci' h => ⟨v0, vs', c1, cA ++ (ci' ++ cB), rfl, by simp, h3, h6 r' ci' h⟩⟩
theorem RecIs.form {c : Chunk} {v : Value} {r : Bytes} (h : RecIs c v r) : ∃ a, v = .slice a r.length r.length := by
  rcases h with ⟨_, rfl, rfl⟩ | ⟨g, cur, _, rfl, _⟩
  · exact ⟨none, rfl⟩
  · exact ⟨_, rfl⟩
/-- one place more is written -/
theorem recIs_write {g k i : Nat} {cur : Array Value} {r : Bytes} {a : Option Addr} (hk : k < r.length) (h : cur.toList.take r.length = (List.replicate k (mk1 i) ++ r.drop k).map byv) :
    RecIs [(g, .cells (cur.setIfInBounds (0 + k * 1) (.int .u8 ((i % 125 : Nat) : Int))) 5 (0, 0))] (.slice (some ⟨g, 0, none⟩) r.length r.length) (List.replicate (k + 1) (mk1 i) ++ r.drop (k + 1)) := by
  have hl : (List.replicate (k + 1) (mk1 i) ++ r.drop (k + 1)).length = r.length := by simp; omega
  refine .inr ⟨g, _, rfl, by rw [hl], ?_⟩
  rw [hl, Array.toList_setIfInBounds, List.take_set, h, Nat.zero_add, Nat.mul_one, ← byv_mk1, ← List.map_set]
  congr 1
  rw [List.set_append_right _ _ (by simp), List.length_replicate, Nat.sub_self, List.drop_eq_getElem_cons hk, List.set_cons_zero, List.replicate_succ', List.append_assoc]
  rfl
theorem more_snoc {m k i : Nat} {l : Bytes} : ((l ++ List.replicate k (mk2 i)).map byv) ++ [.int .u8 ((125 + i % 125 : Nat) : Int)] = (l ++ List.replicate (k + 1) (mk2 i)).map byv := by
  rw [← byv_mk2, List.replicate_succ', ← List.append_assoc, List.map_append (l₁ := l ++ List.replicate k (mk2 i))]
  rfl
theorem more_length (q : Nat) (ns : List Nat) : (more q ns).length = ns.length := by simp [more]
theorem take_more {q i m : Nat} {ns : List Nat} (h : ns[i]? = some m) : (more q ns).take (i + 1) = (more q ns).take i ++ [List.replicate m (mk1 i) ++ List.replicate q (mk2 i)] := by
  rw [List.take_add_one, more_get h]
  rfl
structure BSt where
  i : Nat
  v : Value
  c : Chunk
  vs : List Value
  cX : Chunk
structure BSt.ok (w0 : World) (q N : Nat) (ns : List Nat) (t : BSt) : Prop where
  hi : t.i ≤ N
  ho : Own 31 1 t.c t.v t.i t.vs
  hX : RdL w0 t.cX t.vs ((more q ns).take t.i)

theorem c34 {w0 : World} {b N : Nat} {vB vW : Value} {n : Int} {cB cL : Chunk} {vsB : List Value} {rs : List Bytes} (hB : Own 31 1 cB vB N vsB) (hR : Recs rs vsB cL) (hN : rs.length = N) (hN2 : N ≤ 1000) (hsm : ∀ r ∈ rs, r.length ≤ 131072) : CtR Pg w0 34 #[.pointer (some ⟨b, 0, none⟩)] [bkB b vB vW (.slice none 0 0) (.slice none 0 0) n, cB, cL] (fun v H => ∃ v2 v3, v = .bool true ∧ H = [bkB b vB vW v2 v3 n]) := by
  obtain ⟨aB, cpB, rfl, hB1, hB2, hB3, hB4⟩ := id (hB.rd (w0 := w0))
  have hlB := hR.length
  rw [Nat.mul_one] at hB3
  have hns : (lens rs).length = N := by simp [lens, hN]
  have hsm2 : ∀ m ∈ lens rs, m ≤ 131072 := by
      intro m hm
      simp only [lens, List.mem_map] at hm
      obtain ⟨r, h1, rfl⟩ := hm
      exact hsm r h1
  refine Ct.of_body Go.Proofs.Tryd.func34 rfl 140 rfl rfl (fun R => ?_)
  refine VC.seq ?_
  refine VC.region ?_
  refine V.assign rfl rfl rfl ?_
  refine V.nil ?_
  refine Post.nextC ?_
  refine VC.seq ?_
  refine VC.seq ?_
  refine VC.region ?_
  refine V.assign rfl rfl rfl ?_
  refine V.nil ?_
  refine Post.nextC ?_
  refine VC.block ?_
  refine VC.loop (σ := Nat × Chunk) (fun t => [(0, .pointer (some ⟨b, 0, none⟩)), (3, .int .i64 (t.1 : Int))]) (fun t => bkB b (.slice aB N cpB) vW (.slice none 0 0) (.slice none 0 0) n :: cB :: t.2 :: R) (fun t => t.1 ≤ N ∧ Recs (prt rs t.1) vsB t.2) (fun t => N - t.1) (0, cL) ⟨Nat.zero_le _, by rw [prt_zero]; exact hR⟩ ?_ ?_ ?_
  · exact ⟨rfl, rfl, trivial⟩
  · repeat' constructor
  rintro ⟨i, cI⟩ ⟨hi, hRi⟩
  simp only at hi hRi
  dsimp only
  refine VC.seq ?_
  refine VC.seq ?_
  refine VC.region ?_
  refine V.move rfl rfl rfl ?_
  refine V.move rfl rfl rfl ?_
  refine V.nilCheck rfl rfl rfl ?_
  refine V.fieldAddr 0 22 rfl rfl rfl rfl rfl ?_
  apply V.loadL rfl rfl rfl rfl
  · repeat' constructor
  · repeat' constructor
  refine V.len rfl rfl rfl ?_
  refine V.bin rfl rfl rfl rfl (bin_lss _ _ _) ?_
  refine V.nil ?_
  refine Post.nextC ?_
  refine VC.cond rfl (fun h1 => ?_) (fun h1 => ?_)
  · try simp only [decide_eq_true_eq, decide_eq_false_iff_not, Bool.not_eq_true', Bool.not_eq_false', Bool.not_eq_eq_eq_not, Bool.not_true, Bool.not_false, beq_iff_eq, beq_eq_false_iff_ne, ne_eq, Int.not_lt, Int.not_le, Option.isSome_some, Option.isNone_none, Option.isSome_none, Option.isNone_some] at h1
    refine VC.skip ?_
    refine Post.nextC ?_
    refine VC.seq ?_
    refine VC.block ?_
    refine VC.seq ?_
    refine VC.region ?_
    obtain ⟨xa, hxa⟩ : ∃ x, vsB[i]? = some x := ⟨vsB[i]'(by omega), by simp⟩
    obtain ⟨r, hr⟩ : ∃ x, rs[i]? = some x := ⟨rs[i]'(by omega), by simp⟩
    have hrl : r.length ≤ 131072 := hsm r (List.mem_of_getElem? hr)
    obtain ⟨_, ga, oa, cpa, hva, hcela⟩ := Rd.at1 (hB.rd (w0 := w0)) hxa
    simp only [Value.slice.injEq] at hva
    obtain ⟨rfl, _, rfl⟩ := hva
    obtain ⟨_, _, _, _, hfx, _⟩ := hRi.split hxa (prt_get hr)
    obtain ⟨aa, rfl⟩ := hfx.form
    refine V.assign rfl rfl rfl ?_
    refine V.nil ?_
    refine Post.nextC ?_
    refine VC.block ?_
    refine VC.loop (σ := Nat × Chunk) (fun t => [(0, .pointer (some ⟨b, 0, none⟩)), (3, .int .i64 (i : Int)), (4, .int .i64 (t.1 : Int))]) (fun t => bkB b (.slice (some ⟨ga, oa, none⟩) N cpB) vW (.slice none 0 0) (.slice none 0 0) n :: cB :: t.2 :: R) (fun t => t.1 ≤ r.length ∧ Recs ((prt rs i).set i (List.replicate t.1 (mk1 i) ++ r.drop t.1)) vsB t.2) (fun t => r.length - t.1) (0, cI) ⟨Nat.zero_le _, by
      rw [set_same]
      · exact hRi
      · simpa using prt_get hr⟩ ?_ ?_ ?_
    · exact ⟨rfl, rfl, rfl, trivial⟩
    · repeat' constructor
    rintro ⟨k, cK⟩ ⟨hk, hRk⟩
    simp only at hk hRk
    dsimp only
    refine VC.seq ?_
    refine VC.seq ?_
    refine VC.region ?_
    refine V.move rfl rfl rfl ?_
    refine V.move rfl rfl rfl ?_
    refine V.nilCheck rfl rfl rfl ?_
    refine V.fieldAddr 0 22 rfl rfl rfl rfl rfl ?_
    apply V.loadL rfl rfl rfl rfl
    · repeat' constructor
    · repeat' constructor
    refine V.move rfl rfl rfl ?_
    refine V.indexO (i := i) rfl rfl rfl rfl (by omega) ?_
    rw [Nat.mul_one]
    apply V.loadC (c := cB) rfl rfl rfl rfl
    · repeat' constructor
    · exact hcela
    refine V.len rfl rfl rfl ?_
    refine V.bin rfl rfl rfl rfl (bin_lss _ _ _) ?_
    refine V.nil ?_
    refine Post.nextC ?_
    refine VC.cond rfl (fun h2 => ?_) (fun h2 => ?_)
    · try simp only [decide_eq_true_eq, decide_eq_false_iff_not, Bool.not_eq_true', Bool.not_eq_false', Bool.not_eq_eq_eq_not, Bool.not_true, Bool.not_false, beq_iff_eq, beq_eq_false_iff_ne, ne_eq, Int.not_lt, Int.not_le, Option.isSome_some, Option.isNone_none, Option.isSome_none, Option.isNone_some] at h2
      refine VC.skip ?_
      refine Post.nextC ?_
      refine VC.seq ?_
      refine VC.block ?_
      refine VC.region ?_
      have hlen : (List.replicate k (mk1 i) ++ r.drop k).length = r.length := by simp; omega
      obtain ⟨cA, ci, cC, rfl, hci, hput⟩ := hRk.split hxa (by rw [List.getElem?_set_self (by simp [prt]; omega)])
      obtain ⟨g, cur, rfl, hv, hcur⟩ : ∃ g cur, ci = [(g, .cells cur 5 (0, 0))] ∧ Value.slice aa r.length r.length = .slice (some ⟨g, 0, none⟩) r.length r.length ∧ cur.toList.take r.length = (List.replicate k (mk1 i) ++ r.drop k).map byv := by
        rcases hci with ⟨_, _, h0⟩ | ⟨g, cur, h1, h2, h3⟩
        · rw [h0] at hlen; simp at hlen; omega
        · rw [hlen] at h2 h3; exact ⟨g, cur, h1, h2, h3⟩
      simp only [Value.slice.injEq, and_self, and_true] at hv
      subst hv
      have hcs : r.length ≤ cur.size := by
        have := congrArg List.length hcur
        rw [List.length_map, hlen, List.length_take] at this
        simp at this
        omega
      refine V.move rfl rfl rfl ?_
      refine V.nilCheck rfl rfl rfl ?_
      refine V.fieldAddr 0 22 rfl rfl rfl rfl rfl ?_
      apply V.loadL rfl rfl rfl rfl
      · repeat' constructor
      · repeat' constructor
      refine V.move rfl rfl rfl ?_
      refine V.indexO (i := i) rfl rfl rfl rfl (by omega) ?_
      rw [Nat.mul_one]
      apply V.loadC (c := cB) rfl rfl rfl rfl
      · repeat' constructor
      · exact hcela
      refine V.move rfl rfl rfl ?_
      refine V.move rfl rfl rfl ?_
      refine V.bin rfl rfl rfl rfl (bin_rem .i64 (i : Int) 125 (by omega)) ?_
      refine V.know (t := 41) (y := .int .i64 ((i % 125 : Nat) : Int)) rfl (by first | rfl | (congr 1; omega)) ?_
      refine V.conv _ rfl rfl rfl (IntWalk.u8_in _ (by omega)) ?_
      refine V.indexO (i := k) rfl rfl rfl rfl (by omega) ?_
      apply V.store (v := .int .u8 ((i % 125 : Nat) : Int)) rfl rfl rfl rfl rfl
      · repeat' constructor
      · omega
      refine V.nil ?_
      refine Post.blockNormal (Post.nextC ?_)
      refine VC.region ?_
      refine V.move rfl rfl rfl ?_
      refine V.bin rfl rfl rfl rfl (bin_addI (by omega)) ?_
      refine V.assign rfl rfl rfl ?_
      refine V.nil ?_
      refine Post.round (k + 1, cA ++ ([(g, .cells (cur.setIfInBounds (0 + k * 1) (.int .u8 ((i % 125 : Nat) : Int))) 5 (0, 0))] ++ cC)) ?_ ?_ ?_ ?_
      · refine ⟨by simp only; omega, ?_⟩
        have := hput _ _ (recIs_write (a := none) (i := i) (g := g) (by omega) hcur)
        rwa [List.set_set] at this
      · simp only; omega
      · exact ⟨rfl, rfl, rfl, trivial⟩
      · repeat' constructor
    · try simp only [decide_eq_true_eq, decide_eq_false_iff_not, Bool.not_eq_true', Bool.not_eq_false', Bool.not_eq_eq_eq_not, Bool.not_true, Bool.not_false, beq_iff_eq, beq_eq_false_iff_ne, ne_eq, Int.not_lt, Int.not_le, Option.isSome_some, Option.isNone_none, Option.isSome_none, Option.isNone_some] at h2
      refine VC.exit ?_
      refine Post.thenExit (Post.thenExit (Post.blockHit (Post.blockNormal (Post.nextC ?_))))
      refine VC.region ?_
      refine V.move rfl rfl rfl ?_
      refine V.bin rfl rfl rfl rfl (bin_addI (by omega)) ?_
      refine V.assign rfl rfl rfl ?_
      refine V.nil ?_
      refine Post.round (i + 1, cK) ?_ ?_ ?_ ?_
      · exact ⟨by simp only; omega, by
          have hkr : k = r.length := by omega
          subst hkr
          rw [List.drop_length, List.append_nil, prt_step hr] at hRk
          exact hRk⟩
      · simp only; omega
      · exact ⟨rfl, rfl, trivial⟩
      · repeat' constructor
  · try simp only [decide_eq_true_eq, decide_eq_false_iff_not, Bool.not_eq_true', Bool.not_eq_false', Bool.not_eq_eq_eq_not, Bool.not_true, Bool.not_false, beq_iff_eq, beq_eq_false_iff_ne, ne_eq, Int.not_lt, Int.not_le, Option.isSome_some, Option.isNone_none, Option.isSome_none, Option.isNone_some] at h1
    refine VC.exit ?_
    refine Post.thenExit (Post.thenExit (Post.blockHit (Post.nextC ?_)))
    refine VC.seq ?_
    refine VC.seq ?_
    refine VC.region ?_
    have hRf := hRi
    obtain rfl : N = i := by omega
    rw [prt_all (by omega)] at hRf
    have hL := hRf.rd (w0 := w0) (by
      intro x hx
      simp only [full, List.mem_mapIdx] at hx
      obtain ⟨j, hj, rfl⟩ := hx
      simp only [List.length_replicate]
      exact hsm2 _ (List.getElem_mem hj))
    refine V.assign rfl rfl rfl ?_
    refine V.nil ?_
    refine Post.nextC ?_
    refine VC.block ?_
    refine VC.loop (σ := BSt) (fun t => [(0, .pointer (some ⟨b, 0, none⟩)), (5, .int .i64 (t.i : Int))]) (fun t => bkB b (.slice aB N cpB) vW (t.v) (.slice none 0 0) n :: cB :: cI :: t.c :: t.cX :: R) (BSt.ok w0 16 N (lens rs)) (fun t => N - t.i) ⟨0, .slice none 0 0, [], [], []⟩ ⟨Nat.zero_le _, Own.nil 31 1, by simpa using RdL.nil w0⟩ ?_ ?_ ?_
    · exact ⟨rfl, rfl, trivial⟩
    · repeat' constructor
    rintro ⟨i, vO, cO, vsO, cX⟩ ⟨hi, hoO, hX⟩
    simp only at hi hoO hX
    dsimp only
    refine VC.seq ?_
    refine VC.seq ?_
    refine VC.region ?_
    refine V.move rfl rfl rfl ?_
    refine V.move rfl rfl rfl ?_
    refine V.nilCheck rfl rfl rfl ?_
    refine V.fieldAddr 0 22 rfl rfl rfl rfl rfl ?_
    apply V.loadL rfl rfl rfl rfl
    · repeat' constructor
    · repeat' constructor
    refine V.len rfl rfl rfl ?_
    refine V.bin rfl rfl rfl rfl (bin_lss _ _ _) ?_
    refine V.nil ?_
    refine Post.nextC ?_
    refine VC.cond rfl (fun h3 => ?_) (fun h3 => ?_)
    · try simp only [decide_eq_true_eq, decide_eq_false_iff_not, Bool.not_eq_true', Bool.not_eq_false', Bool.not_eq_eq_eq_not, Bool.not_true, Bool.not_false, beq_iff_eq, beq_eq_false_iff_ne, ne_eq, Int.not_lt, Int.not_le, Option.isSome_some, Option.isNone_none, Option.isSome_none, Option.isNone_some] at h3
      refine VC.skip ?_
      refine Post.nextC ?_
      refine VC.seq ?_
      refine VC.block ?_
      refine VC.seq ?_
      refine VC.region ?_
      obtain ⟨xa, hxa⟩ : ∃ x, vsB[i]? = some x := ⟨vsB[i]'(by omega), by simp⟩
      obtain ⟨r, hr⟩ : ∃ x, rs[i]? = some x := ⟨rs[i]'(by omega), by simp⟩
      have hrl : r.length ≤ 131072 := hsm r (List.mem_of_getElem? hr)
      obtain ⟨_, ga, oa, cpa, hva, hcela⟩ := Rd.at1 (hB.rd (w0 := w0)) hxa
      simp only [Value.slice.injEq] at hva
      obtain ⟨rfl, _, rfl⟩ := hva
      have hnr : (lens rs)[i]? = some r.length := by simp [lens, hr]
      obtain ⟨_, _, _, _, hfx, _⟩ := hRf.split hxa (full_get hnr)
      obtain ⟨aa, hxf⟩ := hfx.form
      rw [List.length_replicate] at hxf
      subst hxf
      have hrda := hL.2 i _ _ hxa (full_get hnr)
      rw [List.length_replicate] at hrda
      refine V.move rfl rfl rfl ?_
      refine V.nilCheck rfl rfl rfl ?_
      refine V.fieldAddr 0 22 rfl rfl rfl rfl rfl ?_
      apply V.loadL rfl rfl rfl rfl
      · repeat' constructor
      · repeat' constructor
      refine V.move rfl rfl rfl ?_
      refine V.indexO (i := i) rfl rfl rfl rfl (by omega) ?_
      rw [Nat.mul_one]
      apply V.loadC (c := cB) rfl rfl rfl rfl
      · repeat' constructor
      · exact hcela
      refine V.assign rfl rfl rfl ?_
      refine V.nil ?_
      refine Post.nextC ?_
      refine VC.seq ?_
      refine VC.seq ?_
      refine VC.region ?_
      refine V.assign rfl rfl rfl ?_
      refine V.nil ?_
      refine Post.nextC ?_
      refine VC.block ?_
      refine VC.loop (σ := Nat × Value × Chunk) (fun t => [(0, .pointer (some ⟨b, 0, none⟩)), (5, .int .i64 (i : Int)), (6, t.2.1), (7, .int .i64 (t.1 : Int))]) (fun t => bkB b (.slice (some ⟨ga, oa, none⟩) N cpB) vW vO (.slice none 0 0) n :: cB :: cI :: cO :: cX :: t.2.2 :: R) (fun t => t.1 ≤ 16 ∧ ((t.1 = 0 ∧ t.2.1 = .slice aa r.length r.length ∧ t.2.2 = []) ∨ (0 < t.1 ∧ Own 5 1 t.2.2 t.2.1 (r.length + t.1) ((List.replicate r.length (mk1 i) ++ List.replicate t.1 (mk2 i)).map byv)))) (fun t => 16 - t.1) (0, .slice aa r.length r.length, []) ⟨Nat.zero_le _, .inl ⟨rfl, rfl, rfl⟩⟩ ?_ ?_ ?_
      · exact ⟨rfl, rfl, rfl, rfl, trivial⟩
      · repeat' constructor
      rintro ⟨k, v1, c1⟩ ⟨hk, hk2⟩
      simp only at hk hk2
      dsimp only
      refine VC.seq ?_
      refine VC.seq ?_
      refine VC.region ?_
      refine V.move rfl rfl rfl ?_
      refine V.bin rfl rfl rfl rfl (bin_lss _ _ _) ?_
      refine V.nil ?_
      refine Post.nextC ?_
      refine VC.cond rfl (fun h4 => ?_) (fun h4 => ?_)
      · try simp only [decide_eq_true_eq, decide_eq_false_iff_not, Bool.not_eq_true', Bool.not_eq_false', Bool.not_eq_eq_eq_not, Bool.not_true, Bool.not_false, beq_iff_eq, beq_eq_false_iff_ne, ne_eq, Int.not_lt, Int.not_le, Option.isSome_some, Option.isNone_none, Option.isSome_none, Option.isNone_some] at h4
        refine VC.skip ?_
        refine Post.nextC ?_
        refine VC.seq ?_
        refine VC.block ?_
        refine VC.region ?_
        refine V.move rfl rfl rfl ?_
        refine V.move rfl rfl rfl ?_
        refine V.bin rfl rfl rfl rfl (bin_rem .i64 (i : Int) 125 (by omega)) ?_
        refine V.know (t := 66) (y := .int .i64 ((i % 125 : Nat) : Int)) rfl (by first | rfl | (congr 1; omega)) ?_
        refine V.bin rfl rfl rfl rfl (bin_addI (by omega)) ?_
        refine V.know (t := 67) (y := .int .i64 ((125 + i % 125 : Nat) : Int)) rfl (by first | rfl | (congr 1; omega)) ?_
        refine V.conv _ rfl rfl rfl (IntWalk.u8_in _ (by omega)) ?_
        refine V.buildSlice1 (l := [.int .u8 ((125 + i % 125 : Nat) : Int)]) rfl rfl rfl rfl rfl rfl rfl (fun b1 => ?_)
        by_cases hk0 : k = 0
        ·
          obtain ⟨rfl, rfl⟩ : v1 = .slice aa r.length r.length ∧ c1 = [] := by
            rcases hk2 with ⟨_, h1, h2⟩ | ⟨h, _⟩
            · exact ⟨h1, h2⟩
            · omega
          apply V.appendFull1 rfl rfl rfl rfl rfl rfl (news := [.int .u8 ((125 + i % 125 : Nat) : Int)]) (hp := .inr ?hq) (hr := hrda) (hl := rfl) (h1 := rfl) (hb := by omega) (h63 := by simp only [maxLen]; omega)
          case hq => repeat' constructor
          intro v2 c2 ho2
          have ho3 : Own 5 1 c2 v2 (r.length + (k + 1)) ((List.replicate r.length (mk1 i) ++ List.replicate (k + 1) (mk2 i)).map byv) := by
            subst hk0
            rw [← more_snoc (m := 0)]
            simpa using ho2
          refine V.assign rfl rfl rfl ?_
          refine V.nil ?_
          refine Post.blockNormal (Post.nextC ?_)
          refine VC.region ?_
          refine V.move rfl rfl rfl ?_
          refine V.bin rfl rfl rfl rfl (bin_addI (by omega)) ?_
          refine V.assign rfl rfl rfl ?_
          refine V.nil ?_
          refine Post.round (k + 1, v2, c2) ?_ ?_ ?_ ?_
          · exact ⟨by simp only; omega, .inr ⟨by simp only; omega, ho3⟩⟩
          · simp only; omega
          · exact ⟨rfl, rfl, rfl, rfl, trivial⟩
          · repeat' constructor
        ·
          have ho1 : Own 5 1 c1 v1 (r.length + k) ((List.replicate r.length (mk1 i) ++ List.replicate k (mk2 i)).map byv) := by
            rcases hk2 with ⟨h, _⟩ | ⟨_, h⟩
            · omega
            · exact h
          apply V.append1 rfl rfl rfl rfl rfl rfl (news := [.int .u8 ((125 + i % 125 : Nat) : Int)]) (ho := ho1) (hb := by omega) (h63 := by simp only [maxLen]; omega)
          case hp => repeat' constructor
          case hl => rfl
          case h1 => rfl
          intro v2 c2 ho2
          have ho3 : Own 5 1 c2 v2 (r.length + (k + 1)) ((List.replicate r.length (mk1 i) ++ List.replicate (k + 1) (mk2 i)).map byv) := by
            rw [← more_snoc (m := 0)]
            exact ho2
          refine V.assign rfl rfl rfl ?_
          refine V.nil ?_
          refine Post.blockNormal (Post.nextC ?_)
          refine VC.region ?_
          refine V.move rfl rfl rfl ?_
          refine V.bin rfl rfl rfl rfl (bin_addI (by omega)) ?_
          refine V.assign rfl rfl rfl ?_
          refine V.nil ?_
          refine Post.round (k + 1, v2, c2) ?_ ?_ ?_ ?_
          · exact ⟨by simp only; omega, .inr ⟨by simp only; omega, ho3⟩⟩
          · simp only; omega
          · exact ⟨rfl, rfl, rfl, rfl, trivial⟩
          · repeat' constructor
      · try simp only [decide_eq_true_eq, decide_eq_false_iff_not, Bool.not_eq_true', Bool.not_eq_false', Bool.not_eq_eq_eq_not, Bool.not_true, Bool.not_false, beq_iff_eq, beq_eq_false_iff_ne, ne_eq, Int.not_lt, Int.not_le, Option.isSome_some, Option.isNone_none, Option.isSome_none, Option.isNone_some] at h4
        refine VC.exit ?_
        refine Post.thenExit (Post.thenExit (Post.blockHit (Post.nextC ?_)))
        refine VC.region ?_
        obtain rfl : k = 16 := by omega
        have ho1 : Own 5 1 c1 v1 (r.length + 16) ((List.replicate r.length (mk1 i) ++ List.replicate 16 (mk2 i)).map byv) := by
          rcases hk2 with ⟨h, _⟩ | ⟨_, h⟩
          · omega
          · exact h
        refine V.move rfl rfl rfl ?_
        refine V.move rfl rfl rfl ?_
        refine V.nilCheck rfl rfl rfl ?_
        refine V.fieldAddr 2 22 rfl rfl rfl rfl rfl ?_
        apply V.loadL rfl rfl rfl rfl
        · repeat' constructor
        · repeat' constructor
        refine V.move rfl rfl rfl ?_
        refine V.buildSlice1 (l := [v1]) rfl rfl rfl (cells_of_one (Rd.one (ho1.rd (w0 := w0)))) rfl rfl rfl (fun b1 => ?_)
        apply V.append1 rfl rfl rfl rfl rfl rfl (news := [v1]) (ho := hoO) (hb := by omega) (h63 := by simp only [maxLen]; omega)
        case hp => repeat' constructor
        case hl => rfl
        case h1 => simp [Rd.one (ho1.rd (w0 := w0))]
        intro vO2 cO2 hoO2
        refine V.nilCheck rfl rfl rfl ?_
        refine V.fieldAddr 2 22 rfl rfl rfl rfl rfl ?_
        apply V.storeL rfl rfl rfl rfl (Rd.one (hoO2.rd (w0 := w0)))
        · repeat' constructor
        · repeat' constructor
        refine V.nil ?_
        refine Post.blockNormal (Post.nextC ?_)
        refine VC.region ?_
        refine V.move rfl rfl rfl ?_
        refine V.bin rfl rfl rfl rfl (bin_addI (by omega)) ?_
        refine V.assign rfl rfl rfl ?_
        refine V.nil ?_
        refine Post.round ⟨i + 1, vO2, cO2, vsO ++ [v1], cX ++ c1⟩ ?_ ?_ ?_ ?_
        · exact ⟨by simp only; omega, hoO2, by
            simp only
            rw [take_more hnr]
            refine hX.snoc ?_
            have := ho1.rd (w0 := w0)
            rw [List.length_append, List.length_replicate, List.length_replicate]
            exact this⟩
        · simp only; omega
        · exact ⟨rfl, rfl, trivial⟩
        · repeat' constructor
    · try simp only [decide_eq_true_eq, decide_eq_false_iff_not, Bool.not_eq_true', Bool.not_eq_false', Bool.not_eq_eq_eq_not, Bool.not_true, Bool.not_false, beq_iff_eq, beq_eq_false_iff_ne, ne_eq, Int.not_lt, Int.not_le, Option.isSome_some, Option.isNone_none, Option.isSome_none, Option.isNone_some] at h3
      refine VC.exit ?_
      refine Post.thenExit (Post.thenExit (Post.blockHit (Post.nextC ?_)))
      refine VC.seq ?_
      refine VC.seq ?_
      refine VC.region ?_
      obtain rfl : N = i := by omega
      rw [List.take_of_length_le (by rw [more_length, hns]; exact Nat.le_refl _)] at hX
      refine V.move rfl rfl rfl ?_
      refine V.move rfl rfl rfl ?_
      refine V.nilCheck rfl rfl rfl ?_
      refine V.fieldAddr 2 22 rfl rfl rfl rfl rfl ?_
      apply V.loadL rfl rfl rfl rfl
      · repeat' constructor
      · repeat' constructor
      apply V.call rfl rfl rfl (hc := c45 (q := 16) (N := N) (hB.rd) hL (hoO.rd) hX (by omega) (by omega) hsm2)
      · repeat' constructor
      rintro v Ho ⟨rfl, rfl⟩
      refine V.not rfl rfl rfl ?_
      refine V.know (t := 87) (y := .bool false) rfl (rfl) ?_
      refine V.nil ?_
      refine Post.nextC ?_
      refine VC.condF rfl ?_
      refine VC.skip ?_
      refine Post.nextC ?_
      refine VC.seq ?_
      refine VC.seq ?_
      refine VC.region ?_
      refine V.assign rfl rfl rfl ?_
      refine V.nil ?_
      refine Post.nextC ?_
      refine VC.block ?_
      refine VC.loop (σ := BSt) (fun t => [(0, .pointer (some ⟨b, 0, none⟩)), (8, .int .i64 (t.i : Int))]) (fun t => bkB b (.slice aB N cpB) vW (vO) (t.v) n :: cB :: cI :: cO :: cX :: t.c :: t.cX :: R) (BSt.ok w0 700 N (lens rs)) (fun t => N - t.i) ⟨0, .slice none 0 0, [], [], []⟩ ⟨Nat.zero_le _, Own.nil 31 1, by simpa using RdL.nil w0⟩ ?_ ?_ ?_
      · exact ⟨rfl, rfl, trivial⟩
      · repeat' constructor
      rintro ⟨i, vM, cM, vsM, cY⟩ ⟨hi, hoM, hY⟩
      simp only at hi hoM hY
      dsimp only
      refine VC.seq ?_
      refine VC.seq ?_
      refine VC.region ?_
      refine V.move rfl rfl rfl ?_
      refine V.move rfl rfl rfl ?_
      refine V.nilCheck rfl rfl rfl ?_
      refine V.fieldAddr 0 22 rfl rfl rfl rfl rfl ?_
      apply V.loadL rfl rfl rfl rfl
      · repeat' constructor
      · repeat' constructor
      refine V.len rfl rfl rfl ?_
      refine V.bin rfl rfl rfl rfl (bin_lss _ _ _) ?_
      refine V.nil ?_
      refine Post.nextC ?_
      refine VC.cond rfl (fun h5 => ?_) (fun h5 => ?_)
      · try simp only [decide_eq_true_eq, decide_eq_false_iff_not, Bool.not_eq_true', Bool.not_eq_false', Bool.not_eq_eq_eq_not, Bool.not_true, Bool.not_false, beq_iff_eq, beq_eq_false_iff_ne, ne_eq, Int.not_lt, Int.not_le, Option.isSome_some, Option.isNone_none, Option.isSome_none, Option.isNone_some] at h5
        refine VC.skip ?_
        refine Post.nextC ?_
        refine VC.seq ?_
        refine VC.block ?_
        refine VC.seq ?_
        refine VC.region ?_
        obtain ⟨xa, hxa⟩ : ∃ x, vsB[i]? = some x := ⟨vsB[i]'(by omega), by simp⟩
        obtain ⟨r, hr⟩ : ∃ x, rs[i]? = some x := ⟨rs[i]'(by omega), by simp⟩
        have hrl : r.length ≤ 131072 := hsm r (List.mem_of_getElem? hr)
        obtain ⟨_, ga, oa, cpa, hva, hcela⟩ := Rd.at1 (hB.rd (w0 := w0)) hxa
        simp only [Value.slice.injEq] at hva
        obtain ⟨rfl, _, rfl⟩ := hva
        have hnr : (lens rs)[i]? = some r.length := by simp [lens, hr]
        obtain ⟨_, _, _, _, hfx, _⟩ := hRf.split hxa (full_get hnr)
        obtain ⟨aa, hxf⟩ := hfx.form
        rw [List.length_replicate] at hxf
        subst hxf
        have hrda := hL.2 i _ _ hxa (full_get hnr)
        rw [List.length_replicate] at hrda
        refine V.assign rfl rfl rfl ?_
        refine V.nil ?_
        refine Post.nextC ?_
        refine VC.seq ?_
        refine VC.seq ?_
        refine VC.region ?_
        refine V.assign rfl rfl rfl ?_
        refine V.nil ?_
        refine Post.nextC ?_
        refine VC.block ?_
        refine VC.loop (σ := Nat × Value × Chunk) (fun t => [(0, .pointer (some ⟨b, 0, none⟩)), (8, .int .i64 (i : Int)), (9, t.2.1), (10, .int .i64 (t.1 : Int))]) (fun t => bkB b (.slice (some ⟨ga, oa, none⟩) N cpB) vW vO vM n :: cB :: cI :: cO :: cX :: cM :: cY :: t.2.2 :: R) (fun t => t.1 ≤ 700 ∧ Own 5 1 t.2.2 t.2.1 t.1 ((List.replicate t.1 (mk2 i)).map byv)) (fun t => 700 - t.1) (0, .slice none 0 0, []) ⟨Nat.zero_le _, Own.nil 5 1⟩ ?_ ?_ ?_
        · exact ⟨rfl, rfl, rfl, rfl, trivial⟩
        · repeat' constructor
        rintro ⟨k, v1, c1⟩ ⟨hk, hom⟩
        simp only at hk hom
        dsimp only
        refine VC.seq ?_
        refine VC.seq ?_
        refine VC.region ?_
        refine V.move rfl rfl rfl ?_
        refine V.bin rfl rfl rfl rfl (bin_lss _ _ _) ?_
        refine V.nil ?_
        refine Post.nextC ?_
        refine VC.cond rfl (fun h6 => ?_) (fun h6 => ?_)
        · try simp only [decide_eq_true_eq, decide_eq_false_iff_not, Bool.not_eq_true', Bool.not_eq_false', Bool.not_eq_eq_eq_not, Bool.not_true, Bool.not_false, beq_iff_eq, beq_eq_false_iff_ne, ne_eq, Int.not_lt, Int.not_le, Option.isSome_some, Option.isNone_none, Option.isSome_none, Option.isNone_some] at h6
          refine VC.skip ?_
          refine Post.nextC ?_
          refine VC.seq ?_
          refine VC.block ?_
          refine VC.region ?_
          refine V.move rfl rfl rfl ?_
          refine V.move rfl rfl rfl ?_
          refine V.bin rfl rfl rfl rfl (bin_rem .i64 (i : Int) 125 (by omega)) ?_
          refine V.know (t := 103) (y := .int .i64 ((i % 125 : Nat) : Int)) rfl (by first | rfl | (congr 1; omega)) ?_
          refine V.bin rfl rfl rfl rfl (bin_addI (by omega)) ?_
          refine V.know (t := 104) (y := .int .i64 ((125 + i % 125 : Nat) : Int)) rfl (by first | rfl | (congr 1; omega)) ?_
          refine V.conv _ rfl rfl rfl (IntWalk.u8_in _ (by omega)) ?_
          refine V.buildSlice1 (l := [.int .u8 ((125 + i % 125 : Nat) : Int)]) rfl rfl rfl rfl rfl rfl rfl (fun b1 => ?_)
          apply V.append1 rfl rfl rfl rfl rfl rfl (news := [.int .u8 ((125 + i % 125 : Nat) : Int)]) (ho := hom) (hb := by omega) (h63 := by simp only [maxLen]; omega)
          case hp => repeat' constructor
          case hl => rfl
          case h1 => rfl
          intro v2 c2 ho2
          refine V.assign rfl rfl rfl ?_
          refine V.nil ?_
          refine Post.blockNormal (Post.nextC ?_)
          refine VC.region ?_
          refine V.move rfl rfl rfl ?_
          refine V.bin rfl rfl rfl rfl (bin_addI (by omega)) ?_
          refine V.assign rfl rfl rfl ?_
          refine V.nil ?_
          refine Post.round (k + 1, v2, c2) ?_ ?_ ?_ ?_
          · refine ⟨by simp only; omega, ?_⟩
            have h3 := more_snoc (m := 0) (k := k) (i := i) (l := [])
            simp only [List.nil_append] at h3
            simp only
            rw [← h3]
            exact ho2
          · simp only; omega
          · exact ⟨rfl, rfl, rfl, rfl, trivial⟩
          · repeat' constructor
        · try simp only [decide_eq_true_eq, decide_eq_false_iff_not, Bool.not_eq_true', Bool.not_eq_false', Bool.not_eq_eq_eq_not, Bool.not_true, Bool.not_false, beq_iff_eq, beq_eq_false_iff_ne, ne_eq, Int.not_lt, Int.not_le, Option.isSome_some, Option.isNone_none, Option.isSome_none, Option.isNone_some] at h6
          refine VC.exit ?_
          refine Post.thenExit (Post.thenExit (Post.blockHit (Post.nextC ?_)))
          refine VC.any ([bkB b (.slice (some ⟨ga, oa, none⟩) N cpB) vW vO vM n, cB, cI, c1]) 16 19 mixed rfl ?_
          refine VA.take 0 rfl (by kernel_rfl) (by kernel_rfl) rfl (by kernel_rfl) (by kernel_rfl) (by repeat' constructor) ?_
          have hk7 : k = 700 := by omega
          refine V.move rfl rfl rfl ?_
          refine V.nil ?_
          refine Post.took ?_
          refine VA.take 1 rfl (by kernel_rfl) (by kernel_rfl) rfl (by kernel_rfl) (by kernel_rfl) (by repeat' constructor) ?_
          refine V.move rfl rfl rfl ?_
          refine V.nil ?_
          refine Post.took ?_
          refine VA.take 2 rfl (by kernel_rfl) (by kernel_rfl) rfl (by kernel_rfl) (by kernel_rfl) (by repeat' constructor) ?_
          refine V.nilCheck rfl rfl rfl ?_
          refine V.nil ?_
          refine Post.took ?_
          refine VA.take 3 rfl (by kernel_rfl) (by kernel_rfl) rfl (by kernel_rfl) (by kernel_rfl) (by repeat' constructor) ?_
          refine V.fieldAddr 3 22 rfl rfl rfl rfl rfl ?_
          refine V.nil ?_
          refine Post.took ?_
          refine VA.take 4 rfl (by kernel_rfl) (by kernel_rfl) rfl (by kernel_rfl) (by kernel_rfl) (by repeat' constructor) ?_
          apply V.loadL rfl rfl rfl rfl
          · repeat' constructor
          · repeat' constructor
          refine V.nil ?_
          refine Post.took ?_
          refine VA.take 5 rfl (by kernel_rfl) (by kernel_rfl) rfl (by kernel_rfl) (by kernel_rfl) (by repeat' constructor) ?_
          refine V.move rfl rfl rfl ?_
          refine V.nil ?_
          refine Post.took ?_
          refine VA.take 6 rfl (by kernel_rfl) (by kernel_rfl) rfl (by kernel_rfl) (by kernel_rfl) (by repeat' constructor) ?_
          refine V.nilCheck rfl rfl rfl ?_
          refine V.nil ?_
          refine Post.took ?_
          refine VA.take 7 rfl (by kernel_rfl) (by kernel_rfl) rfl (by kernel_rfl) (by kernel_rfl) (by repeat' constructor) ?_
          refine V.fieldAddr 0 22 rfl rfl rfl rfl rfl ?_
          refine V.nil ?_
          refine Post.took ?_
          refine VA.take 8 rfl (by kernel_rfl) (by kernel_rfl) rfl (by kernel_rfl) (by kernel_rfl) (by repeat' constructor) ?_
          apply V.loadL rfl rfl rfl rfl
          · repeat' constructor
          · repeat' constructor
          refine V.nil ?_
          refine Post.took ?_
          refine VA.take 9 rfl (by kernel_rfl) (by kernel_rfl) rfl (by kernel_rfl) (by kernel_rfl) (by repeat' constructor) ?_
          refine V.move rfl rfl rfl ?_
          refine V.nil ?_
          refine Post.took ?_
          refine VA.take 10 rfl (by kernel_rfl) (by kernel_rfl) rfl (by kernel_rfl) (by kernel_rfl) (by repeat' constructor) ?_
          refine V.indexO (i := i) rfl rfl rfl rfl (by omega) ?_
          rw [Nat.mul_one]
          refine V.nil ?_
          refine Post.took ?_
          refine VA.take 11 rfl (by kernel_rfl) (by kernel_rfl) rfl (by kernel_rfl) (by kernel_rfl) (by repeat' constructor) ?_
          apply V.loadC (c := cB) rfl rfl rfl rfl
          · repeat' constructor
          · exact hcela
          refine V.nil ?_
          refine Post.took ?_
          refine VA.take 12 rfl (by kernel_rfl) (by kernel_rfl) rfl (by kernel_rfl) (by kernel_rfl) (by repeat' constructor) ?_
          refine V.move rfl rfl rfl ?_
          refine V.nil ?_
          refine Post.took ?_
          refine VA.one 13 (by kernel_rfl) rfl ?_
          apply V.appendFullR (k := k) (news := (List.replicate k (mk2 i)).map byv) rfl rfl rfl rfl rfl rfl (hp := .inr ?hq) (hr := hrda) (hp1 := .inr ?hq1) (hr1 := hom.rd) (hk := by omega) (h1 := all_byv _) (hb := by omega) (h63 := by simp only [maxLen]; omega)
          case hq => repeat' constructor
          case hq1 => repeat' constructor
          intro v4 c4 ho4
          rw [← List.map_append] at ho4
          refine V.nil ?_
          refine Post.came (by repeat' constructor) ?_
          refine VA.one 14 (by kernel_rfl) rfl ?_
          refine V.buildSlice1 (l := [v4]) rfl rfl rfl (cells_of_one (Rd.one (ho4.rd (w0 := w0)))) rfl rfl rfl (fun b1 => ?_)
          refine V.nil ?_
          refine Post.came (by repeat' constructor) ?_
          refine VA.one 15 (by kernel_rfl) rfl ?_
          apply V.append1 rfl rfl rfl rfl rfl rfl (news := [v4]) (ho := hoM) (hb := by omega) (h63 := by simp only [maxLen]; omega)
          case hp => repeat' constructor
          case hl => rfl
          case h1 => simp [Rd.one (ho4.rd (w0 := w0))]
          intro vM2 cM2 hoM2
          refine V.nil ?_
          refine Post.came (by repeat' constructor) ?_
          refine VA.one 16 (by kernel_rfl) rfl ?_
          refine V.nilCheck rfl rfl rfl ?_
          refine V.nil ?_
          refine Post.cameLast rfl ?_
          refine VA.one 17 (by kernel_rfl) rfl ?_
          refine V.fieldAddr 3 22 rfl rfl rfl rfl rfl ?_
          refine V.nil ?_
          refine Post.cameLast rfl ?_
          refine VA.one 18 (by kernel_rfl) rfl ?_
          apply V.storeL rfl rfl rfl rfl (Rd.one (hoM2.rd (w0 := w0)))
          · repeat' constructor
          · repeat' constructor
          refine V.nil ?_
          refine Post.cameLast rfl ?_
          refine VA.done (by kernel_rfl) ?_
          refine Post.blockNormal (Post.nextC ?_)
          refine VC.region ?_
          refine V.move rfl rfl rfl ?_
          refine V.bin rfl rfl rfl rfl (bin_addI (by omega)) ?_
          refine V.assign rfl rfl rfl ?_
          refine V.nil ?_
          refine Post.round ⟨i + 1, vM2, cM2, vsM ++ [v4], cY ++ c4⟩ ?_ ?_ ?_ ?_
          · exact ⟨by simp only; omega, hoM2, by
              simp only
              rw [take_more hnr]
              refine hY.snoc ?_
              rw [← hk7]
              have := ho4.rd (w0 := w0)
              rw [List.length_append, List.length_replicate, List.length_replicate]
              exact this⟩
          · simp only; omega
          · exact ⟨rfl, rfl, trivial⟩
          · repeat' constructor
      · try simp only [decide_eq_true_eq, decide_eq_false_iff_not, Bool.not_eq_true', Bool.not_eq_false', Bool.not_eq_eq_eq_not, Bool.not_true, Bool.not_false, beq_iff_eq, beq_eq_false_iff_ne, ne_eq, Int.not_lt, Int.not_le, Option.isSome_some, Option.isNone_none, Option.isSome_none, Option.isNone_some] at h5
        refine VC.exit ?_
        refine Post.thenExit (Post.thenExit (Post.blockHit (Post.nextC ?_)))
        refine VC.seq ?_
        refine VC.region ?_
        obtain rfl : N = i := by omega
        rw [List.take_of_length_le (by rw [more_length, hns]; exact Nat.le_refl _)] at hY
        refine V.move rfl rfl rfl ?_
        refine V.move rfl rfl rfl ?_
        refine V.nilCheck rfl rfl rfl ?_
        refine V.fieldAddr 3 22 rfl rfl rfl rfl rfl ?_
        apply V.loadL rfl rfl rfl rfl
        · repeat' constructor
        · repeat' constructor
        apply V.call rfl rfl rfl (hc := c45 (q := 700) (N := N) (hB.rd) hL (hoM.rd) hY (by omega) (by omega) hsm2)
        · repeat' constructor
        rintro v Ho ⟨rfl, rfl⟩
        refine V.know (t := 131) (y := .bool true) rfl (rfl) ?_
        refine V.move rfl rfl rfl ?_
        refine V.move rfl rfl rfl ?_
        refine V.move rfl rfl rfl ?_
        refine V.nilCheck rfl rfl rfl ?_
        refine V.fieldAddr 2 22 rfl rfl rfl rfl rfl ?_
        apply V.loadL rfl rfl rfl rfl
        · repeat' constructor
        · repeat' constructor
        apply V.call rfl rfl rfl (hc := c45 (q := 16) (N := N) (hB.rd) hL (hoO.rd) hX (by omega) (by omega) hsm2)
        · repeat' constructor
        rintro v Ho ⟨rfl, rfl⟩
        refine V.know (t := 138) (y := .bool true) rfl (rfl) ?_
        refine V.pickT rfl rfl rfl rfl ?_
        refine V.assign rfl rfl rfl ?_
        refine V.nil ?_
        refine Post.nextC ?_
        refine VC.ret ?_
        apply Post.ret1 rfl rfl 
        · exact ⟨vO, vM, rfl, rfl⟩
        · repeat' constructor

end Go.Proofs.Jn
