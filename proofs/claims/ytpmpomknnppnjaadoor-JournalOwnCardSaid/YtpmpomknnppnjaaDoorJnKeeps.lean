/- Contracts of functions of the given program, each proved by walking its code: part of the proof of this claim; no condition beyond those that each theorem names. -/
import Derived.Test.YtpmpomknnppnjaaDoorJnWakes
set_option linter.unusedVariables false
set_option linter.unusedSimpArgs false
namespace Go.Proofs.Jn
open Go Go.RowKit Go.Proofs.Eng
/-- what an Op of the walk is -/
structure OpD where
  do_ : Int
  n : Int
  v : Value
  data : Bytes
def RdOps (w0 : World) (vo : Value) (l : List OpD) : Prop :=
  ∃ a cap, vo = .slice a l.length cap ∧ l.length ≤ 9223372036854775807 ∧ (l = [] ∨ ∃ b o, a = some ⟨b, o, none⟩ ∧ ∀ i x, l[i]? = some x →
    Cel w0 [] ⟨b, o + i * 3 + 0, none⟩ (.int .i64 x.do_) ∧ Cel w0 [] ⟨b, o + i * 3 + 1, none⟩ (.int .i64 x.n) ∧ Cel w0 [] ⟨b, o + i * 3 + 2, none⟩ x.v ∧ Rd w0 [] 1 x.v x.data.length (x.data.map byv) ∧ x.n ≤ 9223372036854775807)
def DS.fuse (s : DS) (m : Int) : DS := if s.dn then s else ⟨s.wr, decide (m = 0), decide (0 ≤ m), m⟩
theorem c16u {w0 : World} {d bb nb : Nat} {s : DS} {m : Int} : CtR Pg w0 16 #[.pointer (some ⟨d, 0, none⟩), .int .i64 m] [dkS d bb nb s] (fun v H => H = [dkS d bb nb (s.fuse m)]) := by
  obtain ⟨wr, dn, fu, lf⟩ := s
  cases dn with
  | true => exact c16T
  | false => exact c16F
theorem DS.ok_fuse {s : DS} {M m : Int} (h : s.ok M) (hm : m ≤ 9223372036854775807) : (s.fuse m).ok M := by
  unfold DS.fuse
  split
  · exact h
  · exact ⟨h.1, h.2.1, fun h2 => ⟨by simpa using h2, hm⟩⟩
theorem DS.ok_set {s : DS} {M m : Int} {a b : Bool} (h : s.ok M) (hm : m ≤ 9223372036854775807) (h0 : b = true → 0 ≤ m) : (⟨s.wr, a, b, m⟩ : DS).ok M := ⟨h.1, h.2.1, fun h2 => ⟨h0 h2, hm⟩⟩
theorem DS.ok_rest {s : DS} {M m : Int} {a : Bool} (h : s.ok M) : (⟨s.wr, a, false, m⟩ : DS).ok M := ⟨h.1, h.2.1, fun h2 => by cases h2⟩
/-- rows, with what is looked at in pieces -/
theorem c11s {w0 : World} {c1 c2 c3 c4 : Chunk} {va vb : Value} {n m : Nat} {vsA vsB : List Value} {rsA rsB : List Bytes} (ha : Rd w0 c1 1 va n vsA) (hA : RdL w0 c2 vsA rsA) (hb : Rd w0 c3 1 vb m vsB) (hB : RdL w0 c4 vsB rsB) :
    CtR Pg w0 11 #[va, vb] [c1, c2, c3, c4] (fun v H => v = .bool (decide (rsA = rsB)) ∧ H = [c1, c2, c3, c4]) := by
  have h := c11 (w0 := w0) (c := c1 ++ (c2 ++ (c3 ++ c4))) (ha.mono (by intro x; simp; grind)) (hA.mono (by intro x; simp; grind)) (hb.mono (by intro x; simp; grind)) (hB.mono (by intro x; simp; grind))
  intro R w hW
  refine (h R w (hW.perm (by simp))).mono ?_
  rintro e w' ⟨Ho, h1, h2⟩
  cases e with
  | returned v =>
    obtain ⟨hv, hH⟩ := h1
    subst hH
    exact ⟨[c1, c2, c3, c4], ⟨hv, rfl⟩, h2.perm (by simp)⟩
  | _ => exact h1.elim
/-- how far JournalKeeps has come -/
structure KSt where
  i : Nat
  j : Nat
  boots : Nat
  en : Nat
  down : Bool
  s : DS
  img : Bytes
  rs : List Bytes
  vk : Value
  ck : Chunk
  cK : Chunk
  vsK : List Value
  vm : Value
  cm : Chunk
  vsM : List Value
  nm : Nat
structure KSt.ok (w0 : World) (nb len : Nat) (t : KSt) : Prop where
  hi : t.i ≤ len ∧ t.i ≤ 150
  hJ : JI t.img nb t.boots t.rs t.en
  hs : t.s.ok (20000 * (t.i : Int) + 10)
  hb : t.boots ≤ t.i + 1
  hk : Own 31 1 t.ck t.vk t.rs.length t.vsK
  hK : RdL w0 t.cK t.vsK t.rs
  hm : Own 31 1 t.cm t.vm t.nm t.vsM
  hm1 : t.nm ≤ 1
  hm2 : t.nm ≠ 0 → t.down = true

theorem c4 {w0 : World} {x0 : Int} {vo : Value} {ops : List OpD} (hops : RdOps w0 vo ops) : CtR Pg w0 4 #[.int .i64 x0, vo] [] (fun v H => v = .bool true ∧ H = []) := by
  obtain ⟨ao, co, rfl, hol63, hco⟩ := hops
  refine Ct.of_body Go.Proofs.Tryd.func4 rfl 202 rfl rfl (fun R => ?_)
  refine VC.seq ?_
  refine VC.region ?_
  refine V.assign rfl rfl rfl ?_
  refine V.nil ?_
  refine Post.nextC ?_
  refine VC.seq ?_
  refine VC.region ?_
  refine V.move rfl rfl rfl ?_
  apply V.call rfl rfl rfl (hc := c14)
  · repeat' constructor
  rintro v Ho ⟨d, bb, xr, nb, hn1, hn40, rfl, rfl⟩
  refine V.move rfl rfl rfl ?_
  refine V.extract rfl rfl rfl rfl ?_
  refine V.extract rfl rfl rfl rfl ?_
  refine V.assign rfl rfl rfl ?_
  refine V.assign rfl rfl rfl ?_
  refine V.nil ?_
  refine Post.nextC ?_
  refine VC.seq ?_
  refine VC.seq ?_
  refine VC.region ?_
  refine V.move rfl rfl rfl ?_
  refine V.bin rfl rfl rfl rfl (bin_peqlNil _) ?_
  refine V.know (t := 24) (y := .bool false) rfl (rfl) ?_
  refine V.move rfl rfl rfl ?_
  apply V.call rfl rfl rfl (hc := c7)
  · repeat' constructor
  rintro v Ho ⟨rfl, rfl⟩
  refine V.not rfl rfl rfl ?_
  refine V.know (t := 27) (y := .bool false) rfl (rfl) ?_
  refine V.pickF rfl rfl rfl rfl ?_
  refine V.nil ?_
  refine Post.nextC ?_
  refine VC.condF rfl ?_
  refine VC.skip ?_
  refine Post.nextC ?_
  refine VC.seq ?_
  refine VC.seq ?_
  refine VC.region ?_
  refine V.move rfl rfl rfl ?_
  apply V.call rfl rfl rfl (hc := c15 (n := 16 * nb) (by omega))
  · repeat' constructor
  rintro v Ho ⟨rfl, rfl⟩
  refine V.bin rfl rfl rfl rfl (bin_lss _ _ _) ?_
  refine V.nil ?_
  refine Post.nextC ?_
  refine VC.cond rfl (fun h1 => ?_) (fun h1 => ?_)
  · try simp only [decide_eq_true_eq, decide_eq_false_iff_not, Bool.not_eq_true', Bool.not_eq_false', Bool.not_eq_eq_eq_not, Bool.not_true, Bool.not_false, beq_iff_eq, beq_eq_false_iff_ne, ne_eq, Int.not_lt, Int.not_le, Option.isSome_some, Option.isNone_none, Option.isSome_none, Option.isNone_some] at h1
    refine VC.seq ?_
    refine VC.region ?_
    refine V.move rfl rfl rfl ?_
    apply V.call rfl rfl rfl (hc := c8s (nb := nb) (s := ⟨0, false, false, 0⟩) (by omega))
    · repeat' constructor
    rintro v Ho ⟨rfl, rfl⟩
    refine V.move rfl rfl rfl ?_
    refine V.extract rfl rfl rfl rfl ?_
    refine V.extract rfl rfl rfl rfl ?_
    refine V.extract rfl rfl rfl rfl ?_
    refine V.assign rfl rfl rfl ?_
    refine V.assign rfl rfl rfl ?_
    refine V.assign rfl rfl rfl ?_
    refine V.nil ?_
    refine Post.nextC ?_
    refine VC.seq ?_
    refine VC.region ?_
    refine V.move rfl rfl rfl ?_
    refine V.bin rfl rfl rfl rfl (bin_peqlNil _) ?_
    refine V.know (t := 39) (y := .bool true) rfl (rfl) ?_
    refine V.move rfl rfl rfl ?_
    refine V.move rfl rfl rfl ?_
    refine V.bin rfl rfl rfl rfl (bin_eql _ _ _) ?_
    refine V.know (t := 42) (y := .bool true) rfl (rfl) ?_
    refine V.pickT rfl rfl rfl rfl ?_
    refine V.assign rfl rfl rfl ?_
    refine V.nil ?_
    refine Post.nextC ?_
    refine VC.ret ?_
    refine Post.thenRet (?_)
    apply Post.ret1 rfl rfl 
    · exact ⟨rfl, rfl⟩
    · repeat' constructor
  · try simp only [decide_eq_true_eq, decide_eq_false_iff_not, Bool.not_eq_true', Bool.not_eq_false', Bool.not_eq_eq_eq_not, Bool.not_true, Bool.not_false, beq_iff_eq, beq_eq_false_iff_ne, ne_eq, Int.not_lt, Int.not_le, Option.isSome_some, Option.isNone_none, Option.isSome_none, Option.isNone_some] at h1
    refine VC.skip ?_
    refine Post.nextC ?_
    refine VC.seq ?_
    refine VC.region ?_
    refine V.move rfl rfl rfl ?_
    apply V.call rfl rfl rfl (hc := c8z (nb := nb) (by omega) (by omega) (DS.ok_mono ok0 (by omega)) rfl)
    · repeat' constructor
    rintro v Ho ⟨j0, vl, cl, img0, rfl, ho0, hJ0, rfl⟩
    obtain ⟨al, cpl, rfl, _⟩ := id (ho0.rd (w0 := w0))
    refine V.move rfl rfl rfl ?_
    refine V.extract rfl rfl rfl rfl ?_
    refine V.extract rfl rfl rfl rfl ?_
    refine V.extract rfl rfl rfl rfl ?_
    refine V.assign rfl rfl rfl ?_
    refine V.assign rfl rfl rfl ?_
    refine V.assign rfl rfl rfl ?_
    refine V.nil ?_
    refine Post.nextC ?_
    refine VC.seq ?_
    refine VC.seq ?_
    refine VC.region ?_
    refine V.move rfl rfl rfl ?_
    refine V.bin rfl rfl rfl rfl (bin_peqlNil _) ?_
    refine V.know (t := 51) (y := .bool false) rfl (rfl) ?_
    refine V.move rfl rfl rfl ?_
    refine V.move rfl rfl rfl ?_
    refine V.bin rfl rfl rfl rfl (bin_neq _ _ _) ?_
    refine V.know (t := 54) (y := .bool false) rfl (rfl) ?_
    refine V.pickF rfl rfl rfl rfl ?_
    refine V.move rfl rfl rfl ?_
    refine V.move rfl rfl rfl ?_
    refine V.len rfl rfl rfl ?_
    refine V.bin rfl rfl rfl rfl (bin_neq _ _ _) ?_
    refine V.know (t := 59) (y := .bool false) rfl (rfl) ?_
    refine V.pickF rfl rfl rfl rfl ?_
    refine V.nil ?_
    refine Post.nextC ?_
    refine VC.condF rfl ?_
    refine VC.skip ?_
    refine Post.nextC ?_
    refine VC.seq ?_
    refine VC.region ?_
    refine V.assign rfl rfl rfl ?_
    refine V.nil ?_
    refine Post.nextC ?_
    refine VC.seq ?_
    refine VC.region ?_
    refine V.assign rfl rfl rfl ?_
    refine V.nil ?_
    refine Post.nextC ?_
    refine VC.seq ?_
    refine VC.seq ?_
    refine VC.region ?_
    refine V.assign rfl rfl rfl ?_
    refine V.nil ?_
    refine Post.nextC ?_
    refine VC.block ?_
    refine VC.loop (σ := KSt) (fun t => [(1, .slice ao ops.length co), (5, .pointer (some ⟨d, 0, none⟩)), (10, .pointer (some ⟨t.j, 0, none⟩)), (13, t.vk), (14, t.vm), (15, .int .i64 (t.i : Int))]) (fun t => jB t.j d t.boots (t.rs.length : Int) (t.en : Int) t.down :: t.ck :: t.cK :: t.cm :: dkS d bb nb t.s :: imB bb t.img :: R) (KSt.ok w0 nb ops.length) (fun t => ops.length - t.i) ⟨0, j0, 1, 1, false, (⟨0, false, false, 0⟩ : DS).wrote, img0, [], .slice none 0 0, [], [], [], .slice none 0 0, [], [], 0⟩ ⟨by simp, hJ0, DS.ok_mono (DS.ok_wrote ok0) (by simp), by simp, Own.nil 31 1, RdL.nil w0, Own.nil 31 1, by simp, fun h => absurd rfl h⟩ ?_ ?_ ?_
    · exact ⟨rfl, rfl, rfl, rfl, rfl, rfl, trivial⟩
    · repeat' constructor
    rintro ⟨i, j, boots, en, down, s, img, rs, vk, ck, cK, vsK, vm, cm, vsM, nm⟩ ⟨hi, hJ, hs, hbt, hk, hK, hm, hm1, hm2⟩
    simp only at hi hJ hs hbt hk hK hm hm1 hm2
    have hJlt := hJ.lt
    obtain ⟨ak, cpk, rfl, _⟩ := id (hk.rd (w0 := w0))
    obtain ⟨am, cpm, rfl, _⟩ := id (hm.rd (w0 := w0))
    refine VC.seq ?_
    refine VC.seq ?_
    refine VC.region ?_
    refine V.move rfl rfl rfl ?_
    refine V.move rfl rfl rfl ?_
    refine V.len rfl rfl rfl ?_
    refine V.bin rfl rfl rfl rfl (bin_lss _ _ _) ?_
    refine V.move rfl rfl rfl ?_
    refine V.split (t := 65) rfl (fun h2 => ?_) (fun h2 => ?_)
    · try simp only [decide_eq_true_eq, decide_eq_false_iff_not, Bool.not_eq_true', Bool.not_eq_false', Bool.not_eq_eq_eq_not, Bool.not_true, Bool.not_false, beq_iff_eq, beq_eq_false_iff_ne, ne_eq, Int.not_lt, Int.not_le, Option.isSome_some, Option.isNone_none, Option.isSome_none, Option.isNone_some] at h2
      refine V.move rfl rfl rfl ?_
      refine V.bin rfl rfl rfl rfl (bin_lss _ _ _) ?_
      refine V.pickT rfl rfl rfl rfl ?_
      refine V.nil ?_
      refine Post.nextC ?_
      refine VC.cond rfl (fun h3 => ?_) (fun h3 => ?_)
      · try simp only [decide_eq_true_eq, decide_eq_false_iff_not, Bool.not_eq_true', Bool.not_eq_false', Bool.not_eq_eq_eq_not, Bool.not_true, Bool.not_false, beq_iff_eq, beq_eq_false_iff_ne, ne_eq, Int.not_lt, Int.not_le, Option.isSome_some, Option.isNone_none, Option.isSome_none, Option.isNone_some] at h3
        refine VC.skip ?_
        refine Post.nextC ?_
        refine VC.seq ?_
        refine VC.block ?_
        refine VC.seq ?_
        refine VC.region ?_
        obtain ⟨x, hx⟩ : ∃ x, ops[i]? = some x := ⟨ops[i]'(by omega), by simp⟩
        obtain ⟨gb, go, rfl, hcx⟩ : ∃ b o, ao = some ⟨b, o, none⟩ ∧ ∀ i x, ops[i]? = some x →
            Cel w0 [] ⟨b, o + i * 3 + 0, none⟩ (.int .i64 x.do_) ∧ Cel w0 [] ⟨b, o + i * 3 + 1, none⟩ (.int .i64 x.n) ∧ Cel w0 [] ⟨b, o + i * 3 + 2, none⟩ x.v ∧ Rd w0 [] 1 x.v x.data.length (x.data.map byv) ∧ x.n ≤ 9223372036854775807 := by
          rcases hco with h | h
          · subst h; cases hx
          · exact h
        obtain ⟨hx0, hx1, hx2, hx3, hxn⟩ := hcx i x hx
        refine V.move rfl rfl rfl ?_
        refine V.move rfl rfl rfl ?_
        refine V.indexO (i := i) rfl rfl rfl rfl (by omega) ?_
        refine V.fieldAddr 0 3 rfl rfl rfl rfl rfl ?_
        apply V.loadO rfl rfl rfl rfl
        · assumption
        refine V.nil ?_
        refine Post.nextC ?_
        refine VC.block ?_
        refine VC.seq ?_
        refine VC.region ?_
        refine V.bin rfl rfl rfl rfl (bin_eql _ _ _) ?_
        refine V.assign rfl rfl rfl ?_
        refine V.nil ?_
        refine Post.nextC ?_
        refine VC.cond rfl (fun h4 => ?_) (fun h4 => ?_)
        · try simp only [decide_eq_true_eq, decide_eq_false_iff_not, Bool.not_eq_true', Bool.not_eq_false', Bool.not_eq_eq_eq_not, Bool.not_true, Bool.not_false, beq_iff_eq, beq_eq_false_iff_ne, ne_eq, Int.not_lt, Int.not_le, Option.isSome_some, Option.isNone_none, Option.isSome_none, Option.isNone_some] at h4
          refine VC.seq ?_
          refine VC.region ?_
          refine V.move rfl rfl rfl ?_
          refine V.move rfl rfl rfl ?_
          refine V.indexO (i := i) rfl rfl rfl rfl (by omega) ?_
          refine V.fieldAddr 2 31 rfl rfl rfl rfl rfl ?_
          apply V.loadO rfl rfl rfl rfl
          · assumption
          apply V.call rfl rfl rfl (hc := c9 (most := 700) hx3 (by omega))
          · repeat' constructor
          rintro vb Ho ⟨cb, hob, rfl⟩
          have hrb : Rd w0 cb 1 vb (x.data.take 700).length ((x.data.take 700).map byv) := by
            have := hob.rd (w0 := w0)
            rwa [show min x.data.length 700 = (x.data.take 700).length by simp [Nat.min_comm]] at this
          have hrl7 : (x.data.take 700).length ≤ 700 := by simp; omega
          refine V.assign rfl rfl rfl ?_
          refine V.nil ?_
          refine Post.nextC ?_
          refine VC.seq ?_
          refine VC.region ?_
          refine V.move rfl rfl rfl ?_
          refine V.buildSlice0 rfl rfl (fun b1 => ?_)
          refine V.move rfl rfl rfl ?_
          apply V.appendR (m := 0) (l := []) (news := (x.data.take 700).map byv) rfl rfl rfl rfl rfl rfl (ho := Own.empty b1 5 1) (hp1 := .inr ?hq) (hr := hrb) (h1 := all_byv _) (hb := by omega) (h63 := by simp only [maxLen]; omega)
          case hp => repeat' constructor
          case hq => repeat' constructor
          intro v2 c2 ho2
          rw [Nat.zero_add, List.nil_append] at ho2
          apply V.call rfl rfl rfl (hc := c10u (c := c2) (M := 20000 * (i : Int) + 10) (r := x.data.take 700) ho2.rd (by omega) (by omega) hJ hs (by omega))
          · repeat' constructor
          rintro v Ho ⟨e, down2, s2, img2, rs2, en2, rfl, ⟨hJ2, hs2, hcase⟩, rfl⟩
          refine V.assign rfl rfl rfl ?_
          refine V.nil ?_
          refine Post.nextC ?_
          refine VC.seq ?_
          refine VC.region ?_
          refine V.move rfl rfl rfl ?_
          refine V.bin rfl rfl rfl rfl (bin_eql _ _ _) ?_
          refine V.nil ?_
          refine Post.nextC ?_
          refine VC.cond rfl (fun h5 => ?_) (fun h5 => ?_)
          · try simp only [decide_eq_true_eq, decide_eq_false_iff_not, Bool.not_eq_true', Bool.not_eq_false', Bool.not_eq_eq_eq_not, Bool.not_true, Bool.not_false, beq_iff_eq, beq_eq_false_iff_ne, ne_eq, Int.not_lt, Int.not_le, Option.isSome_some, Option.isNone_none, Option.isSome_none, Option.isNone_some] at h5
            refine VC.seq ?_
            refine VC.seq ?_
            refine VC.region ?_
            obtain ⟨hdn0, rfl, rfl⟩ : down = false ∧ down2 = false ∧ rs2 = rs ++ [x.data.take 700] := by
              rcases hcase with ⟨_, h⟩ | ⟨h, _⟩ | ⟨h, _⟩
              · exact h
              · omega
              · omega
            obtain rfl : nm = 0 := by
              rcases Nat.eq_zero_or_pos nm with h | h
              · exact h
              · have := hm2 (by omega); rw [hdn0] at this; cases this
            refine V.move rfl rfl rfl ?_
            refine V.len rfl rfl rfl ?_
            refine V.bin rfl rfl rfl rfl (bin_gtr _ _ _) ?_
            refine V.know (t := 93) (y := .bool false) rfl (rfl) ?_
            refine V.nil ?_
            refine Post.nextC ?_
            refine VC.condF rfl ?_
            refine VC.skip ?_
            refine Post.nextC ?_
            refine VC.region ?_
            refine V.move rfl rfl rfl ?_
            refine V.move rfl rfl rfl ?_
            refine V.buildSlice1 (l := [vb]) rfl rfl rfl (cells_of_one (Rd.one hrb)) rfl rfl rfl (fun b2 => ?_)
            apply V.append1 rfl rfl rfl rfl rfl rfl (news := [vb]) (ho := hk) (hb := by omega) (h63 := by simp only [maxLen]; omega)
            case hp => repeat' constructor
            case hl => rfl
            case h1 => simp [(Rd.one hrb)]
            intro v3 c3 ho3
            refine V.assign rfl rfl rfl ?_
            refine V.nil ?_
            refine Post.blockNormal (Post.blockNormal (Post.nextC ?_))
            refine VC.region ?_
            refine V.move rfl rfl rfl ?_
            refine V.bin rfl rfl rfl rfl (bin_addI (x := (i : Int)) (y := 1) (by omega)) ?_
            refine V.assign rfl rfl rfl ?_
            refine V.nil ?_
            refine Post.round ⟨i + 1, j, boots, en2, false, s2, img2, rs ++ [x.data.take 700], v3, c3, cK ++ cb, vsK ++ [vb], .slice am 0 cpm, cm, vsM, 0⟩ ?_ ?_ ?_ ?_
            · exact ⟨by simp only; omega, hJ2, DS.ok_mono hs2 (by simp only; omega), by simp only; omega, by simpa using ho3, hK.snoc hrb, hm, by simp only; omega, fun h => absurd rfl h⟩
            · simp only; omega
            · exact ⟨rfl, rfl, rfl, rfl, rfl, rfl, trivial⟩
            · repeat' constructor
          · try simp only [decide_eq_true_eq, decide_eq_false_iff_not, Bool.not_eq_true', Bool.not_eq_false', Bool.not_eq_eq_eq_not, Bool.not_true, Bool.not_false, beq_iff_eq, beq_eq_false_iff_ne, ne_eq, Int.not_lt, Int.not_le, Option.isSome_some, Option.isNone_none, Option.isSome_none, Option.isNone_some] at h5
            refine VC.seq ?_
            refine VC.region ?_
            refine V.move rfl rfl rfl ?_
            refine V.bin rfl rfl rfl rfl (bin_eql _ _ _) ?_
            refine V.nil ?_
            refine Post.nextC ?_
            refine VC.cond rfl (fun h6 => ?_) (fun h6 => ?_)
            · try simp only [decide_eq_true_eq, decide_eq_false_iff_not, Bool.not_eq_true', Bool.not_eq_false', Bool.not_eq_eq_eq_not, Bool.not_true, Bool.not_false, beq_iff_eq, beq_eq_false_iff_ne, ne_eq, Int.not_lt, Int.not_le, Option.isSome_some, Option.isNone_none, Option.isSome_none, Option.isNone_some] at h6
              refine VC.seq ?_
              refine VC.region ?_
              obtain ⟨rfl, rfl⟩ : down2 = true ∧ rs = rs2 := by
                rcases hcase with ⟨h, _⟩ | ⟨_, h, h'⟩ | ⟨h, _⟩
                · omega
                · exact ⟨h, h'.symm⟩
                · omega
              refine V.move rfl rfl rfl ?_
              refine V.len rfl rfl rfl ?_
              refine V.bin rfl rfl rfl rfl (bin_eql _ _ _) ?_
              refine V.nil ?_
              refine Post.nextC ?_
              refine VC.cond rfl (fun h7 => ?_) (fun h7 => ?_)
              · try simp only [decide_eq_true_eq, decide_eq_false_iff_not, Bool.not_eq_true', Bool.not_eq_false', Bool.not_eq_eq_eq_not, Bool.not_true, Bool.not_false, beq_iff_eq, beq_eq_false_iff_ne, ne_eq, Int.not_lt, Int.not_le, Option.isSome_some, Option.isNone_none, Option.isSome_none, Option.isNone_some] at h7
                refine VC.region ?_
                obtain rfl : nm = 0 := by omega
                refine V.move rfl rfl rfl ?_
                refine V.move rfl rfl rfl ?_
                refine V.buildSlice1 (l := [vb]) rfl rfl rfl (cells_of_one (Rd.one hrb)) rfl rfl rfl (fun b2 => ?_)
                apply V.append1 rfl rfl rfl rfl rfl rfl (news := [vb]) (ho := hm) (hb := by omega) (h63 := by simp only [maxLen]; omega)
                case hp => repeat' constructor
                case hl => rfl
                case h1 => simp [(Rd.one hrb)]
                intro v3 c3 ho3
                refine V.assign rfl rfl rfl ?_
                refine V.nil ?_
                refine Post.blockNormal (Post.blockNormal (Post.nextC ?_))
                refine VC.region ?_
                refine V.move rfl rfl rfl ?_
                refine V.bin rfl rfl rfl rfl (bin_addI (x := (i : Int)) (y := 1) (by omega)) ?_
                refine V.assign rfl rfl rfl ?_
                refine V.nil ?_
                refine Post.round ⟨i + 1, j, boots, en2, true, s2, img2, rs, .slice ak rs.length cpk, ck, cK, vsK, v3, c3, vsM ++ [vb], 0 + 1⟩ ?_ ?_ ?_ ?_
                · exact ⟨by simp only; omega, hJ2, DS.ok_mono hs2 (by simp only; omega), by simp only; omega, hk, hK, ho3, by simp only; omega, fun _ => rfl⟩
                · simp only; omega
                · exact ⟨rfl, rfl, rfl, rfl, rfl, rfl, trivial⟩
                · repeat' constructor
              · try simp only [decide_eq_true_eq, decide_eq_false_iff_not, Bool.not_eq_true', Bool.not_eq_false', Bool.not_eq_eq_eq_not, Bool.not_true, Bool.not_false, beq_iff_eq, beq_eq_false_iff_ne, ne_eq, Int.not_lt, Int.not_le, Option.isSome_some, Option.isNone_none, Option.isSome_none, Option.isNone_some] at h7
                refine VC.skip ?_
                refine Post.blockNormal (Post.blockNormal (Post.nextC ?_))
                refine VC.region ?_
                refine V.move rfl rfl rfl ?_
                refine V.bin rfl rfl rfl rfl (bin_addI (x := (i : Int)) (y := 1) (by omega)) ?_
                refine V.assign rfl rfl rfl ?_
                refine V.nil ?_
                refine Post.round ⟨i + 1, j, boots, en2, true, s2, img2, rs, .slice ak rs.length cpk, ck, cK, vsK, .slice am nm cpm, cm, vsM, nm⟩ ?_ ?_ ?_ ?_
                · exact ⟨by simp only; omega, hJ2, DS.ok_mono hs2 (by simp only; omega), by simp only; omega, hk, hK, hm, hm1, fun _ => rfl⟩
                · simp only; omega
                · exact ⟨rfl, rfl, rfl, rfl, rfl, rfl, trivial⟩
                · repeat' constructor
            · try simp only [decide_eq_true_eq, decide_eq_false_iff_not, Bool.not_eq_true', Bool.not_eq_false', Bool.not_eq_eq_eq_not, Bool.not_true, Bool.not_false, beq_iff_eq, beq_eq_false_iff_ne, ne_eq, Int.not_lt, Int.not_le, Option.isSome_some, Option.isNone_none, Option.isSome_none, Option.isNone_some] at h6
              refine VC.seq ?_
              refine VC.region ?_
              obtain ⟨he, rfl, rfl, rfl⟩ : e = 51 ∧ down = false ∧ down2 = false ∧ rs = rs2 := by
                rcases hcase with ⟨h, _⟩ | ⟨h, _⟩ | ⟨h, h', h'', h3⟩
                · omega
                · omega
                · exact ⟨h, h', h'', h3.symm⟩
              refine V.move rfl rfl rfl ?_
              refine V.bin rfl rfl rfl rfl (bin_neq _ _ _) ?_
              refine V.know (t := 108) (y := .bool false) rfl (by simp [he]) ?_
              refine V.nil ?_
              refine Post.nextC ?_
              refine VC.condF rfl ?_
              refine VC.skip ?_
              refine Post.blockNormal (Post.blockNormal (Post.nextC ?_))
              refine VC.region ?_
              refine V.move rfl rfl rfl ?_
              refine V.bin rfl rfl rfl rfl (bin_addI (x := (i : Int)) (y := 1) (by omega)) ?_
              refine V.assign rfl rfl rfl ?_
              refine V.nil ?_
              refine Post.round ⟨i + 1, j, boots, en2, false, s2, img2, rs, .slice ak rs.length cpk, ck, cK, vsK, .slice am nm cpm, cm, vsM, nm⟩ ?_ ?_ ?_ ?_
              · exact ⟨by simp only; omega, hJ2, DS.ok_mono hs2 (by simp only; omega), by simp only; omega, hk, hK, hm, hm1, fun h => absurd (hm2 h) (by simp)⟩
              · simp only; omega
              · exact ⟨rfl, rfl, rfl, rfl, rfl, rfl, trivial⟩
              · repeat' constructor
        · try simp only [decide_eq_true_eq, decide_eq_false_iff_not, Bool.not_eq_true', Bool.not_eq_false', Bool.not_eq_eq_eq_not, Bool.not_true, Bool.not_false, beq_iff_eq, beq_eq_false_iff_ne, ne_eq, Int.not_lt, Int.not_le, Option.isSome_some, Option.isNone_none, Option.isSome_none, Option.isNone_some] at h4
          refine VC.seq ?_
          refine VC.region ?_
          refine V.bin rfl rfl rfl rfl (bin_eql _ _ _) ?_
          refine V.assign rfl rfl rfl ?_
          refine V.nil ?_
          refine Post.nextC ?_
          refine VC.cond rfl (fun h8 => ?_) (fun h8 => ?_)
          · try simp only [decide_eq_true_eq, decide_eq_false_iff_not, Bool.not_eq_true', Bool.not_eq_false', Bool.not_eq_eq_eq_not, Bool.not_true, Bool.not_false, beq_iff_eq, beq_eq_false_iff_ne, ne_eq, Int.not_lt, Int.not_le, Option.isSome_some, Option.isNone_none, Option.isSome_none, Option.isNone_some] at h8
            refine VC.region ?_
            refine V.move rfl rfl rfl ?_
            refine V.move rfl rfl rfl ?_
            refine V.move rfl rfl rfl ?_
            refine V.indexO (i := i) rfl rfl rfl rfl (by omega) ?_
            refine V.fieldAddr 1 3 rfl rfl rfl rfl rfl ?_
            apply V.loadO rfl rfl rfl rfl
            · assumption
            apply V.call rfl rfl rfl (hc := c16u)
            · repeat' constructor
            rintro v Ho rfl
            refine V.nil ?_
            refine Post.blockNormal (Post.blockNormal (Post.nextC ?_))
            refine VC.region ?_
            refine V.move rfl rfl rfl ?_
            refine V.bin rfl rfl rfl rfl (bin_addI (x := (i : Int)) (y := 1) (by omega)) ?_
            refine V.assign rfl rfl rfl ?_
            refine V.nil ?_
            refine Post.round ⟨i + 1, j, boots, en, down, s.fuse x.n, img, rs, .slice ak rs.length cpk, ck, cK, vsK, .slice am nm cpm, cm, vsM, nm⟩ ?_ ?_ ?_ ?_
            · exact ⟨by simp only; omega, hJ, DS.ok_mono (DS.ok_fuse hs hxn) (by simp only; omega), by simp only; omega, hk, hK, hm, hm1, hm2⟩
            · simp only; omega
            · exact ⟨rfl, rfl, rfl, rfl, rfl, rfl, trivial⟩
            · repeat' constructor
          · try simp only [decide_eq_true_eq, decide_eq_false_iff_not, Bool.not_eq_true', Bool.not_eq_false', Bool.not_eq_eq_eq_not, Bool.not_true, Bool.not_false, beq_iff_eq, beq_eq_false_iff_ne, ne_eq, Int.not_lt, Int.not_le, Option.isSome_some, Option.isNone_none, Option.isSome_none, Option.isNone_some] at h8
            refine VC.seq ?_
            refine VC.seq ?_
            refine VC.region ?_
            refine V.bin rfl rfl rfl rfl (bin_eql _ _ _) ?_
            refine V.assign rfl rfl rfl ?_
            refine V.nil ?_
            refine Post.nextC ?_
            refine VC.condK rfl (fun h9 => ?_) (fun h9 => ?_)
            · try simp only [decide_eq_true_eq, decide_eq_false_iff_not, Bool.not_eq_true', Bool.not_eq_false', Bool.not_eq_eq_eq_not, Bool.not_true, Bool.not_false, beq_iff_eq, beq_eq_false_iff_ne, ne_eq, Int.not_lt, Int.not_le, Option.isSome_some, Option.isNone_none, Option.isSome_none, Option.isNone_some] at h9
              refine VC.skip ?_
              refine Post.nextC ?_
              refine VC.condT rfl ?_
              refine VC.seq ?_
              refine VC.region ?_
              refine V.move rfl rfl rfl ?_
              apply V.call rfl rfl rfl (hc := c17)
              · repeat' constructor
              rintro v Ho rfl
              refine V.nil ?_
              refine Post.nextC ?_
              refine VC.seq ?_
              refine VC.seq ?_
              refine VC.region ?_
              refine V.move rfl rfl rfl ?_
              refine V.move rfl rfl rfl ?_
              refine V.indexO (i := i) rfl rfl rfl rfl (by omega) ?_
              refine V.fieldAddr 1 3 rfl rfl rfl rfl rfl ?_
              apply V.loadO rfl rfl rfl rfl
              · assumption
              refine V.bin rfl rfl rfl rfl (bin_geq _ _ _) ?_
              refine V.move rfl rfl rfl ?_
              refine V.split (t := 129) rfl (fun h10 => ?_) (fun h10 => ?_)
              · try simp only [decide_eq_true_eq, decide_eq_false_iff_not, Bool.not_eq_true', Bool.not_eq_false', Bool.not_eq_eq_eq_not, Bool.not_true, Bool.not_false, beq_iff_eq, beq_eq_false_iff_ne, ne_eq, Int.not_lt, Int.not_le, Option.isSome_some, Option.isNone_none, Option.isSome_none, Option.isNone_some] at h10
                refine V.move rfl rfl rfl ?_
                refine V.move rfl rfl rfl ?_
                refine V.indexO (i := i) rfl rfl rfl rfl (by omega) ?_
                refine V.fieldAddr 1 3 rfl rfl rfl rfl rfl ?_
                apply V.loadO rfl rfl rfl rfl
                · assumption
                refine V.bin rfl rfl rfl rfl (bin_lss _ _ _) ?_
                refine V.pickT rfl rfl rfl rfl ?_
                refine V.nil ?_
                refine Post.nextC ?_
                refine VC.cond rfl (fun h11 => ?_) (fun h11 => ?_)
                · try simp only [decide_eq_true_eq, decide_eq_false_iff_not, Bool.not_eq_true', Bool.not_eq_false', Bool.not_eq_eq_eq_not, Bool.not_true, Bool.not_false, beq_iff_eq, beq_eq_false_iff_ne, ne_eq, Int.not_lt, Int.not_le, Option.isSome_some, Option.isNone_none, Option.isSome_none, Option.isNone_some] at h11
                  refine VC.region ?_
                  refine V.move rfl rfl rfl ?_
                  refine V.move rfl rfl rfl ?_
                  refine V.move rfl rfl rfl ?_
                  refine V.indexO (i := i) rfl rfl rfl rfl (by omega) ?_
                  refine V.fieldAddr 1 3 rfl rfl rfl rfl rfl ?_
                  apply V.loadO rfl rfl rfl rfl
                  · assumption
                  apply V.call rfl rfl rfl (hc := c16F)
                  · repeat' constructor
                  rintro v Ho rfl
                  refine V.nil ?_
                  refine Post.nextC ?_
                  refine VC.seq ?_
                  refine VC.region ?_
                  by_cases hN0 : x.n = 0
                  ·
                    refine V.move rfl rfl rfl ?_
                    apply V.call rfl rfl rfl (hc := c8d (nb := nb) (s := ⟨s.wr, decide (x.n = 0), decide (0 ≤ x.n), x.n⟩) (by omega) (by omega) (by simp [hN0]))
                    · repeat' constructor
                    rintro v Ho ⟨rfl, rfl⟩
                    refine V.move rfl rfl rfl ?_
                    refine V.extract rfl rfl rfl rfl ?_
                    refine V.extract rfl rfl rfl rfl ?_
                    refine V.extract rfl rfl rfl rfl ?_
                    refine V.assign rfl rfl rfl ?_
                    refine V.assign rfl rfl rfl ?_
                    refine V.assign rfl rfl rfl ?_
                    refine V.nil ?_
                    refine Post.nextC ?_
                    refine VC.seq ?_
                    refine VC.seq ?_
                    refine VC.region ?_
                    refine V.move rfl rfl rfl ?_
                    refine V.bin rfl rfl rfl rfl (bin_eql _ _ _) ?_
                    refine V.know (t := 151) (y := .bool true) rfl (rfl) ?_
                    refine V.move rfl rfl rfl ?_
                    refine V.move rfl rfl rfl ?_
                    refine V.move rfl rfl rfl ?_
                    refine V.indexO (i := i) rfl rfl rfl rfl (by omega) ?_
                    refine V.fieldAddr 1 3 rfl rfl rfl rfl rfl ?_
                    apply V.loadO rfl rfl rfl rfl
                    · assumption
                    refine V.bin rfl rfl rfl rfl (bin_eql _ _ _) ?_
                    refine V.know (t := 158) (y := .bool true) rfl (by simp [hN0]) ?_
                    refine V.pickT rfl rfl rfl rfl ?_
                    refine V.nil ?_
                    refine Post.nextC ?_
                    refine VC.condT rfl ?_
                    refine VC.seq ?_
                    refine VC.region ?_
                    refine V.move rfl rfl rfl ?_
                    apply V.call rfl rfl rfl (hc := c17)
                    · repeat' constructor
                    rintro v Ho rfl
                    refine V.nil ?_
                    refine Post.nextC ?_
                    refine VC.region ?_
                    refine V.move rfl rfl rfl ?_
                    have hsF := (DS.ok_rest hs : DS.ok ⟨s.wr, false, false, x.n⟩ _)
                    apply V.call rfl rfl rfl (hc := c8u (s := ⟨s.wr, false, false, x.n⟩) (by omega) hJ (by omega) (DS.ok_mono hsF (by omega)) (rfl))
                    · repeat' constructor
                    rintro v Ho ⟨j2, vl, cl, cR, vsl, img2, rfl, hol, hrl, hJ2, rfl⟩
                    obtain ⟨al, cpl, rfl, _⟩ := id (hol.rd (w0 := w0))
                    refine V.move rfl rfl rfl ?_
                    refine V.extract rfl rfl rfl rfl ?_
                    refine V.extract rfl rfl rfl rfl ?_
                    refine V.extract rfl rfl rfl rfl ?_
                    refine V.assign rfl rfl rfl ?_
                    refine V.assign rfl rfl rfl ?_
                    refine V.assign rfl rfl rfl ?_
                    refine V.nil ?_
                    refine Post.nextC ?_
                    refine VC.seq ?_
                    refine VC.seq ?_
                    refine VC.region ?_
                    refine V.move rfl rfl rfl ?_
                    refine V.bin rfl rfl rfl rfl (bin_peqlNil _) ?_
                    refine V.know (t := 169) (y := .bool false) rfl (rfl) ?_
                    refine V.move rfl rfl rfl ?_
                    refine V.move rfl rfl rfl ?_
                    refine V.bin rfl rfl rfl rfl (bin_neq _ _ _) ?_
                    refine V.know (t := 172) (y := .bool false) rfl (rfl) ?_
                    refine V.pickF rfl rfl rfl rfl ?_
                    refine V.nil ?_
                    refine Post.nextC ?_
                    refine VC.condF rfl ?_
                    refine VC.skip ?_
                    refine Post.nextC ?_
                    refine VC.seq ?_
                    refine VC.seq ?_
                    refine VC.region ?_
                    refine V.move rfl rfl rfl ?_
                    refine V.len rfl rfl rfl ?_
                    refine V.move rfl rfl rfl ?_
                    refine V.len rfl rfl rfl ?_
                    refine V.bin rfl rfl rfl rfl (bin_addI (by omega)) ?_
                    refine V.bin rfl rfl rfl rfl (bin_eql _ _ _) ?_
                    refine V.know (t := 179) (y := .bool false) rfl (by rw [decide_eq_false (by omega)]) ?_
                    refine V.move rfl rfl rfl ?_
                    refine V.skip rfl rfl ?_
                    refine V.skip rfl rfl ?_
                    refine V.skip rfl rfl ?_
                    refine V.pickF rfl rfl rfl rfl ?_
                    refine V.nil ?_
                    refine Post.nextC ?_
                    refine VC.condF rfl ?_
                    refine VC.skip ?_
                    refine Post.nextC ?_
                    refine VC.seq ?_
                    refine VC.seq ?_
                    refine VC.region ?_
                    refine V.move rfl rfl rfl ?_
                    refine V.move rfl rfl rfl ?_
                    apply V.call rfl rfl rfl (hc := c11s (hol.rd) (hrl.rd hJ.at_.small) (hk.rd) hK)
                    · repeat' constructor
                    rintro v Ho ⟨rfl, rfl⟩
                    refine V.not rfl rfl rfl ?_
                    refine V.know (t := 194) (y := .bool false) rfl (by simp) ?_
                    refine V.move rfl rfl rfl ?_
                    refine V.move rfl rfl rfl ?_
                    apply V.call rfl rfl rfl (hc := c18)
                    · repeat' constructor
                    rintro v Ho ⟨rfl, rfl⟩
                    refine V.move rfl rfl rfl ?_
                    refine V.len rfl rfl rfl ?_
                    refine V.bin rfl rfl rfl rfl (bin_neq _ _ _) ?_
                    refine V.know (t := 200) (y := .bool false) rfl (by simp) ?_
                    refine V.pickF rfl rfl rfl rfl ?_
                    refine V.nil ?_
                    refine Post.nextC ?_
                    refine VC.condF rfl ?_
                    refine VC.skip ?_
                    refine Post.nextC ?_
                    refine VC.region ?_
                    refine V.assign rfl rfl rfl ?_
                    refine V.nil ?_
                    refine Post.blockNormal (Post.blockNormal (Post.nextC ?_))
                    refine VC.region ?_
                    refine V.move rfl rfl rfl ?_
                    refine V.bin rfl rfl rfl rfl (bin_addI (x := (i : Int)) (y := 1) (by omega)) ?_
                    refine V.assign rfl rfl rfl ?_
                    refine V.nil ?_
                    refine Post.round ⟨i + 1, j2, boots + 1, en, false, (⟨s.wr, false, false, x.n⟩ : DS).wrote, img2, rs, .slice ak rs.length cpk, ck, cK, vsK, .slice none 0 0, [], [], 0⟩ ?_ ?_ ?_ ?_
                    · exact ⟨by simp only; omega, hJ2, DS.ok_mono (DS.ok_wrote hsF) (by simp only; omega), by simp only; omega, hk, hK, Own.nil 31 1, by simp only; omega, fun h => absurd rfl h⟩
                    · simp only; omega
                    · exact ⟨rfl, rfl, rfl, rfl, rfl, rfl, trivial⟩
                    · repeat' constructor
                  ·
                    refine V.move rfl rfl rfl ?_
                    have hsF := (DS.ok_set hs hxn (by simp) : DS.ok ⟨s.wr, decide (x.n = 0), decide (0 ≤ x.n), x.n⟩ _)
                    apply V.call rfl rfl rfl (hc := c8u (s := ⟨s.wr, decide (x.n = 0), decide (0 ≤ x.n), x.n⟩) (by omega) hJ (by omega) (DS.ok_mono hsF (by omega)) (by simp [hN0]))
                    · repeat' constructor
                    rintro v Ho ⟨j2, vl, cl, cR, vsl, img2, rfl, hol, hrl, hJ2, rfl⟩
                    obtain ⟨al, cpl, rfl, _⟩ := id (hol.rd (w0 := w0))
                    refine V.move rfl rfl rfl ?_
                    refine V.extract rfl rfl rfl rfl ?_
                    refine V.extract rfl rfl rfl rfl ?_
                    refine V.extract rfl rfl rfl rfl ?_
                    refine V.assign rfl rfl rfl ?_
                    refine V.assign rfl rfl rfl ?_
                    refine V.assign rfl rfl rfl ?_
                    refine V.nil ?_
                    refine Post.nextC ?_
                    refine VC.seq ?_
                    refine VC.seq ?_
                    refine VC.region ?_
                    refine V.move rfl rfl rfl ?_
                    refine V.bin rfl rfl rfl rfl (bin_eql _ _ _) ?_
                    refine V.know (t := 151) (y := .bool false) rfl (rfl) ?_
                    refine V.move rfl rfl rfl ?_
                    refine V.skip rfl rfl ?_
                    refine V.skip rfl rfl ?_
                    refine V.skip rfl rfl ?_
                    refine V.skip rfl rfl ?_
                    refine V.skip rfl rfl ?_
                    refine V.skip rfl rfl ?_
                    refine V.pickF rfl rfl rfl rfl ?_
                    refine V.nil ?_
                    refine Post.nextC ?_
                    refine VC.condF rfl ?_
                    refine VC.skip ?_
                    refine Post.nextC ?_
                    refine VC.seq ?_
                    refine VC.seq ?_
                    refine VC.region ?_
                    refine V.move rfl rfl rfl ?_
                    refine V.bin rfl rfl rfl rfl (bin_peqlNil _) ?_
                    refine V.know (t := 169) (y := .bool false) rfl (rfl) ?_
                    refine V.move rfl rfl rfl ?_
                    refine V.move rfl rfl rfl ?_
                    refine V.bin rfl rfl rfl rfl (bin_neq _ _ _) ?_
                    refine V.know (t := 172) (y := .bool false) rfl (rfl) ?_
                    refine V.pickF rfl rfl rfl rfl ?_
                    refine V.nil ?_
                    refine Post.nextC ?_
                    refine VC.condF rfl ?_
                    refine VC.skip ?_
                    refine Post.nextC ?_
                    refine VC.seq ?_
                    refine VC.seq ?_
                    refine VC.region ?_
                    refine V.move rfl rfl rfl ?_
                    refine V.len rfl rfl rfl ?_
                    refine V.move rfl rfl rfl ?_
                    refine V.len rfl rfl rfl ?_
                    refine V.bin rfl rfl rfl rfl (bin_addI (by omega)) ?_
                    refine V.bin rfl rfl rfl rfl (bin_eql _ _ _) ?_
                    refine V.know (t := 179) (y := .bool false) rfl (by rw [decide_eq_false (by omega)]) ?_
                    refine V.move rfl rfl rfl ?_
                    refine V.skip rfl rfl ?_
                    refine V.skip rfl rfl ?_
                    refine V.skip rfl rfl ?_
                    refine V.pickF rfl rfl rfl rfl ?_
                    refine V.nil ?_
                    refine Post.nextC ?_
                    refine VC.condF rfl ?_
                    refine VC.skip ?_
                    refine Post.nextC ?_
                    refine VC.seq ?_
                    refine VC.seq ?_
                    refine VC.region ?_
                    refine V.move rfl rfl rfl ?_
                    refine V.move rfl rfl rfl ?_
                    apply V.call rfl rfl rfl (hc := c11s (hol.rd) (hrl.rd hJ.at_.small) (hk.rd) hK)
                    · repeat' constructor
                    rintro v Ho ⟨rfl, rfl⟩
                    refine V.not rfl rfl rfl ?_
                    refine V.know (t := 194) (y := .bool false) rfl (by simp) ?_
                    refine V.move rfl rfl rfl ?_
                    refine V.move rfl rfl rfl ?_
                    apply V.call rfl rfl rfl (hc := c18)
                    · repeat' constructor
                    rintro v Ho ⟨rfl, rfl⟩
                    refine V.move rfl rfl rfl ?_
                    refine V.len rfl rfl rfl ?_
                    refine V.bin rfl rfl rfl rfl (bin_neq _ _ _) ?_
                    refine V.know (t := 200) (y := .bool false) rfl (by simp) ?_
                    refine V.pickF rfl rfl rfl rfl ?_
                    refine V.nil ?_
                    refine Post.nextC ?_
                    refine VC.condF rfl ?_
                    refine VC.skip ?_
                    refine Post.nextC ?_
                    refine VC.region ?_
                    refine V.assign rfl rfl rfl ?_
                    refine V.nil ?_
                    refine Post.blockNormal (Post.blockNormal (Post.nextC ?_))
                    refine VC.region ?_
                    refine V.move rfl rfl rfl ?_
                    refine V.bin rfl rfl rfl rfl (bin_addI (x := (i : Int)) (y := 1) (by omega)) ?_
                    refine V.assign rfl rfl rfl ?_
                    refine V.nil ?_
                    refine Post.round ⟨i + 1, j2, boots + 1, en, false, (⟨s.wr, decide (x.n = 0), decide (0 ≤ x.n), x.n⟩ : DS).wrote, img2, rs, .slice ak rs.length cpk, ck, cK, vsK, .slice none 0 0, [], [], 0⟩ ?_ ?_ ?_ ?_
                    · exact ⟨by simp only; omega, hJ2, DS.ok_mono (DS.ok_wrote hsF) (by simp only; omega), by simp only; omega, hk, hK, Own.nil 31 1, by simp only; omega, fun h => absurd rfl h⟩
                    · simp only; omega
                    · exact ⟨rfl, rfl, rfl, rfl, rfl, rfl, trivial⟩
                    · repeat' constructor
                · try simp only [decide_eq_true_eq, decide_eq_false_iff_not, Bool.not_eq_true', Bool.not_eq_false', Bool.not_eq_eq_eq_not, Bool.not_true, Bool.not_false, beq_iff_eq, beq_eq_false_iff_ne, ne_eq, Int.not_lt, Int.not_le, Option.isSome_some, Option.isNone_none, Option.isSome_none, Option.isNone_some] at h11
                  refine VC.skip ?_
                  refine Post.nextC ?_
                  refine VC.seq ?_
                  refine VC.region ?_
                  refine V.move rfl rfl rfl ?_
                  have hsF := (DS.ok_rest hs : DS.ok ⟨s.wr, false, false, s.lf⟩ _)
                  apply V.call rfl rfl rfl (hc := c8u (s := ⟨s.wr, false, false, s.lf⟩) (by omega) hJ (by omega) (DS.ok_mono hsF (by omega)) (rfl))
                  · repeat' constructor
                  rintro v Ho ⟨j2, vl, cl, cR, vsl, img2, rfl, hol, hrl, hJ2, rfl⟩
                  obtain ⟨al, cpl, rfl, _⟩ := id (hol.rd (w0 := w0))
                  refine V.move rfl rfl rfl ?_
                  refine V.extract rfl rfl rfl rfl ?_
                  refine V.extract rfl rfl rfl rfl ?_
                  refine V.extract rfl rfl rfl rfl ?_
                  refine V.assign rfl rfl rfl ?_
                  refine V.assign rfl rfl rfl ?_
                  refine V.assign rfl rfl rfl ?_
                  refine V.nil ?_
                  refine Post.nextC ?_
                  refine VC.seq ?_
                  refine VC.seq ?_
                  refine VC.region ?_
                  refine V.move rfl rfl rfl ?_
                  refine V.bin rfl rfl rfl rfl (bin_eql _ _ _) ?_
                  refine V.know (t := 151) (y := .bool false) rfl (rfl) ?_
                  refine V.move rfl rfl rfl ?_
                  refine V.skip rfl rfl ?_
                  refine V.skip rfl rfl ?_
                  refine V.skip rfl rfl ?_
                  refine V.skip rfl rfl ?_
                  refine V.skip rfl rfl ?_
                  refine V.skip rfl rfl ?_
                  refine V.pickF rfl rfl rfl rfl ?_
                  refine V.nil ?_
                  refine Post.nextC ?_
                  refine VC.condF rfl ?_
                  refine VC.skip ?_
                  refine Post.nextC ?_
                  refine VC.seq ?_
                  refine VC.seq ?_
                  refine VC.region ?_
                  refine V.move rfl rfl rfl ?_
                  refine V.bin rfl rfl rfl rfl (bin_peqlNil _) ?_
                  refine V.know (t := 169) (y := .bool false) rfl (rfl) ?_
                  refine V.move rfl rfl rfl ?_
                  refine V.move rfl rfl rfl ?_
                  refine V.bin rfl rfl rfl rfl (bin_neq _ _ _) ?_
                  refine V.know (t := 172) (y := .bool false) rfl (rfl) ?_
                  refine V.pickF rfl rfl rfl rfl ?_
                  refine V.nil ?_
                  refine Post.nextC ?_
                  refine VC.condF rfl ?_
                  refine VC.skip ?_
                  refine Post.nextC ?_
                  refine VC.seq ?_
                  refine VC.seq ?_
                  refine VC.region ?_
                  refine V.move rfl rfl rfl ?_
                  refine V.len rfl rfl rfl ?_
                  refine V.move rfl rfl rfl ?_
                  refine V.len rfl rfl rfl ?_
                  refine V.bin rfl rfl rfl rfl (bin_addI (by omega)) ?_
                  refine V.bin rfl rfl rfl rfl (bin_eql _ _ _) ?_
                  refine V.know (t := 179) (y := .bool false) rfl (by rw [decide_eq_false (by omega)]) ?_
                  refine V.move rfl rfl rfl ?_
                  refine V.skip rfl rfl ?_
                  refine V.skip rfl rfl ?_
                  refine V.skip rfl rfl ?_
                  refine V.pickF rfl rfl rfl rfl ?_
                  refine V.nil ?_
                  refine Post.nextC ?_
                  refine VC.condF rfl ?_
                  refine VC.skip ?_
                  refine Post.nextC ?_
                  refine VC.seq ?_
                  refine VC.seq ?_
                  refine VC.region ?_
                  refine V.move rfl rfl rfl ?_
                  refine V.move rfl rfl rfl ?_
                  apply V.call rfl rfl rfl (hc := c11s (hol.rd) (hrl.rd hJ.at_.small) (hk.rd) hK)
                  · repeat' constructor
                  rintro v Ho ⟨rfl, rfl⟩
                  refine V.not rfl rfl rfl ?_
                  refine V.know (t := 194) (y := .bool false) rfl (by simp) ?_
                  refine V.move rfl rfl rfl ?_
                  refine V.move rfl rfl rfl ?_
                  apply V.call rfl rfl rfl (hc := c18)
                  · repeat' constructor
                  rintro v Ho ⟨rfl, rfl⟩
                  refine V.move rfl rfl rfl ?_
                  refine V.len rfl rfl rfl ?_
                  refine V.bin rfl rfl rfl rfl (bin_neq _ _ _) ?_
                  refine V.know (t := 200) (y := .bool false) rfl (by simp) ?_
                  refine V.pickF rfl rfl rfl rfl ?_
                  refine V.nil ?_
                  refine Post.nextC ?_
                  refine VC.condF rfl ?_
                  refine VC.skip ?_
                  refine Post.nextC ?_
                  refine VC.region ?_
                  refine V.assign rfl rfl rfl ?_
                  refine V.nil ?_
                  refine Post.blockNormal (Post.blockNormal (Post.nextC ?_))
                  refine VC.region ?_
                  refine V.move rfl rfl rfl ?_
                  refine V.bin rfl rfl rfl rfl (bin_addI (x := (i : Int)) (y := 1) (by omega)) ?_
                  refine V.assign rfl rfl rfl ?_
                  refine V.nil ?_
                  refine Post.round ⟨i + 1, j2, boots + 1, en, false, (⟨s.wr, false, false, s.lf⟩ : DS).wrote, img2, rs, .slice ak rs.length cpk, ck, cK, vsK, .slice none 0 0, [], [], 0⟩ ?_ ?_ ?_ ?_
                  · exact ⟨by simp only; omega, hJ2, DS.ok_mono (DS.ok_wrote hsF) (by simp only; omega), by simp only; omega, hk, hK, Own.nil 31 1, by simp only; omega, fun h => absurd rfl h⟩
                  · simp only; omega
                  · exact ⟨rfl, rfl, rfl, rfl, rfl, rfl, trivial⟩
                  · repeat' constructor
              · try simp only [decide_eq_true_eq, decide_eq_false_iff_not, Bool.not_eq_true', Bool.not_eq_false', Bool.not_eq_eq_eq_not, Bool.not_true, Bool.not_false, beq_iff_eq, beq_eq_false_iff_ne, ne_eq, Int.not_lt, Int.not_le, Option.isSome_some, Option.isNone_none, Option.isSome_none, Option.isNone_some] at h10
                refine V.skip rfl rfl ?_
                refine V.skip rfl rfl ?_
                refine V.skip rfl rfl ?_
                refine V.skip rfl rfl ?_
                refine V.skip rfl rfl ?_
                refine V.skip rfl rfl ?_
                refine V.pickF rfl rfl rfl rfl ?_
                refine V.nil ?_
                refine Post.nextC ?_
                refine VC.condF rfl ?_
                refine VC.skip ?_
                refine Post.nextC ?_
                refine VC.seq ?_
                refine VC.region ?_
                refine V.move rfl rfl rfl ?_
                have hsF := (DS.ok_rest hs : DS.ok ⟨s.wr, false, false, s.lf⟩ _)
                apply V.call rfl rfl rfl (hc := c8u (s := ⟨s.wr, false, false, s.lf⟩) (by omega) hJ (by omega) (DS.ok_mono hsF (by omega)) (rfl))
                · repeat' constructor
                rintro v Ho ⟨j2, vl, cl, cR, vsl, img2, rfl, hol, hrl, hJ2, rfl⟩
                obtain ⟨al, cpl, rfl, _⟩ := id (hol.rd (w0 := w0))
                refine V.move rfl rfl rfl ?_
                refine V.extract rfl rfl rfl rfl ?_
                refine V.extract rfl rfl rfl rfl ?_
                refine V.extract rfl rfl rfl rfl ?_
                refine V.assign rfl rfl rfl ?_
                refine V.assign rfl rfl rfl ?_
                refine V.assign rfl rfl rfl ?_
                refine V.nil ?_
                refine Post.nextC ?_
                refine VC.seq ?_
                refine VC.seq ?_
                refine VC.region ?_
                refine V.move rfl rfl rfl ?_
                refine V.bin rfl rfl rfl rfl (bin_eql _ _ _) ?_
                refine V.know (t := 151) (y := .bool false) rfl (rfl) ?_
                refine V.move rfl rfl rfl ?_
                refine V.skip rfl rfl ?_
                refine V.skip rfl rfl ?_
                refine V.skip rfl rfl ?_
                refine V.skip rfl rfl ?_
                refine V.skip rfl rfl ?_
                refine V.skip rfl rfl ?_
                refine V.pickF rfl rfl rfl rfl ?_
                refine V.nil ?_
                refine Post.nextC ?_
                refine VC.condF rfl ?_
                refine VC.skip ?_
                refine Post.nextC ?_
                refine VC.seq ?_
                refine VC.seq ?_
                refine VC.region ?_
                refine V.move rfl rfl rfl ?_
                refine V.bin rfl rfl rfl rfl (bin_peqlNil _) ?_
                refine V.know (t := 169) (y := .bool false) rfl (rfl) ?_
                refine V.move rfl rfl rfl ?_
                refine V.move rfl rfl rfl ?_
                refine V.bin rfl rfl rfl rfl (bin_neq _ _ _) ?_
                refine V.know (t := 172) (y := .bool false) rfl (rfl) ?_
                refine V.pickF rfl rfl rfl rfl ?_
                refine V.nil ?_
                refine Post.nextC ?_
                refine VC.condF rfl ?_
                refine VC.skip ?_
                refine Post.nextC ?_
                refine VC.seq ?_
                refine VC.seq ?_
                refine VC.region ?_
                refine V.move rfl rfl rfl ?_
                refine V.len rfl rfl rfl ?_
                refine V.move rfl rfl rfl ?_
                refine V.len rfl rfl rfl ?_
                refine V.bin rfl rfl rfl rfl (bin_addI (by omega)) ?_
                refine V.bin rfl rfl rfl rfl (bin_eql _ _ _) ?_
                refine V.know (t := 179) (y := .bool false) rfl (by rw [decide_eq_false (by omega)]) ?_
                refine V.move rfl rfl rfl ?_
                refine V.skip rfl rfl ?_
                refine V.skip rfl rfl ?_
                refine V.skip rfl rfl ?_
                refine V.pickF rfl rfl rfl rfl ?_
                refine V.nil ?_
                refine Post.nextC ?_
                refine VC.condF rfl ?_
                refine VC.skip ?_
                refine Post.nextC ?_
                refine VC.seq ?_
                refine VC.seq ?_
                refine VC.region ?_
                refine V.move rfl rfl rfl ?_
                refine V.move rfl rfl rfl ?_
                apply V.call rfl rfl rfl (hc := c11s (hol.rd) (hrl.rd hJ.at_.small) (hk.rd) hK)
                · repeat' constructor
                rintro v Ho ⟨rfl, rfl⟩
                refine V.not rfl rfl rfl ?_
                refine V.know (t := 194) (y := .bool false) rfl (by simp) ?_
                refine V.move rfl rfl rfl ?_
                refine V.move rfl rfl rfl ?_
                apply V.call rfl rfl rfl (hc := c18)
                · repeat' constructor
                rintro v Ho ⟨rfl, rfl⟩
                refine V.move rfl rfl rfl ?_
                refine V.len rfl rfl rfl ?_
                refine V.bin rfl rfl rfl rfl (bin_neq _ _ _) ?_
                refine V.know (t := 200) (y := .bool false) rfl (by simp) ?_
                refine V.pickF rfl rfl rfl rfl ?_
                refine V.nil ?_
                refine Post.nextC ?_
                refine VC.condF rfl ?_
                refine VC.skip ?_
                refine Post.nextC ?_
                refine VC.region ?_
                refine V.assign rfl rfl rfl ?_
                refine V.nil ?_
                refine Post.blockNormal (Post.blockNormal (Post.nextC ?_))
                refine VC.region ?_
                refine V.move rfl rfl rfl ?_
                refine V.bin rfl rfl rfl rfl (bin_addI (x := (i : Int)) (y := 1) (by omega)) ?_
                refine V.assign rfl rfl rfl ?_
                refine V.nil ?_
                refine Post.round ⟨i + 1, j2, boots + 1, en, false, (⟨s.wr, false, false, s.lf⟩ : DS).wrote, img2, rs, .slice ak rs.length cpk, ck, cK, vsK, .slice none 0 0, [], [], 0⟩ ?_ ?_ ?_ ?_
                · exact ⟨by simp only; omega, hJ2, DS.ok_mono (DS.ok_wrote hsF) (by simp only; omega), by simp only; omega, hk, hK, Own.nil 31 1, by simp only; omega, fun h => absurd rfl h⟩
                · simp only; omega
                · exact ⟨rfl, rfl, rfl, rfl, rfl, rfl, trivial⟩
                · repeat' constructor
            · try simp only [decide_eq_true_eq, decide_eq_false_iff_not, Bool.not_eq_true', Bool.not_eq_false', Bool.not_eq_eq_eq_not, Bool.not_true, Bool.not_false, beq_iff_eq, beq_eq_false_iff_ne, ne_eq, Int.not_lt, Int.not_le, Option.isSome_some, Option.isNone_none, Option.isSome_none, Option.isNone_some] at h9
              refine VC.region ?_
              refine V.bin rfl rfl rfl rfl (bin_eql _ _ _) ?_
              refine V.assign rfl rfl rfl ?_
              refine V.nil ?_
              refine Post.nextC ?_
              refine VC.condK rfl (fun h12 => ?_) (fun h12 => ?_)
              · try simp only [decide_eq_true_eq, decide_eq_false_iff_not, Bool.not_eq_true', Bool.not_eq_false', Bool.not_eq_eq_eq_not, Bool.not_true, Bool.not_false, beq_iff_eq, beq_eq_false_iff_ne, ne_eq, Int.not_lt, Int.not_le, Option.isSome_some, Option.isNone_none, Option.isSome_none, Option.isNone_some] at h12
                refine VC.seq ?_
                refine VC.region ?_
                refine V.move rfl rfl rfl ?_
                apply V.call rfl rfl rfl (hc := c17)
                · repeat' constructor
                rintro v Ho rfl
                refine V.nil ?_
                refine Post.nextC ?_
                refine VC.seq ?_
                refine VC.seq ?_
                refine VC.region ?_
                refine V.move rfl rfl rfl ?_
                refine V.move rfl rfl rfl ?_
                refine V.indexO (i := i) rfl rfl rfl rfl (by omega) ?_
                refine V.fieldAddr 1 3 rfl rfl rfl rfl rfl ?_
                apply V.loadO rfl rfl rfl rfl
                · assumption
                refine V.bin rfl rfl rfl rfl (bin_geq _ _ _) ?_
                refine V.move rfl rfl rfl ?_
                refine V.split (t := 129) rfl (fun h13 => ?_) (fun h13 => ?_)
                · try simp only [decide_eq_true_eq, decide_eq_false_iff_not, Bool.not_eq_true', Bool.not_eq_false', Bool.not_eq_eq_eq_not, Bool.not_true, Bool.not_false, beq_iff_eq, beq_eq_false_iff_ne, ne_eq, Int.not_lt, Int.not_le, Option.isSome_some, Option.isNone_none, Option.isSome_none, Option.isNone_some] at h13
                  refine V.move rfl rfl rfl ?_
                  refine V.move rfl rfl rfl ?_
                  refine V.indexO (i := i) rfl rfl rfl rfl (by omega) ?_
                  refine V.fieldAddr 1 3 rfl rfl rfl rfl rfl ?_
                  apply V.loadO rfl rfl rfl rfl
                  · assumption
                  refine V.bin rfl rfl rfl rfl (bin_lss _ _ _) ?_
                  refine V.pickT rfl rfl rfl rfl ?_
                  refine V.nil ?_
                  refine Post.nextC ?_
                  refine VC.cond rfl (fun h14 => ?_) (fun h14 => ?_)
                  · try simp only [decide_eq_true_eq, decide_eq_false_iff_not, Bool.not_eq_true', Bool.not_eq_false', Bool.not_eq_eq_eq_not, Bool.not_true, Bool.not_false, beq_iff_eq, beq_eq_false_iff_ne, ne_eq, Int.not_lt, Int.not_le, Option.isSome_some, Option.isNone_none, Option.isSome_none, Option.isNone_some] at h14
                    refine VC.region ?_
                    refine V.move rfl rfl rfl ?_
                    refine V.move rfl rfl rfl ?_
                    refine V.move rfl rfl rfl ?_
                    refine V.indexO (i := i) rfl rfl rfl rfl (by omega) ?_
                    refine V.fieldAddr 1 3 rfl rfl rfl rfl rfl ?_
                    apply V.loadO rfl rfl rfl rfl
                    · assumption
                    apply V.call rfl rfl rfl (hc := c16F)
                    · repeat' constructor
                    rintro v Ho rfl
                    refine V.nil ?_
                    refine Post.nextC ?_
                    refine VC.seq ?_
                    refine VC.region ?_
                    by_cases hN0 : x.n = 0
                    ·
                      refine V.move rfl rfl rfl ?_
                      apply V.call rfl rfl rfl (hc := c8d (nb := nb) (s := ⟨s.wr, decide (x.n = 0), decide (0 ≤ x.n), x.n⟩) (by omega) (by omega) (by simp [hN0]))
                      · repeat' constructor
                      rintro v Ho ⟨rfl, rfl⟩
                      refine V.move rfl rfl rfl ?_
                      refine V.extract rfl rfl rfl rfl ?_
                      refine V.extract rfl rfl rfl rfl ?_
                      refine V.extract rfl rfl rfl rfl ?_
                      refine V.assign rfl rfl rfl ?_
                      refine V.assign rfl rfl rfl ?_
                      refine V.assign rfl rfl rfl ?_
                      refine V.nil ?_
                      refine Post.nextC ?_
                      refine VC.seq ?_
                      refine VC.seq ?_
                      refine VC.region ?_
                      refine V.move rfl rfl rfl ?_
                      refine V.bin rfl rfl rfl rfl (bin_eql _ _ _) ?_
                      refine V.know (t := 151) (y := .bool true) rfl (rfl) ?_
                      refine V.move rfl rfl rfl ?_
                      refine V.move rfl rfl rfl ?_
                      refine V.move rfl rfl rfl ?_
                      refine V.indexO (i := i) rfl rfl rfl rfl (by omega) ?_
                      refine V.fieldAddr 1 3 rfl rfl rfl rfl rfl ?_
                      apply V.loadO rfl rfl rfl rfl
                      · assumption
                      refine V.bin rfl rfl rfl rfl (bin_eql _ _ _) ?_
                      refine V.know (t := 158) (y := .bool true) rfl (by simp [hN0]) ?_
                      refine V.pickT rfl rfl rfl rfl ?_
                      refine V.nil ?_
                      refine Post.nextC ?_
                      refine VC.condT rfl ?_
                      refine VC.seq ?_
                      refine VC.region ?_
                      refine V.move rfl rfl rfl ?_
                      apply V.call rfl rfl rfl (hc := c17)
                      · repeat' constructor
                      rintro v Ho rfl
                      refine V.nil ?_
                      refine Post.nextC ?_
                      refine VC.region ?_
                      refine V.move rfl rfl rfl ?_
                      have hsF := (DS.ok_rest hs : DS.ok ⟨s.wr, false, false, x.n⟩ _)
                      apply V.call rfl rfl rfl (hc := c8u (s := ⟨s.wr, false, false, x.n⟩) (by omega) hJ (by omega) (DS.ok_mono hsF (by omega)) (rfl))
                      · repeat' constructor
                      rintro v Ho ⟨j2, vl, cl, cR, vsl, img2, rfl, hol, hrl, hJ2, rfl⟩
                      obtain ⟨al, cpl, rfl, _⟩ := id (hol.rd (w0 := w0))
                      refine V.move rfl rfl rfl ?_
                      refine V.extract rfl rfl rfl rfl ?_
                      refine V.extract rfl rfl rfl rfl ?_
                      refine V.extract rfl rfl rfl rfl ?_
                      refine V.assign rfl rfl rfl ?_
                      refine V.assign rfl rfl rfl ?_
                      refine V.assign rfl rfl rfl ?_
                      refine V.nil ?_
                      refine Post.nextC ?_
                      refine VC.seq ?_
                      refine VC.seq ?_
                      refine VC.region ?_
                      refine V.move rfl rfl rfl ?_
                      refine V.bin rfl rfl rfl rfl (bin_peqlNil _) ?_
                      refine V.know (t := 169) (y := .bool false) rfl (rfl) ?_
                      refine V.move rfl rfl rfl ?_
                      refine V.move rfl rfl rfl ?_
                      refine V.bin rfl rfl rfl rfl (bin_neq _ _ _) ?_
                      refine V.know (t := 172) (y := .bool false) rfl (rfl) ?_
                      refine V.pickF rfl rfl rfl rfl ?_
                      refine V.nil ?_
                      refine Post.nextC ?_
                      refine VC.condF rfl ?_
                      refine VC.skip ?_
                      refine Post.nextC ?_
                      refine VC.seq ?_
                      refine VC.seq ?_
                      refine VC.region ?_
                      refine V.move rfl rfl rfl ?_
                      refine V.len rfl rfl rfl ?_
                      refine V.move rfl rfl rfl ?_
                      refine V.len rfl rfl rfl ?_
                      refine V.bin rfl rfl rfl rfl (bin_addI (by omega)) ?_
                      refine V.bin rfl rfl rfl rfl (bin_eql _ _ _) ?_
                      refine V.know (t := 179) (y := .bool false) rfl (by rw [decide_eq_false (by omega)]) ?_
                      refine V.move rfl rfl rfl ?_
                      refine V.skip rfl rfl ?_
                      refine V.skip rfl rfl ?_
                      refine V.skip rfl rfl ?_
                      refine V.pickF rfl rfl rfl rfl ?_
                      refine V.nil ?_
                      refine Post.nextC ?_
                      refine VC.condF rfl ?_
                      refine VC.skip ?_
                      refine Post.nextC ?_
                      refine VC.seq ?_
                      refine VC.seq ?_
                      refine VC.region ?_
                      refine V.move rfl rfl rfl ?_
                      refine V.move rfl rfl rfl ?_
                      apply V.call rfl rfl rfl (hc := c11s (hol.rd) (hrl.rd hJ.at_.small) (hk.rd) hK)
                      · repeat' constructor
                      rintro v Ho ⟨rfl, rfl⟩
                      refine V.not rfl rfl rfl ?_
                      refine V.know (t := 194) (y := .bool false) rfl (by simp) ?_
                      refine V.move rfl rfl rfl ?_
                      refine V.move rfl rfl rfl ?_
                      apply V.call rfl rfl rfl (hc := c18)
                      · repeat' constructor
                      rintro v Ho ⟨rfl, rfl⟩
                      refine V.move rfl rfl rfl ?_
                      refine V.len rfl rfl rfl ?_
                      refine V.bin rfl rfl rfl rfl (bin_neq _ _ _) ?_
                      refine V.know (t := 200) (y := .bool false) rfl (by simp) ?_
                      refine V.pickF rfl rfl rfl rfl ?_
                      refine V.nil ?_
                      refine Post.nextC ?_
                      refine VC.condF rfl ?_
                      refine VC.skip ?_
                      refine Post.nextC ?_
                      refine VC.region ?_
                      refine V.assign rfl rfl rfl ?_
                      refine V.nil ?_
                      refine Post.blockNormal (Post.blockNormal (Post.nextC ?_))
                      refine VC.region ?_
                      refine V.move rfl rfl rfl ?_
                      refine V.bin rfl rfl rfl rfl (bin_addI (x := (i : Int)) (y := 1) (by omega)) ?_
                      refine V.assign rfl rfl rfl ?_
                      refine V.nil ?_
                      refine Post.round ⟨i + 1, j2, boots + 1, en, false, (⟨s.wr, false, false, x.n⟩ : DS).wrote, img2, rs, .slice ak rs.length cpk, ck, cK, vsK, .slice none 0 0, [], [], 0⟩ ?_ ?_ ?_ ?_
                      · exact ⟨by simp only; omega, hJ2, DS.ok_mono (DS.ok_wrote hsF) (by simp only; omega), by simp only; omega, hk, hK, Own.nil 31 1, by simp only; omega, fun h => absurd rfl h⟩
                      · simp only; omega
                      · exact ⟨rfl, rfl, rfl, rfl, rfl, rfl, trivial⟩
                      · repeat' constructor
                    ·
                      refine V.move rfl rfl rfl ?_
                      have hsF := (DS.ok_set hs hxn (by simp) : DS.ok ⟨s.wr, decide (x.n = 0), decide (0 ≤ x.n), x.n⟩ _)
                      apply V.call rfl rfl rfl (hc := c8u (s := ⟨s.wr, decide (x.n = 0), decide (0 ≤ x.n), x.n⟩) (by omega) hJ (by omega) (DS.ok_mono hsF (by omega)) (by simp [hN0]))
                      · repeat' constructor
                      rintro v Ho ⟨j2, vl, cl, cR, vsl, img2, rfl, hol, hrl, hJ2, rfl⟩
                      obtain ⟨al, cpl, rfl, _⟩ := id (hol.rd (w0 := w0))
                      refine V.move rfl rfl rfl ?_
                      refine V.extract rfl rfl rfl rfl ?_
                      refine V.extract rfl rfl rfl rfl ?_
                      refine V.extract rfl rfl rfl rfl ?_
                      refine V.assign rfl rfl rfl ?_
                      refine V.assign rfl rfl rfl ?_
                      refine V.assign rfl rfl rfl ?_
                      refine V.nil ?_
                      refine Post.nextC ?_
                      refine VC.seq ?_
                      refine VC.seq ?_
                      refine VC.region ?_
                      refine V.move rfl rfl rfl ?_
                      refine V.bin rfl rfl rfl rfl (bin_eql _ _ _) ?_
                      refine V.know (t := 151) (y := .bool false) rfl (rfl) ?_
                      refine V.move rfl rfl rfl ?_
                      refine V.skip rfl rfl ?_
                      refine V.skip rfl rfl ?_
                      refine V.skip rfl rfl ?_
                      refine V.skip rfl rfl ?_
                      refine V.skip rfl rfl ?_
                      refine V.skip rfl rfl ?_
                      refine V.pickF rfl rfl rfl rfl ?_
                      refine V.nil ?_
                      refine Post.nextC ?_
                      refine VC.condF rfl ?_
                      refine VC.skip ?_
                      refine Post.nextC ?_
                      refine VC.seq ?_
                      refine VC.seq ?_
                      refine VC.region ?_
                      refine V.move rfl rfl rfl ?_
                      refine V.bin rfl rfl rfl rfl (bin_peqlNil _) ?_
                      refine V.know (t := 169) (y := .bool false) rfl (rfl) ?_
                      refine V.move rfl rfl rfl ?_
                      refine V.move rfl rfl rfl ?_
                      refine V.bin rfl rfl rfl rfl (bin_neq _ _ _) ?_
                      refine V.know (t := 172) (y := .bool false) rfl (rfl) ?_
                      refine V.pickF rfl rfl rfl rfl ?_
                      refine V.nil ?_
                      refine Post.nextC ?_
                      refine VC.condF rfl ?_
                      refine VC.skip ?_
                      refine Post.nextC ?_
                      refine VC.seq ?_
                      refine VC.seq ?_
                      refine VC.region ?_
                      refine V.move rfl rfl rfl ?_
                      refine V.len rfl rfl rfl ?_
                      refine V.move rfl rfl rfl ?_
                      refine V.len rfl rfl rfl ?_
                      refine V.bin rfl rfl rfl rfl (bin_addI (by omega)) ?_
                      refine V.bin rfl rfl rfl rfl (bin_eql _ _ _) ?_
                      refine V.know (t := 179) (y := .bool false) rfl (by rw [decide_eq_false (by omega)]) ?_
                      refine V.move rfl rfl rfl ?_
                      refine V.skip rfl rfl ?_
                      refine V.skip rfl rfl ?_
                      refine V.skip rfl rfl ?_
                      refine V.pickF rfl rfl rfl rfl ?_
                      refine V.nil ?_
                      refine Post.nextC ?_
                      refine VC.condF rfl ?_
                      refine VC.skip ?_
                      refine Post.nextC ?_
                      refine VC.seq ?_
                      refine VC.seq ?_
                      refine VC.region ?_
                      refine V.move rfl rfl rfl ?_
                      refine V.move rfl rfl rfl ?_
                      apply V.call rfl rfl rfl (hc := c11s (hol.rd) (hrl.rd hJ.at_.small) (hk.rd) hK)
                      · repeat' constructor
                      rintro v Ho ⟨rfl, rfl⟩
                      refine V.not rfl rfl rfl ?_
                      refine V.know (t := 194) (y := .bool false) rfl (by simp) ?_
                      refine V.move rfl rfl rfl ?_
                      refine V.move rfl rfl rfl ?_
                      apply V.call rfl rfl rfl (hc := c18)
                      · repeat' constructor
                      rintro v Ho ⟨rfl, rfl⟩
                      refine V.move rfl rfl rfl ?_
                      refine V.len rfl rfl rfl ?_
                      refine V.bin rfl rfl rfl rfl (bin_neq _ _ _) ?_
                      refine V.know (t := 200) (y := .bool false) rfl (by simp) ?_
                      refine V.pickF rfl rfl rfl rfl ?_
                      refine V.nil ?_
                      refine Post.nextC ?_
                      refine VC.condF rfl ?_
                      refine VC.skip ?_
                      refine Post.nextC ?_
                      refine VC.region ?_
                      refine V.assign rfl rfl rfl ?_
                      refine V.nil ?_
                      refine Post.blockNormal (Post.blockNormal (Post.nextC ?_))
                      refine VC.region ?_
                      refine V.move rfl rfl rfl ?_
                      refine V.bin rfl rfl rfl rfl (bin_addI (x := (i : Int)) (y := 1) (by omega)) ?_
                      refine V.assign rfl rfl rfl ?_
                      refine V.nil ?_
                      refine Post.round ⟨i + 1, j2, boots + 1, en, false, (⟨s.wr, decide (x.n = 0), decide (0 ≤ x.n), x.n⟩ : DS).wrote, img2, rs, .slice ak rs.length cpk, ck, cK, vsK, .slice none 0 0, [], [], 0⟩ ?_ ?_ ?_ ?_
                      · exact ⟨by simp only; omega, hJ2, DS.ok_mono (DS.ok_wrote hsF) (by simp only; omega), by simp only; omega, hk, hK, Own.nil 31 1, by simp only; omega, fun h => absurd rfl h⟩
                      · simp only; omega
                      · exact ⟨rfl, rfl, rfl, rfl, rfl, rfl, trivial⟩
                      · repeat' constructor
                  · try simp only [decide_eq_true_eq, decide_eq_false_iff_not, Bool.not_eq_true', Bool.not_eq_false', Bool.not_eq_eq_eq_not, Bool.not_true, Bool.not_false, beq_iff_eq, beq_eq_false_iff_ne, ne_eq, Int.not_lt, Int.not_le, Option.isSome_some, Option.isNone_none, Option.isSome_none, Option.isNone_some] at h14
                    refine VC.skip ?_
                    refine Post.nextC ?_
                    refine VC.seq ?_
                    refine VC.region ?_
                    refine V.move rfl rfl rfl ?_
                    have hsF := (DS.ok_rest hs : DS.ok ⟨s.wr, false, false, s.lf⟩ _)
                    apply V.call rfl rfl rfl (hc := c8u (s := ⟨s.wr, false, false, s.lf⟩) (by omega) hJ (by omega) (DS.ok_mono hsF (by omega)) (rfl))
                    · repeat' constructor
                    rintro v Ho ⟨j2, vl, cl, cR, vsl, img2, rfl, hol, hrl, hJ2, rfl⟩
                    obtain ⟨al, cpl, rfl, _⟩ := id (hol.rd (w0 := w0))
                    refine V.move rfl rfl rfl ?_
                    refine V.extract rfl rfl rfl rfl ?_
                    refine V.extract rfl rfl rfl rfl ?_
                    refine V.extract rfl rfl rfl rfl ?_
                    refine V.assign rfl rfl rfl ?_
                    refine V.assign rfl rfl rfl ?_
                    refine V.assign rfl rfl rfl ?_
                    refine V.nil ?_
                    refine Post.nextC ?_
                    refine VC.seq ?_
                    refine VC.seq ?_
                    refine VC.region ?_
                    refine V.move rfl rfl rfl ?_
                    refine V.bin rfl rfl rfl rfl (bin_eql _ _ _) ?_
                    refine V.know (t := 151) (y := .bool false) rfl (rfl) ?_
                    refine V.move rfl rfl rfl ?_
                    refine V.skip rfl rfl ?_
                    refine V.skip rfl rfl ?_
                    refine V.skip rfl rfl ?_
                    refine V.skip rfl rfl ?_
                    refine V.skip rfl rfl ?_
                    refine V.skip rfl rfl ?_
                    refine V.pickF rfl rfl rfl rfl ?_
                    refine V.nil ?_
                    refine Post.nextC ?_
                    refine VC.condF rfl ?_
                    refine VC.skip ?_
                    refine Post.nextC ?_
                    refine VC.seq ?_
                    refine VC.seq ?_
                    refine VC.region ?_
                    refine V.move rfl rfl rfl ?_
                    refine V.bin rfl rfl rfl rfl (bin_peqlNil _) ?_
                    refine V.know (t := 169) (y := .bool false) rfl (rfl) ?_
                    refine V.move rfl rfl rfl ?_
                    refine V.move rfl rfl rfl ?_
                    refine V.bin rfl rfl rfl rfl (bin_neq _ _ _) ?_
                    refine V.know (t := 172) (y := .bool false) rfl (rfl) ?_
                    refine V.pickF rfl rfl rfl rfl ?_
                    refine V.nil ?_
                    refine Post.nextC ?_
                    refine VC.condF rfl ?_
                    refine VC.skip ?_
                    refine Post.nextC ?_
                    refine VC.seq ?_
                    refine VC.seq ?_
                    refine VC.region ?_
                    refine V.move rfl rfl rfl ?_
                    refine V.len rfl rfl rfl ?_
                    refine V.move rfl rfl rfl ?_
                    refine V.len rfl rfl rfl ?_
                    refine V.bin rfl rfl rfl rfl (bin_addI (by omega)) ?_
                    refine V.bin rfl rfl rfl rfl (bin_eql _ _ _) ?_
                    refine V.know (t := 179) (y := .bool false) rfl (by rw [decide_eq_false (by omega)]) ?_
                    refine V.move rfl rfl rfl ?_
                    refine V.skip rfl rfl ?_
                    refine V.skip rfl rfl ?_
                    refine V.skip rfl rfl ?_
                    refine V.pickF rfl rfl rfl rfl ?_
                    refine V.nil ?_
                    refine Post.nextC ?_
                    refine VC.condF rfl ?_
                    refine VC.skip ?_
                    refine Post.nextC ?_
                    refine VC.seq ?_
                    refine VC.seq ?_
                    refine VC.region ?_
                    refine V.move rfl rfl rfl ?_
                    refine V.move rfl rfl rfl ?_
                    apply V.call rfl rfl rfl (hc := c11s (hol.rd) (hrl.rd hJ.at_.small) (hk.rd) hK)
                    · repeat' constructor
                    rintro v Ho ⟨rfl, rfl⟩
                    refine V.not rfl rfl rfl ?_
                    refine V.know (t := 194) (y := .bool false) rfl (by simp) ?_
                    refine V.move rfl rfl rfl ?_
                    refine V.move rfl rfl rfl ?_
                    apply V.call rfl rfl rfl (hc := c18)
                    · repeat' constructor
                    rintro v Ho ⟨rfl, rfl⟩
                    refine V.move rfl rfl rfl ?_
                    refine V.len rfl rfl rfl ?_
                    refine V.bin rfl rfl rfl rfl (bin_neq _ _ _) ?_
                    refine V.know (t := 200) (y := .bool false) rfl (by simp) ?_
                    refine V.pickF rfl rfl rfl rfl ?_
                    refine V.nil ?_
                    refine Post.nextC ?_
                    refine VC.condF rfl ?_
                    refine VC.skip ?_
                    refine Post.nextC ?_
                    refine VC.region ?_
                    refine V.assign rfl rfl rfl ?_
                    refine V.nil ?_
                    refine Post.blockNormal (Post.blockNormal (Post.nextC ?_))
                    refine VC.region ?_
                    refine V.move rfl rfl rfl ?_
                    refine V.bin rfl rfl rfl rfl (bin_addI (x := (i : Int)) (y := 1) (by omega)) ?_
                    refine V.assign rfl rfl rfl ?_
                    refine V.nil ?_
                    refine Post.round ⟨i + 1, j2, boots + 1, en, false, (⟨s.wr, false, false, s.lf⟩ : DS).wrote, img2, rs, .slice ak rs.length cpk, ck, cK, vsK, .slice none 0 0, [], [], 0⟩ ?_ ?_ ?_ ?_
                    · exact ⟨by simp only; omega, hJ2, DS.ok_mono (DS.ok_wrote hsF) (by simp only; omega), by simp only; omega, hk, hK, Own.nil 31 1, by simp only; omega, fun h => absurd rfl h⟩
                    · simp only; omega
                    · exact ⟨rfl, rfl, rfl, rfl, rfl, rfl, trivial⟩
                    · repeat' constructor
                · try simp only [decide_eq_true_eq, decide_eq_false_iff_not, Bool.not_eq_true', Bool.not_eq_false', Bool.not_eq_eq_eq_not, Bool.not_true, Bool.not_false, beq_iff_eq, beq_eq_false_iff_ne, ne_eq, Int.not_lt, Int.not_le, Option.isSome_some, Option.isNone_none, Option.isSome_none, Option.isNone_some] at h13
                  refine V.skip rfl rfl ?_
                  refine V.skip rfl rfl ?_
                  refine V.skip rfl rfl ?_
                  refine V.skip rfl rfl ?_
                  refine V.skip rfl rfl ?_
                  refine V.skip rfl rfl ?_
                  refine V.pickF rfl rfl rfl rfl ?_
                  refine V.nil ?_
                  refine Post.nextC ?_
                  refine VC.condF rfl ?_
                  refine VC.skip ?_
                  refine Post.nextC ?_
                  refine VC.seq ?_
                  refine VC.region ?_
                  refine V.move rfl rfl rfl ?_
                  have hsF := (DS.ok_rest hs : DS.ok ⟨s.wr, false, false, s.lf⟩ _)
                  apply V.call rfl rfl rfl (hc := c8u (s := ⟨s.wr, false, false, s.lf⟩) (by omega) hJ (by omega) (DS.ok_mono hsF (by omega)) (rfl))
                  · repeat' constructor
                  rintro v Ho ⟨j2, vl, cl, cR, vsl, img2, rfl, hol, hrl, hJ2, rfl⟩
                  obtain ⟨al, cpl, rfl, _⟩ := id (hol.rd (w0 := w0))
                  refine V.move rfl rfl rfl ?_
                  refine V.extract rfl rfl rfl rfl ?_
                  refine V.extract rfl rfl rfl rfl ?_
                  refine V.extract rfl rfl rfl rfl ?_
                  refine V.assign rfl rfl rfl ?_
                  refine V.assign rfl rfl rfl ?_
                  refine V.assign rfl rfl rfl ?_
                  refine V.nil ?_
                  refine Post.nextC ?_
                  refine VC.seq ?_
                  refine VC.seq ?_
                  refine VC.region ?_
                  refine V.move rfl rfl rfl ?_
                  refine V.bin rfl rfl rfl rfl (bin_eql _ _ _) ?_
                  refine V.know (t := 151) (y := .bool false) rfl (rfl) ?_
                  refine V.move rfl rfl rfl ?_
                  refine V.skip rfl rfl ?_
                  refine V.skip rfl rfl ?_
                  refine V.skip rfl rfl ?_
                  refine V.skip rfl rfl ?_
                  refine V.skip rfl rfl ?_
                  refine V.skip rfl rfl ?_
                  refine V.pickF rfl rfl rfl rfl ?_
                  refine V.nil ?_
                  refine Post.nextC ?_
                  refine VC.condF rfl ?_
                  refine VC.skip ?_
                  refine Post.nextC ?_
                  refine VC.seq ?_
                  refine VC.seq ?_
                  refine VC.region ?_
                  refine V.move rfl rfl rfl ?_
                  refine V.bin rfl rfl rfl rfl (bin_peqlNil _) ?_
                  refine V.know (t := 169) (y := .bool false) rfl (rfl) ?_
                  refine V.move rfl rfl rfl ?_
                  refine V.move rfl rfl rfl ?_
                  refine V.bin rfl rfl rfl rfl (bin_neq _ _ _) ?_
                  refine V.know (t := 172) (y := .bool false) rfl (rfl) ?_
                  refine V.pickF rfl rfl rfl rfl ?_
                  refine V.nil ?_
                  refine Post.nextC ?_
                  refine VC.condF rfl ?_
                  refine VC.skip ?_
                  refine Post.nextC ?_
                  refine VC.seq ?_
                  refine VC.seq ?_
                  refine VC.region ?_
                  refine V.move rfl rfl rfl ?_
                  refine V.len rfl rfl rfl ?_
                  refine V.move rfl rfl rfl ?_
                  refine V.len rfl rfl rfl ?_
                  refine V.bin rfl rfl rfl rfl (bin_addI (by omega)) ?_
                  refine V.bin rfl rfl rfl rfl (bin_eql _ _ _) ?_
                  refine V.know (t := 179) (y := .bool false) rfl (by rw [decide_eq_false (by omega)]) ?_
                  refine V.move rfl rfl rfl ?_
                  refine V.skip rfl rfl ?_
                  refine V.skip rfl rfl ?_
                  refine V.skip rfl rfl ?_
                  refine V.pickF rfl rfl rfl rfl ?_
                  refine V.nil ?_
                  refine Post.nextC ?_
                  refine VC.condF rfl ?_
                  refine VC.skip ?_
                  refine Post.nextC ?_
                  refine VC.seq ?_
                  refine VC.seq ?_
                  refine VC.region ?_
                  refine V.move rfl rfl rfl ?_
                  refine V.move rfl rfl rfl ?_
                  apply V.call rfl rfl rfl (hc := c11s (hol.rd) (hrl.rd hJ.at_.small) (hk.rd) hK)
                  · repeat' constructor
                  rintro v Ho ⟨rfl, rfl⟩
                  refine V.not rfl rfl rfl ?_
                  refine V.know (t := 194) (y := .bool false) rfl (by simp) ?_
                  refine V.move rfl rfl rfl ?_
                  refine V.move rfl rfl rfl ?_
                  apply V.call rfl rfl rfl (hc := c18)
                  · repeat' constructor
                  rintro v Ho ⟨rfl, rfl⟩
                  refine V.move rfl rfl rfl ?_
                  refine V.len rfl rfl rfl ?_
                  refine V.bin rfl rfl rfl rfl (bin_neq _ _ _) ?_
                  refine V.know (t := 200) (y := .bool false) rfl (by simp) ?_
                  refine V.pickF rfl rfl rfl rfl ?_
                  refine V.nil ?_
                  refine Post.nextC ?_
                  refine VC.condF rfl ?_
                  refine VC.skip ?_
                  refine Post.nextC ?_
                  refine VC.region ?_
                  refine V.assign rfl rfl rfl ?_
                  refine V.nil ?_
                  refine Post.blockNormal (Post.blockNormal (Post.nextC ?_))
                  refine VC.region ?_
                  refine V.move rfl rfl rfl ?_
                  refine V.bin rfl rfl rfl rfl (bin_addI (x := (i : Int)) (y := 1) (by omega)) ?_
                  refine V.assign rfl rfl rfl ?_
                  refine V.nil ?_
                  refine Post.round ⟨i + 1, j2, boots + 1, en, false, (⟨s.wr, false, false, s.lf⟩ : DS).wrote, img2, rs, .slice ak rs.length cpk, ck, cK, vsK, .slice none 0 0, [], [], 0⟩ ?_ ?_ ?_ ?_
                  · exact ⟨by simp only; omega, hJ2, DS.ok_mono (DS.ok_wrote hsF) (by simp only; omega), by simp only; omega, hk, hK, Own.nil 31 1, by simp only; omega, fun h => absurd rfl h⟩
                  · simp only; omega
                  · exact ⟨rfl, rfl, rfl, rfl, rfl, rfl, trivial⟩
                  · repeat' constructor
              · try simp only [decide_eq_true_eq, decide_eq_false_iff_not, Bool.not_eq_true', Bool.not_eq_false', Bool.not_eq_eq_eq_not, Bool.not_true, Bool.not_false, beq_iff_eq, beq_eq_false_iff_ne, ne_eq, Int.not_lt, Int.not_le, Option.isSome_some, Option.isNone_none, Option.isSome_none, Option.isNone_some] at h12
                refine VC.skip ?_
                refine Post.blockNormal (Post.blockNormal (Post.nextC ?_))
                refine VC.region ?_
                refine V.move rfl rfl rfl ?_
                refine V.bin rfl rfl rfl rfl (bin_addI (x := (i : Int)) (y := 1) (by omega)) ?_
                refine V.assign rfl rfl rfl ?_
                refine V.nil ?_
                refine Post.round ⟨i + 1, j, boots, en, down, s, img, rs, .slice ak rs.length cpk, ck, cK, vsK, .slice am nm cpm, cm, vsM, nm⟩ ?_ ?_ ?_ ?_
                · exact ⟨by simp only; omega, hJ, DS.ok_mono hs (by simp only; omega), by simp only; omega, hk, hK, hm, hm1, hm2⟩
                · simp only; omega
                · exact ⟨rfl, rfl, rfl, rfl, rfl, rfl, trivial⟩
                · repeat' constructor
      · try simp only [decide_eq_true_eq, decide_eq_false_iff_not, Bool.not_eq_true', Bool.not_eq_false', Bool.not_eq_eq_eq_not, Bool.not_true, Bool.not_false, beq_iff_eq, beq_eq_false_iff_ne, ne_eq, Int.not_lt, Int.not_le, Option.isSome_some, Option.isNone_none, Option.isSome_none, Option.isNone_some] at h3
        refine VC.exit ?_
        refine Post.thenExit (Post.thenExit (Post.blockHit (Post.nextC ?_)))
        refine VC.seq ?_
        refine VC.region ?_
        refine V.assign rfl rfl rfl ?_
        refine V.nil ?_
        refine Post.nextC ?_
        refine VC.ret ?_
        apply Post.ret1 rfl rfl 
        · exact ⟨rfl, rfl⟩
        · repeat' constructor
    · try simp only [decide_eq_true_eq, decide_eq_false_iff_not, Bool.not_eq_true', Bool.not_eq_false', Bool.not_eq_eq_eq_not, Bool.not_true, Bool.not_false, beq_iff_eq, beq_eq_false_iff_ne, ne_eq, Int.not_lt, Int.not_le, Option.isSome_some, Option.isNone_none, Option.isSome_none, Option.isNone_some] at h2
      refine V.skip rfl rfl ?_
      refine V.skip rfl rfl ?_
      refine V.pickF rfl rfl rfl rfl ?_
      refine V.nil ?_
      refine Post.nextC ?_
      refine VC.condF rfl ?_
      refine VC.exit ?_
      refine Post.thenExit (Post.thenExit (Post.blockHit (Post.nextC ?_)))
      refine VC.seq ?_
      refine VC.region ?_
      refine V.assign rfl rfl rfl ?_
      refine V.nil ?_
      refine Post.nextC ?_
      refine VC.ret ?_
      apply Post.ret1 rfl rfl 
      · exact ⟨rfl, rfl⟩
      · repeat' constructor

end Go.Proofs.Jn
