/- What the two functions SaveRead come to: productions read from bytes. No condition. -/
import Derived.Test.YtedlpghakpfjjaaCodeE
import Derived.Test.YtedlpghakpfjjaaSaveKit
namespace Go.Ab
open Go
set_option linter.unusedVariables false
set_option linter.unusedSimpArgs false
def rdB (bs : List UInt8) (at_ : Nat) : Int := ((bs.getD at_ 0).toNat : Int)
def stepAt (bs : List UInt8) (at_ : Nat) : Nat := if at_ < bs.length then at_ + 1 else at_
theorem rdB_range (bs : List UInt8) (a : Nat) : 0 ≤ rdB bs a ∧ rdB bs a ≤ 255 := by unfold rdB; have := (bs.getD a 0).toNat_lt; omega
theorem stepAt_le {bs : List UInt8} {a : Nat} (h : a ≤ bs.length) : stepAt bs a ≤ bs.length := by unfold stepAt; split <;> omega
theorem stepAt_lt {bs : List UInt8} {a : Nat} (h : a < bs.length) : stepAt bs a = a + 1 := by unfold stepAt; rw [if_pos h]
theorem rd_at {bs pre rest : List UInt8} {x : UInt8} (h : bs = pre ++ x :: rest) : rdB bs pre.length = x.toNat ∧ stepAt bs pre.length = pre.length + 1 ∧ pre.length < bs.length := by
  subst h
  refine ⟨by simp [rdB, List.getD_eq_getElem?_getD], by simp [stepAt], by simp⟩
theorem by8_of {n : Int} (h1 : 0 ≤ n) (h2 : n ≤ 255) : ((by8 n).toNat : Int) = n := by rw [by8_toNat, Int.emod_eq_of_lt h1 (by omega)]
/-- Where a production stands in its bytes. -/
theorem saved_prod {c : Cfg} {bs : List UInt8} (ok : CfgOk c) (hs : saveW c = bs) {k : Nat} (hk : k < c.prods.length) : ∃ rest, bs = upB c k ++ prdB c.prods[k] ++ rest := by
  rw [saveW, if_pos ok] at hs
  refine ⟨(c.prods.drop (k + 1)).flatMap prdB ++ twoB (sumB (allB c)), ?_⟩
  rw [← hs]
  have : allB c = upB c k ++ prdB c.prods[k] ++ (c.prods.drop (k + 1)).flatMap prdB := by
    unfold allB upB
    rw [List.take_length]
    rw [List.append_assoc, List.append_assoc]
    congr 1
    rw [← List.append_assoc, ← take_flatMap hk, ← List.flatMap_append, List.take_append_drop]
  rw [← List.append_assoc, ← this]
theorem saved_sym {c : Cfg} {bs : List UInt8} (ok : CfgOk c) (hs : saveW c = bs) {k : Nat} (hk : k < c.prods.length) {j : Nat} (hj : j < c.prods[k].body.length) : ∃ rest, bs = upB2 c k c.prods[k] j ++ symB c.prods[k].body[j] ++ rest := by
  obtain ⟨rest, h⟩ := saved_prod ok hs hk
  refine ⟨(c.prods[k].body.drop (j + 1)).flatMap symB ++ rest, ?_⟩
  rw [h, prdB, upB2]
  simp only [List.append_assoc]
  congr 2
  rw [← List.append_assoc, ← List.append_assoc]
  congr 1
  rw [← take_flatMap hj, ← List.flatMap_append, List.take_append_drop]
theorem saved_head {c : Cfg} {bs : List UInt8} (ok : CfgOk c) (hs : saveW c = bs) : rdB bs 0 = 70 ∧ rdB bs 1 = c.heads - 1 ∧ rdB bs 2 * 256 + rdB bs 3 = c.prods.length ∧ stepAt bs 0 = 1 ∧ stepAt bs 1 = 2 ∧ stepAt bs 2 = 3 ∧ stepAt bs 3 = 4 ∧ 4 < bs.length ∧ (upB c 0).length = 4 := by
  have h1 := ok.heads
  have h2 := ok.len
  rw [saveW, if_pos ok] at hs
  obtain ⟨rest, hr⟩ : ∃ rest, allB c = headB c ++ rest := ⟨(c.prods.take c.prods.length).flatMap prdB, rfl⟩
  rw [hr] at hs
  simp only [headB, twoB, List.cons_append, List.nil_append] at hs
  have e : bs = 70 :: by8 (c.heads - 1) :: by8 ((c.prods.length : Int).tdiv 256) :: by8 ((c.prods.length : Int).tmod 256) :: (rest ++ [by8 (Int.tdiv (sumB (70 :: by8 (c.heads - 1) :: by8 ((c.prods.length : Int).tdiv 256) :: by8 ((c.prods.length : Int).tmod 256) :: rest)) 256), by8 (Int.tmod (sumB (70 :: by8 (c.heads - 1) :: by8 ((c.prods.length : Int).tdiv 256) :: by8 ((c.prods.length : Int).tmod 256) :: rest)) 256)]) := hs.symm
  have q1 : (c.prods.length : Int).tdiv 256 = (c.prods.length : Int) / 256 := Int.tdiv_eq_ediv_of_nonneg (by omega)
  have q2 : (c.prods.length : Int).tmod 256 = (c.prods.length : Int) % 256 := Int.tmod_eq_emod_of_nonneg (by omega)
  have r0 := rd_at (pre := []) (x := 70) e
  have r1 := rd_at (pre := [70]) (x := by8 (c.heads - 1)) e
  have r2 := rd_at (pre := [70, by8 (c.heads - 1)]) (x := by8 ((c.prods.length : Int).tdiv 256)) e
  have r3 := rd_at (pre := [70, by8 (c.heads - 1), by8 ((c.prods.length : Int).tdiv 256)]) (x := by8 ((c.prods.length : Int).tmod 256)) e
  rw [by8_of (by omega) (by omega)] at r1
  rw [q1, by8_of (by omega) (by omega)] at r2
  rw [q2, by8_of (by omega) (by omega)] at r3
  have l : bs.length = 4 + rest.length + 2 := by rw [e]; simp <;> omega
  refine ⟨r0.1, r1.1, ?_, r0.2.1, r1.2.1, r2.2.1, r3.2.1, by omega, by simp [upB_zero, headB, twoB]⟩
  have a2 : rdB bs 2 = (c.prods.length : Int) / 256 := r2.1
  have a3 : rdB bs 3 = (c.prods.length : Int) % 256 := r3.1
  omega
theorem saved_many {c : Cfg} {bs : List UInt8} (ok : CfgOk c) (hs : saveW c = bs) {k : Nat} (hk : k ≤ c.prods.length) : (upB c k).length < bs.length := by
  rw [saveW, if_pos ok] at hs
  have : allB c = upB c k ++ (c.prods.drop k).flatMap prdB := by
    unfold allB upB
    rw [List.take_length, List.append_assoc]
    congr 1
    rw [← List.flatMap_append, List.take_append_drop]
  rw [← hs, this]; simp [twoB] <;> omega
/-- A production's head and how long it is, as they're read. -/
theorem saved_two {c : Cfg} {bs : List UInt8} (ok : CfgOk c) (hs : saveW c = bs) {k : Nat} (hk : k < c.prods.length) : rdB bs (upB c k).length = c.prods[k].head ∧ stepAt bs (upB c k).length = (upB c k).length + 1 ∧ rdB bs ((upB c k).length + 1) = c.prods[k].body.length ∧ stepAt bs ((upB c k).length + 1) = (upB2 c k c.prods[k] 0).length := by
  obtain ⟨rest, h⟩ := saved_prod ok hs hk
  have p := ok.prods k hk
  have p1 := p.head
  have p2 := p.len
  have p3 := ok.heads
  have r0 := rd_at (bs := bs) (pre := upB c k) (x := by8 c.prods[k].head) (rest := by8 c.prods[k].body.length :: (c.prods[k].body.flatMap symB ++ rest)) (by rw [h]; simp [prdB])
  have r1 := rd_at (bs := bs) (pre := upB c k ++ [by8 c.prods[k].head]) (x := by8 c.prods[k].body.length) (rest := c.prods[k].body.flatMap symB ++ rest) (by rw [h]; simp [prdB])
  rw [by8_of (by omega) (by omega)] at r0
  rw [by8_of (by omega) (by omega)] at r1
  simp only [List.length_append, List.length_singleton] at r1
  exact ⟨r0.1, r0.2.1, r1.1, by rw [r1.2.1, upB2_zero]; simp⟩
/-- A part, as it's read. -/
theorem saved_part {c : Cfg} {bs : List UInt8} (ok : CfgOk c) (hs : saveW c = bs) {k : Nat} (hk : k < c.prods.length) {j : Nat} (hj : j < c.prods[k].body.length) {a : Nat} (ha : a = (upB2 c k c.prods[k] j).length) :
    (rdB bs a = 1 ∧ stepAt bs a = a + 1 ∧ c.prods[k].body[j] = ⟨rdB bs (a + 1), 0, 0⟩ ∧ stepAt bs (a + 1) = (upB2 c k c.prods[k] (j + 1)).length ∧ a + 1 < bs.length) ∨
    (rdB bs a = 0 ∧ stepAt bs a = a + 1 ∧ stepAt bs (a + 1) = a + 2 ∧ c.prods[k].body[j] = ⟨-1, rdB bs (a + 1), rdB bs (a + 2)⟩ ∧ stepAt bs (a + 2) = (upB2 c k c.prods[k] (j + 1)).length ∧ a + 2 < bs.length) := by
  obtain ⟨rest, h⟩ := saved_sym ok hs hk hj
  have p := (ok.prods k hk).body j hj
  have p3 := ok.heads
  rw [upB2_succ hj]
  generalize upB2 c k c.prods[k] j = pre at *
  generalize hsm : c.prods[k].body[j] = s at *
  subst ha
  unfold SymOk at p
  by_cases h0 : 0 ≤ s.head
  · left
    rw [symB, if_pos h0] at h ⊢
    have r0 := rd_at (bs := bs) (pre := pre) (x := 1) (rest := by8 s.head :: rest) (by rw [h]; simp)
    have r1 := rd_at (bs := bs) (pre := pre ++ [1]) (x := by8 s.head) (rest := rest) (by rw [h]; simp)
    rw [by8_of (by omega) (by omega)] at r1
    simp only [List.length_append, List.length_singleton] at r1
    refine ⟨r0.1, r0.2.1, ?_, by rw [r1.2.1]; simp, r1.2.2⟩
    rw [r1.1]
    obtain ⟨s1, s2, s3⟩ := s
    simp only [Sym.mk.injEq, true_and] at *
    omega
  · right
    rw [symB, if_neg h0] at h ⊢
    have r0 := rd_at (bs := bs) (pre := pre) (x := 0) (rest := by8 s.low :: by8 s.high :: rest) (by rw [h]; simp)
    have r1 := rd_at (bs := bs) (pre := pre ++ [0]) (x := by8 s.low) (rest := by8 s.high :: rest) (by rw [h]; simp)
    have r2 := rd_at (bs := bs) (pre := pre ++ [0, by8 s.low]) (x := by8 s.high) (rest := rest) (by rw [h]; simp)
    rw [by8_of (by omega) (by omega)] at r1
    rw [by8_of (by omega) (by omega)] at r2
    simp only [List.length_append, List.length_cons, List.length_nil, Nat.zero_add, Nat.reduceAdd] at r1 r2
    refine ⟨r0.1, r0.2.1, r1.2.1, ?_, by rw [r2.2.1]; simp, r2.2.2⟩
    rw [r1.1, r2.1]
    have e1 : s.head = -1 := by omega
    rw [← e1]
theorem symT_ok {s : Sym} : ∀ x ∈ symT s, blocks x = [] ∧ ∀ h, x.at h := flat_ok (vs := [.int .i64 s.head, .int .i64 s.low, .int .i64 s.high])
theorem saveW_nil {c : Cfg} (h : ¬ CfgOk c) : saveW c = [] := by rw [saveW, if_neg h]
/-- An own slice of parts. -/
theorem syms_of {ty : TypeId} {l : List Sym} {t : Tree} (r : RowsT ty 3 (fun s ts => ts = symT s) l t) : IsSyms t ∧ tV t = .imm false (l.map symA) ∧ count t = 3 * l.length := by
  have hv := r.view (f := symA) fun a _ ts h => by rw [h]; exact ⟨rfl, rfl⟩
  obtain ⟨parts, s, hp⟩ := r
  have hlen : ∀ ts ∈ parts, ts.length = 3 ∧ countL ts = 3 := fun ts hts => by
    obtain ⟨i, hi⟩ := List.getElem?_of_mem hts
    have hil := (List.getElem?_eq_some_iff.1 hi).1
    have hl' : l[i]? = some (l[i]'(by rw [← hp.len]; exact hil)) := by simp [← hp.len, hil]
    have := hp.each i _ ts hl' hi
    rw [this]; exact ⟨rfl, rfl⟩
  have hsum : ∀ (ps : List (List Tree)), (∀ ts ∈ ps, ts.length = 3 ∧ countL ts = 3) → countL ps.flatten = 3 * ps.length := by
    intro ps
    induction ps with
    | nil => intro _; rfl
    | cons t ps ih => intro h; rw [List.flatten_cons, countL_append, ih fun ts hts => h ts (List.mem_cons_of_mem _ hts), (h t (List.mem_cons_self ..)).2, List.length_cons]; omega
  have hcount := hsum parts hlen
  rw [hp.len] at hcount
  generalize hn : l.length = n at s
  generalize hc : parts.flatten = cs at s
  cases s with
  | nil => exact ⟨.nil, hv, rfl⟩
  | row b n cells hl =>
    subst hn
    refine ⟨.row b _ _ _ hl (fun j => (match cs[j]? with | some (.leaf (.int _ n)) => n | _ => 0)) fun j hj => ?_, hv, by rw [hc] at hcount; simpa [count] using hcount⟩
    have hi : j / 3 < l.length := by omega
    have hj3 : j = (j / 3) * 3 + j % 3 := by omega
    have hget := parts_get (fun ts hts => (hlen ts hts).1) (j / 3) (j % 3) (by omega)
    rw [← hj3, hc] at hget
    have hpi : parts[j / 3]? = some (symT l[j / 3]) := by
      rw [List.getElem?_eq_getElem (by rw [hp.len]; exact hi)]
      exact congrArg some (hp.each (j / 3) _ _ (List.getElem?_eq_getElem hi) (List.getElem?_eq_getElem _))
    rw [hpi] at hget
    simp only [Option.bind_some] at hget
    have hm : j % 3 = 0 ∨ j % 3 = 1 ∨ j % 3 = 2 := by omega
    rcases hm with hm | hm | hm <;> rw [hm] at hget <;> rw [hget] <;> rfl
theorem prds_of {ty : TypeId} {l : List Prd} {t : Tree} (r : RowsT ty 2 EPrd l t) : IsPrds t ∧ tV t = .imm false (l.map prdA) ∧ count t = l.length + 3 * (l.map szPrd).sum := by
  have hv := r.view (f := prdA) fun a _ ts h => ⟨EPrd.len h, EPrd.view h⟩
  obtain ⟨parts, s, hp⟩ := r
  generalize hn : l.length = n at s
  generalize hc : parts.flatten = cs at s
  cases s with
  | nil => have : l = [] := List.length_eq_zero_iff.1 hn; subst this; exact ⟨.nil, hv, rfl⟩
  | row b n cells hl =>
    subst hn; subst hc
    obtain ⟨h1, h2⟩ := prds_parts hp b ty
    exact ⟨h1, hv, h2⟩
end Go.Ab

namespace Go.Proofs.Ytedlpghakpfjjaa
open Go Go.Ab
set_option linter.unusedVariables false
set_option linter.unusedSimpArgs false

theorem impl_saveReader_next.c {bs : List UInt8} {b a : Nat} {h : Heap} (hb : h b = some (.row 64 [bytesI bs, iA a])) (ha : a ≤ bs.length) (hl : bs.length ≤ 4611686018427387904) {Q : AV → Heap → Prop}
    (hQ : Q (iA (rdB bs a)) (h.set b (.row 64 [bytesI bs, iA (stepAt bs a)]))) : CALL Try.prog impl_saveReader_next.id [.adr b 0] h Q := by
  refine CALL_by mixed impl_saveReader_next.tr (Nat.le_of_ble_eq_true rfl) ?_
  simp (disch := omega) only [S, SL, Need_of, wrap_in, getD_map, getD_lt, Heap.set_ne, wrap_tdiv, tmod_nn, tdiv_nn, ↓reduceIte, eq_self, Nat.reduceEqDiff, Nat.reduceAdd, Nat.reduceSub, Nat.reduceMul, Nat.reduceLeDiff, Int.reduceNeg, Int.reduceToNat, Int.reduceLE, Int.reduceLT, Int.reduceEq, impl_saveReader_next.g, hb, bytesI]
  refine condK_if (fun h1 => ?_) (fun h1 => ?_)
  · simp (disch := omega) only [S, SL, Need_of, wrap_in, getD_map, getD_lt, Heap.set_ne, wrap_tdiv, tmod_nn, tdiv_nn, ↓reduceIte, eq_self, Nat.reduceEqDiff, Nat.reduceAdd, Nat.reduceSub, Nat.reduceMul, Nat.reduceLeDiff, Int.reduceNeg, Int.reduceToNat, Int.reduceLE, Int.reduceLT, Int.reduceEq]
    have e1 : stepAt bs a = a := by unfold stepAt; rw [if_neg (by omega)]
    have e2 : rdB bs a = 0 := by unfold rdB; rw [List.getD_eq_getElem?_getD, List.getElem?_eq_none (by omega)]; rfl
    rw [e1, e2, Heap.set_self hb] at hQ
    exact fin.same hQ
  · have h2 : a < bs.length := by omega
    have e3 : bs[a].toNat ≤ 255 := by have := bs[a].toNat_lt; omega
    simp (disch := omega) only [S, SL, Need_of, wrap_in, getD_map, getD_lt, Heap.set_ne, wrap_tdiv, tmod_nn, tdiv_nn, ↓reduceIte, eq_self, Nat.reduceEqDiff, Nat.reduceAdd, Nat.reduceSub, Nat.reduceMul, Nat.reduceLeDiff, Int.reduceNeg, Int.reduceToNat, Int.reduceLE, Int.reduceLT, Int.reduceEq, hb, bytesI, wrap_byte, Int.add_sub_cancel]
    have e1 : stepAt bs a = a + 1 := by unfold stepAt; rw [if_pos h2]
    have e2 : rdB bs a = bs[a].toNat := by unfold rdB; rw [getD_lt h2]
    rw [e1, e2] at hQ
    exact fin.same hQ
theorem spec_l41Rd_next.c {bs : List UInt8} {b a : Nat} {ok : Bool} {h : Heap} (hb : h b = some (.row 59 [bytesI bs, iA a, bA ok])) (ha : a ≤ bs.length) (hl : bs.length ≤ 4611686018427387904) {Q : AV → Heap → Prop}
    (hQ : Q (iA (rdB bs a)) (h.set b (.row 59 [bytesI bs, iA (stepAt bs a), bA (ok && decide (a < bs.length))]))) : CALL Try.prog spec_l41Rd_next.id [.adr b 0] h Q := by
  refine CALL_by mixed spec_l41Rd_next.tr (Nat.le_of_ble_eq_true rfl) ?_
  simp (disch := omega) only [S, SL, Need_of, wrap_in, getD_map, getD_lt, Heap.set_ne, wrap_tdiv, tmod_nn, tdiv_nn, ↓reduceIte, eq_self, Nat.reduceEqDiff, Nat.reduceAdd, Nat.reduceSub, Nat.reduceMul, Nat.reduceLeDiff, Int.reduceNeg, Int.reduceToNat, Int.reduceLE, Int.reduceLT, Int.reduceEq, spec_l41Rd_next.g, hb, bytesI]
  refine condK_if (fun h1 => ?_) (fun h1 => ?_)
  · simp (disch := omega) only [S, SL, Need_of, wrap_in, getD_map, getD_lt, Heap.set_ne, wrap_tdiv, tmod_nn, tdiv_nn, ↓reduceIte, eq_self, Nat.reduceEqDiff, Nat.reduceAdd, Nat.reduceSub, Nat.reduceMul, Nat.reduceLeDiff, Int.reduceNeg, Int.reduceToNat, Int.reduceLE, Int.reduceLT, Int.reduceEq, hb]
    have e1 : stepAt bs a = a := by unfold stepAt; rw [if_neg (by omega)]
    have e2 : rdB bs a = 0 := by unfold rdB; rw [List.getD_eq_getElem?_getD, List.getElem?_eq_none (by omega)]; rfl
    rw [e1, e2, decide_eq_false (by omega), Bool.and_false] at hQ
    exact fin.same hQ
  · have h2 : a < bs.length := by omega
    have e3 : bs[a].toNat ≤ 255 := by have := bs[a].toNat_lt; omega
    simp (disch := omega) only [S, SL, Need_of, wrap_in, getD_map, getD_lt, Heap.set_ne, wrap_tdiv, tmod_nn, tdiv_nn, ↓reduceIte, eq_self, Nat.reduceEqDiff, Nat.reduceAdd, Nat.reduceSub, Nat.reduceMul, Nat.reduceLeDiff, Int.reduceNeg, Int.reduceToNat, Int.reduceLE, Int.reduceLT, Int.reduceEq, hb, bytesI, wrap_byte, Int.add_sub_cancel]
    have e1 : stepAt bs a = a + 1 := by unfold stepAt; rw [if_pos h2]
    have e2 : rdB bs a = bs[a].toNat := by unfold rdB; rw [getD_lt h2]
    rw [e1, e2, decide_eq_true h2, Bool.and_true] at hQ
    exact fin.same hQ
theorem impl_nonterminal.c {n : Int} {h : Heap} {Q : AV → Heap → Prop} (hQ : Q (.agg (symA ⟨n, 0, 0⟩)) h) : CALL Try.prog impl_nonterminal.id [iA n] h Q := by
  refine CALL_by mixed impl_nonterminal.tr (Nat.le_of_ble_eq_true rfl) ?_
  simp (disch := omega) only [S, SL, Need_of, wrap_in, getD_map, getD_lt, Heap.set_ne, wrap_tdiv, tmod_nn, tdiv_nn, ↓reduceIte, eq_self, Nat.reduceEqDiff, Nat.reduceAdd, Nat.reduceSub, Nat.reduceMul, Nat.reduceLeDiff, Int.reduceNeg, Int.reduceToNat, Int.reduceLE, Int.reduceLT, Int.reduceEq, impl_nonterminal.g]
  refine allocK.in fun b1 hb1 => ?_
  simp (disch := omega) only [S, SL, Need_of, wrap_in, getD_map, getD_lt, Heap.set_ne, wrap_tdiv, tmod_nn, tdiv_nn, ↓reduceIte, eq_self, Nat.reduceEqDiff, Nat.reduceAdd, Nat.reduceSub, Nat.reduceMul, Nat.reduceLeDiff, Int.reduceNeg, Int.reduceToNat, Int.reduceLE, Int.reduceLT, Int.reduceEq]
  exact fin.of (h' := h) (by repeat' first | exact Heap.le_refl _ | refine Heap.le_set (by assumption) ?_) hQ
theorem impl_saveReader_next.m {bs : List UInt8} {b a : Nat} {h0 h : Heap} {ts : List Tree} (m : Made h0 h (.box b 64 [.imm (bytesI bs), .leaf (.int .i64 a)] :: ts)) (ha : a ≤ bs.length) (hl : bs.length ≤ 4611686018427387904) {Q : AV → Heap → Prop}
    (hQ : ∀ h', Made h0 h' (.box b 64 [.imm (bytesI bs), .leaf (.int .i64 (stepAt bs a))] :: ts) → Fr h h' [b] → Q (iA (rdB bs a)) h') : CALL Try.prog impl_saveReader_next.id [.adr b 0] h Q :=
  impl_saveReader_next.c m.here ha hl (hQ _ (m.putFlat (by simp [blocks, Tree.at]) (Fr.refl.mem (by simp)) (Heap.set_same _ _ _)) (Fr.refl.mem (by simp)))
set_option maxHeartbeats 2000000 in
theorem impl_SaveRead.c {bs : List UInt8} (hl : bs.length ≤ 4611686018427387904) {h : Heap} {Q : AV → Heap → Prop}
    (hQ : ∀ c t h', CfgOk c → saveW c = bs → (∀ d, CfgOk d → saveW d = bs → d = c) → IsPrds t → tV t = .imm false (c.prods.map prdA) → count t = c.prods.length + 3 * (c.prods.map szPrd).sum → Made h h' [t] → Q (.tup [.agg [iA c.heads, tA t], bA true]) h')
    (hN : (∀ c, CfgOk c → saveW c ≠ bs) → Q (.tup [.agg [iA 0, nilA], bA false]) h) : CALL Try.prog impl_SaveRead.id [bytesI bs] h Q := by
  refine CALL_by mixed impl_SaveRead.tr (Nat.le_of_ble_eq_true rfl) ?_
  simp (disch := omega) only [S, SL, Need_of, wrap_in, getD_map, getD_lt, Heap.set_ne, wrap_tdiv, tmod_nn, tdiv_nn, ↓reduceIte, eq_self, Nat.reduceEqDiff, Nat.reduceAdd, Nat.reduceSub, Nat.reduceMul, Nat.reduceLeDiff, Int.reduceNeg, Int.reduceToNat, Int.reduceLE, Int.reduceLT, Int.reduceEq, impl_SaveRead.g]
  refine allocK.in fun b2 hb2 => ?_
  have m : Made h (h.set b2 (.row 34 [iA 0, nilA])) [.box b2 34 [.leaf (.int .i64 0), .nil]] := Made.boxE hb2 rfl Made.none.nilI.leafI
  generalize h.set b2 _ = h1 at m ⊢
  simp (disch := omega) only [S, SL, Need_of, wrap_in, getD_map, getD_lt, Heap.set_ne, wrap_tdiv, tmod_nn, tdiv_nn, ↓reduceIte, eq_self, Nat.reduceEqDiff, Nat.reduceAdd, Nat.reduceSub, Nat.reduceMul, Nat.reduceLeDiff, Int.reduceNeg, Int.reduceToNat, Int.reduceLE, Int.reduceLT, Int.reduceEq, bytes_cell]
  refine allocK.in fun b4 hb4 => ?_
  have m : Made h (h1.set b4 (.row 64 [bytesI bs, iA 0])) [.box b4 64 [.imm (bytesI bs), .leaf (.int .i64 (0 : Nat))], .box b2 34 [.leaf (.int .i64 0), .nil]] := Made.boxE hb4 rfl m.leafI.immI
  generalize h1.set b4 _ = h1 at m ⊢
  simp (disch := omega) only [S, SL, Need_of, wrap_in, getD_map, getD_lt, Heap.set_ne, wrap_tdiv, tmod_nn, tdiv_nn, ↓reduceIte, eq_self, Nat.reduceEqDiff, Nat.reduceAdd, Nat.reduceSub, Nat.reduceMul, Nat.reduceLeDiff, Int.reduceNeg, Int.reduceToNat, Int.reduceLE, Int.reduceLT, Int.reduceEq]
  refine callK.in (impl_saveReader_next.m m (Nat.zero_le _) hl fun h1 m _ => ?_)
  have l1 := stepAt_le (bs := bs) (Nat.zero_le _)
  simp (disch := omega) only [S, SL, Need_of, wrap_in, getD_map, getD_lt, Heap.set_ne, wrap_tdiv, tmod_nn, tdiv_nn, ↓reduceIte, eq_self, Nat.reduceEqDiff, Nat.reduceAdd, Nat.reduceSub, Nat.reduceMul, Nat.reduceLeDiff, Int.reduceNeg, Int.reduceToNat, Int.reduceLE, Int.reduceLT, Int.reduceEq]
  refine callK.in (impl_saveReader_next.m m l1 hl fun h1 m _ => ?_)
  have l2 := stepAt_le l1
  have g1 := rdB_range bs (stepAt bs 0)
  simp (disch := omega) only [S, SL, Need_of, wrap_in, getD_map, getD_lt, Heap.set_ne, wrap_tdiv, tmod_nn, tdiv_nn, ↓reduceIte, eq_self, Nat.reduceEqDiff, Nat.reduceAdd, Nat.reduceSub, Nat.reduceMul, Nat.reduceLeDiff, Int.reduceNeg, Int.reduceToNat, Int.reduceLE, Int.reduceLT, Int.reduceEq]
  refine rowK.in fun b6 hb6 => ?_
  have m : Made h (h1.set b6 (.row 45 [])) (.row b6 45 0 2 [] :: _) := Made.rowE hb6 rfl rfl m
  generalize h1.set b6 _ = h1 at m ⊢
  simp (disch := omega) only [S, SL, Need_of, wrap_in, getD_map, getD_lt, Heap.set_ne, wrap_tdiv, tmod_nn, tdiv_nn, ↓reduceIte, eq_self, Nat.reduceEqDiff, Nat.reduceAdd, Nat.reduceSub, Nat.reduceMul, Nat.reduceLeDiff, Int.reduceNeg, Int.reduceToNat, Int.reduceLE, Int.reduceLT, Int.reduceEq]
  refine allocK.in fun b5 hb5 => ?_
  simp (disch := omega) only [S, SL, Need_of, wrap_in, getD_map, getD_lt, Heap.set_ne, wrap_tdiv, tmod_nn, tdiv_nn, ↓reduceIte, eq_self, Nat.reduceEqDiff, Nat.reduceAdd, Nat.reduceSub, Nat.reduceMul, Nat.reduceLeDiff, Int.reduceNeg, Int.reduceToNat, Int.reduceLE, Int.reduceLT, Int.reduceEq]
  have m : Made h (h1.set b5 (.row 34 [iA (rdB bs (stepAt bs 0) + 1), .own b6 0])) (.box b5 34 [.leaf (.int .i64 (rdB bs (stepAt bs 0) + 1)), .row b6 45 0 2 []] :: _) := Made.boxE hb5 rfl m.leafI
  generalize h1.set b5 _ = h1 at m ⊢
  refine callK.in (impl_saveReader_next.m m.swap l2 hl fun h1 m _ => ?_)
  have l3 := stepAt_le l2
  have g2 := rdB_range bs (stepAt bs (stepAt bs 0))
  simp (disch := omega) only [S, SL, Need_of, wrap_in, getD_map, getD_lt, Heap.set_ne, wrap_tdiv, tmod_nn, tdiv_nn, ↓reduceIte, eq_self, Nat.reduceEqDiff, Nat.reduceAdd, Nat.reduceSub, Nat.reduceMul, Nat.reduceLeDiff, Int.reduceNeg, Int.reduceToNat, Int.reduceLE, Int.reduceLT, Int.reduceEq]
  refine callK.in (impl_saveReader_next.m m l3 hl fun h1 m _ => ?_)
  have l4 := stepAt_le l3
  have g3 := rdB_range bs (stepAt bs (stepAt bs (stepAt bs 0)))
  simp (disch := omega) only [S, SL, Need_of, wrap_in, getD_map, getD_lt, Heap.set_ne, wrap_tdiv, tmod_nn, tdiv_nn, ↓reduceIte, eq_self, Nat.reduceEqDiff, Nat.reduceAdd, Nat.reduceSub, Nat.reduceMul, Nat.reduceLeDiff, Int.reduceNeg, Int.reduceToNat, Int.reduceLE, Int.reduceLT, Int.reduceEq]
  generalize hh : rdB bs (stepAt bs 0) + 1 = heads at m
  generalize hmn : 256 * rdB bs (stepAt bs (stepAt bs 0)) + rdB bs (stepAt bs (stepAt bs (stepAt bs 0))) = many
  have valid0 : ∀ c, CfgOk c → saveW c = bs → heads = c.heads ∧ many = c.prods.length ∧ (upB c 0).length = stepAt bs (stepAt bs (stepAt bs (stepAt bs 0))) := fun c ok hs => by
    obtain ⟨s1, s2, s3, s4, s5, s6, s7, s8, s9⟩ := saved_head ok hs
    simp only [s4, s5, s6, s7] at hh hmn ⊢; omega
  generalize stepAt bs (stepAt bs (stepAt bs (stepAt bs 0))) = a0 at m l4 valid0
  have m0 : Made h h1 [.box b5 34 [.leaf (.int .i64 heads), .row b6 45 0 2 []], .box b4 64 [.imm (bytesI bs), .leaf (.int .i64 a0)], .box b2 34 [.leaf (.int .i64 0), .nil]] := m.swap
  refine CK_loop (α := Nat × Heap × List Prd × Tree × Nat) (fun x => [(0, bytesI bs), (2, .adr b2 0), (4, .adr b4 0), (5, .adr b5 0), (6, iA many), (7, iA x.1)]) (fun x => x.2.1)
    (fun x => x.1 ≤ 65536 ∧ x.2.2.1.length = x.1 ∧ RowsT 45 2 EPrd x.2.2.1 x.2.2.2.1 ∧ Made h x.2.1 [.box b5 34 [.leaf (.int .i64 heads), x.2.2.2.1], .box b4 64 [.imm (bytesI bs), .leaf (.int .i64 x.2.2.2.2)], .box b2 34 [.leaf (.int .i64 0), .nil]]
      ∧ x.2.2.2.2 ≤ bs.length ∧ (∀ c, CfgOk c → saveW c = bs → x.1 ≤ c.prods.length ∧ x.2.2.1 = c.prods.take x.1 ∧ x.2.2.2.2 = (upB c x.1).length)) (fun x => 65536 - x.1) (0, h1, [], .row b6 45 0 2 [], a0) ?_ (Heap.le_refl _) ⟨by simp, rfl, RowsT.row0 b6, m0, l4, fun c ok hs => ⟨Nat.zero_le _, rfl, (valid0 c ok hs).2.2.symm⟩⟩ ?_
  · simp only [S, SL, ↓reduceIte, eq_self, Nat.reduceEqDiff, Nat.reduceAdd, Nat.reduceSub, Nat.reduceMul, Nat.reduceLeDiff, Int.reduceNeg, Int.reduceToNat, Int.reduceLE, Int.reduceLT, Int.reduceEq]
  · rintro R ⟨k, h2, ps, t, a⟩ ⟨hk, hps, hrt, m, ha, hv⟩ next
    simp only at hk hps hrt m ha hv
    have f4 : h2 b4 = some (.row 64 [bytesI bs, iA a]) := m.swap.here
    have f5 : h2 b5 = some (.row 34 [iA heads, tA t]) := m.here
    have f2 : h2 b2 = some (.row 34 [iA 0, nilA]) := m.third.here
    simp (disch := omega) only [S, SL, Need_of, wrap_in, getD_map, getD_lt, Heap.set_ne, wrap_tdiv, tmod_nn, tdiv_nn, ↓reduceIte, eq_self, Nat.reduceEqDiff, Nat.reduceAdd, Nat.reduceSub, Nat.reduceMul, Nat.reduceLeDiff, Int.reduceNeg, Int.reduceToNat, Int.reduceLE, Int.reduceLT, Int.reduceEq, impl_SaveRead.l1]
    refine gdK_if (fun c1 => ?_) (fun c1 => ?_) <;> simp (disch := omega) only [S, SL, Need_of, wrap_in, getD_map, getD_lt, Heap.set_ne, wrap_tdiv, tmod_nn, tdiv_nn, ↓reduceIte, eq_self, Nat.reduceEqDiff, Nat.reduceAdd, Nat.reduceSub, Nat.reduceMul, Nat.reduceLeDiff, Int.reduceNeg, Int.reduceToNat, Int.reduceLE, Int.reduceLT, Int.reduceEq, c1, f4, lenK_bytes]
    refine gdK_if (fun c2 => ?_) (fun c2 => ?_) <;> simp (disch := omega) only [S, SL, Need_of, wrap_in, getD_map, getD_lt, Heap.set_ne, wrap_tdiv, tmod_nn, tdiv_nn, ↓reduceIte, eq_self, Nat.reduceEqDiff, Nat.reduceAdd, Nat.reduceSub, Nat.reduceMul, Nat.reduceLeDiff, Int.reduceNeg, Int.reduceToNat, Int.reduceLE, Int.reduceLT, Int.reduceEq, c1, c2, f4, lenK_bytes]
    refine condK_if (fun c3 => ?_) (fun c3 => ?_) <;> simp (disch := omega) only [S, SL, Need_of, wrap_in, getD_map, getD_lt, Heap.set_ne, wrap_tdiv, tmod_nn, tdiv_nn, ↓reduceIte, eq_self, Nat.reduceEqDiff, Nat.reduceAdd, Nat.reduceSub, Nat.reduceMul, Nat.reduceLeDiff, Int.reduceNeg, Int.reduceToNat, Int.reduceLE, Int.reduceLT, Int.reduceEq, c1, c2, c3, f4, lenK_bytes]
    · refine callK.in (impl_saveReader_next.m m.swap ha hl fun h1 m1 _ => ?_)
      have g1 := rdB_range bs a
      have l1 := stepAt_le ha
      simp (disch := omega) only [S, SL, Need_of, wrap_in, getD_map, getD_lt, Heap.set_ne, wrap_tdiv, tmod_nn, tdiv_nn, ↓reduceIte, eq_self, Nat.reduceEqDiff, Nat.reduceAdd, Nat.reduceSub, Nat.reduceMul, Nat.reduceLeDiff, Int.reduceNeg, Int.reduceToNat, Int.reduceLE, Int.reduceLT, Int.reduceEq]
      refine rowK.in fun b6 hb6 => ?_
      have m1 : Made h (h1.set b6 (.row 47 [])) (.row b6 47 0 3 [] :: _) := Made.rowE hb6 rfl rfl m1
      generalize h1.set b6 _ = h1 at m1 ⊢
      simp (disch := omega) only [S, SL, Need_of, wrap_in, getD_map, getD_lt, Heap.set_ne, wrap_tdiv, tmod_nn, tdiv_nn, ↓reduceIte, eq_self, Nat.reduceEqDiff, Nat.reduceAdd, Nat.reduceSub, Nat.reduceMul, Nat.reduceLeDiff, Int.reduceNeg, Int.reduceToNat, Int.reduceLE, Int.reduceLT, Int.reduceEq]
      refine allocK.in fun b8 hb8 => ?_
      simp (disch := omega) only [S, SL, Need_of, wrap_in, getD_map, getD_lt, Heap.set_ne, wrap_tdiv, tmod_nn, tdiv_nn, ↓reduceIte, eq_self, Nat.reduceEqDiff, Nat.reduceAdd, Nat.reduceSub, Nat.reduceMul, Nat.reduceLeDiff, Int.reduceNeg, Int.reduceToNat, Int.reduceLE, Int.reduceLT, Int.reduceEq]
      have m1 : Made h (h1.set b8 (.row 45 [iA (rdB bs a), .own b6 0])) (.box b8 45 [.leaf (.int .i64 (rdB bs a)), .row b6 47 0 3 []] :: _) := Made.boxE hb8 rfl m1.leafI
      generalize h1.set b8 _ = h1 at m1 ⊢
      refine callK.in (impl_saveReader_next.m m1.swap l1 hl fun h1 m1 _ => ?_)
      have g2 := rdB_range bs (stepAt bs a)
      have l2 := stepAt_le l1
      simp (disch := omega) only [S, SL, Need_of, wrap_in, getD_map, getD_lt, Heap.set_ne, wrap_tdiv, tmod_nn, tdiv_nn, ↓reduceIte, eq_self, Nat.reduceEqDiff, Nat.reduceAdd, Nat.reduceSub, Nat.reduceMul, Nat.reduceLeDiff, Int.reduceNeg, Int.reduceToNat, Int.reduceLE, Int.reduceLT, Int.reduceEq]
      generalize hhead : rdB bs a = head at m1 g1
      generalize hn0 : rdB bs (stepAt bs a) = n0 at g2
      generalize hat2 : stepAt bs (stepAt bs a) = a2 at m1 l2
      have valid1 : ∀ c, CfgOk c → saveW c = bs → ∃ hk : k < c.prods.length, head = c.prods[k].head ∧ n0 = c.prods[k].body.length ∧ a2 = (upB2 c k c.prods[k] 0).length := fun c ok hs => by
        obtain ⟨v1, v2, v3⟩ := hv c ok hs
        obtain ⟨-, v5, -⟩ := valid0 c ok hs
        have hk' : k < c.prods.length := by omega
        obtain ⟨q1, q2, q3, q4⟩ := saved_two ok hs hk'
        rw [← v3] at q1 q2 q3 q4
        rw [q2] at hn0 hat2
        exact ⟨hk', by rw [← hhead, q1], by rw [← hn0, q3], by rw [← hat2, q4]⟩
      refine CK_loop (α := Nat × Heap × List Sym × Tree × Nat) (fun x => [(0, bytesI bs), (2, .adr b2 0), (4, .adr b4 0), (5, .adr b5 0), (6, iA many), (7, iA k), (8, .adr b8 0), (9, iA (n0 - x.1))]) (fun x => x.2.1)
        (fun x => x.1 ≤ n0.toNat ∧ x.2.2.1.length = x.1 ∧ RowsT 47 3 (fun s ts => ts = symT s) x.2.2.1 x.2.2.2.1 ∧ Made h x.2.1 [.box b8 45 [.leaf (.int .i64 head), x.2.2.2.1], .box b4 64 [.imm (bytesI bs), .leaf (.int .i64 x.2.2.2.2)], .box b5 34 [.leaf (.int .i64 heads), t], .box b2 34 [.leaf (.int .i64 0), .nil]]
          ∧ x.2.2.2.2 ≤ bs.length ∧ (∀ c, CfgOk c → saveW c = bs → ∃ hk : k < c.prods.length, x.2.2.1 = c.prods[k].body.take x.1 ∧ x.2.2.2.2 = (upB2 c k c.prods[k] x.1).length)) (fun x => n0.toNat - x.1) (0, h1, [], .row b6 47 0 3 [], a2) ?_ (Heap.le_refl _)
        ⟨Nat.zero_le _, rfl, RowsT.row0 b6, m1.swap, l2, fun c ok hs => by obtain ⟨v1, v2, v3, v4⟩ := valid1 c ok hs; exact ⟨v1, rfl, v4⟩⟩ ?_
      · simp only [S, SL, ↓reduceIte, eq_self, Nat.reduceEqDiff, Nat.reduceAdd, Nat.reduceSub, Nat.reduceMul, Nat.reduceLeDiff, Int.reduceNeg, Int.reduceToNat, Int.reduceLE, Int.reduceLT, Int.reduceEq, Int.sub_zero]
      · rintro R' ⟨j, h3, body, u, a3⟩ ⟨hj, hbl, hru, m3, ha3, hv3⟩ next'
        simp only at hj hbl hru m3 ha3 hv3
        simp (disch := omega) only [S, SL, Need_of, wrap_in, getD_map, getD_lt, Heap.set_ne, wrap_tdiv, tmod_nn, tdiv_nn, ↓reduceIte, eq_self, Nat.reduceEqDiff, Nat.reduceAdd, Nat.reduceSub, Nat.reduceMul, Nat.reduceLeDiff, Int.reduceNeg, Int.reduceToNat, Int.reduceLE, Int.reduceLT, Int.reduceEq, impl_SaveRead.l0]
        refine condK_if (fun d1 => ?_) (fun d1 => ?_)
        · simp (disch := omega) only [S, SL, Need_of, wrap_in, getD_map, getD_lt, Heap.set_ne, wrap_tdiv, tmod_nn, tdiv_nn, ↓reduceIte, eq_self, Nat.reduceEqDiff, Nat.reduceAdd, Nat.reduceSub, Nat.reduceMul, Nat.reduceLeDiff, Int.reduceNeg, Int.reduceToNat, Int.reduceLE, Int.reduceLT, Int.reduceEq]
          refine callK.in (impl_saveReader_next.m m3.swap ha3 hl fun h4 m4 _ => ?_)
          have l4 := stepAt_le ha3
          have f8 := m4.swap.here
          simp (disch := omega) only [S, SL, Need_of, wrap_in, getD_map, getD_lt, Heap.set_ne, wrap_tdiv, tmod_nn, tdiv_nn, ↓reduceIte, eq_self, Nat.reduceEqDiff, Nat.reduceAdd, Nat.reduceSub, Nat.reduceMul, Nat.reduceLeDiff, Int.reduceNeg, Int.reduceToNat, Int.reduceLE, Int.reduceLT, Int.reduceEq]
          refine condK_if (fun d2 => ?_) (fun d2 => ?_)
          · simp (disch := omega) only [S, SL, Need_of, wrap_in, getD_map, getD_lt, Heap.set_ne, wrap_tdiv, tmod_nn, tdiv_nn, ↓reduceIte, eq_self, Nat.reduceEqDiff, Nat.reduceAdd, Nat.reduceSub, Nat.reduceMul, Nat.reduceLeDiff, Int.reduceNeg, Int.reduceToNat, Int.reduceLE, Int.reduceLT, Int.reduceEq, f8]
            repeat' (with_reducible apply And.intro)
            all_goals
              refine callK.in (impl_saveReader_next.m m4 l4 hl fun h5 m5 _ => ?_)
              have f8b := m5.swap.here
              simp (disch := omega) only [S, SL, Need_of, wrap_in, getD_map, getD_lt, Heap.set_ne, wrap_tdiv, tmod_nn, tdiv_nn, ↓reduceIte, eq_self, Nat.reduceEqDiff, Nat.reduceAdd, Nat.reduceSub, Nat.reduceMul, Nat.reduceLeDiff, Int.reduceNeg, Int.reduceToNat, Int.reduceLE, Int.reduceLT, Int.reduceEq, f8b]
              repeat' (with_reducible apply And.intro)
              all_goals
               refine callK.in (impl_nonterminal.c ?_)
               simp (disch := omega) only [S, SL, Need_of, wrap_in, getD_map, getD_lt, Heap.set_ne, wrap_tdiv, tmod_nn, tdiv_nn, ↓reduceIte, eq_self, Nat.reduceEqDiff, Nat.reduceAdd, Nat.reduceSub, Nat.reduceMul, Nat.reduceLeDiff, Int.reduceNeg, Int.reduceToNat, Int.reduceLE, Int.reduceLT, Int.reduceEq, f8b]
               refine rowK.in fun bt hbt => ?_
               have net := m5.swap.not_new hbt
               simp (disch := omega) only [S, SL, Need_of, wrap_in, getD_map, getD_lt, Heap.set_ne, wrap_tdiv, tmod_nn, tdiv_nn, ↓reduceIte, eq_self, Nat.reduceEqDiff, Nat.reduceAdd, Nat.reduceSub, Nat.reduceMul, Nat.reduceLeDiff, Int.reduceNeg, Int.reduceToNat, Int.reduceLE, Int.reduceLT, Int.reduceEq, f8b, symA]
               have m6 := m5.swap.grow (Fr.refl.new (bs := []) (k := .row 47 (symA ⟨rdB bs (stepAt bs a3), 0, 0⟩)) hbt)
               refine RowsT.app1 hru m6.open.1.at_.2.1 (by omega) rfl fun bg cells sl hbg => ?_
               have neg := m5.swap.top_ne (by simp) hbg (Fr.refl.new hbt)
               simp (disch := omega) only [S, SL, Need_of, wrap_in, getD_map, getD_lt, Heap.set_ne, wrap_tdiv, tmod_nn, tdiv_nn, ↓reduceIte, eq_self, Nat.reduceEqDiff, Nat.reduceAdd, Nat.reduceSub, Nat.reduceMul, Nat.reduceLeDiff, Int.reduceNeg, Int.reduceToNat, Int.reduceLE, Int.reduceLT, Int.reduceEq, f8b]
               obtain ⟨u', e1, r', mk⟩ := RowsT.pushIn (pre := [.leaf (.int .i64 head)]) (post := []) (ts := symT ⟨rdB bs (stepAt bs a3), 0, 0⟩) (a := ⟨rdB bs (stepAt bs a3), 0, 0⟩) hru (m5.swap.flats1 (flat_ok (vs := [.int .i64 (rdB bs (stepAt bs a3)), .int .i64 0, .int .i64 0]))) sl rfl rfl hbg (Fr.refl.new hbt)
               refine next' (j + 1, _, body ++ [⟨rdB bs (stepAt bs a3), 0, 0⟩], u', stepAt bs (stepAt bs a3)) _ _ ⟨by simp only; omega, by simp [hbl], r', mk _ rfl, stepAt_le l4, fun c ok hs => ?_⟩ (by simp only; omega) (by have e : n0 - (j : Int) - 1 = n0 - ((j + 1 : Nat) : Int) := (by omega); simp only [S, SL, ↓reduceIte, eq_self, Nat.reduceEqDiff, Nat.reduceAdd, Nat.reduceSub, Nat.reduceMul, Nat.reduceLeDiff, Int.reduceNeg, Int.reduceToNat, Int.reduceLE, Int.reduceLT, Int.reduceEq, e]) (Heap.le_refl _)
               obtain ⟨hk', v2, v3⟩ := hv3 c ok hs
               obtain ⟨_, w1, w2, w3⟩ := valid1 c ok hs
               have hjl : j < c.prods[k].body.length := by omega
               rcases saved_part ok hs hk' hjl v3 with ⟨q1, q2, q3, q4, _⟩ | ⟨q1, _⟩
               · refine ⟨hk', ?_, by simp only [q2, q4]⟩
                 simp only [q2]
                 rw [List.take_succ_eq_append_getElem hjl, ← v2, q3]
               · omega
          · simp (disch := omega) only [S, SL, Need_of, wrap_in, getD_map, getD_lt, Heap.set_ne, wrap_tdiv, tmod_nn, tdiv_nn, ↓reduceIte, eq_self, Nat.reduceEqDiff, Nat.reduceAdd, Nat.reduceSub, Nat.reduceMul, Nat.reduceLeDiff, Int.reduceNeg, Int.reduceToNat, Int.reduceLE, Int.reduceLT, Int.reduceEq, f8]
            refine callK.in (impl_saveReader_next.m m4 l4 hl fun h5 m5 _ => ?_)
            have l5 := stepAt_le l4
            have f8 := m5.swap.here
            simp (disch := omega) only [S, SL, Need_of, wrap_in, getD_map, getD_lt, Heap.set_ne, wrap_tdiv, tmod_nn, tdiv_nn, ↓reduceIte, eq_self, Nat.reduceEqDiff, Nat.reduceAdd, Nat.reduceSub, Nat.reduceMul, Nat.reduceLeDiff, Int.reduceNeg, Int.reduceToNat, Int.reduceLE, Int.reduceLT, Int.reduceEq, f8]
            repeat' (with_reducible apply And.intro)
            all_goals
              refine callK.in (impl_saveReader_next.m m5 l5 hl fun h6 m6 _ => ?_)
              have f8b := m6.swap.here
              simp (disch := omega) only [S, SL, Need_of, wrap_in, getD_map, getD_lt, Heap.set_ne, wrap_tdiv, tmod_nn, tdiv_nn, ↓reduceIte, eq_self, Nat.reduceEqDiff, Nat.reduceAdd, Nat.reduceSub, Nat.reduceMul, Nat.reduceLeDiff, Int.reduceNeg, Int.reduceToNat, Int.reduceLE, Int.reduceLT, Int.reduceEq, f8b]
              refine rowK.in fun bt hbt => ?_
              have net := m6.swap.not_new hbt
              simp (disch := omega) only [S, SL, Need_of, wrap_in, getD_map, getD_lt, Heap.set_ne, wrap_tdiv, tmod_nn, tdiv_nn, ↓reduceIte, eq_self, Nat.reduceEqDiff, Nat.reduceAdd, Nat.reduceSub, Nat.reduceMul, Nat.reduceLeDiff, Int.reduceNeg, Int.reduceToNat, Int.reduceLE, Int.reduceLT, Int.reduceEq, f8b]
              have m7 := m6.swap.grow (Fr.refl.new (bs := []) (k := .row 47 [iA (-1), iA (rdB bs (stepAt bs a3)), iA (rdB bs (stepAt bs (stepAt bs a3)))]) hbt)
              refine RowsT.app1 hru m7.open.1.at_.2.1 (by omega) rfl fun bg cells sl hbg => ?_
              have neg := m6.swap.top_ne (by simp) hbg (Fr.refl.new hbt)
              simp (disch := omega) only [S, SL, Need_of, wrap_in, getD_map, getD_lt, Heap.set_ne, wrap_tdiv, tmod_nn, tdiv_nn, ↓reduceIte, eq_self, Nat.reduceEqDiff, Nat.reduceAdd, Nat.reduceSub, Nat.reduceMul, Nat.reduceLeDiff, Int.reduceNeg, Int.reduceToNat, Int.reduceLE, Int.reduceLT, Int.reduceEq, f8b]
              obtain ⟨u', e1, r', mk⟩ := RowsT.pushIn (pre := [.leaf (.int .i64 head)]) (post := []) (ts := symT ⟨-1, rdB bs (stepAt bs a3), rdB bs (stepAt bs (stepAt bs a3))⟩) (a := ⟨-1, rdB bs (stepAt bs a3), rdB bs (stepAt bs (stepAt bs a3))⟩) hru (m6.swap.flats1 (flat_ok (vs := [.int .i64 (-1), .int .i64 (rdB bs (stepAt bs a3)), .int .i64 (rdB bs (stepAt bs (stepAt bs a3)))]))) sl rfl rfl hbg (Fr.refl.new hbt)
              refine next' (j + 1, _, body ++ [⟨-1, rdB bs (stepAt bs a3), rdB bs (stepAt bs (stepAt bs a3))⟩], u', stepAt bs (stepAt bs (stepAt bs a3))) _ _ ⟨by simp only; omega, by simp [hbl], r', mk _ rfl, stepAt_le l5, fun c ok hs => ?_⟩ (by simp only; omega) (by have e : n0 - (j : Int) - 1 = n0 - ((j + 1 : Nat) : Int) := (by omega); simp only [S, SL, ↓reduceIte, eq_self, Nat.reduceEqDiff, Nat.reduceAdd, Nat.reduceSub, Nat.reduceMul, Nat.reduceLeDiff, Int.reduceNeg, Int.reduceToNat, Int.reduceLE, Int.reduceLT, Int.reduceEq, e]) (Heap.le_refl _)
              obtain ⟨hk', v2, v3⟩ := hv3 c ok hs
              obtain ⟨_, w1, w2, w3⟩ := valid1 c ok hs
              have hjl : j < c.prods[k].body.length := by omega
              rcases saved_part ok hs hk' hjl v3 with ⟨q1, _⟩ | ⟨q1, q2, q3, q4, q5, _⟩
              · omega
              · refine ⟨hk', ?_, by simp only [q2, q3, q5]⟩
                simp only [q2, q3]
                rw [List.take_succ_eq_append_getElem hjl, ← v2, q4]
        · have f5 : h3 b5 = some (.row 34 [iA heads, tA t]) := m3.third.here
          have f8 := m3.here
          simp (disch := omega) only [S, SL, Need_of, wrap_in, getD_map, getD_lt, Heap.set_ne, wrap_tdiv, tmod_nn, tdiv_nn, ↓reduceIte, eq_self, Nat.reduceEqDiff, Nat.reduceAdd, Nat.reduceSub, Nat.reduceMul, Nat.reduceLeDiff, Int.reduceNeg, Int.reduceToNat, Int.reduceLE, Int.reduceLT, Int.reduceEq, f5, f8, hru.cell.1]
          refine rowK.in fun bt hbt => ?_
          have net := m3.third.not_new hbt
          simp (disch := omega) only [S, SL, Need_of, wrap_in, getD_map, getD_lt, Heap.set_ne, wrap_tdiv, tmod_nn, tdiv_nn, ↓reduceIte, eq_self, Nat.reduceEqDiff, Nat.reduceAdd, Nat.reduceSub, Nat.reduceMul, Nat.reduceLeDiff, Int.reduceNeg, Int.reduceToNat, Int.reduceLE, Int.reduceLT, Int.reduceEq, f5, f8, hru.cell.1]
          have m4 := m3.third.grow (Fr.refl.new (bs := []) (k := .row 45 [iA head, tA u]) hbt)
          have hps' : ps.length ≤ 65536 := by omega
          refine RowsT.app1 hrt m4.open.1.at_.2.1 (by omega) (by simp only [List.all_cons, List.all_nil, hru.cell.2]; rfl) fun bg cells sl hbg => ?_
          have neg := m3.third.top_ne (by simp) hbg (Fr.refl.new hbt)
          simp (disch := omega) only [S, SL, Need_of, wrap_in, getD_map, getD_lt, Heap.set_ne, wrap_tdiv, tmod_nn, tdiv_nn, ↓reduceIte, eq_self, Nat.reduceEqDiff, Nat.reduceAdd, Nat.reduceSub, Nat.reduceMul, Nat.reduceLeDiff, Int.reduceNeg, Int.reduceToNat, Int.reduceLE, Int.reduceLT, Int.reduceEq, f5]
          obtain ⟨t', e1, r', mk⟩ := RowsT.pushIn (pre := [.leaf (.int .i64 heads)]) (post := []) (ts := [.leaf (.int .i64 head), u]) (a := ⟨head, body⟩) hrt m3.open.1.fourth sl ⟨u, rfl, (syms_of hru).1, (syms_of hru).2.1, (syms_of hru).2.2⟩ rfl hbg (Fr.refl.new hbt)
          refine next (k + 1, _, ps ++ [⟨head, body⟩], t', a3) _ _ ⟨by simp only; omega, by simp [hps], r', mk _ rfl, ha3, fun c ok hs => ?_⟩ (by simp only; omega) (by simp only [S, SL, ↓reduceIte, eq_self, Nat.reduceEqDiff, Nat.reduceAdd, Nat.reduceSub, Nat.reduceMul, Nat.reduceLeDiff, Int.reduceNeg, Int.reduceToNat, Int.reduceLE, Int.reduceLT, Int.reduceEq]) (Heap.le_refl _)
          obtain ⟨v1, v2, v3⟩ := hv c ok hs
          obtain ⟨hk', x2, x3⟩ := hv3 c ok hs
          obtain ⟨_, w1, w2, w3⟩ := valid1 c ok hs
          have hj' : j = c.prods[k].body.length := by omega
          refine ⟨hk', ?_, by simp only [x3, hj', upB_succ hk']⟩
          simp only
          rw [List.take_succ_eq_append_getElem hk', ← v2, x2, hj', List.take_length, w1]
    all_goals
      have hstop : ¬ ((k : Int) < many ∧ (k : Int) ≤ 400 ∧ a < bs.length) := by omega
      have mf : ∀ hx, Fr h2 hx [b2] → Made h hx [t] := fun hx hf => by
        have m2 := Made.upd (ts := [_]) (ts' := []) m.third trivial List.nodup_nil (by simp [blocksL]) (by simpa [blocksL, blocks] using hf)
        exact (m2.open.1.tail).swap.forget
      refine gdK_if (fun h0 => ?_) (fun h0 => ?_)
      · simp (disch := omega) only [S, SL, Need_of, wrap_in, getD_map, getD_lt, Heap.set_ne, wrap_tdiv, tmod_nn, tdiv_nn, ↓reduceIte, eq_self, Nat.reduceEqDiff, Nat.reduceAdd, Nat.reduceSub, Nat.reduceMul, Nat.reduceLeDiff, Int.reduceNeg, Int.reduceToNat, Int.reduceLE, Int.reduceLT, Int.reduceEq, h0, f4, f5, f2, lenK_bytes]
        exact fin.of (mf _ (Fr.refl.mem (by simp))).le (hN fun c ok hs => by have := saved_head ok hs; omega)
      · simp (disch := omega) only [S, SL, Need_of, wrap_in, getD_map, getD_lt, Heap.set_ne, wrap_tdiv, tmod_nn, tdiv_nn, ↓reduceIte, eq_self, Nat.reduceEqDiff, Nat.reduceAdd, Nat.reduceSub, Nat.reduceMul, Nat.reduceLeDiff, Int.reduceNeg, Int.reduceToNat, Int.reduceLE, Int.reduceLT, Int.reduceEq, h0, f4, f5, f2, lenK_bytes]
        obtain ⟨p1, p2, p3⟩ := prds_of hrt
        repeat' (with_reducible apply And.intro)
        all_goals
          try simp (disch := omega) only [S, SL, Need_of, wrap_in, getD_map, getD_lt, Heap.set_ne, wrap_tdiv, tmod_nn, tdiv_nn, ↓reduceIte, eq_self, Nat.reduceEqDiff, Nat.reduceAdd, Nat.reduceSub, Nat.reduceMul, Nat.reduceLeDiff, Int.reduceNeg, Int.reduceToNat, Int.reduceLE, Int.reduceLT, Int.reduceEq, h0, f5, b2sK_bytes]
          refine callK.in (lend_bytes (args := [.agg [iA heads, tA t]]) (ys := [cfgA ⟨heads, ps⟩]) rfl (vw_one (vw_cfg (c := ⟨heads, ps⟩) m.open.1.at_.2.1 p2)) (impl_SaveWrite.c) fun b6 hb6 => ?_)
          have ne2 : b6 ≠ b2 := m.third.not_new hb6
          have ne5 : b6 ≠ b5 := m.not_new hb6
          simp (disch := omega) only [S, SL, Need_of, wrap_in, getD_map, getD_lt, Heap.set_ne, wrap_tdiv, tmod_nn, tdiv_nn, ↓reduceIte, eq_self, Nat.reduceEqDiff, Nat.reduceAdd, Nat.reduceSub, Nat.reduceMul, Nat.reduceLeDiff, Int.reduceNeg, Int.reduceToNat, Int.reduceLE, Int.reduceLT, Int.reduceEq, h0, b2sK_own, b2sR_row, b2sK_bytes, strB_inj]
          repeat' (with_reducible apply And.intro)
          all_goals
            refine condK_if (fun h7 => ?_) (fun h7 => ?_)
            · simp (disch := omega) only [S, SL, Need_of, wrap_in, getD_map, getD_lt, Heap.set_ne, wrap_tdiv, tmod_nn, tdiv_nn, ↓reduceIte, eq_self, Nat.reduceEqDiff, Nat.reduceAdd, Nat.reduceSub, Nat.reduceMul, Nat.reduceLeDiff, Int.reduceNeg, Int.reduceToNat, Int.reduceLE, Int.reduceLT, Int.reduceEq, f5, f2, hrt.cell.2]
              have ok : CfgOk ⟨heads, ps⟩ := by
                by_cases ok : CfgOk ⟨heads, ps⟩
                · exact ok
                · rw [saveW_nil ok] at h7; rw [← h7] at h0; exact absurd rfl h0
              refine fin.same (hQ ⟨heads, ps⟩ t _ ok h7 (fun d od hd => ?_) p1 p2 p3 (mf _ (Fr.mem (b := b2) (Fr.new (b := b6) Fr.refl hb6) (by simp))))
              obtain ⟨v1, v2, v3⟩ := hv d od hd
              obtain ⟨v4, v5, -⟩ := valid0 d od hd
              have v6 := saved_many od hd v1
              have v7 := od.len
              obtain rfl : k = d.prods.length := by omega
              rw [List.take_length] at v2
              rw [v4, v2]
            · simp (disch := omega) only [S, SL, Need_of, wrap_in, getD_map, getD_lt, Heap.set_ne, wrap_tdiv, tmod_nn, tdiv_nn, ↓reduceIte, eq_self, Nat.reduceEqDiff, Nat.reduceAdd, Nat.reduceSub, Nat.reduceMul, Nat.reduceLeDiff, Int.reduceNeg, Int.reduceToNat, Int.reduceLE, Int.reduceLT, Int.reduceEq, f5, f2]
              refine fin.of (mf _ (Fr.mem (b := b2) (Fr.new (b := b6) Fr.refl hb6) (by simp))).le (hN fun d od hd => h7 ?_)
              obtain ⟨v1, v2, v3⟩ := hv d od hd
              obtain ⟨v4, v5, -⟩ := valid0 d od hd
              have v6 := saved_many od hd v1
              have v7 := od.len
              obtain rfl : k = d.prods.length := by omega
              rw [List.take_length] at v2
              rw [v4, v2]; exact hd

end Go.Proofs.Ytedlpghakpfjjaa
