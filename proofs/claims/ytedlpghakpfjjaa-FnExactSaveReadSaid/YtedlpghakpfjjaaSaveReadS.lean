/- What the reference's SaveRead comes to: productions read from bytes. No condition. -/
import Derived.Test.YtedlpghakpfjjaaSaveRead
namespace Go.Proofs.Ytedlpghakpfjjaa
open Go Go.Ab
set_option linter.unusedVariables false
set_option linter.unusedSimpArgs false

theorem spec_l41Rd_next.m {bs : List UInt8} {b a : Nat} {ok : Bool} {h0 h : Heap} {ts : List Tree} (m : Made h0 h (.box b 59 [.imm (bytesI bs), .leaf (.int .i64 a), .leaf (.bool ok)] :: ts)) (ha : a ≤ bs.length) (hl : bs.length ≤ 4611686018427387904) {Q : AV → Heap → Prop}
    (hQ : ∀ h', Made h0 h' (.box b 59 [.imm (bytesI bs), .leaf (.int .i64 (stepAt bs a)), .leaf (.bool (ok && decide (a < bs.length)))] :: ts) → Fr h h' [b] → Q (iA (rdB bs a)) h') : CALL Try.prog spec_l41Rd_next.id [.adr b 0] h Q :=
  spec_l41Rd_next.c m.here ha hl (hQ _ (m.putFlat (by simp [blocks, Tree.at]) (Fr.refl.mem (by simp)) (Heap.set_same _ _ _)) (Fr.refl.mem (by simp)))
theorem spec_l41Rd_sym.m {bs : List UInt8} {b a : Nat} {ok : Bool} {h0 h : Heap} {ts : List Tree} (m : Made h0 h (.box b 59 [.imm (bytesI bs), .leaf (.int .i64 a), .leaf (.bool ok)] :: ts)) (ha : a ≤ bs.length) (hl : bs.length ≤ 4611686018427387904) {Q : AV → Heap → Prop}
    (hQ : ∀ h' s a' ok', Made h0 h' (.box b 59 [.imm (bytesI bs), .leaf (.int .i64 (a' : Nat)), .leaf (.bool ok')] :: ts) → a' ≤ bs.length →
      (rdB bs a = 1 → a + 1 < bs.length → s = ⟨rdB bs (a + 1), 0, 0⟩ ∧ a' = a + 2 ∧ ok' = ok) → (rdB bs a = 0 → a + 2 < bs.length → s = ⟨-1, rdB bs (a + 1), rdB bs (a + 2)⟩ ∧ a' = a + 3 ∧ ok' = ok) → Q (.agg (symA s)) h') : CALL Try.prog spec_l41Rd_sym.id [.adr b 0] h Q := by
  refine CALL_by mixed spec_l41Rd_sym.tr (Nat.le_of_ble_eq_true rfl) ?_
  simp (disch := omega) only [S, SL, Need_of, wrap_in, getD_map, getD_lt, Heap.set_ne, wrap_tdiv, tmod_nn, tdiv_nn, ↓reduceIte, eq_self, Nat.reduceEqDiff, Nat.reduceAdd, Nat.reduceSub, Nat.reduceMul, Nat.reduceLeDiff, Int.reduceNeg, Int.reduceToNat, Int.reduceLE, Int.reduceLT, Int.reduceEq, spec_l41Rd_sym.g]
  refine allocK.in fun b1 hb1 => ?_
  have m : Made h0 (h.set b1 (.row 47 [iA 0, iA 0, iA 0])) (.box b1 47 [.leaf (.int .i64 0), .leaf (.int .i64 0), .leaf (.int .i64 0)] :: _) := Made.boxE hb1 rfl m.leafI.leafI.leafI
  generalize h.set b1 _ = h1 at m ⊢
  simp (disch := omega) only [S, SL, Need_of, wrap_in, getD_map, getD_lt, Heap.set_ne, wrap_tdiv, tmod_nn, tdiv_nn, ↓reduceIte, eq_self, Nat.reduceEqDiff, Nat.reduceAdd, Nat.reduceSub, Nat.reduceMul, Nat.reduceLeDiff, Int.reduceNeg, Int.reduceToNat, Int.reduceLE, Int.reduceLT, Int.reduceEq]
  refine callK.in (spec_l41Rd_next.m m.swap ha hl fun h1 m _ => ?_)
  have l1 := stepAt_le ha
  simp (disch := omega) only [S, SL, Need_of, wrap_in, getD_map, getD_lt, Heap.set_ne, wrap_tdiv, tmod_nn, tdiv_nn, ↓reduceIte, eq_self, Nat.reduceEqDiff, Nat.reduceAdd, Nat.reduceSub, Nat.reduceMul, Nat.reduceLeDiff, Int.reduceNeg, Int.reduceToNat, Int.reduceLE, Int.reduceLT, Int.reduceEq]
  refine condK_if (fun c1 => ?_) (fun c1 => ?_)
  · simp (disch := omega) only [S, SL, Need_of, wrap_in, getD_map, getD_lt, Heap.set_ne, wrap_tdiv, tmod_nn, tdiv_nn, ↓reduceIte, eq_self, Nat.reduceEqDiff, Nat.reduceAdd, Nat.reduceSub, Nat.reduceMul, Nat.reduceLeDiff, Int.reduceNeg, Int.reduceToNat, Int.reduceLE, Int.reduceLT, Int.reduceEq]
    refine callK.in (spec_l41Rd_next.m m l1 hl fun h1 m _ => ?_)
    have l2 := stepAt_le l1
    have f1 := m.swap.here
    simp (disch := omega) only [S, SL, Need_of, wrap_in, getD_map, getD_lt, Heap.set_ne, wrap_tdiv, tmod_nn, tdiv_nn, ↓reduceIte, eq_self, Nat.reduceEqDiff, Nat.reduceAdd, Nat.reduceSub, Nat.reduceMul, Nat.reduceLeDiff, Int.reduceNeg, Int.reduceToNat, Int.reduceLE, Int.reduceLT, Int.reduceEq, f1]
    have m' := Made.putFlat (cs' := (symT ⟨rdB bs (stepAt bs a), 0, 0⟩)) (h' := h1.set b1 (.row 47 (symA ⟨rdB bs (stepAt bs a), 0, 0⟩))) m.swap symT_ok (Fr.refl.mem (by simp)) (Heap.set_same _ _ _)
    refine fin.same (hQ _ ⟨rdB bs (stepAt bs a), 0, 0⟩ _ _ m'.forget l2 (fun _ hh => ?_) (fun e => by omega))
    rw [stepAt_lt (a := a) (by omega), stepAt_lt hh]
    exact ⟨rfl, rfl, by simp [hh, show a < bs.length by omega]⟩
  · simp (disch := omega) only [S, SL, Need_of, wrap_in, getD_map, getD_lt, Heap.set_ne, wrap_tdiv, tmod_nn, tdiv_nn, ↓reduceIte, eq_self, Nat.reduceEqDiff, Nat.reduceAdd, Nat.reduceSub, Nat.reduceMul, Nat.reduceLeDiff, Int.reduceNeg, Int.reduceToNat, Int.reduceLE, Int.reduceLT, Int.reduceEq]
    refine condK_if (fun c2 => ?_) (fun c2 => ?_)
    · simp (disch := omega) only [S, SL, Need_of, wrap_in, getD_map, getD_lt, Heap.set_ne, wrap_tdiv, tmod_nn, tdiv_nn, ↓reduceIte, eq_self, Nat.reduceEqDiff, Nat.reduceAdd, Nat.reduceSub, Nat.reduceMul, Nat.reduceLeDiff, Int.reduceNeg, Int.reduceToNat, Int.reduceLE, Int.reduceLT, Int.reduceEq]
      refine callK.in (spec_l41Rd_next.m m l1 hl fun h1 m _ => ?_)
      have l2 := stepAt_le l1
      simp (disch := omega) only [S, SL, Need_of, wrap_in, getD_map, getD_lt, Heap.set_ne, wrap_tdiv, tmod_nn, tdiv_nn, ↓reduceIte, eq_self, Nat.reduceEqDiff, Nat.reduceAdd, Nat.reduceSub, Nat.reduceMul, Nat.reduceLeDiff, Int.reduceNeg, Int.reduceToNat, Int.reduceLE, Int.reduceLT, Int.reduceEq]
      refine callK.in (spec_l41Rd_next.m m l2 hl fun h1 m _ => ?_)
      have l3 := stepAt_le l2
      have f1 := m.swap.here
      simp (disch := omega) only [S, SL, Need_of, wrap_in, getD_map, getD_lt, Heap.set_ne, wrap_tdiv, tmod_nn, tdiv_nn, ↓reduceIte, eq_self, Nat.reduceEqDiff, Nat.reduceAdd, Nat.reduceSub, Nat.reduceMul, Nat.reduceLeDiff, Int.reduceNeg, Int.reduceToNat, Int.reduceLE, Int.reduceLT, Int.reduceEq, f1]
      have m' := Made.putFlat (cs' := (symT ⟨-1, rdB bs (stepAt bs a), rdB bs (stepAt bs (stepAt bs a))⟩)) (h' := h1.set b1 (.row 47 (symA ⟨-1, rdB bs (stepAt bs a), rdB bs (stepAt bs (stepAt bs a))⟩))) m.swap symT_ok (Fr.refl.mem (by simp)) (Heap.set_same _ _ _)
      refine fin.same (hQ _ ⟨-1, rdB bs (stepAt bs a), rdB bs (stepAt bs (stepAt bs a))⟩ _ _ m'.forget l3 (fun e => by omega) (fun _ hh => ?_))
      rw [stepAt_lt (a := a) (by omega), stepAt_lt (a := a + 1) (by omega), stepAt_lt hh]
      exact ⟨rfl, rfl, by simp [hh, show a < bs.length by omega, show a + 1 < bs.length by omega]⟩
    · have f4 := m.here
      simp (disch := omega) only [S, SL, Need_of, wrap_in, getD_map, getD_lt, Heap.set_ne, wrap_tdiv, tmod_nn, tdiv_nn, ↓reduceIte, eq_self, Nat.reduceEqDiff, Nat.reduceAdd, Nat.reduceSub, Nat.reduceMul, Nat.reduceLeDiff, Int.reduceNeg, Int.reduceToNat, Int.reduceLE, Int.reduceLT, Int.reduceEq, f4]
      have m := Made.putFlat (cs' := [.imm (bytesI bs), .leaf (.int .i64 (stepAt bs a)), .leaf (.bool false)]) (h' := h1.set b (.row 59 [bytesI bs, iA (stepAt bs a), bA false])) m (by simp [blocks, Tree.at]) (Fr.refl.mem (by simp)) (Heap.set_same _ _ _)
      refine callK.in (spec_l41Rd_next.m m l1 hl fun h1 m _ => ?_)
      have l2 := stepAt_le l1
      simp (disch := omega) only [S, SL, Need_of, wrap_in, getD_map, getD_lt, Heap.set_ne, wrap_tdiv, tmod_nn, tdiv_nn, ↓reduceIte, eq_self, Nat.reduceEqDiff, Nat.reduceAdd, Nat.reduceSub, Nat.reduceMul, Nat.reduceLeDiff, Int.reduceNeg, Int.reduceToNat, Int.reduceLE, Int.reduceLT, Int.reduceEq]
      refine callK.in (spec_l41Rd_next.m m l2 hl fun h1 m _ => ?_)
      have l3 := stepAt_le l2
      have f1 := m.swap.here
      simp (disch := omega) only [S, SL, Need_of, wrap_in, getD_map, getD_lt, Heap.set_ne, wrap_tdiv, tmod_nn, tdiv_nn, ↓reduceIte, eq_self, Nat.reduceEqDiff, Nat.reduceAdd, Nat.reduceSub, Nat.reduceMul, Nat.reduceLeDiff, Int.reduceNeg, Int.reduceToNat, Int.reduceLE, Int.reduceLT, Int.reduceEq, f1]
      have m' := Made.putFlat (cs' := (symT ⟨-1, rdB bs (stepAt bs a), rdB bs (stepAt bs (stepAt bs a))⟩)) (h' := h1.set b1 (.row 47 (symA ⟨-1, rdB bs (stepAt bs a), rdB bs (stepAt bs (stepAt bs a))⟩))) m.swap symT_ok (Fr.refl.mem (by simp)) (Heap.set_same _ _ _)
      exact fin.same (hQ _ ⟨-1, rdB bs (stepAt bs a), rdB bs (stepAt bs (stepAt bs a))⟩ _ _ m'.forget l3 (fun e => by omega) (fun e => by omega))
set_option maxHeartbeats 2000000 in
theorem spec_SaveRead.c {bs : List UInt8} (hl : bs.length ≤ 4611686018427387904) {h : Heap} {Q : AV → Heap → Prop}
    (hQ : ∀ c t h', CfgOk c → saveW c = bs → (∀ d, CfgOk d → saveW d = bs → d = c) → IsPrds t → tV t = .imm false (c.prods.map prdA) → count t = c.prods.length + 3 * (c.prods.map szPrd).sum → Made h h' [t] → Q (.tup [.agg [iA c.heads, tA t], bA true]) h')
    (hN : (∀ c, CfgOk c → saveW c ≠ bs) → Q (.tup [.agg [iA 0, nilA], bA false]) h) : CALL Try.prog spec_SaveRead.id [bytesI bs] h Q := by
  refine CALL_by mixed spec_SaveRead.tr (Nat.le_of_ble_eq_true rfl) ?_
  simp (disch := omega) only [S, SL, Need_of, wrap_in, getD_map, getD_lt, Heap.set_ne, wrap_tdiv, tmod_nn, tdiv_nn, ↓reduceIte, eq_self, Nat.reduceEqDiff, Nat.reduceAdd, Nat.reduceSub, Nat.reduceMul, Nat.reduceLeDiff, Int.reduceNeg, Int.reduceToNat, Int.reduceLE, Int.reduceLT, Int.reduceEq, spec_SaveRead.g]
  refine allocK.in fun b2 hb2 => ?_
  have m : Made h (h.set b2 (.row 34 [iA 0, nilA])) [.box b2 34 [.leaf (.int .i64 0), .nil]] := Made.boxE hb2 rfl Made.none.nilI.leafI
  generalize h.set b2 _ = h1 at m ⊢
  simp (disch := omega) only [S, SL, Need_of, wrap_in, getD_map, getD_lt, Heap.set_ne, wrap_tdiv, tmod_nn, tdiv_nn, ↓reduceIte, eq_self, Nat.reduceEqDiff, Nat.reduceAdd, Nat.reduceSub, Nat.reduceMul, Nat.reduceLeDiff, Int.reduceNeg, Int.reduceToNat, Int.reduceLE, Int.reduceLT, Int.reduceEq, bytes_cell]
  refine allocK.in fun b4 hb4 => ?_
  have m : Made h (h1.set b4 (.row 59 [bytesI bs, iA 0, bA true])) [.box b4 59 [.imm (bytesI bs), .leaf (.int .i64 (0 : Nat)), .leaf (.bool true)], .box b2 34 [.leaf (.int .i64 0), .nil]] := Made.boxE hb4 rfl m.leafI.leafI.immI
  generalize h1.set b4 _ = h1 at m ⊢
  simp (disch := omega) only [S, SL, Need_of, wrap_in, getD_map, getD_lt, Heap.set_ne, wrap_tdiv, tmod_nn, tdiv_nn, ↓reduceIte, eq_self, Nat.reduceEqDiff, Nat.reduceAdd, Nat.reduceSub, Nat.reduceMul, Nat.reduceLeDiff, Int.reduceNeg, Int.reduceToNat, Int.reduceLE, Int.reduceLT, Int.reduceEq]
  refine callK.in (spec_l41Rd_next.m m (Nat.zero_le _) hl fun h1 m _ => ?_)
  have l1 := stepAt_le (bs := bs) (Nat.zero_le _)
  have f4 := m.here
  simp (disch := omega) only [S, SL, Need_of, wrap_in, getD_map, getD_lt, Heap.set_ne, wrap_tdiv, tmod_nn, tdiv_nn, ↓reduceIte, eq_self, Nat.reduceEqDiff, Nat.reduceAdd, Nat.reduceSub, Nat.reduceMul, Nat.reduceLeDiff, Int.reduceNeg, Int.reduceToNat, Int.reduceLE, Int.reduceLT, Int.reduceEq, f4]
  have m : Made h (h1.set b4 (.row 59 [bytesI bs, iA (stepAt bs 0), bA (decide (rdB bs 0 = 70))])) (.box b4 59 [.imm (bytesI bs), .leaf (.int .i64 (stepAt bs 0)), .leaf (.bool (decide (rdB bs 0 = 70)))] :: _) := m.putFlat (by simp [blocks, Tree.at]) (Fr.refl.mem (by simp)) (Heap.set_same _ _ _)
  refine callK.in (spec_l41Rd_next.m m l1 hl fun h1 m _ => ?_)
  have l2 := stepAt_le l1
  have g1 := rdB_range bs (stepAt bs 0)
  simp (disch := omega) only [S, SL, Need_of, wrap_in, getD_map, getD_lt, Heap.set_ne, wrap_tdiv, tmod_nn, tdiv_nn, ↓reduceIte, eq_self, Nat.reduceEqDiff, Nat.reduceAdd, Nat.reduceSub, Nat.reduceMul, Nat.reduceLeDiff, Int.reduceNeg, Int.reduceToNat, Int.reduceLE, Int.reduceLT, Int.reduceEq]
  refine allocK.in fun b5 hb5 => ?_
  simp (disch := omega) only [S, SL, Need_of, wrap_in, getD_map, getD_lt, Heap.set_ne, wrap_tdiv, tmod_nn, tdiv_nn, ↓reduceIte, eq_self, Nat.reduceEqDiff, Nat.reduceAdd, Nat.reduceSub, Nat.reduceMul, Nat.reduceLeDiff, Int.reduceNeg, Int.reduceToNat, Int.reduceLE, Int.reduceLT, Int.reduceEq]
  have m : Made h (h1.set b5 (.row 34 [iA (rdB bs (stepAt bs 0) + 1), nilA])) (.box b5 34 [.leaf (.int .i64 (rdB bs (stepAt bs 0) + 1)), .nil] :: _) := Made.boxE hb5 rfl m.nilI.leafI
  generalize h1.set b5 _ = h1 at m ⊢
  refine callK.in (spec_l41Rd_next.m m.swap l2 hl fun h1 m _ => ?_)
  have l3 := stepAt_le l2
  have g2 := rdB_range bs (stepAt bs (stepAt bs 0))
  simp (disch := omega) only [S, SL, Need_of, wrap_in, getD_map, getD_lt, Heap.set_ne, wrap_tdiv, tmod_nn, tdiv_nn, ↓reduceIte, eq_self, Nat.reduceEqDiff, Nat.reduceAdd, Nat.reduceSub, Nat.reduceMul, Nat.reduceLeDiff, Int.reduceNeg, Int.reduceToNat, Int.reduceLE, Int.reduceLT, Int.reduceEq]
  refine callK.in (spec_l41Rd_next.m m l3 hl fun h1 m _ => ?_)
  have l4 := stepAt_le l3
  have g3 := rdB_range bs (stepAt bs (stepAt bs (stepAt bs 0)))
  simp (disch := omega) only [S, SL, Need_of, wrap_in, getD_map, getD_lt, Heap.set_ne, wrap_tdiv, tmod_nn, tdiv_nn, ↓reduceIte, eq_self, Nat.reduceEqDiff, Nat.reduceAdd, Nat.reduceSub, Nat.reduceMul, Nat.reduceLeDiff, Int.reduceNeg, Int.reduceToNat, Int.reduceLE, Int.reduceLT, Int.reduceEq]
  generalize hh : rdB bs (stepAt bs 0) + 1 = heads at m
  generalize hmn : rdB bs (stepAt bs (stepAt bs 0)) * 256 + rdB bs (stepAt bs (stepAt bs (stepAt bs 0))) = many
  generalize hok : (decide (rdB bs 0 = 70) && decide (stepAt bs 0 < bs.length) && decide (stepAt bs (stepAt bs 0) < bs.length) && decide (stepAt bs (stepAt bs (stepAt bs 0)) < bs.length)) = ok0 at m
  have valid0 : ∀ c, CfgOk c → saveW c = bs → heads = c.heads ∧ many = c.prods.length ∧ (upB c 0).length = stepAt bs (stepAt bs (stepAt bs (stepAt bs 0))) ∧ ok0 = true := fun c ok hs => by
    obtain ⟨s1, s2, s3, s4, s5, s6, s7, s8, s9⟩ := saved_head ok hs
    simp only [s1, s4, s5, s6, s7] at hh hmn hok ⊢
    refine ⟨by omega, by omega, by omega, ?_⟩
    rw [← hok]; simp; omega
  generalize stepAt bs (stepAt bs (stepAt bs (stepAt bs 0))) = a0 at m l4 valid0
  have m0 : Made h h1 [.box b5 34 [.leaf (.int .i64 heads), .nil], .box b4 59 [.imm (bytesI bs), .leaf (.int .i64 a0), .leaf (.bool ok0)], .box b2 34 [.leaf (.int .i64 0), .nil]] := m.swap
  refine CK_loop (α := Nat × Heap × List Prd × Tree × Nat × Bool) (fun x => [(0, bytesI bs), (2, .adr b2 0), (4, .adr b4 0), (5, .adr b5 0), (6, iA many), (7, iA x.1)]) (fun x => x.2.1)
    (fun x => x.1 ≤ 65536 ∧ x.2.2.1.length = x.1 ∧ RowsT 45 2 EPrd x.2.2.1 x.2.2.2.1 ∧ Made h x.2.1 [.box b5 34 [.leaf (.int .i64 heads), x.2.2.2.1], .box b4 59 [.imm (bytesI bs), .leaf (.int .i64 x.2.2.2.2.1), .leaf (.bool x.2.2.2.2.2)], .box b2 34 [.leaf (.int .i64 0), .nil]]
      ∧ x.2.2.2.2.1 ≤ bs.length ∧ (∀ c, CfgOk c → saveW c = bs → x.1 ≤ c.prods.length ∧ x.2.2.1 = c.prods.take x.1 ∧ x.2.2.2.2.1 = (upB c x.1).length ∧ x.2.2.2.2.2 = true)) (fun x => 65536 - x.1) (0, h1, [], .nil, a0, ok0) ?_ (Heap.le_refl _) ⟨by simp, rfl, RowsT.nil, m0, l4, fun c ok hs => ⟨Nat.zero_le _, rfl, (valid0 c ok hs).2.2.1.symm, (valid0 c ok hs).2.2.2⟩⟩ ?_
  · simp only [S, SL, ↓reduceIte, eq_self, Nat.reduceEqDiff, Nat.reduceAdd, Nat.reduceSub, Nat.reduceMul, Nat.reduceLeDiff, Int.reduceNeg, Int.reduceToNat, Int.reduceLE, Int.reduceLT, Int.reduceEq]
  · rintro R ⟨k, h2, ps, t, a, rok⟩ ⟨hk, hps, hrt, m, ha, hv⟩ next
    simp only at hk hps hrt m ha hv
    have f4 : h2 b4 = some (.row 59 [bytesI bs, iA a, bA rok]) := m.swap.here
    have f5 : h2 b5 = some (.row 34 [iA heads, tA t]) := m.here
    have f2 : h2 b2 = some (.row 34 [iA 0, nilA]) := m.third.here
    simp (disch := omega) only [S, SL, Need_of, wrap_in, getD_map, getD_lt, Heap.set_ne, wrap_tdiv, tmod_nn, tdiv_nn, ↓reduceIte, eq_self, Nat.reduceEqDiff, Nat.reduceAdd, Nat.reduceSub, Nat.reduceMul, Nat.reduceLeDiff, Int.reduceNeg, Int.reduceToNat, Int.reduceLE, Int.reduceLT, Int.reduceEq, spec_SaveRead.l1]
    refine gdK_if (fun c1 => ?_) (fun c1 => ?_) <;> simp (disch := omega) only [S, SL, Need_of, wrap_in, getD_map, getD_lt, Heap.set_ne, wrap_tdiv, tmod_nn, tdiv_nn, ↓reduceIte, eq_self, Nat.reduceEqDiff, Nat.reduceAdd, Nat.reduceSub, Nat.reduceMul, Nat.reduceLeDiff, Int.reduceNeg, Int.reduceToNat, Int.reduceLE, Int.reduceLT, Int.reduceEq, c1, f4, lenK_bytes]
    refine condK_bool (fun c2 => ?_) (fun c2 => ?_) <;> simp (disch := omega) only [S, SL, Need_of, wrap_in, getD_map, getD_lt, Heap.set_ne, wrap_tdiv, tmod_nn, tdiv_nn, ↓reduceIte, eq_self, Nat.reduceEqDiff, Nat.reduceAdd, Nat.reduceSub, Nat.reduceMul, Nat.reduceLeDiff, Int.reduceNeg, Int.reduceToNat, Int.reduceLE, Int.reduceLT, Int.reduceEq, c1, c2, f4, lenK_bytes]
    · refine callK.in (spec_l41Rd_next.m m.swap ha hl fun h1 m1 _ => ?_)
      have g1 := rdB_range bs a
      have l1 := stepAt_le ha
      simp (disch := omega) only [S, SL, Need_of, wrap_in, getD_map, getD_lt, Heap.set_ne, wrap_tdiv, tmod_nn, tdiv_nn, ↓reduceIte, eq_self, Nat.reduceEqDiff, Nat.reduceAdd, Nat.reduceSub, Nat.reduceMul, Nat.reduceLeDiff, Int.reduceNeg, Int.reduceToNat, Int.reduceLE, Int.reduceLT, Int.reduceEq]
      refine allocK.in fun b8 hb8 => ?_
      simp (disch := omega) only [S, SL, Need_of, wrap_in, getD_map, getD_lt, Heap.set_ne, wrap_tdiv, tmod_nn, tdiv_nn, ↓reduceIte, eq_self, Nat.reduceEqDiff, Nat.reduceAdd, Nat.reduceSub, Nat.reduceMul, Nat.reduceLeDiff, Int.reduceNeg, Int.reduceToNat, Int.reduceLE, Int.reduceLT, Int.reduceEq]
      have m1 : Made h (h1.set b8 (.row 45 [iA (rdB bs a), nilA])) (.box b8 45 [.leaf (.int .i64 (rdB bs a)), .nil] :: _) := Made.boxE hb8 rfl m1.nilI.leafI
      generalize h1.set b8 _ = h1 at m1 ⊢
      refine callK.in (spec_l41Rd_next.m m1.swap l1 hl fun h1 m1 _ => ?_)
      have g2 := rdB_range bs (stepAt bs a)
      have l2 := stepAt_le l1
      simp (disch := omega) only [S, SL, Need_of, wrap_in, getD_map, getD_lt, Heap.set_ne, wrap_tdiv, tmod_nn, tdiv_nn, ↓reduceIte, eq_self, Nat.reduceEqDiff, Nat.reduceAdd, Nat.reduceSub, Nat.reduceMul, Nat.reduceLeDiff, Int.reduceNeg, Int.reduceToNat, Int.reduceLE, Int.reduceLT, Int.reduceEq]
      generalize hhead : rdB bs a = head at m1 g1
      generalize hn0 : rdB bs (stepAt bs a) = n0 at g2
      generalize hok1 : (rok && decide (a < bs.length) && decide (stepAt bs a < bs.length)) = ok1 at m1
      generalize hat2 : stepAt bs (stepAt bs a) = a2 at m1 l2
      have valid1 : ∀ c, CfgOk c → saveW c = bs → ∃ hk : k < c.prods.length, head = c.prods[k].head ∧ n0 = c.prods[k].body.length ∧ a2 = (upB2 c k c.prods[k] 0).length ∧ ok1 = true := fun c ok hs => by
        obtain ⟨v1, v2, v3, v4⟩ := hv c ok hs
        obtain ⟨-, v5, -⟩ := valid0 c ok hs
        have hk' : k < c.prods.length := by omega
        obtain ⟨q1, q2, q3, q4⟩ := saved_two ok hs hk'
        rw [← v3] at q1 q2 q3 q4
        have z1 : a + 2 = (upB2 c k c.prods[k] 0).length := by rw [upB2_zero, v3]; simp
        have z2 := saved_many ok hs (k := k + 1) hk'
        have z3 : (upB2 c k c.prods[k] 0).length ≤ (upB c (k + 1)).length := by
          rw [upB_succ hk', upB2_zero, upB2]; simp
        rw [q2] at hn0 hat2 hok1
        refine ⟨hk', by rw [← hhead, q1], by rw [← hn0, q3], by rw [← hat2, q4], ?_⟩
        rw [← hok1, v4]; simp; omega
      refine CK_loop (α := Nat × Heap × List Sym × Tree × Nat × Bool) (fun x => [(0, bytesI bs), (2, .adr b2 0), (4, .adr b4 0), (5, .adr b5 0), (6, iA many), (7, iA k), (8, .adr b8 0), (9, iA (n0 - x.1))]) (fun x => x.2.1)
        (fun x => x.1 ≤ n0.toNat ∧ x.2.2.1.length = x.1 ∧ RowsT 47 3 (fun s ts => ts = symT s) x.2.2.1 x.2.2.2.1 ∧ Made h x.2.1 [.box b8 45 [.leaf (.int .i64 head), x.2.2.2.1], .box b4 59 [.imm (bytesI bs), .leaf (.int .i64 x.2.2.2.2.1), .leaf (.bool x.2.2.2.2.2)], .box b5 34 [.leaf (.int .i64 heads), t], .box b2 34 [.leaf (.int .i64 0), .nil]]
          ∧ x.2.2.2.2.1 ≤ bs.length ∧ (∀ c, CfgOk c → saveW c = bs → ∃ hk : k < c.prods.length, x.2.2.1 = c.prods[k].body.take x.1 ∧ x.2.2.2.2.1 = (upB2 c k c.prods[k] x.1).length ∧ x.2.2.2.2.2 = true)) (fun x => n0.toNat - x.1) (0, h1, [], .nil, a2, ok1) ?_ (Heap.le_refl _)
        ⟨Nat.zero_le _, rfl, RowsT.nil, m1.swap, l2, fun c ok hs => by obtain ⟨v1, v2, v3, v4, v5⟩ := valid1 c ok hs; exact ⟨v1, rfl, v4, v5⟩⟩ ?_
      · simp only [S, SL, ↓reduceIte, eq_self, Nat.reduceEqDiff, Nat.reduceAdd, Nat.reduceSub, Nat.reduceMul, Nat.reduceLeDiff, Int.reduceNeg, Int.reduceToNat, Int.reduceLE, Int.reduceLT, Int.reduceEq, Int.sub_zero]
      · rintro R' ⟨j, h3, body, u, a3, rok3⟩ ⟨hj, hbl, hru, m3, ha3, hv3⟩ next'
        simp only at hj hbl hru m3 ha3 hv3
        have f4 : h3 b4 = some (.row 59 [bytesI bs, iA a3, bA rok3]) := m3.swap.here
        have f5 : h3 b5 = some (.row 34 [iA heads, tA t]) := m3.third.here
        have f8 := m3.here
        simp (disch := omega) only [S, SL, Need_of, wrap_in, getD_map, getD_lt, Heap.set_ne, wrap_tdiv, tmod_nn, tdiv_nn, ↓reduceIte, eq_self, Nat.reduceEqDiff, Nat.reduceAdd, Nat.reduceSub, Nat.reduceMul, Nat.reduceLeDiff, Int.reduceNeg, Int.reduceToNat, Int.reduceLE, Int.reduceLT, Int.reduceEq, spec_SaveRead.l0]
        refine gdK_if (fun d1 => ?_) (fun d1 => ?_) <;> simp (disch := omega) only [S, SL, Need_of, wrap_in, getD_map, getD_lt, Heap.set_ne, wrap_tdiv, tmod_nn, tdiv_nn, ↓reduceIte, eq_self, Nat.reduceEqDiff, Nat.reduceAdd, Nat.reduceSub, Nat.reduceMul, Nat.reduceLeDiff, Int.reduceNeg, Int.reduceToNat, Int.reduceLE, Int.reduceLT, Int.reduceEq, d1, f4]
        refine condK_bool (fun d2 => ?_) (fun d2 => ?_) <;> simp (disch := omega) only [S, SL, Need_of, wrap_in, getD_map, getD_lt, Heap.set_ne, wrap_tdiv, tmod_nn, tdiv_nn, ↓reduceIte, eq_self, Nat.reduceEqDiff, Nat.reduceAdd, Nat.reduceSub, Nat.reduceMul, Nat.reduceLeDiff, Int.reduceNeg, Int.reduceToNat, Int.reduceLE, Int.reduceLT, Int.reduceEq, d1, d2, f4, f8]
        · repeat' (with_reducible apply And.intro)
          all_goals
            refine callK.in (spec_l41Rd_sym.m m3.swap ha3 hl fun h5 s a5 ok5 m5 l5 F1 F2 => ?_)
            have f8b := m5.swap.here
            simp (disch := omega) only [S, SL, Need_of, wrap_in, getD_map, getD_lt, Heap.set_ne, wrap_tdiv, tmod_nn, tdiv_nn, ↓reduceIte, eq_self, Nat.reduceEqDiff, Nat.reduceAdd, Nat.reduceSub, Nat.reduceMul, Nat.reduceLeDiff, Int.reduceNeg, Int.reduceToNat, Int.reduceLE, Int.reduceLT, Int.reduceEq, f8b]
            refine rowK.in fun bt hbt => ?_
            have net := m5.swap.not_new hbt
            simp (disch := omega) only [S, SL, Need_of, wrap_in, getD_map, getD_lt, Heap.set_ne, wrap_tdiv, tmod_nn, tdiv_nn, ↓reduceIte, eq_self, Nat.reduceEqDiff, Nat.reduceAdd, Nat.reduceSub, Nat.reduceMul, Nat.reduceLeDiff, Int.reduceNeg, Int.reduceToNat, Int.reduceLE, Int.reduceLT, Int.reduceEq, f8b, symA]
            have m6 := m5.swap.grow (Fr.refl.new (bs := []) (k := .row 47 (symA s)) hbt)
            refine RowsT.app1 hru m6.open.1.at_.2.1 (by omega) rfl fun bg cells sl hbg => ?_
            have neg := m5.swap.top_ne (by simp) hbg (Fr.refl.new hbt)
            simp (disch := omega) only [S, SL, Need_of, wrap_in, getD_map, getD_lt, Heap.set_ne, wrap_tdiv, tmod_nn, tdiv_nn, ↓reduceIte, eq_self, Nat.reduceEqDiff, Nat.reduceAdd, Nat.reduceSub, Nat.reduceMul, Nat.reduceLeDiff, Int.reduceNeg, Int.reduceToNat, Int.reduceLE, Int.reduceLT, Int.reduceEq, f8b]
            obtain ⟨u', e1, r', mk⟩ := RowsT.pushIn (pre := [.leaf (.int .i64 head)]) (post := []) (ts := symT s) (a := s) hru (m5.swap.flats1 symT_ok) sl rfl rfl hbg (Fr.refl.new hbt)
            refine next' (j + 1, _, body ++ [s], u', a5, ok5) _ _ ⟨by simp only; omega, by simp [hbl], r', mk _ rfl, l5, fun c ok hs => ?_⟩ (by simp only; omega) (by have e : n0 - (j : Int) - 1 = n0 - ((j + 1 : Nat) : Int) := (by omega); simp only [S, SL, ↓reduceIte, eq_self, Nat.reduceEqDiff, Nat.reduceAdd, Nat.reduceSub, Nat.reduceMul, Nat.reduceLeDiff, Int.reduceNeg, Int.reduceToNat, Int.reduceLE, Int.reduceLT, Int.reduceEq, e]) (Heap.le_refl _)
            obtain ⟨hk', v2, v3, v4⟩ := hv3 c ok hs
            obtain ⟨_, w1, w2, w3⟩ := valid1 c ok hs
            have hjl : j < c.prods[k].body.length := by omega
            rcases saved_part ok hs hk' hjl v3 with ⟨q1, q2, q3, q4, q5⟩ | ⟨q1, q2, q3, q4, q5, q6⟩
            · obtain ⟨x1, x2, x3⟩ := F1 q1 q5
              refine ⟨hk', ?_, by simp only [x2]; rw [stepAt_lt q5] at q4; exact q4, by simp only [x3, v4]⟩
              simp only
              rw [List.take_succ_eq_append_getElem hjl, ← v2, q3, x1]
            · obtain ⟨x1, x2, x3⟩ := F2 q1 q6
              refine ⟨hk', ?_, by simp only [x2]; rw [stepAt_lt q6] at q5; exact q5, by simp only [x3, v4]⟩
              simp only
              rw [List.take_succ_eq_append_getElem hjl, ← v2, q4, x1]
        all_goals
          simp (disch := omega) only [S, SL, Need_of, wrap_in, getD_map, getD_lt, Heap.set_ne, wrap_tdiv, tmod_nn, tdiv_nn, ↓reduceIte, eq_self, Nat.reduceEqDiff, Nat.reduceAdd, Nat.reduceSub, Nat.reduceMul, Nat.reduceLeDiff, Int.reduceNeg, Int.reduceToNat, Int.reduceLE, Int.reduceLT, Int.reduceEq, f5, f8, hru.cell.1]
          refine rowK.in fun bt hbt => ?_
          have net := m3.third.not_new hbt
          simp (disch := omega) only [S, SL, Need_of, wrap_in, getD_map, getD_lt, Heap.set_ne, wrap_tdiv, tmod_nn, tdiv_nn, ↓reduceIte, eq_self, Nat.reduceEqDiff, Nat.reduceAdd, Nat.reduceSub, Nat.reduceMul, Nat.reduceLeDiff, Int.reduceNeg, Int.reduceToNat, Int.reduceLE, Int.reduceLT, Int.reduceEq, f5, f8, hru.cell.1]
          have m4 := m3.third.grow (Fr.refl.new (bs := []) (k := .row 45 [iA head, tA u]) hbt)
          have hps' : ps.length ≤ 65536 := by omega
          refine RowsT.app1 hrt m4.open.1.at_.2.1 (by omega) (by simp only [List.all_cons, List.all_nil, hru.cell.2]; rfl) fun bg cells sl hbg => ?_
          have neg := m3.third.top_ne (by simp) hbg (Fr.refl.new hbt)
          simp (disch := omega) only [S, SL, Need_of, wrap_in, getD_map, getD_lt, Heap.set_ne, wrap_tdiv, tmod_nn, tdiv_nn, ↓reduceIte, eq_self, Nat.reduceEqDiff, Nat.reduceAdd, Nat.reduceSub, Nat.reduceMul, Nat.reduceLeDiff, Int.reduceNeg, Int.reduceToNat, Int.reduceLE, Int.reduceLT, Int.reduceEq, f5]
          obtain ⟨t', e1, r', mk⟩ := RowsT.pushIn (pre := [.leaf (.int .i64 heads)]) (post := []) (ts := [.leaf (.int .i64 head), u]) (a := ⟨head, body⟩) hrt m3.open.1.fourth sl ⟨u, rfl, (syms_of hru).1, (syms_of hru).2.1, (syms_of hru).2.2⟩ rfl hbg (Fr.refl.new hbt)
          refine next (k + 1, _, ps ++ [⟨head, body⟩], t', a3, rok3) _ _ ⟨by simp only; omega, by simp [hps], r', mk _ rfl, ha3, fun c ok hs => ?_⟩ (by simp only; omega) (by simp only [S, SL, ↓reduceIte, eq_self, Nat.reduceEqDiff, Nat.reduceAdd, Nat.reduceSub, Nat.reduceMul, Nat.reduceLeDiff, Int.reduceNeg, Int.reduceToNat, Int.reduceLE, Int.reduceLT, Int.reduceEq]) (Heap.le_refl _)
          obtain ⟨v1, v2, v3, v4⟩ := hv c ok hs
          obtain ⟨hk', x2, x3, x4⟩ := hv3 c ok hs
          obtain ⟨_, w1, w2, w3⟩ := valid1 c ok hs
          have hj' : j = c.prods[k].body.length := by first | omega | (rw [x4] at d2; cases d2)
          refine ⟨hk', ?_, by simp only [x3, hj', upB_succ hk'], x4⟩
          simp only
          rw [List.take_succ_eq_append_getElem hk', ← v2, x2, hj', List.take_length, w1]
    all_goals
      have mf : ∀ hx, Fr h2 hx [b2] → Made h hx [t] := fun hx hf => by
        have m2 := Made.upd (ts := [_]) (ts' := []) m.third trivial List.nodup_nil (by simp [blocksL]) (by simpa [blocksL, blocks] using hf)
        exact (m2.open.1.tail).swap.forget
      have same : ∀ d, CfgOk d → saveW d = bs → rok = true ∧ d = ⟨heads, ps⟩ := fun d od hd => by
        obtain ⟨v1, v2, v3, v3'⟩ := hv d od hd
        obtain ⟨v4, v5, -⟩ := valid0 d od hd
        obtain rfl : k = d.prods.length := by first | omega | (rw [v3'] at c2; cases c2)
        rw [List.take_length] at v2
        exact ⟨v3', by rw [v4, v2]⟩
      obtain ⟨p1, p2, p3⟩ := prds_of hrt
    · simp (disch := omega) only [S, SL, Need_of, wrap_in, getD_map, getD_lt, Heap.set_ne, wrap_tdiv, tmod_nn, tdiv_nn, ↓reduceIte, eq_self, Nat.reduceEqDiff, Nat.reduceAdd, Nat.reduceSub, Nat.reduceMul, Nat.reduceLeDiff, Int.reduceNeg, Int.reduceToNat, Int.reduceLE, Int.reduceLT, Int.reduceEq, f2]
      repeat' (with_reducible apply And.intro)
      all_goals exact fin.of (mf _ (Fr.refl.mem (by simp))).le (hN fun d od hd => by have := (same d od hd).1; rw [c2] at this; cases this)
    · refine gdK_bool (fun c2 => ?_) (fun c2 => ?_)
      · simp (disch := omega) only [S, SL, Need_of, wrap_in, getD_map, getD_lt, Heap.set_ne, wrap_tdiv, tmod_nn, tdiv_nn, ↓reduceIte, eq_self, Nat.reduceEqDiff, Nat.reduceAdd, Nat.reduceSub, Nat.reduceMul, Nat.reduceLeDiff, Int.reduceNeg, Int.reduceToNat, Int.reduceLE, Int.reduceLT, Int.reduceEq, c2, f5, b2sK_bytes]
        repeat' (with_reducible apply And.intro)
        all_goals
          try simp (disch := omega) only [S, SL, Need_of, wrap_in, getD_map, getD_lt, Heap.set_ne, wrap_tdiv, tmod_nn, tdiv_nn, ↓reduceIte, eq_self, Nat.reduceEqDiff, Nat.reduceAdd, Nat.reduceSub, Nat.reduceMul, Nat.reduceLeDiff, Int.reduceNeg, Int.reduceToNat, Int.reduceLE, Int.reduceLT, Int.reduceEq, c2, f5, b2sK_bytes]
          refine callK.in (lend_bytes (args := [.agg [iA heads, tA t]]) (ys := [cfgA ⟨heads, ps⟩]) rfl (vw_one (vw_cfg (c := ⟨heads, ps⟩) m.open.1.at_.2.1 p2)) (spec_SaveWrite.c) fun b6 hb6 => ?_)
          have ne2 : b6 ≠ b2 := m.third.not_new hb6
          have ne5 : b6 ≠ b5 := m.not_new hb6
          simp (disch := omega) only [S, SL, Need_of, wrap_in, getD_map, getD_lt, Heap.set_ne, wrap_tdiv, tmod_nn, tdiv_nn, ↓reduceIte, eq_self, Nat.reduceEqDiff, Nat.reduceAdd, Nat.reduceSub, Nat.reduceMul, Nat.reduceLeDiff, Int.reduceNeg, Int.reduceToNat, Int.reduceLE, Int.reduceLT, Int.reduceEq, c2, b2sK_own, b2sR_row, b2sK_bytes, strB_inj]
          repeat' (with_reducible apply And.intro)
          all_goals
            refine gdK_if (fun h7 => ?_) (fun h7 => ?_)
            · simp (disch := omega) only [S, SL, Need_of, wrap_in, getD_map, getD_lt, Heap.set_ne, wrap_tdiv, tmod_nn, tdiv_nn, ↓reduceIte, eq_self, Nat.reduceEqDiff, Nat.reduceAdd, Nat.reduceSub, Nat.reduceMul, Nat.reduceLeDiff, Int.reduceNeg, Int.reduceToNat, Int.reduceLE, Int.reduceLT, Int.reduceEq, c2, h7, lenK_bytes, f5, f2]
              refine condK_if (fun h0 => ?_) (fun h0 => ?_) <;> simp (disch := omega) only [S, SL, Need_of, wrap_in, getD_map, getD_lt, Heap.set_ne, wrap_tdiv, tmod_nn, tdiv_nn, ↓reduceIte, eq_self, Nat.reduceEqDiff, Nat.reduceAdd, Nat.reduceSub, Nat.reduceMul, Nat.reduceLeDiff, Int.reduceNeg, Int.reduceToNat, Int.reduceLE, Int.reduceLT, Int.reduceEq, c2, h7, lenK_bytes, f5, f2, hrt.cell.2]
              · refine fin.of (mf _ (Fr.mem (b := b2) (Fr.new (b := b6) Fr.refl hb6) (by simp))).le (hN fun d od hd => ?_)
                have := saved_head od hd; omega
              · have ok : CfgOk ⟨heads, ps⟩ := by
                  by_cases ok : CfgOk ⟨heads, ps⟩
                  · exact ok
                  · rw [saveW_nil ok] at h7; rw [← h7] at h0; exact absurd rfl h0
                exact fin.same (hQ ⟨heads, ps⟩ t _ ok h7 (fun d od hd => (same d od hd).2) p1 p2 p3 (mf _ (Fr.mem (b := b2) (Fr.new (b := b6) Fr.refl hb6) (by simp))))
            · simp (disch := omega) only [S, SL, Need_of, wrap_in, getD_map, getD_lt, Heap.set_ne, wrap_tdiv, tmod_nn, tdiv_nn, ↓reduceIte, eq_self, Nat.reduceEqDiff, Nat.reduceAdd, Nat.reduceSub, Nat.reduceMul, Nat.reduceLeDiff, Int.reduceNeg, Int.reduceToNat, Int.reduceLE, Int.reduceLT, Int.reduceEq, c2, h7, lenK_bytes, f5, f2]
              refine fin.of (mf _ (Fr.mem (b := b2) (Fr.new (b := b6) Fr.refl hb6) (by simp))).le (hN fun d od hd => h7 ?_)
              rw [← (same d od hd).2]; exact hd
      · simp (disch := omega) only [S, SL, Need_of, wrap_in, getD_map, getD_lt, Heap.set_ne, wrap_tdiv, tmod_nn, tdiv_nn, ↓reduceIte, eq_self, Nat.reduceEqDiff, Nat.reduceAdd, Nat.reduceSub, Nat.reduceMul, Nat.reduceLeDiff, Int.reduceNeg, Int.reduceToNat, Int.reduceLE, Int.reduceLT, Int.reduceEq, c2, f2]
        repeat' (with_reducible apply And.intro)
        all_goals exact fin.of (mf _ (Fr.refl.mem (by simp))).le (hN fun d od hd => by have := (same d od hd).1; rw [c2] at this; cases this)
end Go.Proofs.Ytedlpghakpfjjaa
