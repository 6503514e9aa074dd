/- What the two functions CfgOk come to: whether productions are in form. No condition. -/
import Derived.Test.YtabbipdkbdojiaaCodeA
import Derived.Test.YtabbipdkbdojiaaData
namespace Go.Proofs.Ytabbipdkbdojiaa
open Go Go.Ab
set_option linter.unusedVariables false
set_option linter.unusedSimpArgs false


theorem impl_within.c {x lo hi : Int} {h : Heap} {Q : AV → Heap → Prop} (hQ : Q (bA (decide (lo ≤ x ∧ x ≤ hi))) h) : CALL Try.prog impl_within.id [iA x, iA lo, iA hi] h Q := by
  refine CALL_by mixed impl_within.tr (Nat.le_of_ble_eq_true rfl) ?_
  simp only [S, SL, ↓reduceIte, eq_self, Nat.reduceEqDiff, Nat.reduceAdd, Nat.reduceSub, Nat.reduceMul, Nat.reduceLeDiff, Int.reduceNeg, Int.reduceToNat, Int.reduceLE, Int.reduceLT, Int.reduceEq, impl_within.g]
  repeat' ((first | refine gdK_if ?_ ?_ | refine condK_if ?_ ?_ | refine gdK_bool ?_ ?_ | refine condK_bool ?_ ?_) <;> intro hc <;> simp only [S, SL, ↓reduceIte, eq_self, Nat.reduceEqDiff, Nat.reduceAdd, Nat.reduceSub, Nat.reduceMul, Nat.reduceLeDiff, Int.reduceNeg, Int.reduceToNat, Int.reduceLE, Int.reduceLT, Int.reduceEq, hc])
  · simp only [hc, true_and] at hQ; exact fin.same hQ
  · simp only [hc, false_and, dec_false] at hQ; exact fin.same hQ
theorem spec_l6In.c {x lo hi : Int} {h : Heap} {Q : AV → Heap → Prop} (hQ : Q (bA (decide (lo ≤ x ∧ x ≤ hi))) h) : CALL Try.prog spec_l6In.id [iA x, iA lo, iA hi] h Q := by
  refine CALL_by mixed spec_l6In.tr (Nat.le_of_ble_eq_true rfl) ?_
  simp only [S, SL, ↓reduceIte, eq_self, Nat.reduceEqDiff, Nat.reduceAdd, Nat.reduceSub, Nat.reduceMul, Nat.reduceLeDiff, Int.reduceNeg, Int.reduceToNat, Int.reduceLE, Int.reduceLT, Int.reduceEq, spec_l6In.g]
  repeat' ((first | refine gdK_if ?_ ?_ | refine condK_if ?_ ?_ | refine gdK_bool ?_ ?_ | refine condK_bool ?_ ?_) <;> intro hc <;> simp only [S, SL, ↓reduceIte, eq_self, Nat.reduceEqDiff, Nat.reduceAdd, Nat.reduceSub, Nat.reduceMul, Nat.reduceLeDiff, Int.reduceNeg, Int.reduceToNat, Int.reduceLE, Int.reduceLT, Int.reduceEq, hc])
  · simp only [hc, true_and] at hQ; exact fin.same hQ
  · simp only [hc, false_and, dec_false] at hQ; exact fin.same hQ

theorem impl_CfgOk.c {c : Cfg} {h : Heap} {Q : AV → Heap → Prop} (hQ : Q (bA (decide (CfgOk c))) h) : CALL Try.prog impl_CfgOk.id [cfgA c] h Q := by
  refine CALL_by mixed impl_CfgOk.tr (Nat.le_of_ble_eq_true rfl) ?_
  simp only [S, SL, ↓reduceIte, eq_self, Nat.reduceEqDiff, Nat.reduceAdd, Nat.reduceSub, Nat.reduceMul, Nat.reduceLeDiff, Int.reduceNeg, Int.reduceToNat, Int.reduceLE, Int.reduceLT, Int.reduceEq, impl_CfgOk.g, cfgA, cfgL]
  refine allocK.in fun b1 hb1 => ?_
  simp only [S, SL, ↓reduceIte, eq_self, Nat.reduceEqDiff, Nat.reduceAdd, Nat.reduceSub, Nat.reduceMul, Nat.reduceLeDiff, Int.reduceNeg, Int.reduceToNat, Int.reduceLE, Int.reduceLT, Int.reduceEq]
  refine callK.in (impl_within.c ?_)
  simp only [S, SL, ↓reduceIte, eq_self, Nat.reduceEqDiff, Nat.reduceAdd, Nat.reduceSub, Nat.reduceMul, Nat.reduceLeDiff, Int.reduceNeg, Int.reduceToNat, Int.reduceLE, Int.reduceLT, Int.reduceEq]
  repeat' ((first | refine gdK_if ?_ ?_ | refine condK_if ?_ ?_ | refine gdK_bool ?_ ?_ | refine condK_bool ?_ ?_) <;> intro hc <;> simp only [S, SL, ↓reduceIte, eq_self, Nat.reduceEqDiff, Nat.reduceAdd, Nat.reduceSub, Nat.reduceMul, Nat.reduceLeDiff, Int.reduceNeg, Int.reduceToNat, Int.reduceLE, Int.reduceLT, Int.reduceEq, hc])
  · exact fin.of (Heap.le_new hb1) (Q_no hQ fun ok => by have := ok.len; omega)
  · rename_i hc1
    refine CK_loop (α := Nat) (fun k => [(1, .adr b1 0), (20, .imm false (c.prods.map prdA)), (21, iA c.prods.length), (22, iA k)]) (fun _ => h.set b1 (.row 33 (cfgL c)))
      (fun k => k ≤ c.prods.length ∧ ∀ j (hj : j < c.prods.length), j < k → PrdOk c j hj) (fun k => c.prods.length - k) 0 ?_ (Heap.le_refl _) ⟨by omega, fun j hj h => by omega⟩ ?_
    · simp only [S, SL, ↓reduceIte, eq_self, Nat.reduceEqDiff, Nat.reduceAdd, Nat.reduceSub, Nat.reduceMul, Nat.reduceLeDiff, Int.reduceNeg, Int.reduceToNat, Int.reduceLE, Int.reduceLT, Int.reduceEq]
    · rintro R k ⟨hk, hpre⟩ next
      simp (disch := omega) only [S, SL, Need_of, wrap_in, getD_map, getD_lt, Heap.set_ne, wrap_tdiv, tmod_nn, tdiv_nn, ↓reduceIte, eq_self, Nat.reduceEqDiff, Nat.reduceAdd, Nat.reduceSub, Nat.reduceMul, Nat.reduceLeDiff, Int.reduceNeg, Int.reduceToNat, Int.reduceLE, Int.reduceLT, Int.reduceEq, impl_CfgOk.l1]
      refine condK_if (fun h2 => ?_) (fun h2 => ?_)
      · simp (disch := omega) only [S, SL, Need_of, wrap_in, getD_map, getD_lt, Heap.set_ne, wrap_tdiv, tmod_nn, tdiv_nn, ↓reduceIte, eq_self, Nat.reduceEqDiff, Nat.reduceAdd, Nat.reduceSub, Nat.reduceMul, Nat.reduceLeDiff, Int.reduceNeg, Int.reduceToNat, Int.reduceLE, Int.reduceLT, Int.reduceEq, prdA]
        refine allocK.in fun b4 hb4 => ?_
        have ne4 := Heap.new_ne hb4
        simp (disch := omega) only [S, SL, Need_of, wrap_in, getD_map, getD_lt, Heap.set_ne, wrap_tdiv, tmod_nn, tdiv_nn, ↓reduceIte, eq_self, Nat.reduceEqDiff, Nat.reduceAdd, Nat.reduceSub, Nat.reduceMul, Nat.reduceLeDiff, Int.reduceNeg, Int.reduceToNat, Int.reduceLE, Int.reduceLT, Int.reduceEq, cfgL]
        refine callK.in (impl_within.c ?_)
        simp (disch := omega) only [S, SL, Need_of, wrap_in, getD_map, getD_lt, Heap.set_ne, wrap_tdiv, tmod_nn, tdiv_nn, ↓reduceIte, eq_self, Nat.reduceEqDiff, Nat.reduceAdd, Nat.reduceSub, Nat.reduceMul, Nat.reduceLeDiff, Int.reduceNeg, Int.reduceToNat, Int.reduceLE, Int.reduceLT, Int.reduceEq]
        repeat' ((first | refine gdK_if ?_ ?_ | refine condK_if ?_ ?_ | refine gdK_bool ?_ ?_ | refine condK_bool ?_ ?_) <;> intro hc <;> simp (disch := omega) only [S, SL, Need_of, wrap_in, getD_map, getD_lt, Heap.set_ne, wrap_tdiv, tmod_nn, tdiv_nn, ↓reduceIte, eq_self, Nat.reduceEqDiff, Nat.reduceAdd, Nat.reduceSub, Nat.reduceMul, Nat.reduceLeDiff, Int.reduceNeg, Int.reduceToNat, Int.reduceLE, Int.reduceLT, Int.reduceEq, hc, cfgL, prdA])
        all_goals first
          | exact fin.of (Heap.le_trans (Heap.le_new hb1) (Heap.le_new hb4)) (Q_no hQ fun ok => by have p := ok.prods k (by omega); have p1 := p.head; have p2 := p.step; have p3 := p.len; omega)
          | skip
        all_goals
          refine CK_loop (α := Nat) (fun j => [(1, .adr b1 0), (20, .imm false (c.prods.map prdA)), (21, iA c.prods.length), (22, iA k), (57, .imm false (c.prods[k].body.map symA)), (58, iA c.prods[k].body.length), (59, iA j)]) (fun _ => h.set b1 (.row 33 (cfgL c)))
            (fun j => j ≤ c.prods[k].body.length ∧ ∀ i (hi : i < c.prods[k].body.length), i < j → SymOk c.heads c.prods[k].body[i]) (fun j => c.prods[k].body.length - j) 0 ?_ (Heap.le_new hb4) ⟨by omega, fun i hi h => by omega⟩ ?_
          · simp only [S, SL, ↓reduceIte, eq_self, Nat.reduceEqDiff, Nat.reduceAdd, Nat.reduceSub, Nat.reduceMul, Nat.reduceLeDiff, Int.reduceNeg, Int.reduceToNat, Int.reduceLE, Int.reduceLT, Int.reduceEq]
          · rintro R' j ⟨hj, hsym⟩ next'
            simp (disch := omega) only [S, SL, Need_of, wrap_in, getD_map, getD_lt, Heap.set_ne, wrap_tdiv, tmod_nn, tdiv_nn, ↓reduceIte, eq_self, Nat.reduceEqDiff, Nat.reduceAdd, Nat.reduceSub, Nat.reduceMul, Nat.reduceLeDiff, Int.reduceNeg, Int.reduceToNat, Int.reduceLE, Int.reduceLT, Int.reduceEq, impl_CfgOk.l0, cfgL]
            refine condK_if (fun h3 => ?_) (fun h3 => ?_)
            · simp (disch := omega) only [S, SL, Need_of, wrap_in, getD_map, getD_lt, Heap.set_ne, wrap_tdiv, tmod_nn, tdiv_nn, ↓reduceIte, eq_self, Nat.reduceEqDiff, Nat.reduceAdd, Nat.reduceSub, Nat.reduceMul, Nat.reduceLeDiff, Int.reduceNeg, Int.reduceToNat, Int.reduceLE, Int.reduceLT, Int.reduceEq, symA]
              refine allocK.in fun b6 hb6 => ?_
              have ne6 := Heap.new_ne hb6
              simp (disch := omega) only [S, SL, Need_of, wrap_in, getD_map, getD_lt, Heap.set_ne, wrap_tdiv, tmod_nn, tdiv_nn, ↓reduceIte, eq_self, Nat.reduceEqDiff, Nat.reduceAdd, Nat.reduceSub, Nat.reduceMul, Nat.reduceLeDiff, Int.reduceNeg, Int.reduceToNat, Int.reduceLE, Int.reduceLT, Int.reduceEq, cfgL]
              refine callK.in (impl_within.c ?_)
              simp (disch := omega) only [S, SL, Need_of, wrap_in, getD_map, getD_lt, Heap.set_ne, wrap_tdiv, tmod_nn, tdiv_nn, ↓reduceIte, eq_self, Nat.reduceEqDiff, Nat.reduceAdd, Nat.reduceSub, Nat.reduceMul, Nat.reduceLeDiff, Int.reduceNeg, Int.reduceToNat, Int.reduceLE, Int.reduceLT, Int.reduceEq]
              repeat' ((first | refine gdK_if ?_ ?_ | refine condK_if ?_ ?_ | refine gdK_bool ?_ ?_ | refine condK_bool ?_ ?_) <;> intro hc <;> simp (disch := omega) only [S, SL, Need_of, wrap_in, getD_map, getD_lt, Heap.set_ne, wrap_tdiv, tmod_nn, tdiv_nn, ↓reduceIte, eq_self, Nat.reduceEqDiff, Nat.reduceAdd, Nat.reduceSub, Nat.reduceMul, Nat.reduceLeDiff, Int.reduceNeg, Int.reduceToNat, Int.reduceLE, Int.reduceLT, Int.reduceEq, hc])
              all_goals first
                | refine fin.of (Heap.le_trans (Heap.le_new hb1) (Heap.le_new hb6)) (Q_no hQ fun ok => ?_)
                  have p := (ok.prods k (by omega)).body j (by omega)
                  unfold SymOk at p
                  omega
                | refine next' (j + 1) _ _ ⟨by omega, fun i hi hij => ?_⟩ (by omega) (by simp only [S, SL, ↓reduceIte, eq_self, Nat.reduceEqDiff, Nat.reduceAdd, Nat.reduceSub, Nat.reduceMul, Nat.reduceLeDiff, Int.reduceNeg, Int.reduceToNat, Int.reduceLE, Int.reduceLT, Int.reduceEq]) (Heap.le_new hb6)
                  by_cases hij' : i < j
                  · exact hsym i hi hij'
                  · obtain rfl : i = j := by omega
                    unfold SymOk
                    omega
            · simp (disch := omega) only [S, SL, Need_of, wrap_in, getD_map, getD_lt, Heap.set_ne, wrap_tdiv, tmod_nn, tdiv_nn, ↓reduceIte, eq_self, Nat.reduceEqDiff, Nat.reduceAdd, Nat.reduceSub, Nat.reduceMul, Nat.reduceLeDiff, Int.reduceNeg, Int.reduceToNat, Int.reduceLE, Int.reduceLT, Int.reduceEq]
              refine next (k + 1) _ _ ⟨by omega, fun j hj hjk => ?_⟩ (by omega) (by simp only [S, SL, ↓reduceIte, eq_self, Nat.reduceEqDiff, Nat.reduceAdd, Nat.reduceSub, Nat.reduceMul, Nat.reduceLeDiff, Int.reduceNeg, Int.reduceToNat, Int.reduceLE, Int.reduceLT, Int.reduceEq]) (Heap.le_refl _)
              by_cases hjk' : j < k
              · exact hpre j hj hjk'
              · obtain rfl : j = k := by omega
                exact ⟨by assumption, fun h => by omega, by omega, fun i hi => hsym i hi (by omega)⟩
      · simp (disch := omega) only [S, SL, Need_of, wrap_in, getD_map, getD_lt, Heap.set_ne, wrap_tdiv, tmod_nn, tdiv_nn, ↓reduceIte, eq_self, Nat.reduceEqDiff, Nat.reduceAdd, Nat.reduceSub, Nat.reduceMul, Nat.reduceLeDiff, Int.reduceNeg, Int.reduceToNat, Int.reduceLE, Int.reduceLT, Int.reduceEq]
        exact fin.of (Heap.le_new hb1) (Q_yes hQ ⟨hc1, by omega, fun j hj => hpre j hj (by omega)⟩)
  · exact fin.of (Heap.le_new hb1) (Q_no hQ fun ok => hc ok.heads)

theorem spec_l3Sym.c {c : Cfg} {s : Sym} {h : Heap} {Q : AV → Heap → Prop} (hc1 : 1 ≤ c.heads ∧ c.heads ≤ 200) (hQ : Q (bA (decide (SymOk c.heads s))) h) : CALL Try.prog spec_l3Sym.id [cfgA c, .agg (symA s)] h Q := by
  refine CALL_by mixed spec_l3Sym.tr (Nat.le_of_ble_eq_true rfl) ?_
  simp only [S, SL, ↓reduceIte, eq_self, Nat.reduceEqDiff, Nat.reduceAdd, Nat.reduceSub, Nat.reduceMul, Nat.reduceLeDiff, Int.reduceNeg, Int.reduceToNat, Int.reduceLE, Int.reduceLT, Int.reduceEq, spec_l3Sym.g, cfgA, cfgL, symA]
  refine allocK.in fun b1 hb1 => ?_
  simp (disch := omega) only [S, SL, Need_of, wrap_in, getD_map, getD_lt, Heap.set_ne, wrap_tdiv, tmod_nn, tdiv_nn, ↓reduceIte, eq_self, Nat.reduceEqDiff, Nat.reduceAdd, Nat.reduceSub, Nat.reduceMul, Nat.reduceLeDiff, Int.reduceNeg, Int.reduceToNat, Int.reduceLE, Int.reduceLT, Int.reduceEq]
  refine allocK.in fun b2 hb2 => ?_
  have ne2 := Heap.new_ne hb2
  simp (disch := omega) only [S, SL, Need_of, wrap_in, getD_map, getD_lt, Heap.set_ne, wrap_tdiv, tmod_nn, tdiv_nn, ↓reduceIte, eq_self, Nat.reduceEqDiff, Nat.reduceAdd, Nat.reduceSub, Nat.reduceMul, Nat.reduceLeDiff, Int.reduceNeg, Int.reduceToNat, Int.reduceLE, Int.reduceLT, Int.reduceEq]
  refine condK_if (fun h3 => ?_) (fun h3 => ?_)
  · simp (disch := omega) only [S, SL, Need_of, wrap_in, getD_map, getD_lt, Heap.set_ne, wrap_tdiv, tmod_nn, tdiv_nn, ↓reduceIte, eq_self, Nat.reduceEqDiff, Nat.reduceAdd, Nat.reduceSub, Nat.reduceMul, Nat.reduceLeDiff, Int.reduceNeg, Int.reduceToNat, Int.reduceLE, Int.reduceLT, Int.reduceEq]
    refine callK.in (spec_l6In.c ?_)
    simp (disch := omega) only [S, SL, Need_of, wrap_in, getD_map, getD_lt, Heap.set_ne, wrap_tdiv, tmod_nn, tdiv_nn, ↓reduceIte, eq_self, Nat.reduceEqDiff, Nat.reduceAdd, Nat.reduceSub, Nat.reduceMul, Nat.reduceLeDiff, Int.reduceNeg, Int.reduceToNat, Int.reduceLE, Int.reduceLT, Int.reduceEq]
    refine gdK_if (fun h4 => ?_) (fun h4 => ?_)
    · simp (disch := omega) only [S, SL, Need_of, wrap_in, getD_map, getD_lt, Heap.set_ne, wrap_tdiv, tmod_nn, tdiv_nn, ↓reduceIte, eq_self, Nat.reduceEqDiff, Nat.reduceAdd, Nat.reduceSub, Nat.reduceMul, Nat.reduceLeDiff, Int.reduceNeg, Int.reduceToNat, Int.reduceLE, Int.reduceLT, Int.reduceEq, h4]
      refine callK.in (spec_l6In.c ?_)
      simp (disch := omega) only [S, SL, Need_of, wrap_in, getD_map, getD_lt, Heap.set_ne, wrap_tdiv, tmod_nn, tdiv_nn, ↓reduceIte, eq_self, Nat.reduceEqDiff, Nat.reduceAdd, Nat.reduceSub, Nat.reduceMul, Nat.reduceLeDiff, Int.reduceNeg, Int.reduceToNat, Int.reduceLE, Int.reduceLT, Int.reduceEq, h4]
      refine fin.of (Heap.le_trans (Heap.le_new hb1) (Heap.le_new hb2)) ?_
      by_cases h5 : s.low ≤ s.high ∧ s.high ≤ 255
      · rw [decide_eq_true h5]; exact Q_yes hQ (by unfold SymOk; omega)
      · rw [decide_eq_false h5]; exact Q_no hQ (by unfold SymOk; omega)
    · simp (disch := omega) only [S, SL, Need_of, wrap_in, getD_map, getD_lt, Heap.set_ne, wrap_tdiv, tmod_nn, tdiv_nn, ↓reduceIte, eq_self, Nat.reduceEqDiff, Nat.reduceAdd, Nat.reduceSub, Nat.reduceMul, Nat.reduceLeDiff, Int.reduceNeg, Int.reduceToNat, Int.reduceLE, Int.reduceLT, Int.reduceEq, h4]
      exact fin.of (Heap.le_trans (Heap.le_new hb1) (Heap.le_new hb2)) (Q_no hQ (by unfold SymOk; omega))
  · simp (disch := omega) only [S, SL, Need_of, wrap_in, getD_map, getD_lt, Heap.set_ne, wrap_tdiv, tmod_nn, tdiv_nn, ↓reduceIte, eq_self, Nat.reduceEqDiff, Nat.reduceAdd, Nat.reduceSub, Nat.reduceMul, Nat.reduceLeDiff, Int.reduceNeg, Int.reduceToNat, Int.reduceLE, Int.reduceLT, Int.reduceEq]
    refine callK.in (spec_l6In.c ?_)
    simp (disch := omega) only [S, SL, Need_of, wrap_in, getD_map, getD_lt, Heap.set_ne, wrap_tdiv, tmod_nn, tdiv_nn, ↓reduceIte, eq_self, Nat.reduceEqDiff, Nat.reduceAdd, Nat.reduceSub, Nat.reduceMul, Nat.reduceLeDiff, Int.reduceNeg, Int.reduceToNat, Int.reduceLE, Int.reduceLT, Int.reduceEq]
    repeat' ((first | refine gdK_if ?_ ?_ | refine condK_if ?_ ?_ | refine gdK_bool ?_ ?_ | refine condK_bool ?_ ?_) <;> intro hc <;> simp (disch := omega) only [S, SL, Need_of, wrap_in, getD_map, getD_lt, Heap.set_ne, wrap_tdiv, tmod_nn, tdiv_nn, ↓reduceIte, eq_self, Nat.reduceEqDiff, Nat.reduceAdd, Nat.reduceSub, Nat.reduceMul, Nat.reduceLeDiff, Int.reduceNeg, Int.reduceToNat, Int.reduceLE, Int.reduceLT, Int.reduceEq, hc])
    · refine fin.of (Heap.le_trans (Heap.le_new hb1) (Heap.le_new hb2)) ?_
      by_cases h5 : s.high = 0
      · rw [decide_eq_true h5]; exact Q_yes hQ (by unfold SymOk; omega)
      · rw [decide_eq_false h5]; exact Q_no hQ (by unfold SymOk; omega)
    all_goals exact fin.of (Heap.le_trans (Heap.le_new hb1) (Heap.le_new hb2)) (Q_no hQ (by unfold SymOk; omega))

theorem spec_CfgOk.c {c : Cfg} {h : Heap} {Q : AV → Heap → Prop} (hQ : Q (bA (decide (CfgOk c))) h) : CALL Try.prog spec_CfgOk.id [cfgA c] h Q := by
  refine CALL_by mixed spec_CfgOk.tr (Nat.le_of_ble_eq_true rfl) ?_
  simp only [S, SL, ↓reduceIte, eq_self, Nat.reduceEqDiff, Nat.reduceAdd, Nat.reduceSub, Nat.reduceMul, Nat.reduceLeDiff, Int.reduceNeg, Int.reduceToNat, Int.reduceLE, Int.reduceLT, Int.reduceEq, spec_CfgOk.g, cfgA, cfgL]
  refine allocK.in fun b1 hb1 => ?_
  simp only [S, SL, ↓reduceIte, eq_self, Nat.reduceEqDiff, Nat.reduceAdd, Nat.reduceSub, Nat.reduceMul, Nat.reduceLeDiff, Int.reduceNeg, Int.reduceToNat, Int.reduceLE, Int.reduceLT, Int.reduceEq]
  refine callK.in (spec_l6In.c ?_)
  simp only [S, SL, ↓reduceIte, eq_self, Nat.reduceEqDiff, Nat.reduceAdd, Nat.reduceSub, Nat.reduceMul, Nat.reduceLeDiff, Int.reduceNeg, Int.reduceToNat, Int.reduceLE, Int.reduceLT, Int.reduceEq]
  repeat' ((first | refine gdK_if ?_ ?_ | refine condK_if ?_ ?_ | refine gdK_bool ?_ ?_ | refine condK_bool ?_ ?_) <;> intro hc <;> simp only [S, SL, ↓reduceIte, eq_self, Nat.reduceEqDiff, Nat.reduceAdd, Nat.reduceSub, Nat.reduceMul, Nat.reduceLeDiff, Int.reduceNeg, Int.reduceToNat, Int.reduceLE, Int.reduceLT, Int.reduceEq, hc])
  · exact fin.of (Heap.le_new hb1) (Q_no hQ fun ok => by have := ok.len; omega)
  · rename_i hc1
    refine CK_loop (α := Nat) (fun k => [(1, .adr b1 0), (3, iA k)]) (fun _ => h.set b1 (.row 33 (cfgL c)))
      (fun k => k ≤ c.prods.length ∧ ∀ j (hj : j < c.prods.length), j < k → PrdOk c j hj) (fun k => c.prods.length - k) 0 ?_ (Heap.le_refl _) ⟨by omega, fun j hj h => by omega⟩ ?_
    · simp only [S, SL, ↓reduceIte, eq_self, Nat.reduceEqDiff, Nat.reduceAdd, Nat.reduceSub, Nat.reduceMul, Nat.reduceLeDiff, Int.reduceNeg, Int.reduceToNat, Int.reduceLE, Int.reduceLT, Int.reduceEq]
    · rintro R k ⟨hk, hpre⟩ next
      simp (disch := omega) only [S, SL, Need_of, wrap_in, getD_map, getD_lt, Heap.set_ne, wrap_tdiv, tmod_nn, tdiv_nn, ↓reduceIte, eq_self, Nat.reduceEqDiff, Nat.reduceAdd, Nat.reduceSub, Nat.reduceMul, Nat.reduceLeDiff, Int.reduceNeg, Int.reduceToNat, Int.reduceLE, Int.reduceLT, Int.reduceEq, spec_CfgOk.l1, cfgL]
      refine condK_if (fun h2 => ?_) (fun h2 => ?_)
      · simp (disch := omega) only [S, SL, Need_of, wrap_in, getD_map, getD_lt, Heap.set_ne, wrap_tdiv, tmod_nn, tdiv_nn, ↓reduceIte, eq_self, Nat.reduceEqDiff, Nat.reduceAdd, Nat.reduceSub, Nat.reduceMul, Nat.reduceLeDiff, Int.reduceNeg, Int.reduceToNat, Int.reduceLE, Int.reduceLT, Int.reduceEq, prdA]
        refine allocK.in fun b4 hb4 => ?_
        have ne4 := Heap.new_ne hb4
        simp (disch := omega) only [S, SL, Need_of, wrap_in, getD_map, getD_lt, Heap.set_ne, wrap_tdiv, tmod_nn, tdiv_nn, ↓reduceIte, eq_self, Nat.reduceEqDiff, Nat.reduceAdd, Nat.reduceSub, Nat.reduceMul, Nat.reduceLeDiff, Int.reduceNeg, Int.reduceToNat, Int.reduceLE, Int.reduceLT, Int.reduceEq, cfgL]
        refine callK.in (spec_l6In.c ?_)
        simp (disch := omega) only [S, SL, Need_of, wrap_in, getD_map, getD_lt, Heap.set_ne, wrap_tdiv, tmod_nn, tdiv_nn, ↓reduceIte, eq_self, Nat.reduceEqDiff, Nat.reduceAdd, Nat.reduceSub, Nat.reduceMul, Nat.reduceLeDiff, Int.reduceNeg, Int.reduceToNat, Int.reduceLE, Int.reduceLT, Int.reduceEq]
        repeat' ((first | refine gdK_if ?_ ?_ | refine condK_if ?_ ?_ | refine gdK_bool ?_ ?_ | refine condK_bool ?_ ?_) <;> intro hc <;> simp (disch := omega) only [S, SL, Need_of, wrap_in, getD_map, getD_lt, Heap.set_ne, wrap_tdiv, tmod_nn, tdiv_nn, ↓reduceIte, eq_self, Nat.reduceEqDiff, Nat.reduceAdd, Nat.reduceSub, Nat.reduceMul, Nat.reduceLeDiff, Int.reduceNeg, Int.reduceToNat, Int.reduceLE, Int.reduceLT, Int.reduceEq, hc, cfgL, prdA])
        all_goals first
          | exact fin.of (Heap.le_trans (Heap.le_new hb1) (Heap.le_new hb4)) (Q_no hQ fun ok => by have p := ok.prods k (by omega); have p1 := p.head; have p2 := p.step; have p3 := p.len; omega)
          | skip
        all_goals
          refine CK_loop (α := Nat) (fun j => [(1, .adr b1 0), (3, iA k), (4, .adr b4 0), (5, iA j)]) (fun _ => (h.set b1 (.row 33 (cfgL c))).set b4 (.row 85 (prdA c.prods[k])))
            (fun j => j ≤ c.prods[k].body.length ∧ ∀ i (hi : i < c.prods[k].body.length), i < j → SymOk c.heads c.prods[k].body[i]) (fun j => c.prods[k].body.length - j) 0 ?_ (Heap.le_refl _) ⟨by omega, fun i hi h => by omega⟩ ?_
          · simp only [S, SL, ↓reduceIte, eq_self, Nat.reduceEqDiff, Nat.reduceAdd, Nat.reduceSub, Nat.reduceMul, Nat.reduceLeDiff, Int.reduceNeg, Int.reduceToNat, Int.reduceLE, Int.reduceLT, Int.reduceEq]
          · rintro R' j ⟨hj, hsym⟩ next'
            simp (disch := omega) only [S, SL, Need_of, wrap_in, getD_map, getD_lt, Heap.set_ne, wrap_tdiv, tmod_nn, tdiv_nn, ↓reduceIte, eq_self, Nat.reduceEqDiff, Nat.reduceAdd, Nat.reduceSub, Nat.reduceMul, Nat.reduceLeDiff, Int.reduceNeg, Int.reduceToNat, Int.reduceLE, Int.reduceLT, Int.reduceEq, spec_CfgOk.l0, cfgL, prdA]
            refine condK_if (fun h3 => ?_) (fun h3 => ?_)
            · simp (disch := omega) only [S, SL, Need_of, wrap_in, getD_map, getD_lt, Heap.set_ne, wrap_tdiv, tmod_nn, tdiv_nn, ↓reduceIte, eq_self, Nat.reduceEqDiff, Nat.reduceAdd, Nat.reduceSub, Nat.reduceMul, Nat.reduceLeDiff, Int.reduceNeg, Int.reduceToNat, Int.reduceLE, Int.reduceLT, Int.reduceEq, symA]
              refine callK.in (spec_l3Sym.c hc1 ?_)
              simp (disch := omega) only [S, SL, Need_of, wrap_in, getD_map, getD_lt, Heap.set_ne, wrap_tdiv, tmod_nn, tdiv_nn, ↓reduceIte, eq_self, Nat.reduceEqDiff, Nat.reduceAdd, Nat.reduceSub, Nat.reduceMul, Nat.reduceLeDiff, Int.reduceNeg, Int.reduceToNat, Int.reduceLE, Int.reduceLT, Int.reduceEq]
              refine condK_if (fun h6 => ?_) (fun h6 => ?_)
              · simp (disch := omega) only [S, SL, Need_of, wrap_in, getD_map, getD_lt, Heap.set_ne, wrap_tdiv, tmod_nn, tdiv_nn, ↓reduceIte, eq_self, Nat.reduceEqDiff, Nat.reduceAdd, Nat.reduceSub, Nat.reduceMul, Nat.reduceLeDiff, Int.reduceNeg, Int.reduceToNat, Int.reduceLE, Int.reduceLT, Int.reduceEq]
                refine next' (j + 1) _ _ ⟨by omega, fun i hi hij => ?_⟩ (by omega) (by simp only [S, SL, ↓reduceIte, eq_self, Nat.reduceEqDiff, Nat.reduceAdd, Nat.reduceSub, Nat.reduceMul, Nat.reduceLeDiff, Int.reduceNeg, Int.reduceToNat, Int.reduceLE, Int.reduceLT, Int.reduceEq]) (Heap.le_refl _)
                by_cases hij' : i < j
                · exact hsym i hi hij'
                · obtain rfl : i = j := by omega
                  exact h6
              · simp (disch := omega) only [S, SL, Need_of, wrap_in, getD_map, getD_lt, Heap.set_ne, wrap_tdiv, tmod_nn, tdiv_nn, ↓reduceIte, eq_self, Nat.reduceEqDiff, Nat.reduceAdd, Nat.reduceSub, Nat.reduceMul, Nat.reduceLeDiff, Int.reduceNeg, Int.reduceToNat, Int.reduceLE, Int.reduceLT, Int.reduceEq]
                exact fin.of (Heap.le_trans (Heap.le_new hb1) (Heap.le_new hb4)) (Q_no hQ fun ok => h6 ((ok.prods k (by omega)).body j (by omega)))
            · simp (disch := omega) only [S, SL, Need_of, wrap_in, getD_map, getD_lt, Heap.set_ne, wrap_tdiv, tmod_nn, tdiv_nn, ↓reduceIte, eq_self, Nat.reduceEqDiff, Nat.reduceAdd, Nat.reduceSub, Nat.reduceMul, Nat.reduceLeDiff, Int.reduceNeg, Int.reduceToNat, Int.reduceLE, Int.reduceLT, Int.reduceEq]
              refine next (k + 1) _ _ ⟨by omega, fun j hj hjk => ?_⟩ (by omega) (by simp only [S, SL, ↓reduceIte, eq_self, Nat.reduceEqDiff, Nat.reduceAdd, Nat.reduceSub, Nat.reduceMul, Nat.reduceLeDiff, Int.reduceNeg, Int.reduceToNat, Int.reduceLE, Int.reduceLT, Int.reduceEq]) (Heap.le_new hb4)
              by_cases hjk' : j < k
              · exact hpre j hj hjk'
              · obtain rfl : j = k := by omega
                exact ⟨by assumption, fun h => by omega, by omega, fun i hi => hsym i hi (by omega)⟩
      · simp (disch := omega) only [S, SL, Need_of, wrap_in, getD_map, getD_lt, Heap.set_ne, wrap_tdiv, tmod_nn, tdiv_nn, ↓reduceIte, eq_self, Nat.reduceEqDiff, Nat.reduceAdd, Nat.reduceSub, Nat.reduceMul, Nat.reduceLeDiff, Int.reduceNeg, Int.reduceToNat, Int.reduceLE, Int.reduceLT, Int.reduceEq]
        exact fin.of (Heap.le_new hb1) (Q_yes hQ ⟨hc1, by omega, fun j hj => hpre j hj (by omega)⟩)
  · exact fin.of (Heap.le_new hb1) (Q_no hQ fun ok => hc ok.heads)
end Go.Proofs.Ytabbipdkbdojiaa
