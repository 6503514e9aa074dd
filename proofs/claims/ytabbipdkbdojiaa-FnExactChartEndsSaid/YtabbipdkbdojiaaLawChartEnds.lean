/- The law FnExactChartEnds: over whatever productions and charts it answers true. Condition: they are as arguments are read. -/
import Derived.Test.YtabbipdkbdojiaaCodeL7
import Derived.Test.YtabbipdkbdojiaaLawChart
import Derived.Test.YtabbipdkbdojiaaChart3
namespace Go.Proofs.Ytabbipdkbdojiaa
open Go Go.Ab
set_option linter.unusedVariables false
set_option linter.unusedSimpArgs false

set_option maxHeartbeats 4000000 in
theorem laws_FnExactChartEnds.c {p : Cfg} (hw : CfgWf p) {c : Cht} (hc : ChartWf c) : CALL Try.prog laws_FnExactChartEnds.id [cfgA p, chartA c] Heap.none (fun r _ => r = bA true) := by
  refine CALL_by mixed laws_FnExactChartEnds.tr (Nat.le_of_ble_eq_true rfl) ?_
  generalize Heap.none = h
  simp (disch := omega) only [S, SL, Need_of, wrap_in, getD_map, getD_lt, Heap.set_ne, wrap_tdiv, tmod_nn, tdiv_nn, ↓reduceIte, eq_self, Nat.reduceEqDiff, Nat.reduceAdd, Nat.reduceSub, Nat.reduceMul, Nat.reduceLeDiff, Int.reduceNeg, Int.reduceToNat, Int.reduceLE, Int.reduceLT, Int.reduceEq, laws_FnExactChartEnds.g, cfgA, cfgL, chartA, chartL]
  refine allocK.in fun b2 hb2 => ?_
  simp (disch := omega) only [S, SL, Need_of, wrap_in, getD_map, getD_lt, Heap.set_ne, wrap_tdiv, tmod_nn, tdiv_nn, ↓reduceIte, eq_self, Nat.reduceEqDiff, Nat.reduceAdd, Nat.reduceSub, Nat.reduceMul, Nat.reduceLeDiff, Int.reduceNeg, Int.reduceToNat, Int.reduceLE, Int.reduceLT, Int.reduceEq]
  refine allocK.in fun b3 hb3 => ?_
  have n3 := Heap.new_ne hb3
  simp (disch := omega) only [S, SL, Need_of, wrap_in, getD_map, getD_lt, Heap.set_ne, wrap_tdiv, tmod_nn, tdiv_nn, ↓reduceIte, eq_self, Nat.reduceEqDiff, Nat.reduceAdd, Nat.reduceSub, Nat.reduceMul, Nat.reduceLeDiff, Int.reduceNeg, Int.reduceToNat, Int.reduceLE, Int.reduceLT, Int.reduceEq]
  refine callK.in (laws_szCfg.c (c := p) hw (by omega) (by omega) ?_)
  simp (disch := omega) only [S, SL, Need_of, wrap_in, getD_map, getD_lt, Heap.set_ne, wrap_tdiv, tmod_nn, tdiv_nn, ↓reduceIte, eq_self, Nat.reduceEqDiff, Nat.reduceAdd, Nat.reduceSub, Nat.reduceMul, Nat.reduceLeDiff, Int.reduceNeg, Int.reduceToNat, Int.reduceLE, Int.reduceLT, Int.reduceEq]
  refine condK_if (fun h1 => ?_) (fun h1 => ?_)
  · simp (disch := omega) only [S, SL, Need_of, wrap_in, getD_map, getD_lt, Heap.set_ne, wrap_tdiv, tmod_nn, tdiv_nn, ↓reduceIte, eq_self, Nat.reduceEqDiff, Nat.reduceAdd, Nat.reduceSub, Nat.reduceMul, Nat.reduceLeDiff, Int.reduceNeg, Int.reduceToNat, Int.reduceLE, Int.reduceLT, Int.reduceEq]
    exact fin.same rfl
  obtain ⟨hsz, hl⟩ := remn_pos h1
  simp (disch := omega) only [S, SL, Need_of, wrap_in, getD_map, getD_lt, Heap.set_ne, wrap_tdiv, tmod_nn, tdiv_nn, ↓reduceIte, eq_self, Nat.reduceEqDiff, Nat.reduceAdd, Nat.reduceSub, Nat.reduceMul, Nat.reduceLeDiff, Int.reduceNeg, Int.reduceToNat, Int.reduceLE, Int.reduceLT, Int.reduceEq]
  refine callK.in (laws_szChart.c (c := c) hc (by omega) (by omega) ?_)
  simp (disch := omega) only [S, SL, Need_of, wrap_in, getD_map, getD_lt, Heap.set_ne, wrap_tdiv, tmod_nn, tdiv_nn, ↓reduceIte, eq_self, Nat.reduceEqDiff, Nat.reduceAdd, Nat.reduceSub, Nat.reduceMul, Nat.reduceLeDiff, Int.reduceNeg, Int.reduceToNat, Int.reduceLE, Int.reduceLT, Int.reduceEq]
  refine condK_if (fun h2 => ?_) (fun h2 => ?_)
  · simp (disch := omega) only [S, SL, Need_of, wrap_in, getD_map, getD_lt, Heap.set_ne, wrap_tdiv, tmod_nn, tdiv_nn, ↓reduceIte, eq_self, Nat.reduceEqDiff, Nat.reduceAdd, Nat.reduceSub, Nat.reduceMul, Nat.reduceLeDiff, Int.reduceNeg, Int.reduceToNat, Int.reduceLE, Int.reduceLT, Int.reduceEq]
    exact fin.same rfl
  obtain ⟨hsz2, -⟩ := remn_pos h2
  have f : ChtFit c := ChtFit.of_size (by omega)
  simp (disch := omega) only [S, SL, Need_of, wrap_in, getD_map, getD_lt, Heap.set_ne, wrap_tdiv, tmod_nn, tdiv_nn, ↓reduceIte, eq_self, Nat.reduceEqDiff, Nat.reduceAdd, Nat.reduceSub, Nat.reduceMul, Nat.reduceLeDiff, Int.reduceNeg, Int.reduceToNat, Int.reduceLE, Int.reduceLT, Int.reduceEq]
  repeat' (with_reducible apply And.intro)
  all_goals
    refine callK.in (laws_toCfg.i (c := p) (by omega) ?_)
    simp (disch := omega) only [S, SL, Need_of, wrap_in, getD_map, getD_lt, Heap.set_ne, wrap_tdiv, tmod_nn, tdiv_nn, ↓reduceIte, eq_self, Nat.reduceEqDiff, Nat.reduceAdd, Nat.reduceSub, Nat.reduceMul, Nat.reduceLeDiff, Int.reduceNeg, Int.reduceToNat, Int.reduceLE, Int.reduceLT, Int.reduceEq]
    refine callK.in (laws_toChart.i (c := c) f ?_)
    simp (disch := omega) only [S, SL, Need_of, wrap_in, getD_map, getD_lt, Heap.set_ne, wrap_tdiv, tmod_nn, tdiv_nn, ↓reduceIte, eq_self, Nat.reduceEqDiff, Nat.reduceAdd, Nat.reduceSub, Nat.reduceMul, Nat.reduceLeDiff, Int.reduceNeg, Int.reduceToNat, Int.reduceLE, Int.reduceLT, Int.reduceEq]
    refine callK.in (spec_ChartEnds.c (p := p) f ?_)
    simp (disch := omega) only [S, SL, Need_of, wrap_in, getD_map, getD_lt, Heap.set_ne, wrap_tdiv, tmod_nn, tdiv_nn, ↓reduceIte, eq_self, Nat.reduceEqDiff, Nat.reduceAdd, Nat.reduceSub, Nat.reduceMul, Nat.reduceLeDiff, Int.reduceNeg, Int.reduceToNat, Int.reduceLE, Int.reduceLT, Int.reduceEq]
    refine callK.in (laws_toCfg.i (c := p) (by omega) ?_)
    simp (disch := omega) only [S, SL, Need_of, wrap_in, getD_map, getD_lt, Heap.set_ne, wrap_tdiv, tmod_nn, tdiv_nn, ↓reduceIte, eq_self, Nat.reduceEqDiff, Nat.reduceAdd, Nat.reduceSub, Nat.reduceMul, Nat.reduceLeDiff, Int.reduceNeg, Int.reduceToNat, Int.reduceLE, Int.reduceLT, Int.reduceEq, cfgA, cfgL]
    refine allocK.in fun b7 hb7 => ?_
    have n7 := Heap.new_ne hb7
    have n72 := Heap.new_ne (Heap.new_none hb7)
    simp (disch := omega) only [S, SL, Need_of, wrap_in, getD_map, getD_lt, Heap.set_ne, wrap_tdiv, tmod_nn, tdiv_nn, ↓reduceIte, eq_self, Nat.reduceEqDiff, Nat.reduceAdd, Nat.reduceSub, Nat.reduceMul, Nat.reduceLeDiff, Int.reduceNeg, Int.reduceToNat, Int.reduceLE, Int.reduceLT, Int.reduceEq]
    refine callK.in (laws_toChart.i (c := c) f ?_)
    simp (disch := omega) only [S, SL, Need_of, wrap_in, getD_map, getD_lt, Heap.set_ne, wrap_tdiv, tmod_nn, tdiv_nn, ↓reduceIte, eq_self, Nat.reduceEqDiff, Nat.reduceAdd, Nat.reduceSub, Nat.reduceMul, Nat.reduceLeDiff, Int.reduceNeg, Int.reduceToNat, Int.reduceLE, Int.reduceLT, Int.reduceEq, chartA, chartL]
    refine allocK.in fun b8 hb8 => ?_
    have n8 := Heap.new_ne hb8
    have n83 := Heap.new_ne (Heap.new_none hb8)
    have n82 := Heap.new_ne (Heap.new_none (Heap.new_none hb8))
    simp (disch := omega) only [S, SL, Need_of, wrap_in, getD_map, getD_lt, Heap.set_ne, wrap_tdiv, tmod_nn, tdiv_nn, ↓reduceIte, eq_self, Nat.reduceEqDiff, Nat.reduceAdd, Nat.reduceSub, Nat.reduceMul, Nat.reduceLeDiff, Int.reduceNeg, Int.reduceToNat, Int.reduceLE, Int.reduceLT, Int.reduceEq]
    refine callK.in (impl_ChartEnds.c (p := p) f ?_)
    simp (disch := omega) only [S, SL, Need_of, wrap_in, getD_map, getD_lt, Heap.set_ne, wrap_tdiv, tmod_nn, tdiv_nn, ↓reduceIte, eq_self, Nat.reduceEqDiff, Nat.reduceAdd, Nat.reduceSub, Nat.reduceMul, Nat.reduceLeDiff, Int.reduceNeg, Int.reduceToNat, Int.reduceLE, Int.reduceLT, Int.reduceEq, beq_self_eq_true]
    repeat' (with_reducible apply And.intro)
    all_goals
      refine callK.in (laws_toCfg.i (c := p) (by omega) ?_)
      simp (disch := omega) only [S, SL, Need_of, wrap_in, getD_map, getD_lt, Heap.set_ne, wrap_tdiv, tmod_nn, tdiv_nn, ↓reduceIte, eq_self, Nat.reduceEqDiff, Nat.reduceAdd, Nat.reduceSub, Nat.reduceMul, Nat.reduceLeDiff, Int.reduceNeg, Int.reduceToNat, Int.reduceLE, Int.reduceLT, Int.reduceEq]
      refine callK.in (laws_eqCfg.c hw hw ?_)
      simp (disch := omega) only [S, SL, Need_of, wrap_in, getD_map, getD_lt, Heap.set_ne, wrap_tdiv, tmod_nn, tdiv_nn, ↓reduceIte, eq_self, Nat.reduceEqDiff, Nat.reduceAdd, Nat.reduceSub, Nat.reduceMul, Nat.reduceLeDiff, Int.reduceNeg, Int.reduceToNat, Int.reduceLE, Int.reduceLT, Int.reduceEq]
      repeat' (with_reducible apply And.intro)
      all_goals
        refine callK.in (laws_toChart.i (c := c) f ?_)
        simp (disch := omega) only [S, SL, Need_of, wrap_in, getD_map, getD_lt, Heap.set_ne, wrap_tdiv, tmod_nn, tdiv_nn, ↓reduceIte, eq_self, Nat.reduceEqDiff, Nat.reduceAdd, Nat.reduceSub, Nat.reduceMul, Nat.reduceLeDiff, Int.reduceNeg, Int.reduceToNat, Int.reduceLE, Int.reduceLT, Int.reduceEq]
        refine callK.in (laws_eqChart.c hc hc ?_)
        simp (disch := omega) only [S, SL, Need_of, wrap_in, getD_map, getD_lt, Heap.set_ne, wrap_tdiv, tmod_nn, tdiv_nn, ↓reduceIte, eq_self, Nat.reduceEqDiff, Nat.reduceAdd, Nat.reduceSub, Nat.reduceMul, Nat.reduceLeDiff, Int.reduceNeg, Int.reduceToNat, Int.reduceLE, Int.reduceLT, Int.reduceEq]
        exact fin.same rfl
end Go.Proofs.Ytabbipdkbdojiaa
