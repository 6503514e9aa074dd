/- Charts in form, and their ends, as impl has them. No condition. -/
import Derived.Test.YtabbipdkbdojiaaChart
namespace Go.Proofs.Ytabbipdkbdojiaa
open Go Go.Ab
set_option linter.unusedVariables false
set_option linter.unusedSimpArgs false

theorem impl_within.c2 {x lo hi : Int} {h : Heap} {Q : AV → Heap → Prop} (hy : lo ≤ x ∧ x ≤ hi → Q (bA true) h) (hn : ¬ (lo ≤ x ∧ x ≤ hi) → Q (bA false) h) : CALL Try.prog impl_within.id [iA x, iA lo, iA hi] h Q := impl_within.c (by
  by_cases c : lo ≤ x ∧ x ≤ hi
  · rw [decide_eq_true c]; exact hy c
  · rw [decide_eq_false c]; exact hn c)
theorem spec_l6In.c2 {x lo hi : Int} {h : Heap} {Q : AV → Heap → Prop} (hy : lo ≤ x ∧ x ≤ hi → Q (bA true) h) (hn : ¬ (lo ≤ x ∧ x ≤ hi) → Q (bA false) h) : CALL Try.prog spec_l6In.id [iA x, iA lo, iA hi] h Q := spec_l6In.c (by
  by_cases c : lo ≤ x ∧ x ≤ hi
  · rw [decide_eq_true c]; exact hy c
  · rw [decide_eq_false c]; exact hn c)
set_option maxHeartbeats 4000000 in
theorem impl_Cfg_chartOk.c {t : Cfg} (okt : CfgOk t) {c : Cht} (f : ChtFit c) {h : Heap} {Q : AV → Heap → Prop} (hQ : Q (bA (decide (ChartIn t c))) h) : CALL Try.prog impl_Cfg_chartOk.id [cfgA t, chartA c] h Q := by
  refine CALL_by mixed impl_Cfg_chartOk.tr (Nat.le_of_ble_eq_true rfl) ?_
  have hlen := okt.len
  have hh := okt.heads
  have f1 := f.len
  simp (disch := omega) only [S, SL, Need_of, wrap_in, getD_map, getD_lt, Heap.set_ne, wrap_tdiv, tmod_nn, tdiv_nn, ↓reduceIte, eq_self, Nat.reduceEqDiff, Nat.reduceAdd, Nat.reduceSub, Nat.reduceMul, Nat.reduceLeDiff, Int.reduceNeg, Int.reduceToNat, Int.reduceLE, Int.reduceLT, Int.reduceEq, impl_Cfg_chartOk.g, cfgA, chartA]
  refine allocK.in fun b2 hb2 => ?_
  simp (disch := omega) only [S, SL, Need_of, wrap_in, getD_map, getD_lt, Heap.set_ne, wrap_tdiv, tmod_nn, tdiv_nn, ↓reduceIte, eq_self, Nat.reduceEqDiff, Nat.reduceAdd, Nat.reduceSub, Nat.reduceMul, Nat.reduceLeDiff, Int.reduceNeg, Int.reduceToNat, Int.reduceLE, Int.reduceLT, Int.reduceEq]
  refine allocK.in fun b3 hb3 => ?_
  have n3 := Heap.new_ne hb3
  simp (disch := omega) only [S, SL, Need_of, wrap_in, getD_map, getD_lt, Heap.set_ne, wrap_tdiv, tmod_nn, tdiv_nn, ↓reduceIte, eq_self, Nat.reduceEqDiff, Nat.reduceAdd, Nat.reduceSub, Nat.reduceMul, Nat.reduceLeDiff, Int.reduceNeg, Int.reduceToNat, Int.reduceLE, Int.reduceLT, Int.reduceEq, chartL]
  refine callK.in (impl_within.c ?_)
  simp (disch := omega) only [S, SL, Need_of, wrap_in, getD_map, getD_lt, Heap.set_ne, wrap_tdiv, tmod_nn, tdiv_nn, ↓reduceIte, eq_self, Nat.reduceEqDiff, Nat.reduceAdd, Nat.reduceSub, Nat.reduceMul, Nat.reduceLeDiff, Int.reduceNeg, Int.reduceToNat, Int.reduceLE, Int.reduceLT, Int.reduceEq]
  refine condK_if (fun c1 => ?_) (fun c1 => ?_)
  · simp (disch := omega) only [S, SL, Need_of, wrap_in, getD_map, getD_lt, Heap.set_ne, wrap_tdiv, tmod_nn, tdiv_nn, ↓reduceIte, eq_self, Nat.reduceEqDiff, Nat.reduceAdd, Nat.reduceSub, Nat.reduceMul, Nat.reduceLeDiff, Int.reduceNeg, Int.reduceToNat, Int.reduceLE, Int.reduceLT, Int.reduceEq]
    refine CK_loop (α := Nat) (fun i => [(2, .adr b2 0), (15, .imm false (c.sets.map setA)), (16, iA c.sets.length), (17, iA i)]) (fun _ => h.set b2 (.row 33 (cfgL t)))
      (fun i => i ≤ c.sets.length ∧ ∀ j (hj : j < c.sets.length), j < i → ∀ k (hk : k < c.sets[j].length), SetIn t j c.sets[j] k hk) (fun i => c.sets.length - i) 0 ?_ (Heap.le_new hb3) ⟨Nat.zero_le _, fun j hj h => by omega⟩ ?_
    · simp only [S, SL, ↓reduceIte, eq_self, Nat.reduceEqDiff, Nat.reduceAdd, Nat.reduceSub, Nat.reduceMul, Nat.reduceLeDiff, Int.reduceNeg, Int.reduceToNat, Int.reduceLE, Int.reduceLT, Int.reduceEq]
    · rintro R i ⟨hi, hpre⟩ next
      simp (disch := omega) only [S, SL, Need_of, wrap_in, getD_map, getD_lt, Heap.set_ne, wrap_tdiv, tmod_nn, tdiv_nn, ↓reduceIte, eq_self, Nat.reduceEqDiff, Nat.reduceAdd, Nat.reduceSub, Nat.reduceMul, Nat.reduceLeDiff, Int.reduceNeg, Int.reduceToNat, Int.reduceLE, Int.reduceLT, Int.reduceEq, impl_Cfg_chartOk.l1]
      refine condK_if (fun c2 => ?_) (fun c2 => ?_)
      · have hi' : i < c.sets.length := by omega
        have f2 := f.sets _ (List.getElem_mem hi')
        simp (disch := omega) only [S, SL, Need_of, wrap_in, getD_map, getD_lt, Heap.set_ne, wrap_tdiv, tmod_nn, tdiv_nn, ↓reduceIte, eq_self, Nat.reduceEqDiff, Nat.reduceAdd, Nat.reduceSub, Nat.reduceMul, Nat.reduceLeDiff, Int.reduceNeg, Int.reduceToNat, Int.reduceLE, Int.reduceLT, Int.reduceEq, setA]
        refine CK_loop (α := Nat) (fun k => [(2, .adr b2 0), (5, iA i), (6, .imm false (c.sets[i].map itmA)), (15, .imm false (c.sets.map setA)), (16, iA c.sets.length), (17, iA i), (22, .imm false (c.sets[i].map itmA)), (23, iA c.sets[i].length), (24, iA k)]) (fun _ => h.set b2 (.row 33 (cfgL t)))
          (fun k => k ≤ c.sets[i].length ∧ ∀ j (hj : j < c.sets[i].length), j < k → SetIn t i c.sets[i] j hj) (fun k => c.sets[i].length - k) 0 ?_ (Heap.le_refl _) ⟨Nat.zero_le _, fun j hj h => by omega⟩ ?_
        · simp only [S, SL, ↓reduceIte, eq_self, Nat.reduceEqDiff, Nat.reduceAdd, Nat.reduceSub, Nat.reduceMul, Nat.reduceLeDiff, Int.reduceNeg, Int.reduceToNat, Int.reduceLE, Int.reduceLT, Int.reduceEq]
        · rintro R' k ⟨hk, hpre2⟩ next'
          simp (disch := omega) only [S, SL, Need_of, wrap_in, getD_map, getD_lt, Heap.set_ne, wrap_tdiv, tmod_nn, tdiv_nn, ↓reduceIte, eq_self, Nat.reduceEqDiff, Nat.reduceAdd, Nat.reduceSub, Nat.reduceMul, Nat.reduceLeDiff, Int.reduceNeg, Int.reduceToNat, Int.reduceLE, Int.reduceLT, Int.reduceEq, impl_Cfg_chartOk.l0]
          refine condK_if (fun c3 => ?_) (fun c3 => ?_)
          · have hk' : k < c.sets[i].length := by omega
            have no : ¬ SetIn t i c.sets[i] k hk' → ¬ ChartIn t c := fun hn hc => hn (hc.sets i hi' k hk')
            simp (disch := omega) only [S, SL, Need_of, wrap_in, getD_map, getD_lt, Heap.set_ne, wrap_tdiv, tmod_nn, tdiv_nn, ↓reduceIte, eq_self, Nat.reduceEqDiff, Nat.reduceAdd, Nat.reduceSub, Nat.reduceMul, Nat.reduceLeDiff, Int.reduceNeg, Int.reduceToNat, Int.reduceLE, Int.reduceLT, Int.reduceEq, itmA]
            refine allocK.in fun b8 hb8 => ?_
            have n8 := Heap.new_ne hb8
            have le8 : ∀ k, h.le ((h.set b2 (.row 33 (cfgL t))).set b8 k) := fun k => Heap.le_trans (Heap.le_new hb2) (Heap.le_new hb8)
            simp (disch := omega) only [S, SL, Need_of, wrap_in, getD_map, getD_lt, Heap.set_ne, wrap_tdiv, tmod_nn, tdiv_nn, ↓reduceIte, eq_self, Nat.reduceEqDiff, Nat.reduceAdd, Nat.reduceSub, Nat.reduceMul, Nat.reduceLeDiff, Int.reduceNeg, Int.reduceToNat, Int.reduceLE, Int.reduceLT, Int.reduceEq, cfgL, itmA]
            refine callK.in (impl_within.c2 (fun c4 => ?_) (fun c4 => ?_))
            · have hpl : c.sets[i][k].prod.toNat < t.prods.length := by omega
              have hbd : bodyV t c.sets[i][k] = (t.prods[c.sets[i][k].prod.toNat]).body := by unfold bodyV; rw [List.getD_eq_getElem?_getD, List.getElem?_eq_getElem hpl]; rfl
              have hbl := (okt.mem (List.getElem_mem hpl)).2.2.1
              simp (disch := omega) only [S, SL, Need_of, wrap_in, getD_map, getD_lt, Heap.set_ne, wrap_tdiv, tmod_nn, tdiv_nn, ↓reduceIte, eq_self, Nat.reduceEqDiff, Nat.reduceAdd, Nat.reduceSub, Nat.reduceMul, Nat.reduceLeDiff, Int.reduceNeg, Int.reduceToNat, Int.reduceLE, Int.reduceLT, Int.reduceEq, cfgL, itmA, prdA]
              refine callK.in (impl_within.c2 (fun c5 => ?_) (fun c5 => ?_))
              · simp (disch := omega) only [S, SL, Need_of, wrap_in, getD_map, getD_lt, Heap.set_ne, wrap_tdiv, tmod_nn, tdiv_nn, ↓reduceIte, eq_self, Nat.reduceEqDiff, Nat.reduceAdd, Nat.reduceSub, Nat.reduceMul, Nat.reduceLeDiff, Int.reduceNeg, Int.reduceToNat, Int.reduceLE, Int.reduceLT, Int.reduceEq, itmA]
                refine callK.in (impl_within.c2 (fun c6 => ?_) (fun c6 => ?_))
                · have item : ItemIn t i c.sets[i][k] := ⟨c4, by rw [hbd]; exact c5, by omega⟩
                  simp (disch := omega) only [S, SL, Need_of, wrap_in, getD_map, getD_lt, Heap.set_ne, wrap_tdiv, tmod_nn, tdiv_nn, ↓reduceIte, eq_self, Nat.reduceEqDiff, Nat.reduceAdd, Nat.reduceSub, Nat.reduceMul, Nat.reduceLeDiff, Int.reduceNeg, Int.reduceToNat, Int.reduceLE, Int.reduceLT, Int.reduceEq, itmA]
                  refine gdK_if (fun c7 => ?_) (fun c7 => ?_)
                  · have e1 : ((k : Int) - 1).toNat = k - 1 := by omega
                    simp (disch := omega) only [S, SL, Need_of, wrap_in, getD_map, getD_lt, Heap.set_ne, wrap_tdiv, tmod_nn, tdiv_nn, ↓reduceIte, eq_self, Nat.reduceEqDiff, Nat.reduceAdd, Nat.reduceSub, Nat.reduceMul, Nat.reduceLeDiff, Int.reduceNeg, Int.reduceToNat, Int.reduceLE, Int.reduceLT, Int.reduceEq, c7, itmA]
                    refine callK.in (impl_itemOrder.c (x := c.sets[i][k - 1]) (y := c.sets[i][k]) ?_)
                    simp (disch := omega) only [S, SL, Need_of, wrap_in, getD_map, getD_lt, Heap.set_ne, wrap_tdiv, tmod_nn, tdiv_nn, ↓reduceIte, eq_self, Nat.reduceEqDiff, Nat.reduceAdd, Nat.reduceSub, Nat.reduceMul, Nat.reduceLeDiff, Int.reduceNeg, Int.reduceToNat, Int.reduceLE, Int.reduceLT, Int.reduceEq, c7]
                    refine condK_if (fun c8 => ?_) (fun c8 => ?_)
                    · simp (disch := omega) only [S, SL, Need_of, wrap_in, getD_map, getD_lt, Heap.set_ne, wrap_tdiv, tmod_nn, tdiv_nn, ↓reduceIte, eq_self, Nat.reduceEqDiff, Nat.reduceAdd, Nat.reduceSub, Nat.reduceMul, Nat.reduceLeDiff, Int.reduceNeg, Int.reduceToNat, Int.reduceLE, Int.reduceLT, Int.reduceEq]
                      exact fin.of (le8 _) (Q_no hQ (no fun sn => by have := ordI_lt.2 (sn.step (by omega)); omega))
                    · simp (disch := omega) only [S, SL, Need_of, wrap_in, getD_map, getD_lt, Heap.set_ne, wrap_tdiv, tmod_nn, tdiv_nn, ↓reduceIte, eq_self, Nat.reduceEqDiff, Nat.reduceAdd, Nat.reduceSub, Nat.reduceMul, Nat.reduceLeDiff, Int.reduceNeg, Int.reduceToNat, Int.reduceLE, Int.reduceLT, Int.reduceEq]
                      refine next' (k + 1) _ _ ⟨by omega, fun j hj hjk => ?_⟩ (by omega) (by simp only [S, SL, ↓reduceIte, eq_self, Nat.reduceEqDiff, Nat.reduceAdd, Nat.reduceSub, Nat.reduceMul, Nat.reduceLeDiff, Int.reduceNeg, Int.reduceToNat, Int.reduceLE, Int.reduceLT, Int.reduceEq]) (Heap.le_new hb8)
                      by_cases hjk' : j < k
                      · exact hpre2 j hj hjk'
                      · obtain rfl : j = k := by omega
                        exact ⟨item, fun _ => ordI_lt.1 (by omega)⟩
                  · simp (disch := omega) only [S, SL, Need_of, wrap_in, getD_map, getD_lt, Heap.set_ne, wrap_tdiv, tmod_nn, tdiv_nn, ↓reduceIte, eq_self, Nat.reduceEqDiff, Nat.reduceAdd, Nat.reduceSub, Nat.reduceMul, Nat.reduceLeDiff, Int.reduceNeg, Int.reduceToNat, Int.reduceLE, Int.reduceLT, Int.reduceEq, c7]
                    refine next' (k + 1) _ _ ⟨by omega, fun j hj hjk => ?_⟩ (by omega) (by simp only [S, SL, ↓reduceIte, eq_self, Nat.reduceEqDiff, Nat.reduceAdd, Nat.reduceSub, Nat.reduceMul, Nat.reduceLeDiff, Int.reduceNeg, Int.reduceToNat, Int.reduceLE, Int.reduceLT, Int.reduceEq]) (Heap.le_new hb8)
                    by_cases hjk' : j < k
                    · exact hpre2 j hj hjk'
                    · obtain rfl : j = k := by omega
                      exact ⟨item, fun h0 => by omega⟩
                · simp (disch := omega) only [S, SL, Need_of, wrap_in, getD_map, getD_lt, Heap.set_ne, wrap_tdiv, tmod_nn, tdiv_nn, ↓reduceIte, eq_self, Nat.reduceEqDiff, Nat.reduceAdd, Nat.reduceSub, Nat.reduceMul, Nat.reduceLeDiff, Int.reduceNeg, Int.reduceToNat, Int.reduceLE, Int.reduceLT, Int.reduceEq]
                  exact fin.of (le8 _) (Q_no hQ (no fun sn => c6 (by have := sn.item.2.2; omega)))
              · simp (disch := omega) only [S, SL, Need_of, wrap_in, getD_map, getD_lt, Heap.set_ne, wrap_tdiv, tmod_nn, tdiv_nn, ↓reduceIte, eq_self, Nat.reduceEqDiff, Nat.reduceAdd, Nat.reduceSub, Nat.reduceMul, Nat.reduceLeDiff, Int.reduceNeg, Int.reduceToNat, Int.reduceLE, Int.reduceLT, Int.reduceEq]
                exact fin.of (le8 _) (Q_no hQ (no fun sn => c5 (by have := sn.item.2.1; rw [hbd] at this; exact this)))
            · simp (disch := omega) only [S, SL, Need_of, wrap_in, getD_map, getD_lt, Heap.set_ne, wrap_tdiv, tmod_nn, tdiv_nn, ↓reduceIte, eq_self, Nat.reduceEqDiff, Nat.reduceAdd, Nat.reduceSub, Nat.reduceMul, Nat.reduceLeDiff, Int.reduceNeg, Int.reduceToNat, Int.reduceLE, Int.reduceLT, Int.reduceEq]
              exact fin.of (le8 _) (Q_no hQ (no fun sn => c4 sn.item.1))
          · simp (disch := omega) only [S, SL, Need_of, wrap_in, getD_map, getD_lt, Heap.set_ne, wrap_tdiv, tmod_nn, tdiv_nn, ↓reduceIte, eq_self, Nat.reduceEqDiff, Nat.reduceAdd, Nat.reduceSub, Nat.reduceMul, Nat.reduceLeDiff, Int.reduceNeg, Int.reduceToNat, Int.reduceLE, Int.reduceLT, Int.reduceEq]
            refine next (i + 1) _ _ ⟨by omega, fun j hj hji => ?_⟩ (by omega) (by simp only [S, SL, ↓reduceIte, eq_self, Nat.reduceEqDiff, Nat.reduceAdd, Nat.reduceSub, Nat.reduceMul, Nat.reduceLeDiff, Int.reduceNeg, Int.reduceToNat, Int.reduceLE, Int.reduceLT, Int.reduceEq]) (Heap.le_refl _)
            by_cases hji' : j < i
            · exact hpre j hj hji'
            · obtain rfl : j = i := by omega
              exact fun k hk2 => hpre2 k hk2 (by omega)
      · simp (disch := omega) only [S, SL, Need_of, wrap_in, getD_map, getD_lt, Heap.set_ne, wrap_tdiv, tmod_nn, tdiv_nn, ↓reduceIte, eq_self, Nat.reduceEqDiff, Nat.reduceAdd, Nat.reduceSub, Nat.reduceMul, Nat.reduceLeDiff, Int.reduceNeg, Int.reduceToNat, Int.reduceLE, Int.reduceLT, Int.reduceEq]
        exact fin.of (Heap.le_new hb2) (Q_yes hQ ⟨by omega, fun j hj => hpre j hj (by omega)⟩)
  · simp (disch := omega) only [S, SL, Need_of, wrap_in, getD_map, getD_lt, Heap.set_ne, wrap_tdiv, tmod_nn, tdiv_nn, ↓reduceIte, eq_self, Nat.reduceEqDiff, Nat.reduceAdd, Nat.reduceSub, Nat.reduceMul, Nat.reduceLeDiff, Int.reduceNeg, Int.reduceToNat, Int.reduceLE, Int.reduceLT, Int.reduceEq]
    exact fin.of (Heap.le_trans (Heap.le_new hb2) (Heap.le_new hb3)) (Q_no hQ fun ci => c1 (by have := ci.len; omega))

theorem impl_Cfg_ends.c {t : Cfg} (okt : CfgOk t) {c : Cht} (f : ChtFit c) (ci : ChartIn t c) {h : Heap} {Q : AV → Heap → Prop} (hQ : Q (bA (decide (EndsV t c))) h) : CALL Try.prog impl_Cfg_ends.id [cfgA t, chartA c] h Q := by
  refine CALL_by mixed impl_Cfg_ends.tr (Nat.le_of_ble_eq_true rfl) ?_
  have hlen := okt.len
  have f1 := f.len
  have f2 := lastV_fit f ci.len.1
  simp (disch := omega) only [S, SL, Need_of, wrap_in, getD_map, getD_lt, Heap.set_ne, wrap_tdiv, tmod_nn, tdiv_nn, ↓reduceIte, eq_self, Nat.reduceEqDiff, Nat.reduceAdd, Nat.reduceSub, Nat.reduceMul, Nat.reduceLeDiff, Int.reduceNeg, Int.reduceToNat, Int.reduceLE, Int.reduceLT, Int.reduceEq, impl_Cfg_ends.g, cfgA, chartA]
  refine allocK.in fun b2 hb2 => ?_
  simp (disch := omega) only [S, SL, Need_of, wrap_in, getD_map, getD_lt, Heap.set_ne, wrap_tdiv, tmod_nn, tdiv_nn, ↓reduceIte, eq_self, Nat.reduceEqDiff, Nat.reduceAdd, Nat.reduceSub, Nat.reduceMul, Nat.reduceLeDiff, Int.reduceNeg, Int.reduceToNat, Int.reduceLE, Int.reduceLT, Int.reduceEq]
  refine allocK.in fun b3 hb3 => ?_
  have n3 := Heap.new_ne hb3
  simp (disch := omega) only [S, SL, Need_of, wrap_in, getD_map, getD_lt, Heap.set_ne, wrap_tdiv, tmod_nn, tdiv_nn, ↓reduceIte, eq_self, Nat.reduceEqDiff, Nat.reduceAdd, Nat.reduceSub, Nat.reduceMul, Nat.reduceLeDiff, Int.reduceNeg, Int.reduceToNat, Int.reduceLE, Int.reduceLT, Int.reduceEq, chartL]
  refine callK.in (impl_lastSet.c ci.len.1 f ?_)
  simp (disch := omega) only [S, SL, Need_of, wrap_in, getD_map, getD_lt, Heap.set_ne, wrap_tdiv, tmod_nn, tdiv_nn, ↓reduceIte, eq_self, Nat.reduceEqDiff, Nat.reduceAdd, Nat.reduceSub, Nat.reduceMul, Nat.reduceLeDiff, Int.reduceNeg, Int.reduceToNat, Int.reduceLE, Int.reduceLT, Int.reduceEq]
  refine CK_loop (α := Nat) (fun k => [(2, .adr b2 0), (10, .imm false ((lastV c).map itmA)), (11, iA (lastV c).length), (12, iA k)]) (fun _ => h.set b2 (.row 33 (cfgL t)))
    (fun k => k ≤ (lastV c).length ∧ ∀ j (hj : j < (lastV c).length), j < k → ¬ endI t (lastV c)[j]) (fun k => (lastV c).length - k) 0 ?_ (Heap.le_new hb3) ⟨Nat.zero_le _, fun j hj h => by omega⟩ ?_
  · simp only [S, SL, ↓reduceIte, eq_self, Nat.reduceEqDiff, Nat.reduceAdd, Nat.reduceSub, Nat.reduceMul, Nat.reduceLeDiff, Int.reduceNeg, Int.reduceToNat, Int.reduceLE, Int.reduceLT, Int.reduceEq]
  · rintro R k ⟨hk, hpre⟩ next
    simp (disch := omega) only [S, SL, Need_of, wrap_in, getD_map, getD_lt, Heap.set_ne, wrap_tdiv, tmod_nn, tdiv_nn, ↓reduceIte, eq_self, Nat.reduceEqDiff, Nat.reduceAdd, Nat.reduceSub, Nat.reduceMul, Nat.reduceLeDiff, Int.reduceNeg, Int.reduceToNat, Int.reduceLE, Int.reduceLT, Int.reduceEq, impl_Cfg_ends.l0]
    refine condK_if (fun c3 => ?_) (fun c3 => ?_)
    · have hk' : k < (lastV c).length := by omega
      have it := ci.last (List.getElem_mem hk')
      have hpl := it.prod_lt
      have it' := it
      obtain ⟨i1, i2, i3⟩ := it'
      have hpl' : (lastV c)[k].prod < (t.prods.length : Int) := by omega
      simp (disch := omega) only [S, SL, Need_of, wrap_in, getD_map, getD_lt, Heap.set_ne, wrap_tdiv, tmod_nn, tdiv_nn, ↓reduceIte, eq_self, Nat.reduceEqDiff, Nat.reduceAdd, Nat.reduceSub, Nat.reduceMul, Nat.reduceLeDiff, Int.reduceNeg, Int.reduceToNat, Int.reduceLE, Int.reduceLT, Int.reduceEq, itmA]
      refine allocK.in fun b6 hb6 => ?_
      have n6 := Heap.new_ne hb6
      simp (disch := omega) only [S, SL, Need_of, wrap_in, getD_map, getD_lt, Heap.set_ne, wrap_tdiv, tmod_nn, tdiv_nn, ↓reduceIte, eq_self, Nat.reduceEqDiff, Nat.reduceAdd, Nat.reduceSub, Nat.reduceMul, Nat.reduceLeDiff, Int.reduceNeg, Int.reduceToNat, Int.reduceLE, Int.reduceLT, Int.reduceEq, cfgL]
      refine callK.in (impl_Cfg_next.c (t := t) (x := (lastV c)[k]) it (fun nx => ?_) (fun s nx => ?_))
      · simp (disch := omega) only [S, SL, Need_of, wrap_in, getD_map, getD_lt, Heap.set_ne, wrap_tdiv, tmod_nn, tdiv_nn, ↓reduceIte, eq_self, Nat.reduceEqDiff, Nat.reduceAdd, Nat.reduceSub, Nat.reduceMul, Nat.reduceLeDiff, Int.reduceNeg, Int.reduceToNat, Int.reduceLE, Int.reduceLT, Int.reduceEq]
        refine allocK.in fun b7 hb7 => ?_
        have n7 := Heap.new_ne hb7
        have n72 := Heap.new_ne (Heap.new_none hb7)
        simp (disch := omega) only [S, SL, Need_of, wrap_in, getD_map, getD_lt, Heap.set_ne, wrap_tdiv, tmod_nn, tdiv_nn, ↓reduceIte, eq_self, Nat.reduceEqDiff, Nat.reduceAdd, Nat.reduceSub, Nat.reduceMul, Nat.reduceLeDiff, Int.reduceNeg, Int.reduceToNat, Int.reduceLE, Int.reduceLT, Int.reduceEq, cfgL, prdA, itmA]
        have ehd : headV t (lastV c)[k] = (t.prods[(lastV c)[k].prod.toNat]).head := it.head
        refine gdK_if (fun c4 => ?_) (fun c4 => ?_)
        · simp (disch := omega) only [S, SL, Need_of, wrap_in, getD_map, getD_lt, Heap.set_ne, wrap_tdiv, tmod_nn, tdiv_nn, ↓reduceIte, eq_self, Nat.reduceEqDiff, Nat.reduceAdd, Nat.reduceSub, Nat.reduceMul, Nat.reduceLeDiff, Int.reduceNeg, Int.reduceToNat, Int.reduceLE, Int.reduceLT, Int.reduceEq, c4, itmA]
          refine condK_if (fun c5 => ?_) (fun c5 => ?_)
          · simp (disch := omega) only [S, SL, Need_of, wrap_in, getD_map, getD_lt, Heap.set_ne, wrap_tdiv, tmod_nn, tdiv_nn, ↓reduceIte, eq_self, Nat.reduceEqDiff, Nat.reduceAdd, Nat.reduceSub, Nat.reduceMul, Nat.reduceLeDiff, Int.reduceNeg, Int.reduceToNat, Int.reduceLE, Int.reduceLT, Int.reduceEq]
            exact fin.of (Heap.le_trans (Heap.le_new hb2) (Heap.le_trans (Heap.le_new hb6) (Heap.le_new hb7))) (Q_yes hQ ⟨_, List.getElem_mem hk', nx, by rw [ehd]; exact c4, c5⟩)
          · simp (disch := omega) only [S, SL, Need_of, wrap_in, getD_map, getD_lt, Heap.set_ne, wrap_tdiv, tmod_nn, tdiv_nn, ↓reduceIte, eq_self, Nat.reduceEqDiff, Nat.reduceAdd, Nat.reduceSub, Nat.reduceMul, Nat.reduceLeDiff, Int.reduceNeg, Int.reduceToNat, Int.reduceLE, Int.reduceLT, Int.reduceEq]
            refine next (k + 1) _ _ ⟨by omega, fun j hj hjk => ?_⟩ (by omega) (by simp only [S, SL, ↓reduceIte, eq_self, Nat.reduceEqDiff, Nat.reduceAdd, Nat.reduceSub, Nat.reduceMul, Nat.reduceLeDiff, Int.reduceNeg, Int.reduceToNat, Int.reduceLE, Int.reduceLT, Int.reduceEq]) (Heap.le_trans (Heap.le_new hb6) (Heap.le_new hb7))
            by_cases hjk' : j < k
            · exact hpre j hj hjk'
            · obtain rfl : j = k := by omega
              exact fun e => c5 e.2.2
        · simp (disch := omega) only [S, SL, Need_of, wrap_in, getD_map, getD_lt, Heap.set_ne, wrap_tdiv, tmod_nn, tdiv_nn, ↓reduceIte, eq_self, Nat.reduceEqDiff, Nat.reduceAdd, Nat.reduceSub, Nat.reduceMul, Nat.reduceLeDiff, Int.reduceNeg, Int.reduceToNat, Int.reduceLE, Int.reduceLT, Int.reduceEq, c4]
          refine next (k + 1) _ _ ⟨by omega, fun j hj hjk => ?_⟩ (by omega) (by simp only [S, SL, ↓reduceIte, eq_self, Nat.reduceEqDiff, Nat.reduceAdd, Nat.reduceSub, Nat.reduceMul, Nat.reduceLeDiff, Int.reduceNeg, Int.reduceToNat, Int.reduceLE, Int.reduceLT, Int.reduceEq]) (Heap.le_trans (Heap.le_new hb6) (Heap.le_new hb7))
          by_cases hjk' : j < k
          · exact hpre j hj hjk'
          · obtain rfl : j = k := by omega
            exact fun e => c4 (by rw [← ehd]; exact e.2.1)
      · simp (disch := omega) only [S, SL, Need_of, wrap_in, getD_map, getD_lt, Heap.set_ne, wrap_tdiv, tmod_nn, tdiv_nn, ↓reduceIte, eq_self, Nat.reduceEqDiff, Nat.reduceAdd, Nat.reduceSub, Nat.reduceMul, Nat.reduceLeDiff, Int.reduceNeg, Int.reduceToNat, Int.reduceLE, Int.reduceLT, Int.reduceEq]
        refine allocK.in fun b7 hb7 => ?_
        have n7 := Heap.new_ne hb7
        have n72 := Heap.new_ne (Heap.new_none hb7)
        simp (disch := omega) only [S, SL, Need_of, wrap_in, getD_map, getD_lt, Heap.set_ne, wrap_tdiv, tmod_nn, tdiv_nn, ↓reduceIte, eq_self, Nat.reduceEqDiff, Nat.reduceAdd, Nat.reduceSub, Nat.reduceMul, Nat.reduceLeDiff, Int.reduceNeg, Int.reduceToNat, Int.reduceLE, Int.reduceLT, Int.reduceEq, cfgL, prdA, itmA, symA]
        refine next (k + 1) _ _ ⟨by omega, fun j hj hjk => ?_⟩ (by omega) (by simp only [S, SL, ↓reduceIte, eq_self, Nat.reduceEqDiff, Nat.reduceAdd, Nat.reduceSub, Nat.reduceMul, Nat.reduceLeDiff, Int.reduceNeg, Int.reduceToNat, Int.reduceLE, Int.reduceLT, Int.reduceEq]) (Heap.le_trans (Heap.le_new hb6) (Heap.le_new hb7))
        by_cases hjk' : j < k
        · exact hpre j hj hjk'
        · obtain rfl : j = k := by omega
          exact fun e => by rw [e.1] at nx; cases nx
    · simp (disch := omega) only [S, SL, Need_of, wrap_in, getD_map, getD_lt, Heap.set_ne, wrap_tdiv, tmod_nn, tdiv_nn, ↓reduceIte, eq_self, Nat.reduceEqDiff, Nat.reduceAdd, Nat.reduceSub, Nat.reduceMul, Nat.reduceLeDiff, Int.reduceNeg, Int.reduceToNat, Int.reduceLE, Int.reduceLT, Int.reduceEq]
      exact fin.of (Heap.le_new hb2) (Q_no hQ fun ⟨x, hx, hx2⟩ => by
        obtain ⟨j, hj⟩ := List.getElem?_of_mem hx
        obtain ⟨hj1, rfl⟩ := List.getElem?_eq_some_iff.1 hj
        exact hpre j hj1 (by omega) hx2)

theorem impl_ChartEnds.c {p : Cfg} {c : Cht} (f : ChtFit c) {h : Heap} {Q : AV → Heap → Prop} (hQ : Q (bA (decide (CfgOk p ∧ ChartIn (trimV p) c ∧ EndsV (trimV p) c))) h) : CALL Try.prog impl_ChartEnds.id [cfgA p, chartA c] h Q := by
  refine CALL_by mixed impl_ChartEnds.tr (Nat.le_of_ble_eq_true rfl) ?_
  simp (disch := omega) only [S, SL, Need_of, wrap_in, getD_map, getD_lt, Heap.set_ne, wrap_tdiv, tmod_nn, tdiv_nn, ↓reduceIte, eq_self, Nat.reduceEqDiff, Nat.reduceAdd, Nat.reduceSub, Nat.reduceMul, Nat.reduceLeDiff, Int.reduceNeg, Int.reduceToNat, Int.reduceLE, Int.reduceLT, Int.reduceEq, impl_ChartEnds.g, cfgA, chartA]
  refine allocK.in fun b2 hb2 => ?_
  simp (disch := omega) only [S, SL, Need_of, wrap_in, getD_map, getD_lt, Heap.set_ne, wrap_tdiv, tmod_nn, tdiv_nn, ↓reduceIte, eq_self, Nat.reduceEqDiff, Nat.reduceAdd, Nat.reduceSub, Nat.reduceMul, Nat.reduceLeDiff, Int.reduceNeg, Int.reduceToNat, Int.reduceLE, Int.reduceLT, Int.reduceEq]
  refine allocK.in fun b3 hb3 => ?_
  have n3 := Heap.new_ne hb3
  simp (disch := omega) only [S, SL, Need_of, wrap_in, getD_map, getD_lt, Heap.set_ne, wrap_tdiv, tmod_nn, tdiv_nn, ↓reduceIte, eq_self, Nat.reduceEqDiff, Nat.reduceAdd, Nat.reduceSub, Nat.reduceMul, Nat.reduceLeDiff, Int.reduceNeg, Int.reduceToNat, Int.reduceLE, Int.reduceLT, Int.reduceEq, cfgL, chartL]
  refine callK.in (impl_CfgOk.c (c := p) ?_)
  simp (disch := omega) only [S, SL, Need_of, wrap_in, getD_map, getD_lt, Heap.set_ne, wrap_tdiv, tmod_nn, tdiv_nn, ↓reduceIte, eq_self, Nat.reduceEqDiff, Nat.reduceAdd, Nat.reduceSub, Nat.reduceMul, Nat.reduceLeDiff, Int.reduceNeg, Int.reduceToNat, Int.reduceLE, Int.reduceLT, Int.reduceEq]
  refine condK_if (fun ok => ?_) (fun ok => ?_)
  · simp (disch := omega) only [S, SL, Need_of, wrap_in, getD_map, getD_lt, Heap.set_ne, wrap_tdiv, tmod_nn, tdiv_nn, ↓reduceIte, eq_self, Nat.reduceEqDiff, Nat.reduceAdd, Nat.reduceSub, Nat.reduceMul, Nat.reduceLeDiff, Int.reduceNeg, Int.reduceToNat, Int.reduceLE, Int.reduceLT, Int.reduceEq, cfgL]
    refine callK.in (impl_Cfg_trim.i ok ?_)
    simp (disch := omega) only [S, SL, Need_of, wrap_in, getD_map, getD_lt, Heap.set_ne, wrap_tdiv, tmod_nn, tdiv_nn, ↓reduceIte, eq_self, Nat.reduceEqDiff, Nat.reduceAdd, Nat.reduceSub, Nat.reduceMul, Nat.reduceLeDiff, Int.reduceNeg, Int.reduceToNat, Int.reduceLE, Int.reduceLT, Int.reduceEq, cfgA, cfgL]
    refine allocK.in fun b5 hb5 => ?_
    have n5 := Heap.new_ne hb5
    have n53 := Heap.new_ne (Heap.new_none hb5)
    simp (disch := omega) only [S, SL, Need_of, wrap_in, getD_map, getD_lt, Heap.set_ne, wrap_tdiv, tmod_nn, tdiv_nn, ↓reduceIte, eq_self, Nat.reduceEqDiff, Nat.reduceAdd, Nat.reduceSub, Nat.reduceMul, Nat.reduceLeDiff, Int.reduceNeg, Int.reduceToNat, Int.reduceLE, Int.reduceLT, Int.reduceEq, cfgL, chartL]
    refine callK.in (impl_Cfg_chartOk.c (trimV_ok ok) f ?_)
    simp (disch := omega) only [S, SL, Need_of, wrap_in, getD_map, getD_lt, Heap.set_ne, wrap_tdiv, tmod_nn, tdiv_nn, ↓reduceIte, eq_self, Nat.reduceEqDiff, Nat.reduceAdd, Nat.reduceSub, Nat.reduceMul, Nat.reduceLeDiff, Int.reduceNeg, Int.reduceToNat, Int.reduceLE, Int.reduceLT, Int.reduceEq]
    refine gdK_if (fun ci => ?_) (fun ci => ?_)
    · simp (disch := omega) only [S, SL, Need_of, wrap_in, getD_map, getD_lt, Heap.set_ne, wrap_tdiv, tmod_nn, tdiv_nn, ↓reduceIte, eq_self, Nat.reduceEqDiff, Nat.reduceAdd, Nat.reduceSub, Nat.reduceMul, Nat.reduceLeDiff, Int.reduceNeg, Int.reduceToNat, Int.reduceLE, Int.reduceLT, Int.reduceEq, ci]
      refine callK.in (impl_Cfg_ends.c (trimV_ok ok) f ci ?_)
      simp (disch := omega) only [S, SL, Need_of, wrap_in, getD_map, getD_lt, Heap.set_ne, wrap_tdiv, tmod_nn, tdiv_nn, ↓reduceIte, eq_self, Nat.reduceEqDiff, Nat.reduceAdd, Nat.reduceSub, Nat.reduceMul, Nat.reduceLeDiff, Int.reduceNeg, Int.reduceToNat, Int.reduceLE, Int.reduceLT, Int.reduceEq, ci]
      refine fin.of (Heap.le_trans (Heap.le_trans (Heap.le_new hb2) (Heap.le_new hb3)) (Heap.le_new hb5)) ?_
      by_cases e : EndsV (trimV p) c
      · rw [decide_eq_true e]; exact Q_yes hQ ⟨ok, ci, e⟩
      · rw [decide_eq_false e]; exact Q_no hQ fun x => e x.2.2
    · simp (disch := omega) only [S, SL, Need_of, wrap_in, getD_map, getD_lt, Heap.set_ne, wrap_tdiv, tmod_nn, tdiv_nn, ↓reduceIte, eq_self, Nat.reduceEqDiff, Nat.reduceAdd, Nat.reduceSub, Nat.reduceMul, Nat.reduceLeDiff, Int.reduceNeg, Int.reduceToNat, Int.reduceLE, Int.reduceLT, Int.reduceEq, ci]
      exact fin.of (Heap.le_trans (Heap.le_trans (Heap.le_new hb2) (Heap.le_new hb3)) (Heap.le_new hb5)) (Q_no hQ fun x => ci x.2.1)
  · simp (disch := omega) only [S, SL, Need_of, wrap_in, getD_map, getD_lt, Heap.set_ne, wrap_tdiv, tmod_nn, tdiv_nn, ↓reduceIte, eq_self, Nat.reduceEqDiff, Nat.reduceAdd, Nat.reduceSub, Nat.reduceMul, Nat.reduceLeDiff, Int.reduceNeg, Int.reduceToNat, Int.reduceLE, Int.reduceLT, Int.reduceEq]
    exact fin.of (Heap.le_trans (Heap.le_new hb2) (Heap.le_new hb3)) (Q_no hQ fun x => ok x.1)
end Go.Proofs.Ytabbipdkbdojiaa
