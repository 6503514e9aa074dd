/- Charts in form, and their ends, as the reference has them. No condition. -/
import Derived.Test.YtabbipdkbdojiaaChart2
namespace Go.Ab
open Go
/-- What an item waits for, as one number. -/
def headN (t : Cfg) (x : Itm) : Int := match nextV t x with
  | none => -2
  | some s => s.head
end Go.Ab
namespace Go.Proofs.Ytabbipdkbdojiaa
open Go Go.Ab
set_option linter.unusedVariables false
set_option linter.unusedSimpArgs false

theorem spec_l11Less.c {x y : Itm} {h : Heap} {Q : AV → Heap → Prop} (hQ : Q (bA (decide (ltI x y))) h) : CALL Try.prog spec_l11Less.id [.agg (itmA x), .agg (itmA y)] h Q := by
  refine CALL_by mixed spec_l11Less.tr (Nat.le_of_ble_eq_true rfl) ?_
  simp (disch := omega) only [S, SL, Need_of, wrap_in, getD_map, getD_lt, Heap.set_ne, wrap_tdiv, tmod_nn, tdiv_nn, ↓reduceIte, eq_self, Nat.reduceEqDiff, Nat.reduceAdd, Nat.reduceSub, Nat.reduceMul, Nat.reduceLeDiff, Int.reduceNeg, Int.reduceToNat, Int.reduceLE, Int.reduceLT, Int.reduceEq, spec_l11Less.g, itmA]
  refine allocK.in fun b2 hb2 => ?_
  simp (disch := omega) only [S, SL, Need_of, wrap_in, getD_map, getD_lt, Heap.set_ne, wrap_tdiv, tmod_nn, tdiv_nn, ↓reduceIte, eq_self, Nat.reduceEqDiff, Nat.reduceAdd, Nat.reduceSub, Nat.reduceMul, Nat.reduceLeDiff, Int.reduceNeg, Int.reduceToNat, Int.reduceLE, Int.reduceLT, Int.reduceEq, itmA]
  refine allocK.in fun b3 hb3 => ?_
  have n3 := Heap.new_ne hb3
  simp (disch := omega) only [S, SL, Need_of, wrap_in, getD_map, getD_lt, Heap.set_ne, wrap_tdiv, tmod_nn, tdiv_nn, ↓reduceIte, eq_self, Nat.reduceEqDiff, Nat.reduceAdd, Nat.reduceSub, Nat.reduceMul, Nat.reduceLeDiff, Int.reduceNeg, Int.reduceToNat, Int.reduceLE, Int.reduceLT, Int.reduceEq, itmA]
  refine condK_if (fun c1 => ?_) (fun c1 => ?_)
  · simp (disch := omega) only [S, SL, Need_of, wrap_in, getD_map, getD_lt, Heap.set_ne, wrap_tdiv, tmod_nn, tdiv_nn, ↓reduceIte, eq_self, Nat.reduceEqDiff, Nat.reduceAdd, Nat.reduceSub, Nat.reduceMul, Nat.reduceLeDiff, Int.reduceNeg, Int.reduceToNat, Int.reduceLE, Int.reduceLT, Int.reduceEq]
    refine gdK_if (fun c2 => ?_) (fun c2 => ?_)
    · simp (disch := omega) only [S, SL, Need_of, wrap_in, getD_map, getD_lt, Heap.set_ne, wrap_tdiv, tmod_nn, tdiv_nn, ↓reduceIte, eq_self, Nat.reduceEqDiff, Nat.reduceAdd, Nat.reduceSub, Nat.reduceMul, Nat.reduceLeDiff, Int.reduceNeg, Int.reduceToNat, Int.reduceLE, Int.reduceLT, Int.reduceEq, c2]
      exact fin.of (Heap.le_trans (Heap.le_new hb2) (Heap.le_new hb3)) (Q_yes hQ (by unfold ltI; omega))
    · simp (disch := omega) only [S, SL, Need_of, wrap_in, getD_map, getD_lt, Heap.set_ne, wrap_tdiv, tmod_nn, tdiv_nn, ↓reduceIte, eq_self, Nat.reduceEqDiff, Nat.reduceAdd, Nat.reduceSub, Nat.reduceMul, Nat.reduceLeDiff, Int.reduceNeg, Int.reduceToNat, Int.reduceLE, Int.reduceLT, Int.reduceEq, c2]
      refine gdK_if (fun c3 => ?_) (fun c3 => ?_)
      · have d3 := decide_eq_true c3
        simp (disch := omega) only [S, SL, Need_of, wrap_in, getD_map, getD_lt, Heap.set_ne, wrap_tdiv, tmod_nn, tdiv_nn, ↓reduceIte, eq_self, Nat.reduceEqDiff, Nat.reduceAdd, Nat.reduceSub, Nat.reduceMul, Nat.reduceLeDiff, Int.reduceNeg, Int.reduceToNat, Int.reduceLE, Int.reduceLT, Int.reduceEq, c2, d3]
        refine fin.of (Heap.le_trans (Heap.le_new hb2) (Heap.le_new hb3)) ?_
        by_cases e : ltI x y
        · rw [decide_eq_true (by unfold ltI at e; omega)]; exact Q_yes hQ e
        · rw [decide_eq_false (by unfold ltI at e; omega)]; exact Q_no hQ e
      · simp (disch := omega) only [S, SL, Need_of, wrap_in, getD_map, getD_lt, Heap.set_ne, wrap_tdiv, tmod_nn, tdiv_nn, ↓reduceIte, eq_self, Nat.reduceEqDiff, Nat.reduceAdd, Nat.reduceSub, Nat.reduceMul, Nat.reduceLeDiff, Int.reduceNeg, Int.reduceToNat, Int.reduceLE, Int.reduceLT, Int.reduceEq, c2, c3]
        exact fin.of (Heap.le_trans (Heap.le_new hb2) (Heap.le_new hb3)) (Q_no hQ (by unfold ltI; omega))
  · simp (disch := omega) only [S, SL, Need_of, wrap_in, getD_map, getD_lt, Heap.set_ne, wrap_tdiv, tmod_nn, tdiv_nn, ↓reduceIte, eq_self, Nat.reduceEqDiff, Nat.reduceAdd, Nat.reduceSub, Nat.reduceMul, Nat.reduceLeDiff, Int.reduceNeg, Int.reduceToNat, Int.reduceLE, Int.reduceLT, Int.reduceEq]
    refine fin.of (Heap.le_trans (Heap.le_new hb2) (Heap.le_new hb3)) ?_
    by_cases e : ltI x y
    · rw [decide_eq_true (by unfold ltI at e; omega)]; exact Q_yes hQ e
    · rw [decide_eq_false (by unfold ltI at e; omega)]; exact Q_no hQ e

theorem spec_l11Head.c {t : Cfg} {x : Itm} {a : Nat} (hx : ItemIn t a x) {h : Heap} {Q : AV → Heap → Prop} (hQ : Q (iA (headN t x)) h) : CALL Try.prog spec_l11Head.id [cfgA t, .agg (itmA x)] h Q := by
  refine CALL_by mixed spec_l11Head.tr (Nat.le_of_ble_eq_true rfl) ?_
  have hx' := hx
  obtain ⟨i1, i2, i3⟩ := hx'
  have hl := hx.prod_lt
  have hb := hx.body
  have hl' : x.prod < (t.prods.length : Int) := by omega
  simp (disch := omega) only [S, SL, Need_of, wrap_in, getD_map, getD_lt, Heap.set_ne, wrap_tdiv, tmod_nn, tdiv_nn, ↓reduceIte, eq_self, Nat.reduceEqDiff, Nat.reduceAdd, Nat.reduceSub, Nat.reduceMul, Nat.reduceLeDiff, Int.reduceNeg, Int.reduceToNat, Int.reduceLE, Int.reduceLT, Int.reduceEq, spec_l11Head.g, cfgA, cfgL, itmA]
  refine allocK.in fun b2 hb2 => ?_
  simp (disch := omega) only [S, SL, Need_of, wrap_in, getD_map, getD_lt, Heap.set_ne, wrap_tdiv, tmod_nn, tdiv_nn, ↓reduceIte, eq_self, Nat.reduceEqDiff, Nat.reduceAdd, Nat.reduceSub, Nat.reduceMul, Nat.reduceLeDiff, Int.reduceNeg, Int.reduceToNat, Int.reduceLE, Int.reduceLT, Int.reduceEq, cfgL, itmA]
  refine allocK.in fun b3 hb3 => ?_
  have n3 := Heap.new_ne hb3
  simp (disch := omega) only [S, SL, Need_of, wrap_in, getD_map, getD_lt, Heap.set_ne, wrap_tdiv, tmod_nn, tdiv_nn, ↓reduceIte, eq_self, Nat.reduceEqDiff, Nat.reduceAdd, Nat.reduceSub, Nat.reduceMul, Nat.reduceLeDiff, Int.reduceNeg, Int.reduceToNat, Int.reduceLE, Int.reduceLT, Int.reduceEq, cfgL, itmA, prdA]
  refine condK_if (fun c1 => ?_) (fun c1 => ?_)
  · simp (disch := omega) only [S, SL, Need_of, wrap_in, getD_map, getD_lt, Heap.set_ne, wrap_tdiv, tmod_nn, tdiv_nn, ↓reduceIte, eq_self, Nat.reduceEqDiff, Nat.reduceAdd, Nat.reduceSub, Nat.reduceMul, Nat.reduceLeDiff, Int.reduceNeg, Int.reduceToNat, Int.reduceLE, Int.reduceLT, Int.reduceEq]
    have e : headN t x = -2 := by unfold headN; rw [(nextV_none hx).2 (by rw [hb]; exact c1)]
    exact fin.of (Heap.le_trans (Heap.le_new hb2) (Heap.le_new hb3)) (by rw [← e]; exact hQ)
  · obtain ⟨q1, q2⟩ := nextV_some hx (by rw [hb]; exact c1)
    have q3 : (bodyV t x)[x.dot.toNat] = (t.prods[x.prod.toNat]).body[x.dot.toNat]'(by rw [← hb]; exact q1) := by simp only [hb]
    have q4 : x.dot < ((t.prods[x.prod.toNat]).body.length : Int) := by rw [← hb]; omega
    have q5 : x.dot.toNat < (t.prods[x.prod.toNat]).body.length := by omega
    simp (disch := omega) only [S, SL, Need_of, wrap_in, getD_map, getD_lt, Heap.set_ne, wrap_tdiv, tmod_nn, tdiv_nn, ↓reduceIte, eq_self, Nat.reduceEqDiff, Nat.reduceAdd, Nat.reduceSub, Nat.reduceMul, Nat.reduceLeDiff, Int.reduceNeg, Int.reduceToNat, Int.reduceLE, Int.reduceLT, Int.reduceEq, prdA, symA]
    have e : headN t x = ((t.prods[x.prod.toNat]).body[x.dot.toNat]).head := by unfold headN; rw [q2, ← q3]
    exact fin.of (Heap.le_trans (Heap.le_new hb2) (Heap.le_new hb3)) (by rw [← e]; exact hQ)

set_option maxHeartbeats 4000000 in
theorem spec_l11Ok.c {t : Cfg} (okt : CfgOk t) {c : Cht} (f : ChtFit c) {h : Heap} {Q : AV → Heap → Prop} (hQ : Q (bA (decide (ChartIn t c))) h) : CALL Try.prog spec_l11Ok.id [cfgA t, chartA c] h Q := by
  refine CALL_by mixed spec_l11Ok.tr (Nat.le_of_ble_eq_true rfl) ?_
  have hlen := okt.len
  have hh := okt.heads
  have f1 := f.len
  simp (disch := omega) only [S, SL, Need_of, wrap_in, getD_map, getD_lt, Heap.set_ne, wrap_tdiv, tmod_nn, tdiv_nn, ↓reduceIte, eq_self, Nat.reduceEqDiff, Nat.reduceAdd, Nat.reduceSub, Nat.reduceMul, Nat.reduceLeDiff, Int.reduceNeg, Int.reduceToNat, Int.reduceLE, Int.reduceLT, Int.reduceEq, spec_l11Ok.g, cfgA, chartA]
  refine allocK.in fun b2 hb2 => ?_
  simp (disch := omega) only [S, SL, Need_of, wrap_in, getD_map, getD_lt, Heap.set_ne, wrap_tdiv, tmod_nn, tdiv_nn, ↓reduceIte, eq_self, Nat.reduceEqDiff, Nat.reduceAdd, Nat.reduceSub, Nat.reduceMul, Nat.reduceLeDiff, Int.reduceNeg, Int.reduceToNat, Int.reduceLE, Int.reduceLT, Int.reduceEq]
  refine allocK.in fun b3 hb3 => ?_
  have n3 := Heap.new_ne hb3
  have le3 : h.le ((h.set b2 (.row 33 (cfgL t))).set b3 (.row 37 (chartL c))) := Heap.le_trans (Heap.le_new hb2) (Heap.le_new hb3)
  simp (disch := omega) only [S, SL, Need_of, wrap_in, getD_map, getD_lt, Heap.set_ne, wrap_tdiv, tmod_nn, tdiv_nn, ↓reduceIte, eq_self, Nat.reduceEqDiff, Nat.reduceAdd, Nat.reduceSub, Nat.reduceMul, Nat.reduceLeDiff, Int.reduceNeg, Int.reduceToNat, Int.reduceLE, Int.reduceLT, Int.reduceEq, cfgL]
  refine callK.in (spec_CfgOk.c (c := t) ?_)
  rw [decide_eq_true okt]
  simp (disch := omega) only [S, SL, Need_of, wrap_in, getD_map, getD_lt, Heap.set_ne, wrap_tdiv, tmod_nn, tdiv_nn, ↓reduceIte, eq_self, Nat.reduceEqDiff, Nat.reduceAdd, Nat.reduceSub, Nat.reduceMul, Nat.reduceLeDiff, Int.reduceNeg, Int.reduceToNat, Int.reduceLE, Int.reduceLT, Int.reduceEq, chartL]
  refine gdK_if (fun c0 => ?_) (fun c0 => ?_)
  · simp (disch := omega) only [S, SL, Need_of, wrap_in, getD_map, getD_lt, Heap.set_ne, wrap_tdiv, tmod_nn, tdiv_nn, ↓reduceIte, eq_self, Nat.reduceEqDiff, Nat.reduceAdd, Nat.reduceSub, Nat.reduceMul, Nat.reduceLeDiff, Int.reduceNeg, Int.reduceToNat, Int.reduceLE, Int.reduceLT, Int.reduceEq, c0]
    exact fin.of le3 (Q_no hQ fun ci => by have := ci.len; omega)
  simp (disch := omega) only [S, SL, Need_of, wrap_in, getD_map, getD_lt, Heap.set_ne, wrap_tdiv, tmod_nn, tdiv_nn, ↓reduceIte, eq_self, Nat.reduceEqDiff, Nat.reduceAdd, Nat.reduceSub, Nat.reduceMul, Nat.reduceLeDiff, Int.reduceNeg, Int.reduceToNat, Int.reduceLE, Int.reduceLT, Int.reduceEq, c0, chartL]
  refine condK_if (fun c1 => ?_) (fun c1 => ?_)
  · simp (disch := omega) only [S, SL, Need_of, wrap_in, getD_map, getD_lt, Heap.set_ne, wrap_tdiv, tmod_nn, tdiv_nn, ↓reduceIte, eq_self, Nat.reduceEqDiff, Nat.reduceAdd, Nat.reduceSub, Nat.reduceMul, Nat.reduceLeDiff, Int.reduceNeg, Int.reduceToNat, Int.reduceLE, Int.reduceLT, Int.reduceEq]
    exact fin.of le3 (Q_no hQ fun ci => by have := ci.len; omega)
  simp (disch := omega) only [S, SL, Need_of, wrap_in, getD_map, getD_lt, Heap.set_ne, wrap_tdiv, tmod_nn, tdiv_nn, ↓reduceIte, eq_self, Nat.reduceEqDiff, Nat.reduceAdd, Nat.reduceSub, Nat.reduceMul, Nat.reduceLeDiff, Int.reduceNeg, Int.reduceToNat, Int.reduceLE, Int.reduceLT, Int.reduceEq]
  refine CK_loop (α := Nat) (fun i => [(2, .adr b2 0), (3, .adr b3 0), (5, iA i)]) (fun _ => (h.set b2 (.row 33 (cfgL t))).set b3 (.row 37 (chartL c)))
      (fun i => i ≤ c.sets.length ∧ ∀ j (hj : j < c.sets.length), j < i → ∀ k (hk : k < c.sets[j].length), SetIn t j c.sets[j] k hk) (fun i => c.sets.length - i) 0 ?_ (Heap.le_refl _) ⟨Nat.zero_le _, fun j hj h => by omega⟩ ?_
  · simp only [S, SL, ↓reduceIte, eq_self, Nat.reduceEqDiff, Nat.reduceAdd, Nat.reduceSub, Nat.reduceMul, Nat.reduceLeDiff, Int.reduceNeg, Int.reduceToNat, Int.reduceLE, Int.reduceLT, Int.reduceEq]
  · rintro R i ⟨hi, hpre⟩ next
    simp (disch := omega) only [S, SL, Need_of, wrap_in, getD_map, getD_lt, Heap.set_ne, wrap_tdiv, tmod_nn, tdiv_nn, ↓reduceIte, eq_self, Nat.reduceEqDiff, Nat.reduceAdd, Nat.reduceSub, Nat.reduceMul, Nat.reduceLeDiff, Int.reduceNeg, Int.reduceToNat, Int.reduceLE, Int.reduceLT, Int.reduceEq, spec_l11Ok.l1, chartL]
    refine condK_if (fun c2 => ?_) (fun c2 => ?_)
    · have hi' : i < c.sets.length := by omega
      have f2 := f.sets _ (List.getElem_mem hi')
      simp (disch := omega) only [S, SL, Need_of, wrap_in, getD_map, getD_lt, Heap.set_ne, wrap_tdiv, tmod_nn, tdiv_nn, ↓reduceIte, eq_self, Nat.reduceEqDiff, Nat.reduceAdd, Nat.reduceSub, Nat.reduceMul, Nat.reduceLeDiff, Int.reduceNeg, Int.reduceToNat, Int.reduceLE, Int.reduceLT, Int.reduceEq]
      refine CK_loop (α := Nat) (fun k => [(2, .adr b2 0), (3, .adr b3 0), (5, iA i), (6, iA k)]) (fun _ => (h.set b2 (.row 33 (cfgL t))).set b3 (.row 37 (chartL c)))
          (fun k => k ≤ c.sets[i].length ∧ ∀ j (hj : j < c.sets[i].length), j < k → SetIn t i c.sets[i] j hj) (fun k => c.sets[i].length - k) 0 ?_ (Heap.le_refl _) ⟨Nat.zero_le _, fun j hj h => by omega⟩ ?_
      · simp only [S, SL, ↓reduceIte, eq_self, Nat.reduceEqDiff, Nat.reduceAdd, Nat.reduceSub, Nat.reduceMul, Nat.reduceLeDiff, Int.reduceNeg, Int.reduceToNat, Int.reduceLE, Int.reduceLT, Int.reduceEq]
      · rintro R' k ⟨hk, hpre2⟩ next'
        simp (disch := omega) only [S, SL, Need_of, wrap_in, getD_map, getD_lt, Heap.set_ne, wrap_tdiv, tmod_nn, tdiv_nn, ↓reduceIte, eq_self, Nat.reduceEqDiff, Nat.reduceAdd, Nat.reduceSub, Nat.reduceMul, Nat.reduceLeDiff, Int.reduceNeg, Int.reduceToNat, Int.reduceLE, Int.reduceLT, Int.reduceEq, spec_l11Ok.l0, chartL, setA]
        refine condK_if (fun c3 => ?_) (fun c3 => ?_)
        · have hk' : k < c.sets[i].length := by omega
          have no : ¬ SetIn t i c.sets[i] k hk' → ¬ ChartIn t c := fun hn hc => hn (hc.sets i hi' k hk')
          simp (disch := omega) only [S, SL, Need_of, wrap_in, getD_map, getD_lt, Heap.set_ne, wrap_tdiv, tmod_nn, tdiv_nn, ↓reduceIte, eq_self, Nat.reduceEqDiff, Nat.reduceAdd, Nat.reduceSub, Nat.reduceMul, Nat.reduceLeDiff, Int.reduceNeg, Int.reduceToNat, Int.reduceLE, Int.reduceLT, Int.reduceEq, itmA, chartL, setA]
          refine allocK.in fun b8 hb8 => ?_
          have n8 := Heap.new_ne hb8
          have n82 := Heap.new_ne (Heap.new_none hb8)
          have le8 : ∀ k, h.le (((h.set b2 (.row 33 (cfgL t))).set b3 (.row 37 (chartL c))).set b8 k) := fun k => Heap.le_trans le3 (Heap.le_new hb8)
          simp (disch := omega) only [S, SL, Need_of, wrap_in, getD_map, getD_lt, Heap.set_ne, wrap_tdiv, tmod_nn, tdiv_nn, ↓reduceIte, eq_self, Nat.reduceEqDiff, Nat.reduceAdd, Nat.reduceSub, Nat.reduceMul, Nat.reduceLeDiff, Int.reduceNeg, Int.reduceToNat, Int.reduceLE, Int.reduceLT, Int.reduceEq, cfgL, itmA]
          refine callK.in (spec_l6In.c2 (fun c4 => ?_) (fun c4 => ?_))
          · have hpl : c.sets[i][k].prod.toNat < t.prods.length := by omega
            have hbd : bodyV t c.sets[i][k] = (t.prods[c.sets[i][k].prod.toNat]).body := by unfold bodyV; rw [List.getD_eq_getElem?_getD, List.getElem?_eq_getElem hpl]; rfl
            have hbl := (okt.mem (List.getElem_mem hpl)).2.2.1
            simp (disch := omega) only [S, SL, Need_of, wrap_in, getD_map, getD_lt, Heap.set_ne, wrap_tdiv, tmod_nn, tdiv_nn, ↓reduceIte, eq_self, Nat.reduceEqDiff, Nat.reduceAdd, Nat.reduceSub, Nat.reduceMul, Nat.reduceLeDiff, Int.reduceNeg, Int.reduceToNat, Int.reduceLE, Int.reduceLT, Int.reduceEq, cfgL, itmA, prdA]
            refine callK.in (spec_l6In.c2 (fun c5 => ?_) (fun c5 => ?_))
            · simp (disch := omega) only [S, SL, Need_of, wrap_in, getD_map, getD_lt, Heap.set_ne, wrap_tdiv, tmod_nn, tdiv_nn, ↓reduceIte, eq_self, Nat.reduceEqDiff, Nat.reduceAdd, Nat.reduceSub, Nat.reduceMul, Nat.reduceLeDiff, Int.reduceNeg, Int.reduceToNat, Int.reduceLE, Int.reduceLT, Int.reduceEq, itmA]
              refine callK.in (spec_l6In.c2 (fun c6 => ?_) (fun c6 => ?_))
              · have item : ItemIn t i c.sets[i][k] := ⟨c4, by rw [hbd]; exact c5, by omega⟩
                simp (disch := omega) only [S, SL, Need_of, wrap_in, getD_map, getD_lt, Heap.set_ne, wrap_tdiv, tmod_nn, tdiv_nn, ↓reduceIte, eq_self, Nat.reduceEqDiff, Nat.reduceAdd, Nat.reduceSub, Nat.reduceMul, Nat.reduceLeDiff, Int.reduceNeg, Int.reduceToNat, Int.reduceLE, Int.reduceLT, Int.reduceEq, itmA]
                refine gdK_if (fun c7 => ?_) (fun c7 => ?_)
                · have e1 : ((k : Int) - 1).toNat = k - 1 := by omega
                  simp (disch := omega) only [S, SL, Need_of, wrap_in, getD_map, getD_lt, Heap.set_ne, wrap_tdiv, tmod_nn, tdiv_nn, ↓reduceIte, eq_self, Nat.reduceEqDiff, Nat.reduceAdd, Nat.reduceSub, Nat.reduceMul, Nat.reduceLeDiff, Int.reduceNeg, Int.reduceToNat, Int.reduceLE, Int.reduceLT, Int.reduceEq, c7, itmA, chartL, setA]
                  refine callK.in (spec_l11Less.c (x := c.sets[i][k - 1]) (y := c.sets[i][k]) ?_)
                  simp (disch := omega) only [S, SL, Need_of, wrap_in, getD_map, getD_lt, Heap.set_ne, wrap_tdiv, tmod_nn, tdiv_nn, ↓reduceIte, eq_self, Nat.reduceEqDiff, Nat.reduceAdd, Nat.reduceSub, Nat.reduceMul, Nat.reduceLeDiff, Int.reduceNeg, Int.reduceToNat, Int.reduceLE, Int.reduceLT, Int.reduceEq, c7]
                  refine condK_if (fun c8 => ?_) (fun c8 => ?_)
                  · simp (disch := omega) only [S, SL, Need_of, wrap_in, getD_map, getD_lt, Heap.set_ne, wrap_tdiv, tmod_nn, tdiv_nn, ↓reduceIte, eq_self, Nat.reduceEqDiff, Nat.reduceAdd, Nat.reduceSub, Nat.reduceMul, Nat.reduceLeDiff, Int.reduceNeg, Int.reduceToNat, Int.reduceLE, Int.reduceLT, Int.reduceEq]
                    refine next' (k + 1) _ _ ⟨by omega, fun j hj hjk => ?_⟩ (by omega) (by simp only [S, SL, ↓reduceIte, eq_self, Nat.reduceEqDiff, Nat.reduceAdd, Nat.reduceSub, Nat.reduceMul, Nat.reduceLeDiff, Int.reduceNeg, Int.reduceToNat, Int.reduceLE, Int.reduceLT, Int.reduceEq]) (Heap.le_new hb8)
                    by_cases hjk' : j < k
                    · exact hpre2 j hj hjk'
                    · obtain rfl : j = k := by omega
                      exact ⟨item, fun _ => c8⟩
                  · simp (disch := omega) only [S, SL, Need_of, wrap_in, getD_map, getD_lt, Heap.set_ne, wrap_tdiv, tmod_nn, tdiv_nn, ↓reduceIte, eq_self, Nat.reduceEqDiff, Nat.reduceAdd, Nat.reduceSub, Nat.reduceMul, Nat.reduceLeDiff, Int.reduceNeg, Int.reduceToNat, Int.reduceLE, Int.reduceLT, Int.reduceEq]
                    exact fin.of (le8 _) (Q_no hQ (no fun sn => c8 (sn.step (by omega))))
                · simp (disch := omega) only [S, SL, Need_of, wrap_in, getD_map, getD_lt, Heap.set_ne, wrap_tdiv, tmod_nn, tdiv_nn, ↓reduceIte, eq_self, Nat.reduceEqDiff, Nat.reduceAdd, Nat.reduceSub, Nat.reduceMul, Nat.reduceLeDiff, Int.reduceNeg, Int.reduceToNat, Int.reduceLE, Int.reduceLT, Int.reduceEq, c7]
                  refine next' (k + 1) _ _ ⟨by omega, fun j hj hjk => ?_⟩ (by omega) (by simp only [S, SL, ↓reduceIte, eq_self, Nat.reduceEqDiff, Nat.reduceAdd, Nat.reduceSub, Nat.reduceMul, Nat.reduceLeDiff, Int.reduceNeg, Int.reduceToNat, Int.reduceLE, Int.reduceLT, Int.reduceEq]) (Heap.le_new hb8)
                  by_cases hjk' : j < k
                  · exact hpre2 j hj hjk'
                  · obtain rfl : j = k := by omega
                    exact ⟨item, fun h0 => by omega⟩
              · simp (disch := omega) only [S, SL, Need_of, wrap_in, getD_map, getD_lt, Heap.set_ne, wrap_tdiv, tmod_nn, tdiv_nn, ↓reduceIte, eq_self, Nat.reduceEqDiff, Nat.reduceAdd, Nat.reduceSub, Nat.reduceMul, Nat.reduceLeDiff, Int.reduceNeg, Int.reduceToNat, Int.reduceLE, Int.reduceLT, Int.reduceEq]
                exact fin.of (le8 _) (Q_no hQ (no fun sn => c6 (by have := sn.item.2.2; omega)))
            · simp (disch := omega) only [S, SL, Need_of, wrap_in, getD_map, getD_lt, Heap.set_ne, wrap_tdiv, tmod_nn, tdiv_nn, ↓reduceIte, eq_self, Nat.reduceEqDiff, Nat.reduceAdd, Nat.reduceSub, Nat.reduceMul, Nat.reduceLeDiff, Int.reduceNeg, Int.reduceToNat, Int.reduceLE, Int.reduceLT, Int.reduceEq]
              exact fin.of (le8 _) (Q_no hQ (no fun sn => c5 (by have := sn.item.2.1; rw [hbd] at this; exact this)))
          · simp (disch := omega) only [S, SL, Need_of, wrap_in, getD_map, getD_lt, Heap.set_ne, wrap_tdiv, tmod_nn, tdiv_nn, ↓reduceIte, eq_self, Nat.reduceEqDiff, Nat.reduceAdd, Nat.reduceSub, Nat.reduceMul, Nat.reduceLeDiff, Int.reduceNeg, Int.reduceToNat, Int.reduceLE, Int.reduceLT, Int.reduceEq]
            exact fin.of (le8 _) (Q_no hQ (no fun sn => c4 sn.item.1))
        · simp (disch := omega) only [S, SL, Need_of, wrap_in, getD_map, getD_lt, Heap.set_ne, wrap_tdiv, tmod_nn, tdiv_nn, ↓reduceIte, eq_self, Nat.reduceEqDiff, Nat.reduceAdd, Nat.reduceSub, Nat.reduceMul, Nat.reduceLeDiff, Int.reduceNeg, Int.reduceToNat, Int.reduceLE, Int.reduceLT, Int.reduceEq]
          refine next (i + 1) _ _ ⟨by omega, fun j hj hji => ?_⟩ (by omega) (by simp only [S, SL, ↓reduceIte, eq_self, Nat.reduceEqDiff, Nat.reduceAdd, Nat.reduceSub, Nat.reduceMul, Nat.reduceLeDiff, Int.reduceNeg, Int.reduceToNat, Int.reduceLE, Int.reduceLT, Int.reduceEq]) (Heap.le_refl _)
          by_cases hji' : j < i
          · exact hpre j hj hji'
          · obtain rfl : j = i := by omega
            exact fun k hk2 => hpre2 k hk2 (by omega)
    · simp (disch := omega) only [S, SL, Need_of, wrap_in, getD_map, getD_lt, Heap.set_ne, wrap_tdiv, tmod_nn, tdiv_nn, ↓reduceIte, eq_self, Nat.reduceEqDiff, Nat.reduceAdd, Nat.reduceSub, Nat.reduceMul, Nat.reduceLeDiff, Int.reduceNeg, Int.reduceToNat, Int.reduceLE, Int.reduceLT, Int.reduceEq]
      exact fin.of le3 (Q_yes hQ ⟨by omega, fun j hj => hpre j hj (by omega)⟩)

set_option maxHeartbeats 4000000 in
theorem spec_ChartEnds.c {p : Cfg} {c : Cht} (f : ChtFit c) {h : Heap} {Q : AV → Heap → Prop} (hQ : Q (bA (decide (CfgOk p ∧ ChartIn (trimV p) c ∧ EndsV (trimV p) c))) h) : CALL Try.prog spec_ChartEnds.id [cfgA p, chartA c] h Q := by
  refine CALL_by mixed spec_ChartEnds.tr (Nat.le_of_ble_eq_true rfl) ?_
  simp (disch := omega) only [S, SL, Need_of, wrap_in, getD_map, getD_lt, Heap.set_ne, wrap_tdiv, tmod_nn, tdiv_nn, ↓reduceIte, eq_self, Nat.reduceEqDiff, Nat.reduceAdd, Nat.reduceSub, Nat.reduceMul, Nat.reduceLeDiff, Int.reduceNeg, Int.reduceToNat, Int.reduceLE, Int.reduceLT, Int.reduceEq, spec_ChartEnds.g, cfgA, chartA]
  refine allocK.in fun b2 hb2 => ?_
  simp (disch := omega) only [S, SL, Need_of, wrap_in, getD_map, getD_lt, Heap.set_ne, wrap_tdiv, tmod_nn, tdiv_nn, ↓reduceIte, eq_self, Nat.reduceEqDiff, Nat.reduceAdd, Nat.reduceSub, Nat.reduceMul, Nat.reduceLeDiff, Int.reduceNeg, Int.reduceToNat, Int.reduceLE, Int.reduceLT, Int.reduceEq]
  refine allocK.in fun b3 hb3 => ?_
  have n3 := Heap.new_ne hb3
  simp (disch := omega) only [S, SL, Need_of, wrap_in, getD_map, getD_lt, Heap.set_ne, wrap_tdiv, tmod_nn, tdiv_nn, ↓reduceIte, eq_self, Nat.reduceEqDiff, Nat.reduceAdd, Nat.reduceSub, Nat.reduceMul, Nat.reduceLeDiff, Int.reduceNeg, Int.reduceToNat, Int.reduceLE, Int.reduceLT, Int.reduceEq, cfgL, chartL]
  refine callK.in (spec_CfgOk.c (c := p) ?_)
  simp (disch := omega) only [S, SL, Need_of, wrap_in, getD_map, getD_lt, Heap.set_ne, wrap_tdiv, tmod_nn, tdiv_nn, ↓reduceIte, eq_self, Nat.reduceEqDiff, Nat.reduceAdd, Nat.reduceSub, Nat.reduceMul, Nat.reduceLeDiff, Int.reduceNeg, Int.reduceToNat, Int.reduceLE, Int.reduceLT, Int.reduceEq]
  have le3 : ∀ k3, h.le ((h.set b2 (.row 33 [iA p.heads, .imm false (p.prods.map prdA)])).set b3 k3) := fun k3 => Heap.le_trans (Heap.le_new hb2) (Heap.le_new hb3)
  refine gdK_if (fun ok => ?_) (fun ok => ?_)
  · have d := decide_eq_true ok
    simp (disch := omega) only [S, SL, Need_of, wrap_in, getD_map, getD_lt, Heap.set_ne, wrap_tdiv, tmod_nn, tdiv_nn, ↓reduceIte, eq_self, Nat.reduceEqDiff, Nat.reduceAdd, Nat.reduceSub, Nat.reduceMul, Nat.reduceLeDiff, Int.reduceNeg, Int.reduceToNat, Int.reduceLE, Int.reduceLT, Int.reduceEq, d]
    repeat' (with_reducible apply And.intro)
    all_goals
      try simp (disch := omega) only [S, SL, Need_of, wrap_in, getD_map, getD_lt, Heap.set_ne, wrap_tdiv, tmod_nn, tdiv_nn, ↓reduceIte, eq_self, Nat.reduceEqDiff, Nat.reduceAdd, Nat.reduceSub, Nat.reduceMul, Nat.reduceLeDiff, Int.reduceNeg, Int.reduceToNat, Int.reduceLE, Int.reduceLT, Int.reduceEq, cfgL, chartL]
      refine callK.in (spec_CfgTrim.i ok ?_)
      simp (disch := omega) only [S, SL, Need_of, wrap_in, getD_map, getD_lt, Heap.set_ne, wrap_tdiv, tmod_nn, tdiv_nn, ↓reduceIte, eq_self, Nat.reduceEqDiff, Nat.reduceAdd, Nat.reduceSub, Nat.reduceMul, Nat.reduceLeDiff, Int.reduceNeg, Int.reduceToNat, Int.reduceLE, Int.reduceLT, Int.reduceEq, d, chartL]
      refine callK.in (spec_l11Ok.c (trimV_ok ok) f ?_)
      simp (disch := omega) only [S, SL, Need_of, wrap_in, getD_map, getD_lt, Heap.set_ne, wrap_tdiv, tmod_nn, tdiv_nn, ↓reduceIte, eq_self, Nat.reduceEqDiff, Nat.reduceAdd, Nat.reduceSub, Nat.reduceMul, Nat.reduceLeDiff, Int.reduceNeg, Int.reduceToNat, Int.reduceLE, Int.reduceLT, Int.reduceEq, d]
      refine condK_if (fun ci => ?_) (fun ci => ?_)
      · simp (disch := omega) only [S, SL, Need_of, wrap_in, getD_map, getD_lt, Heap.set_ne, wrap_tdiv, tmod_nn, tdiv_nn, ↓reduceIte, eq_self, Nat.reduceEqDiff, Nat.reduceAdd, Nat.reduceSub, Nat.reduceMul, Nat.reduceLeDiff, Int.reduceNeg, Int.reduceToNat, Int.reduceLE, Int.reduceLT, Int.reduceEq, cfgL]
        refine callK.in (spec_CfgTrim.i ok ?_)
        simp (disch := omega) only [S, SL, Need_of, wrap_in, getD_map, getD_lt, Heap.set_ne, wrap_tdiv, tmod_nn, tdiv_nn, ↓reduceIte, eq_self, Nat.reduceEqDiff, Nat.reduceAdd, Nat.reduceSub, Nat.reduceMul, Nat.reduceLeDiff, Int.reduceNeg, Int.reduceToNat, Int.reduceLE, Int.reduceLT, Int.reduceEq, cfgA, cfgL]
        refine allocK.in fun b5 hb5 => ?_
        have n5 := Heap.new_ne hb5
        have n52 := Heap.new_ne (Heap.new_none hb5)
        have f1 := f.len
        have f0 := ci.len
        have f2 := lastV_fit f ci.len.1
        have e1 : ((c.sets.length : Int) - 1).toNat = c.sets.length - 1 := by omega
        simp (disch := omega) only [S, SL, Need_of, wrap_in, getD_map, getD_lt, Heap.set_ne, wrap_tdiv, tmod_nn, tdiv_nn, ↓reduceIte, eq_self, Nat.reduceEqDiff, Nat.reduceAdd, Nat.reduceSub, Nat.reduceMul, Nat.reduceLeDiff, Int.reduceNeg, Int.reduceToNat, Int.reduceLE, Int.reduceLT, Int.reduceEq, cfgL, chartL, setA]
        have e2 := (last_eq ci.len.1).symm
        have hlen := (trimV_ok ok).len
        refine CK_loop (α := Nat) (fun k => [(5, .adr b5 0), (6, .imm false ((lastV c).map itmA)), (7, iA k)]) (fun _ => h.set b5 (.row 33 (cfgL (trimV p))))
          (fun k => k ≤ (lastV c).length ∧ ∀ j (hj : j < (lastV c).length), j < k → ¬ endI (trimV p) (lastV c)[j]) (fun k => (lastV c).length - k) 0 ?_ (Heap.set_mono (le3 _) _ _) ⟨Nat.zero_le _, fun j hj h => by omega⟩ ?_
        · simp only [S, SL, ↓reduceIte, eq_self, Nat.reduceEqDiff, Nat.reduceAdd, Nat.reduceSub, Nat.reduceMul, Nat.reduceLeDiff, Int.reduceNeg, Int.reduceToNat, Int.reduceLE, Int.reduceLT, Int.reduceEq, e2]
        · have hb5' : h b5 = none := Heap.new_none (Heap.new_none hb5)
          rintro R k ⟨hk, hpre⟩ next
          simp (disch := omega) only [S, SL, Need_of, wrap_in, getD_map, getD_lt, Heap.set_ne, wrap_tdiv, tmod_nn, tdiv_nn, ↓reduceIte, eq_self, Nat.reduceEqDiff, Nat.reduceAdd, Nat.reduceSub, Nat.reduceMul, Nat.reduceLeDiff, Int.reduceNeg, Int.reduceToNat, Int.reduceLE, Int.reduceLT, Int.reduceEq, spec_ChartEnds.l0]
          refine condK_if (fun c3 => ?_) (fun c3 => ?_)
          · have hk' : k < (lastV c).length := by omega
            have it := ci.last (List.getElem_mem hk')
            have hpl := it.prod_lt
            have it' := it
            obtain ⟨i1, i2, i3⟩ := it'
            have hpl' : (lastV c)[k].prod < ((trimV p).prods.length : Int) := by omega
            have ehd : headV (trimV p) (lastV c)[k] = ((trimV p).prods[(lastV c)[k].prod.toNat]).head := it.head
            have more : ¬ endI (trimV p) (lastV c)[k] → ∀ j (hj : j < (lastV c).length), j < k + 1 → ¬ endI (trimV p) (lastV c)[j] := fun hn j hj hjk => by
              by_cases hjk' : j < k
              · exact hpre j hj hjk'
              · obtain rfl : j = k := by omega
                exact hn
            simp (disch := omega) only [S, SL, Need_of, wrap_in, getD_map, getD_lt, Heap.set_ne, wrap_tdiv, tmod_nn, tdiv_nn, ↓reduceIte, eq_self, Nat.reduceEqDiff, Nat.reduceAdd, Nat.reduceSub, Nat.reduceMul, Nat.reduceLeDiff, Int.reduceNeg, Int.reduceToNat, Int.reduceLE, Int.reduceLT, Int.reduceEq, itmA, cfgL, prdA]
            refine gdK_if (fun c4 => ?_) (fun c4 => ?_)
            · have d4 := decide_eq_true c4
              simp (disch := omega) only [S, SL, Need_of, wrap_in, getD_map, getD_lt, Heap.set_ne, wrap_tdiv, tmod_nn, tdiv_nn, ↓reduceIte, eq_self, Nat.reduceEqDiff, Nat.reduceAdd, Nat.reduceSub, Nat.reduceMul, Nat.reduceLeDiff, Int.reduceNeg, Int.reduceToNat, Int.reduceLE, Int.reduceLT, Int.reduceEq, d4, itmA, cfgL, prdA]
              refine gdK_if (fun c5 => ?_) (fun c5 => ?_)
              · have d5 := decide_eq_true c5
                simp (disch := omega) only [S, SL, Need_of, wrap_in, getD_map, getD_lt, Heap.set_ne, wrap_tdiv, tmod_nn, tdiv_nn, ↓reduceIte, eq_self, Nat.reduceEqDiff, Nat.reduceAdd, Nat.reduceSub, Nat.reduceMul, Nat.reduceLeDiff, Int.reduceNeg, Int.reduceToNat, Int.reduceLE, Int.reduceLT, Int.reduceEq, d4, d5, itmA]
                refine callK.in (spec_l11Head.c (t := trimV p) (x := (lastV c)[k]) it ?_)
                simp (disch := omega) only [S, SL, Need_of, wrap_in, getD_map, getD_lt, Heap.set_ne, wrap_tdiv, tmod_nn, tdiv_nn, ↓reduceIte, eq_self, Nat.reduceEqDiff, Nat.reduceAdd, Nat.reduceSub, Nat.reduceMul, Nat.reduceLeDiff, Int.reduceNeg, Int.reduceToNat, Int.reduceLE, Int.reduceLT, Int.reduceEq, d4, d5]
                have hn : headN (trimV p) (lastV c)[k] = -2 ↔ nextV (trimV p) (lastV c)[k] = none := by
                  unfold headN
                  cases hx : nextV (trimV p) (lastV c)[k] with
                  | none => simp
                  | some s => have := nextV_ok (trimV_ok ok) it hx; unfold SymOk at this; simp <;> omega
                refine condK_if (fun c6 => ?_) (fun c6 => ?_)
                · simp (disch := omega) only [S, SL, Need_of, wrap_in, getD_map, getD_lt, Heap.set_ne, wrap_tdiv, tmod_nn, tdiv_nn, ↓reduceIte, eq_self, Nat.reduceEqDiff, Nat.reduceAdd, Nat.reduceSub, Nat.reduceMul, Nat.reduceLeDiff, Int.reduceNeg, Int.reduceToNat, Int.reduceLE, Int.reduceLT, Int.reduceEq]
                  exact fin.of (Heap.le_new hb5') (Q_yes hQ ⟨ok, ci, _, List.getElem_mem hk', hn.1 c6, by rw [ehd]; exact c5, c4⟩)
                · simp (disch := omega) only [S, SL, Need_of, wrap_in, getD_map, getD_lt, Heap.set_ne, wrap_tdiv, tmod_nn, tdiv_nn, ↓reduceIte, eq_self, Nat.reduceEqDiff, Nat.reduceAdd, Nat.reduceSub, Nat.reduceMul, Nat.reduceLeDiff, Int.reduceNeg, Int.reduceToNat, Int.reduceLE, Int.reduceLT, Int.reduceEq]
                  exact next (k + 1) _ _ ⟨by omega, more fun e => c6 (hn.2 e.1)⟩ (by omega) (by simp only [S, SL, ↓reduceIte, eq_self, Nat.reduceEqDiff, Nat.reduceAdd, Nat.reduceSub, Nat.reduceMul, Nat.reduceLeDiff, Int.reduceNeg, Int.reduceToNat, Int.reduceLE, Int.reduceLT, Int.reduceEq]) (Heap.le_refl _)
              · have d5 := decide_eq_false c5
                simp (disch := omega) only [S, SL, Need_of, wrap_in, getD_map, getD_lt, Heap.set_ne, wrap_tdiv, tmod_nn, tdiv_nn, ↓reduceIte, eq_self, Nat.reduceEqDiff, Nat.reduceAdd, Nat.reduceSub, Nat.reduceMul, Nat.reduceLeDiff, Int.reduceNeg, Int.reduceToNat, Int.reduceLE, Int.reduceLT, Int.reduceEq, d4, d5]
                exact next (k + 1) _ _ ⟨by omega, more fun e => c5 (by rw [← ehd]; exact e.2.1)⟩ (by omega) (by simp only [S, SL, ↓reduceIte, eq_self, Nat.reduceEqDiff, Nat.reduceAdd, Nat.reduceSub, Nat.reduceMul, Nat.reduceLeDiff, Int.reduceNeg, Int.reduceToNat, Int.reduceLE, Int.reduceLT, Int.reduceEq]) (Heap.le_refl _)
            · have d4 := decide_eq_false c4
              simp (disch := omega) only [S, SL, Need_of, wrap_in, getD_map, getD_lt, Heap.set_ne, wrap_tdiv, tmod_nn, tdiv_nn, ↓reduceIte, eq_self, Nat.reduceEqDiff, Nat.reduceAdd, Nat.reduceSub, Nat.reduceMul, Nat.reduceLeDiff, Int.reduceNeg, Int.reduceToNat, Int.reduceLE, Int.reduceLT, Int.reduceEq, d4]
              exact next (k + 1) _ _ ⟨by omega, more fun e => c4 e.2.2⟩ (by omega) (by simp only [S, SL, ↓reduceIte, eq_self, Nat.reduceEqDiff, Nat.reduceAdd, Nat.reduceSub, Nat.reduceMul, Nat.reduceLeDiff, Int.reduceNeg, Int.reduceToNat, Int.reduceLE, Int.reduceLT, Int.reduceEq]) (Heap.le_refl _)
          · simp (disch := omega) only [S, SL, Need_of, wrap_in, getD_map, getD_lt, Heap.set_ne, wrap_tdiv, tmod_nn, tdiv_nn, ↓reduceIte, eq_self, Nat.reduceEqDiff, Nat.reduceAdd, Nat.reduceSub, Nat.reduceMul, Nat.reduceLeDiff, Int.reduceNeg, Int.reduceToNat, Int.reduceLE, Int.reduceLT, Int.reduceEq]
            exact fin.of (Heap.le_new hb5') (Q_no hQ fun ⟨_, _, x, hx, hx2⟩ => by
              obtain ⟨j, hj⟩ := List.getElem?_of_mem hx
              obtain ⟨hj1, rfl⟩ := List.getElem?_eq_some_iff.1 hj
              exact hpre j hj1 (by omega) hx2)
      · simp (disch := omega) only [S, SL, Need_of, wrap_in, getD_map, getD_lt, Heap.set_ne, wrap_tdiv, tmod_nn, tdiv_nn, ↓reduceIte, eq_self, Nat.reduceEqDiff, Nat.reduceAdd, Nat.reduceSub, Nat.reduceMul, Nat.reduceLeDiff, Int.reduceNeg, Int.reduceToNat, Int.reduceLE, Int.reduceLT, Int.reduceEq]
        exact fin.of (le3 _) (Q_no hQ fun x => ci x.2.1)
  · have d := decide_eq_false ok
    simp (disch := omega) only [S, SL, Need_of, wrap_in, getD_map, getD_lt, Heap.set_ne, wrap_tdiv, tmod_nn, tdiv_nn, ↓reduceIte, eq_self, Nat.reduceEqDiff, Nat.reduceAdd, Nat.reduceSub, Nat.reduceMul, Nat.reduceLeDiff, Int.reduceNeg, Int.reduceToNat, Int.reduceLE, Int.reduceLT, Int.reduceEq, d]
    repeat' (with_reducible apply And.intro)
    all_goals
      exact fin.of (le3 _) (Q_no hQ fun x => ok x.1)
end Go.Proofs.Ytabbipdkbdojiaa
