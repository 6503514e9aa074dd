/- What the reference's trim comes to. No condition. -/
import Derived.Test.YtabbipdkbdojiaaTrim2
namespace Go.Proofs.Ytabbipdkbdojiaa
open Go Go.Ab
set_option linter.unusedVariables false
set_option linter.unusedSimpArgs false

set_option maxHeartbeats 4000000 in
theorem spec_CfgTrim.c {c : Cfg} (ok : CfgOk c) {h : Heap} {Q : AV → Heap → Prop} (hQ : ∀ t h', RowsT 85 2 EPrd (trimV c).prods t → Made h h' [t] → Q (.agg [iA c.heads, tA t]) h') : CALL Try.prog spec_CfgTrim.id [cfgA c] h Q := by
  refine CALL_by mixed spec_CfgTrim.tr (Nat.le_of_ble_eq_true rfl) ?_
  have hh := ok.heads
  have hlen := ok.len
  have lok := leastV_ok ok
  simp (disch := omega) only [S, SL, Need_of, wrap_in, getD_map, getD_lt, Heap.set_ne, wrap_tdiv, tmod_nn, tdiv_nn, ↓reduceIte, eq_self, Nat.reduceEqDiff, Nat.reduceAdd, Nat.reduceSub, Nat.reduceMul, Nat.reduceLeDiff, Int.reduceNeg, Int.reduceToNat, Int.reduceLE, Int.reduceLT, Int.reduceEq, spec_CfgTrim.g, cfgA, cfgL]
  refine allocK.in fun b1 hb1 => ?_
  simp (disch := omega) only [S, SL, Need_of, wrap_in, getD_map, getD_lt, Heap.set_ne, wrap_tdiv, tmod_nn, tdiv_nn, ↓reduceIte, eq_self, Nat.reduceEqDiff, Nat.reduceAdd, Nat.reduceSub, Nat.reduceMul, Nat.reduceLeDiff, Int.reduceNeg, Int.reduceToNat, Int.reduceLE, Int.reduceLT, Int.reduceEq]
  refine allocK.in fun b2 hb2 => ?_
  have ne2 := Heap.new_ne hb2
  simp (disch := omega) only [S, SL, Need_of, wrap_in, getD_map, getD_lt, Heap.set_ne, wrap_tdiv, tmod_nn, tdiv_nn, ↓reduceIte, eq_self, Nat.reduceEqDiff, Nat.reduceAdd, Nat.reduceSub, Nat.reduceMul, Nat.reduceLeDiff, Int.reduceNeg, Int.reduceToNat, Int.reduceLE, Int.reduceLT, Int.reduceEq, cfgL]
  refine callK.in (spec_CfgOk.c (c := c) ?_)
  rw [decide_eq_true ok]
  simp (disch := omega) only [S, SL, Need_of, wrap_in, getD_map, getD_lt, Heap.set_ne, wrap_tdiv, tmod_nn, tdiv_nn, ↓reduceIte, eq_self, Nat.reduceEqDiff, Nat.reduceAdd, Nat.reduceSub, Nat.reduceMul, Nat.reduceLeDiff, Int.reduceNeg, Int.reduceToNat, Int.reduceLE, Int.reduceLT, Int.reduceEq, cfgL]
  refine callK.in (spec_CfgLeast.i ok ?_)
  simp (disch := omega) only [S, SL, Need_of, wrap_in, getD_map, getD_lt, Heap.set_ne, wrap_tdiv, tmod_nn, tdiv_nn, ↓reduceIte, eq_self, Nat.reduceEqDiff, Nat.reduceAdd, Nat.reduceSub, Nat.reduceMul, Nat.reduceLeDiff, Int.reduceNeg, Int.reduceToNat, Int.reduceLE, Int.reduceLT, Int.reduceEq]
  refine rowK.in fun b4 hb4 => ?_
  have ne42 := Heap.new_ne hb4
  have ne41 := Heap.new_ne (Heap.new_none hb4)
  have hn4 := Heap.new_none (Heap.new_none hb4)
  have z0 : (List.replicate c.heads.toNat [bA false]).flatten = (List.replicate c.heads.toNat false).map bA := by
    generalize c.heads.toNat = k
    induction k with
    | zero => rfl
    | succ k ih => rw [List.replicate_succ, List.flatten_cons, ih]; rfl
  rw [show [AV.val (Value.bool false)] = [bA false] from rfl, z0]
  simp (disch := omega) only [S, SL, Need_of, wrap_in, getD_map, getD_lt, Heap.set_ne, wrap_tdiv, tmod_nn, tdiv_nn, ↓reduceIte, eq_self, Nat.reduceEqDiff, Nat.reduceAdd, Nat.reduceSub, Nat.reduceMul, Nat.reduceLeDiff, Int.reduceNeg, Int.reduceToNat, Int.reduceLE, Int.reduceLT, Int.reduceEq, List.length_replicate]
  generalize hg : (h.set b1 (.row 33 (cfgL c))).set b2 (.row 33 [iA 0, nilA]) = hh0
  refine CK_loop (α := List Bool × Bool) (fun x => [(1, .adr b1 0), (2, .adr b2 0), (3, intsI (leastV c)), (4, .own b4 c.heads.toNat), (5, bA x.2)]) (fun x => hh0.set b4 (.row 4 (x.1.map bA)))
    (fun x => x.1.length = c.heads.toNat ∧ (∃ j, x.1 = iterN (fun u => c.prods.foldl (useP (leastV c)) u) j ((List.replicate c.heads.toNat false).set 0 true)) ∧ (x.2 = false → c.prods.foldl (useP (leastV c)) x.1 = x.1)) (fun x => 2 * idle x.1 + x.2.toNat) ((List.replicate c.heads.toNat false).set 0 true, true) ?_ ?_ ⟨by simp, ⟨0, rfl⟩, fun e => by cases e⟩ ?_
  · simp only [S, SL, ↓reduceIte, eq_self, Nat.reduceEqDiff, Nat.reduceAdd, Nat.reduceSub, Nat.reduceMul, Nat.reduceLeDiff, Int.reduceNeg, Int.reduceToNat, Int.reduceLE, Int.reduceLT, Int.reduceEq]
  · rw [← hg, List.map_set]; exact Heap.le_refl _
  have f1 : hh0 b1 = some (.row 33 (cfgL c)) := by rw [← hg, Heap.set_ne _ _ (fun e => ne2 e.symm), Heap.set_same]
  have f2 : hh0 b2 = some (.row 33 [iA 0, nilA]) := by rw [← hg, Heap.set_same]
  have f4 : hh0 b4 = none := by rw [← hg]; exact hb4
  rintro R ⟨u0, again⟩ ⟨hu0, hj, hfix⟩ next
  simp only at hu0 hj hfix
  simp (disch := omega) only [S, SL, Need_of, wrap_in, getD_map, getD_lt, Heap.set_ne, wrap_tdiv, tmod_nn, tdiv_nn, ↓reduceIte, eq_self, Nat.reduceEqDiff, Nat.reduceAdd, Nat.reduceSub, Nat.reduceMul, Nat.reduceLeDiff, Int.reduceNeg, Int.reduceToNat, Int.reduceLE, Int.reduceLT, Int.reduceEq, spec_CfgTrim.l2]
  refine condK_bool (fun c1 => ?_) (fun c1 => ?_)
  · simp (disch := omega) only [S, SL, Need_of, wrap_in, getD_map, getD_lt, Heap.set_ne, wrap_tdiv, tmod_nn, tdiv_nn, ↓reduceIte, eq_self, Nat.reduceEqDiff, Nat.reduceAdd, Nat.reduceSub, Nat.reduceMul, Nat.reduceLeDiff, Int.reduceNeg, Int.reduceToNat, Int.reduceLE, Int.reduceLT, Int.reduceEq, f1, cfgL]
    refine CK_loop (α := Nat × List Bool × Bool) (fun x => [(1, .adr b1 0), (2, .adr b2 0), (3, intsI (leastV c)), (4, .own b4 c.heads.toNat), (5, bA x.2.2), (6, iA x.1)]) (fun x => hh0.set b4 (.row 4 (x.2.1.map bA)))
      (fun x => x.1 ≤ c.prods.length ∧ x.2.1.length = c.heads.toNat ∧ x.2.1 = (c.prods.take x.1).foldl (useP (leastV c)) u0 ∧ (x.2.2 = false → x.2.1 = u0) ∧ (x.2.2 = true → idle x.2.1 < idle u0)) (fun x => c.prods.length - x.1) (0, u0, false) ?_ (Heap.le_refl _) ⟨Nat.zero_le _, hu0, rfl, fun _ => rfl, fun e => by cases e⟩ ?_
    · simp only [S, SL, ↓reduceIte, eq_self, Nat.reduceEqDiff, Nat.reduceAdd, Nat.reduceSub, Nat.reduceMul, Nat.reduceLeDiff, Int.reduceNeg, Int.reduceToNat, Int.reduceLE, Int.reduceLT, Int.reduceEq]
    · rintro R' ⟨k, u, ag⟩ ⟨hk, hu, hfold, hno, hyes⟩ next'
      simp only at hk hu hfold hno hyes
      simp (disch := omega) only [S, SL, Need_of, wrap_in, getD_map, getD_lt, Heap.set_ne, wrap_tdiv, tmod_nn, tdiv_nn, ↓reduceIte, eq_self, Nat.reduceEqDiff, Nat.reduceAdd, Nat.reduceSub, Nat.reduceMul, Nat.reduceLeDiff, Int.reduceNeg, Int.reduceToNat, Int.reduceLE, Int.reduceLT, Int.reduceEq, spec_CfgTrim.l1, f1, cfgL]
      refine condK_if (fun c2 => ?_) (fun c2 => ?_)
      · have hk' : k < c.prods.length := by omega
        obtain ⟨p1, p2, p3, p4⟩ := ok.prod hk'
        have hi : c.prods[k].head.toNat < u.length := by omega
        have hi' : c.prods[k].head < (c.heads.toNat : Int) := by omega
        have hml : (u.map bA).length = c.heads.toNat := by rw [List.length_map, hu]
        have hstep : (c.prods.take (k + 1)).foldl (useP (leastV c)) u0 = useP (leastV c) u c.prods[k] := by rw [foldl_take hk', ← hfold]
        have hv : u.getD c.prods[k].head.toNat false = u[c.prods[k].head.toNat] := by simp [List.getD_eq_getElem?_getD, hi]
        simp (disch := omega) only [S, SL, Need_of, wrap_in, getD_map, getD_lt, Heap.set_ne, wrap_tdiv, tmod_nn, tdiv_nn, ↓reduceIte, eq_self, Nat.reduceEqDiff, Nat.reduceAdd, Nat.reduceSub, Nat.reduceMul, Nat.reduceLeDiff, Int.reduceNeg, Int.reduceToNat, Int.reduceLE, Int.reduceLT, Int.reduceEq, prdA, f1, cfgL]
        refine allocK.in fun b7 hb7 => ?_
        have ne7 := Heap.new_ne hb7
        simp (disch := omega) only [S, SL, Need_of, wrap_in, getD_map, getD_lt, Heap.set_ne, wrap_tdiv, tmod_nn, tdiv_nn, ↓reduceIte, eq_self, Nat.reduceEqDiff, Nat.reduceAdd, Nat.reduceSub, Nat.reduceMul, Nat.reduceLeDiff, Int.reduceNeg, Int.reduceToNat, Int.reduceLE, Int.reduceLT, Int.reduceEq, hml, List.getElem_map]
        refine gdK_bool (fun c3 => ?_) (fun c3 => ?_)
        · simp (disch := omega) only [S, SL, Need_of, wrap_in, getD_map, getD_lt, Heap.set_ne, wrap_tdiv, tmod_nn, tdiv_nn, ↓reduceIte, eq_self, Nat.reduceEqDiff, Nat.reduceAdd, Nat.reduceSub, Nat.reduceMul, Nat.reduceLeDiff, Int.reduceNeg, Int.reduceToNat, Int.reduceLE, Int.reduceLT, Int.reduceEq, c3]
          refine callK.in (spec_l3Body.c p4 lok p3 hh.2 ?_)
          simp (disch := omega) only [S, SL, Need_of, wrap_in, getD_map, getD_lt, Heap.set_ne, wrap_tdiv, tmod_nn, tdiv_nn, ↓reduceIte, eq_self, Nat.reduceEqDiff, Nat.reduceAdd, Nat.reduceSub, Nat.reduceMul, Nat.reduceLeDiff, Int.reduceNeg, Int.reduceToNat, Int.reduceLE, Int.reduceLT, Int.reduceEq, c3]
          refine condK_if (fun c4 => ?_) (fun c4 => ?_)
          · simp (disch := omega) only [S, SL, Need_of, wrap_in, getD_map, getD_lt, Heap.set_ne, wrap_tdiv, tmod_nn, tdiv_nn, ↓reduceIte, eq_self, Nat.reduceEqDiff, Nat.reduceAdd, Nat.reduceSub, Nat.reduceMul, Nat.reduceLeDiff, Int.reduceNeg, Int.reduceToNat, Int.reduceLE, Int.reduceLT, Int.reduceEq]
            have hc : ¬ (u.getD c.prods[k].head.toNat false = true ∧ 0 ≤ lenOf (leastV c) c.prods[k].body) := by omega
            exact next' (k + 1, u, ag) _ _ ⟨by simp only; omega, hu, by simp only [hstep, useP_no hc], hno, hyes⟩ (by simp only; omega) (by simp only [S, SL, ↓reduceIte, eq_self, Nat.reduceEqDiff, Nat.reduceAdd, Nat.reduceSub, Nat.reduceMul, Nat.reduceLeDiff, Int.reduceNeg, Int.reduceToNat, Int.reduceLE, Int.reduceLT, Int.reduceEq]) (Heap.le_new hb7)
          · simp (disch := omega) only [S, SL, Need_of, wrap_in, getD_map, getD_lt, Heap.set_ne, wrap_tdiv, tmod_nn, tdiv_nn, ↓reduceIte, eq_self, Nat.reduceEqDiff, Nat.reduceAdd, Nat.reduceSub, Nat.reduceMul, Nat.reduceLeDiff, Int.reduceNeg, Int.reduceToNat, Int.reduceLE, Int.reduceLT, Int.reduceEq]
            have hc : u.getD c.prods[k].head.toNat false = true ∧ 0 ≤ lenOf (leastV c) c.prods[k].body := ⟨by rw [hv, c3], by omega⟩
            rw [useP_yes hc] at hstep
            have hb7' : hh0 b7 = none := Heap.new_none hb7
            refine CK_loop (α := Nat × List Bool × Bool) (fun x => [(1, .adr b1 0), (2, .adr b2 0), (3, intsI (leastV c)), (4, .own b4 c.heads.toNat), (5, bA x.2.2), (6, iA k), (7, .adr b7 0), (8, iA x.1)]) (fun x => (hh0.set b7 (.row 85 [iA c.prods[k].head, .imm false (c.prods[k].body.map symA)])).set b4 (.row 4 (x.2.1.map bA)))
              (fun x => x.1 ≤ c.prods[k].body.length ∧ x.2.1.length = c.heads.toNat ∧ x.2.1 = (c.prods[k].body.take x.1).foldl markS u ∧ (x.2.2 = false → x.2.1 = u0) ∧ (x.2.2 = true → idle x.2.1 < idle u0)) (fun x => c.prods[k].body.length - x.1) (0, u, ag) ?_ (by rw [Heap.set_comm _ _ _ ne7]; exact Heap.le_refl _) ⟨Nat.zero_le _, hu, rfl, hno, hyes⟩ ?_
            · simp only [S, SL, ↓reduceIte, eq_self, Nat.reduceEqDiff, Nat.reduceAdd, Nat.reduceSub, Nat.reduceMul, Nat.reduceLeDiff, Int.reduceNeg, Int.reduceToNat, Int.reduceLE, Int.reduceLT, Int.reduceEq]
            · rintro R2 ⟨j, v, ag2⟩ ⟨hj2, hv2, hf2, hno2, hyes2⟩ next2
              simp only at hj2 hv2 hf2 hno2 hyes2
              simp (disch := omega) only [S, SL, Need_of, wrap_in, getD_map, getD_lt, Heap.set_ne, wrap_tdiv, tmod_nn, tdiv_nn, ↓reduceIte, eq_self, Nat.reduceEqDiff, Nat.reduceAdd, Nat.reduceSub, Nat.reduceMul, Nat.reduceLeDiff, Int.reduceNeg, Int.reduceToNat, Int.reduceLE, Int.reduceLT, Int.reduceEq, spec_CfgTrim.l0]
              refine condK_if (fun d1 => ?_) (fun d1 => ?_)
              · have hjl : j < c.prods[k].body.length := by omega
                have hso := p4 _ (List.getElem_mem hjl)
                have hst2 : (c.prods[k].body.take (j + 1)).foldl markS u = markS v c.prods[k].body[j] := by rw [foldl_take hjl, ← hf2]
                have hml2 : (v.map bA).length = c.heads.toNat := by rw [List.length_map, hv2]
                simp (disch := omega) only [S, SL, Need_of, wrap_in, getD_map, getD_lt, Heap.set_ne, wrap_tdiv, tmod_nn, tdiv_nn, ↓reduceIte, eq_self, Nat.reduceEqDiff, Nat.reduceAdd, Nat.reduceSub, Nat.reduceMul, Nat.reduceLeDiff, Int.reduceNeg, Int.reduceToNat, Int.reduceLE, Int.reduceLT, Int.reduceEq, symA]
                refine gdK_if (fun d2 => ?_) (fun d2 => ?_)
                · have hi2 : c.prods[k].body[j].head.toNat < v.length := by unfold SymOk at hso; omega
                  have hi2' : c.prods[k].body[j].head < (c.heads.toNat : Int) := by unfold SymOk at hso; omega
                  simp (disch := omega) only [S, SL, Need_of, wrap_in, getD_map, getD_lt, Heap.set_ne, wrap_tdiv, tmod_nn, tdiv_nn, ↓reduceIte, eq_self, Nat.reduceEqDiff, Nat.reduceAdd, Nat.reduceSub, Nat.reduceMul, Nat.reduceLeDiff, Int.reduceNeg, Int.reduceToNat, Int.reduceLE, Int.reduceLT, Int.reduceEq, d2, hml2, List.getElem_map, symA]
                  refine condK_bool (fun d3 => ?_) (fun d3 => ?_)
                  · simp (disch := omega) only [S, SL, Need_of, wrap_in, getD_map, getD_lt, Heap.set_ne, wrap_tdiv, tmod_nn, tdiv_nn, ↓reduceIte, eq_self, Nat.reduceEqDiff, Nat.reduceAdd, Nat.reduceSub, Nat.reduceMul, Nat.reduceLeDiff, Int.reduceNeg, Int.reduceToNat, Int.reduceLE, Int.reduceLT, Int.reduceEq, d2, hml2, symA]
                    rw [markS_same d2 hi2 d3] at hst2
                    exact next2 (j + 1, v, ag2) _ _ ⟨by simp only; omega, hv2, by simp only [hst2], hno2, hyes2⟩ (by simp only; omega) (by simp only [S, SL, ↓reduceIte, eq_self, Nat.reduceEqDiff, Nat.reduceAdd, Nat.reduceSub, Nat.reduceMul, Nat.reduceLeDiff, Int.reduceNeg, Int.reduceToNat, Int.reduceLE, Int.reduceLT, Int.reduceEq]) (Heap.le_refl _)
                  · simp (disch := omega) only [S, SL, Need_of, wrap_in, getD_map, getD_lt, Heap.set_ne, wrap_tdiv, tmod_nn, tdiv_nn, ↓reduceIte, eq_self, Nat.reduceEqDiff, Nat.reduceAdd, Nat.reduceSub, Nat.reduceMul, Nat.reduceLeDiff, Int.reduceNeg, Int.reduceToNat, Int.reduceLE, Int.reduceLT, Int.reduceEq, d2, hml2, symA]
                    rw [markS_set d2] at hst2
                    have hidle := idle_lt hi2 d3
                    have hle : idle v ≤ idle u0 := by
                      cases ag2 with
                      | false => rw [hno2 rfl]; exact Nat.le_refl _
                      | true => exact Nat.le_of_lt (hyes2 rfl)
                    refine next2 (j + 1, v.set c.prods[k].body[j].head.toNat true, true) _ _ ⟨by simp only; omega, by simp only [List.length_set]; exact hv2, by simp only [hst2], fun e => (by cases e), fun _ => (by simp only; omega)⟩ (by simp only; omega) (by simp only [S, SL, ↓reduceIte, eq_self, Nat.reduceEqDiff, Nat.reduceAdd, Nat.reduceSub, Nat.reduceMul, Nat.reduceLeDiff, Int.reduceNeg, Int.reduceToNat, Int.reduceLE, Int.reduceLT, Int.reduceEq]) ?_
                    simp only [List.map_set]
                    exact Heap.le_refl _
                · simp (disch := omega) only [S, SL, Need_of, wrap_in, getD_map, getD_lt, Heap.set_ne, wrap_tdiv, tmod_nn, tdiv_nn, ↓reduceIte, eq_self, Nat.reduceEqDiff, Nat.reduceAdd, Nat.reduceSub, Nat.reduceMul, Nat.reduceLeDiff, Int.reduceNeg, Int.reduceToNat, Int.reduceLE, Int.reduceLT, Int.reduceEq, d2]
                  rw [markS_neg d2] at hst2
                  exact next2 (j + 1, v, ag2) _ _ ⟨by simp only; omega, hv2, by simp only [hst2], hno2, hyes2⟩ (by simp only; omega) (by simp only [S, SL, ↓reduceIte, eq_self, Nat.reduceEqDiff, Nat.reduceAdd, Nat.reduceSub, Nat.reduceMul, Nat.reduceLeDiff, Int.reduceNeg, Int.reduceToNat, Int.reduceLE, Int.reduceLT, Int.reduceEq]) (Heap.le_refl _)
              · simp (disch := omega) only [S, SL, Need_of, wrap_in, getD_map, getD_lt, Heap.set_ne, wrap_tdiv, tmod_nn, tdiv_nn, ↓reduceIte, eq_self, Nat.reduceEqDiff, Nat.reduceAdd, Nat.reduceSub, Nat.reduceMul, Nat.reduceLeDiff, Int.reduceNeg, Int.reduceToNat, Int.reduceLE, Int.reduceLT, Int.reduceEq]
                obtain rfl : j = c.prods[k].body.length := by omega
                rw [List.take_length] at hf2
                exact next' (k + 1, v, ag2) _ _ ⟨by simp only; omega, hv2, by simp only [hstep, hf2], hno2, hyes2⟩ (by simp only; omega) (by simp only [S, SL, ↓reduceIte, eq_self, Nat.reduceEqDiff, Nat.reduceAdd, Nat.reduceSub, Nat.reduceMul, Nat.reduceLeDiff, Int.reduceNeg, Int.reduceToNat, Int.reduceLE, Int.reduceLT, Int.reduceEq]) (Heap.set_mono (Heap.le_new hb7') _ _)
        · simp (disch := omega) only [S, SL, Need_of, wrap_in, getD_map, getD_lt, Heap.set_ne, wrap_tdiv, tmod_nn, tdiv_nn, ↓reduceIte, eq_self, Nat.reduceEqDiff, Nat.reduceAdd, Nat.reduceSub, Nat.reduceMul, Nat.reduceLeDiff, Int.reduceNeg, Int.reduceToNat, Int.reduceLE, Int.reduceLT, Int.reduceEq, c3]
          have hc : ¬ (u.getD c.prods[k].head.toNat false = true ∧ 0 ≤ lenOf (leastV c) c.prods[k].body) := by rw [hv, c3]; simp
          exact next' (k + 1, u, ag) _ _ ⟨by simp only; omega, hu, by simp only [hstep, useP_no hc], hno, hyes⟩ (by simp only; omega) (by simp only [S, SL, ↓reduceIte, eq_self, Nat.reduceEqDiff, Nat.reduceAdd, Nat.reduceSub, Nat.reduceMul, Nat.reduceLeDiff, Int.reduceNeg, Int.reduceToNat, Int.reduceLE, Int.reduceLT, Int.reduceEq]) (Heap.le_new hb7)
      · simp (disch := omega) only [S, SL, Need_of, wrap_in, getD_map, getD_lt, Heap.set_ne, wrap_tdiv, tmod_nn, tdiv_nn, ↓reduceIte, eq_self, Nat.reduceEqDiff, Nat.reduceAdd, Nat.reduceSub, Nat.reduceMul, Nat.reduceLeDiff, Int.reduceNeg, Int.reduceToNat, Int.reduceLE, Int.reduceLT, Int.reduceEq]
        obtain rfl : k = c.prods.length := by omega
        rw [List.take_length] at hfold
        refine next (u, ag) _ _ ⟨hu, ?_, fun e => ?_⟩ ?_ (by simp only [S, SL, ↓reduceIte, eq_self, Nat.reduceEqDiff, Nat.reduceAdd, Nat.reduceSub, Nat.reduceMul, Nat.reduceLeDiff, Int.reduceNeg, Int.reduceToNat, Int.reduceLE, Int.reduceLT, Int.reduceEq]) (Heap.le_refl _)
        · obtain ⟨j, hj⟩ := hj
          exact ⟨j + 1, by simp only [iterN, ← hj]; exact hfold⟩
        · simp only; simp only at e
          rw [hno e] at hfold ⊢; exact hfold.symm
        · simp only; subst c1
          cases ag with
          | false => rw [hno rfl]; simp
          | true => have := hyes rfl; simp; omega
  · simp (disch := omega) only [S, SL, Need_of, wrap_in, getD_map, getD_lt, Heap.set_ne, wrap_tdiv, tmod_nn, tdiv_nn, ↓reduceIte, eq_self, Nat.reduceEqDiff, Nat.reduceAdd, Nat.reduceSub, Nat.reduceMul, Nat.reduceLeDiff, Int.reduceNeg, Int.reduceToNat, Int.reduceLE, Int.reduceLT, Int.reduceEq, f1, cfgL]
    have huv : usedV c (leastV c) = u0 := by
      obtain ⟨j, hj⟩ := hj
      rw [usedV, fixOf_eq (n := j) (by rw [← hj]; exact hfix c1), ← hj]
    have le0 : h.le hh0 := by rw [← hg]; exact Heap.le_trans (Heap.le_new hb1) (Heap.le_new hb2)
    have hu0n : h b2 = none := Heap.new_none hb2
    have ne21 := ne2
    have leB : h.le (hh0.set b4 (.row 4 (u0.map bA))) := Heap.le_trans le0 (Heap.le_new f4)
    have e1 : (hh0.set b4 (.row 4 (u0.map bA))) b1 = some (.row 33 (cfgL c)) := by rw [Heap.set_ne _ _ (fun e => ne41 e.symm)]; exact f1
    have e2 : (hh0.set b4 (.row 4 (u0.map bA))) b2 = some (.row 33 [iA 0, nilA]) := by rw [Heap.set_ne _ _ (fun e => ne42 e.symm)]; exact f2
    have e4 : (hh0.set b4 (.row 4 (u0.map bA))) b4 = some (.row 4 (u0.map bA)) := Heap.set_same _ _ _
    generalize hh0.set b4 (.row 4 (u0.map bA)) = hB at leB e1 e2 e4 ⊢
    refine allocK.in fun b10 hb10 => ?_
    have ne10 : b10 ≠ b1 := fun e => by rw [e, e1] at hb10; cases hb10
    simp (disch := omega) only [S, SL, Need_of, wrap_in, getD_map, getD_lt, Heap.set_ne, wrap_tdiv, tmod_nn, tdiv_nn, ↓reduceIte, eq_self, Nat.reduceEqDiff, Nat.reduceAdd, Nat.reduceSub, Nat.reduceMul, Nat.reduceLeDiff, Int.reduceNeg, Int.reduceToNat, Int.reduceLE, Int.reduceLT, Int.reduceEq, e1, cfgL]
    have m : Made hB (hB.set b10 (.row 33 [iA c.heads, nilA])) [.box b10 33 [.leaf (.int .i64 c.heads), .nil]] := Made.boxE hb10 rfl Made.none.nilI.leafI
    generalize hB.set b10 _ = h2 at m ⊢
    refine CK_loop (α := Nat × Heap × Tree) (fun x => [(1, .adr b1 0), (2, .adr b2 0), (3, intsI (leastV c)), (4, .own b4 c.heads.toNat), (9, .adr b10 0), (10, iA x.1)]) (fun x => x.2.1)
      (fun x => x.1 ≤ c.prods.length ∧ RowsT 85 2 EPrd ((c.prods.take x.1).filter (keepV c)) x.2.2 ∧ Made hB x.2.1 [.box b10 33 [.leaf (.int .i64 c.heads), x.2.2]]) (fun x => c.prods.length - x.1) (0, h2, .nil) ?_ (Heap.le_refl _) ⟨Nat.zero_le _, RowsT.nil, m⟩ ?_
    · simp only [S, SL, ↓reduceIte, eq_self, Nat.reduceEqDiff, Nat.reduceAdd, Nat.reduceSub, Nat.reduceMul, Nat.reduceLeDiff, Int.reduceNeg, Int.reduceToNat, Int.reduceLE, Int.reduceLT, Int.reduceEq]
    · rintro R' ⟨k, h3, t⟩ ⟨hk, hrt, m⟩ next'
      simp only at hk hrt m
      have g4 := m.le _ _ e4
      have g1 := m.le _ _ e1
      have g2 := m.le _ _ e2
      have g10 := m.here
      simp (disch := omega) only [S, SL, Need_of, wrap_in, getD_map, getD_lt, Heap.set_ne, wrap_tdiv, tmod_nn, tdiv_nn, ↓reduceIte, eq_self, Nat.reduceEqDiff, Nat.reduceAdd, Nat.reduceSub, Nat.reduceMul, Nat.reduceLeDiff, Int.reduceNeg, Int.reduceToNat, Int.reduceLE, Int.reduceLT, Int.reduceEq, spec_CfgTrim.l3, g1, cfgL]
      refine condK_if (fun c2 => ?_) (fun c2 => ?_)
      · have hk' : k < c.prods.length := by omega
        obtain ⟨p1, p2, p3, p4⟩ := ok.prod hk'
        have hi : c.prods[k].head.toNat < u0.length := by omega
        have hi' : c.prods[k].head < (c.heads.toNat : Int) := by omega
        have hml : (u0.map bA).length = c.heads.toNat := by rw [List.length_map, hu0]
        have hv : u0.getD c.prods[k].head.toNat false = u0[c.prods[k].head.toNat] := by simp [List.getD_eq_getElem?_getD, hi]
        have hkv : keepV c c.prods[k] = (u0[c.prods[k].head.toNat] && decide (0 ≤ lenOf (leastV c) c.prods[k].body)) := by rw [keepV, huv, hv]
        have hst : (c.prods.take (k + 1)).filter (keepV c) = (c.prods.take k).filter (keepV c) ++ if keepV c c.prods[k] then [c.prods[k]] else [] := by
          rw [List.take_succ_eq_append_getElem hk', List.filter_append]; congr 1
          by_cases hx : keepV c c.prods[k] = true <;> simp [hx]
        simp (disch := omega) only [S, SL, Need_of, wrap_in, getD_map, getD_lt, Heap.set_ne, wrap_tdiv, tmod_nn, tdiv_nn, ↓reduceIte, eq_self, Nat.reduceEqDiff, Nat.reduceAdd, Nat.reduceSub, Nat.reduceMul, Nat.reduceLeDiff, Int.reduceNeg, Int.reduceToNat, Int.reduceLE, Int.reduceLT, Int.reduceEq, prdA, g1, cfgL]
        refine allocK.in fun b12 hb12 => ?_
        have ne12 : b12 ≠ b4 := fun e => by rw [e, g4] at hb12; cases hb12
        have ne1210 : b12 ≠ b10 := fun e => by rw [e, g10] at hb12; cases hb12
        simp (disch := omega) only [S, SL, Need_of, wrap_in, getD_map, getD_lt, Heap.set_ne, wrap_tdiv, tmod_nn, tdiv_nn, ↓reduceIte, eq_self, Nat.reduceEqDiff, Nat.reduceAdd, Nat.reduceSub, Nat.reduceMul, Nat.reduceLeDiff, Int.reduceNeg, Int.reduceToNat, Int.reduceLE, Int.reduceLT, Int.reduceEq, g4, hml, List.getElem_map]
        refine gdK_bool (fun c3 => ?_) (fun c3 => ?_)
        · simp (disch := omega) only [S, SL, Need_of, wrap_in, getD_map, getD_lt, Heap.set_ne, wrap_tdiv, tmod_nn, tdiv_nn, ↓reduceIte, eq_self, Nat.reduceEqDiff, Nat.reduceAdd, Nat.reduceSub, Nat.reduceMul, Nat.reduceLeDiff, Int.reduceNeg, Int.reduceToNat, Int.reduceLE, Int.reduceLT, Int.reduceEq, c3]
          refine callK.in (spec_l3Body.c p4 lok p3 hh.2 ?_)
          simp (disch := omega) only [S, SL, Need_of, wrap_in, getD_map, getD_lt, Heap.set_ne, wrap_tdiv, tmod_nn, tdiv_nn, ↓reduceIte, eq_self, Nat.reduceEqDiff, Nat.reduceAdd, Nat.reduceSub, Nat.reduceMul, Nat.reduceLeDiff, Int.reduceNeg, Int.reduceToNat, Int.reduceLE, Int.reduceLT, Int.reduceEq, c3]
          refine condK_if (fun c4 => ?_) (fun c4 => ?_)
          · simp (disch := omega) only [S, SL, Need_of, wrap_in, getD_map, getD_lt, Heap.set_ne, wrap_tdiv, tmod_nn, tdiv_nn, ↓reduceIte, eq_self, Nat.reduceEqDiff, Nat.reduceAdd, Nat.reduceSub, Nat.reduceMul, Nat.reduceLeDiff, Int.reduceNeg, Int.reduceToNat, Int.reduceLE, Int.reduceLT, Int.reduceEq, g10]
            repeat' (with_reducible apply And.intro)
            all_goals
              refine rowK.in fun b13 hb13 => ?_
              have ne13 : b13 ≠ b12 := Heap.new_ne hb13
              have ne1310 : b13 ≠ b10 := fun e => by rw [e, Heap.set_ne _ _ (fun e => ne1210 e.symm), g10] at hb13; cases hb13
              simp (disch := omega) only [S, SL, Need_of, wrap_in, getD_map, getD_lt, Heap.set_ne, wrap_tdiv, tmod_nn, tdiv_nn, ↓reduceIte, eq_self, Nat.reduceEqDiff, Nat.reduceAdd, Nat.reduceSub, Nat.reduceMul, Nat.reduceLeDiff, Int.reduceNeg, Int.reduceToNat, Int.reduceLE, Int.reduceLT, Int.reduceEq, g10, prdA]
              repeat' (with_reducible apply And.intro)
              all_goals
                rw [appK_imm]
                refine Need.in (fun e he => by obtain ⟨s, -, rfl⟩ := List.mem_map.1 he; rfl) ?_
                rw [appN_own, Heap.set_same, appO_row]
                refine Need.in rfl (Need.in (by simp) (Need.in (by simp; omega) (Need.in (syms_one _) ?_)))
                refine grownK.to (h0 := h3.set b12 (.row 85 [iA c.prods[k].head, .imm false (c.prods[k].body.map symA)])) (Heap.le_new hb13) hb13 fun b14 hb14 => ?_
                have ne1410 : b14 ≠ b10 := fun e => by rw [e, Heap.set_ne _ _ (fun e => ne1210 e.symm), g10] at hb14; cases hb14
                have ne1412 : b14 ≠ b12 := Heap.new_ne hb14
                simp only [Nat.zero_mul, List.take_zero, List.nil_append, List.length_map, Nat.zero_add]
                have m4 : Made hB ((h3.set b12 (.row 85 [iA c.prods[k].head, .imm false (c.prods[k].body.map symA)])).set b14 (.row 94 ((c.prods[k].body.map symA).flatten))) [.row b14 94 c.prods[k].body.length 3 ((c.prods[k].body.map symT).flatten), .box b10 33 [.leaf (.int .i64 c.heads), t]] :=
                  Made.rowE hb14 (syms_flat _).symm (syms_len _) (Made.flats syms_ok (m.grow (Fr.refl.new hb12)))
                simp (disch := omega) only [S, SL, Need_of, wrap_in, getD_map, getD_lt, Heap.set_ne, wrap_tdiv, tmod_nn, tdiv_nn, ↓reduceIte, eq_self, Nat.reduceEqDiff, Nat.reduceAdd, Nat.reduceSub, Nat.reduceMul, Nat.reduceLeDiff, Int.reduceNeg, Int.reduceToNat, Int.reduceLE, Int.reduceLT, Int.reduceEq, g10, prdA]
                refine rowK.in fun b15 hb15 => ?_
                have ne1510 : b15 ≠ b10 := m4.swap.not_new hb15
                simp (disch := omega) only [S, SL, Need_of, wrap_in, getD_map, getD_lt, Heap.set_ne, wrap_tdiv, tmod_nn, tdiv_nn, ↓reduceIte, eq_self, Nat.reduceEqDiff, Nat.reduceAdd, Nat.reduceSub, Nat.reduceMul, Nat.reduceLeDiff, Int.reduceNeg, Int.reduceToNat, Int.reduceLE, Int.reduceLT, Int.reduceEq, g10, prdA]
                have m5 := m4.grow (Fr.refl.new (bs := []) (k := .row 85 [iA c.prods[k].head, .own b14 c.prods[k].body.length]) hb15)
                have hln : ((c.prods.take k).filter (keepV c)).length ≤ 400 := by have := List.length_filter_le (keepV c) (c.prods.take k); rw [List.length_take] at this; omega
                refine RowsT.app1 hrt m5.swap.open.1.at_.2.1 (by omega) rfl fun bg cells sl hbg => ?_
                have neg := m4.swap.top_ne (by simp) hbg (Fr.refl.new hb15)
                have sr := syms_row c.prods[k].body b14 94
                simp (disch := omega) only [S, SL, Need_of, wrap_in, getD_map, getD_lt, Heap.set_ne, wrap_tdiv, tmod_nn, tdiv_nn, ↓reduceIte, eq_self, Nat.reduceEqDiff, Nat.reduceAdd, Nat.reduceSub, Nat.reduceMul, Nat.reduceLeDiff, Int.reduceNeg, Int.reduceToNat, Int.reduceLE, Int.reduceLT, Int.reduceEq, g10, prdA]
                obtain ⟨t', e5, r', mk⟩ := RowsT.pushIn (pre := [.leaf (.int .i64 c.heads)]) (post := []) (ts := [.leaf (.int .i64 c.prods[k].head), .row b14 94 c.prods[k].body.length 3 ((c.prods[k].body.map symT).flatten)]) (a := c.prods[k]) hrt m4.leafI.third sl ⟨_, rfl, (syms_of sr).1, (syms_of sr).2.1, (syms_of sr).2.2⟩ rfl hbg (Fr.refl.new hb15)
                rw [hkv, c3, decide_eq_true (by omega)] at hst
                exact next' (k + 1, _, t') _ _ ⟨by simp only; omega, by rw [hst]; exact r', mk _ rfl⟩ (by simp only; omega) (by simp only [S, SL, ↓reduceIte, eq_self, Nat.reduceEqDiff, Nat.reduceAdd, Nat.reduceSub, Nat.reduceMul, Nat.reduceLeDiff, Int.reduceNeg, Int.reduceToNat, Int.reduceLE, Int.reduceLT, Int.reduceEq]) (Heap.le_refl _)
          · simp (disch := omega) only [S, SL, Need_of, wrap_in, getD_map, getD_lt, Heap.set_ne, wrap_tdiv, tmod_nn, tdiv_nn, ↓reduceIte, eq_self, Nat.reduceEqDiff, Nat.reduceAdd, Nat.reduceSub, Nat.reduceMul, Nat.reduceLeDiff, Int.reduceNeg, Int.reduceToNat, Int.reduceLE, Int.reduceLT, Int.reduceEq]
            rw [hkv, c3, decide_eq_false (by omega)] at hst
            exact next' (k + 1, h3, t) _ _ ⟨by simp only; omega, by rw [hst]; simpa using hrt, m⟩ (by simp only; omega) (by simp only [S, SL, ↓reduceIte, eq_self, Nat.reduceEqDiff, Nat.reduceAdd, Nat.reduceSub, Nat.reduceMul, Nat.reduceLeDiff, Int.reduceNeg, Int.reduceToNat, Int.reduceLE, Int.reduceLT, Int.reduceEq]) (Heap.le_new hb12)
        · simp (disch := omega) only [S, SL, Need_of, wrap_in, getD_map, getD_lt, Heap.set_ne, wrap_tdiv, tmod_nn, tdiv_nn, ↓reduceIte, eq_self, Nat.reduceEqDiff, Nat.reduceAdd, Nat.reduceSub, Nat.reduceMul, Nat.reduceLeDiff, Int.reduceNeg, Int.reduceToNat, Int.reduceLE, Int.reduceLT, Int.reduceEq, c3]
          rw [hkv, c3] at hst
          exact next' (k + 1, h3, t) _ _ ⟨by simp only; omega, by rw [hst]; simpa using hrt, m⟩ (by simp only; omega) (by simp only [S, SL, ↓reduceIte, eq_self, Nat.reduceEqDiff, Nat.reduceAdd, Nat.reduceSub, Nat.reduceMul, Nat.reduceLeDiff, Int.reduceNeg, Int.reduceToNat, Int.reduceLE, Int.reduceLT, Int.reduceEq]) (Heap.le_new hb12)
      · simp (disch := omega) only [S, SL, Need_of, wrap_in, getD_map, getD_lt, Heap.set_ne, wrap_tdiv, tmod_nn, tdiv_nn, ↓reduceIte, eq_self, Nat.reduceEqDiff, Nat.reduceAdd, Nat.reduceSub, Nat.reduceMul, Nat.reduceLeDiff, Int.reduceNeg, Int.reduceToNat, Int.reduceLE, Int.reduceLT, Int.reduceEq, g10, g2, hrt.cell.2]
        obtain rfl : k = c.prods.length := by omega
        rw [List.take_length] at hrt
        refine Need.in rfl (fin.same (hQ t _ hrt ?_))
        exact Made.off (m.open.1.tail) leB hu0n (by rw [e2]; simp)
end Go.Proofs.Ytabbipdkbdojiaa
