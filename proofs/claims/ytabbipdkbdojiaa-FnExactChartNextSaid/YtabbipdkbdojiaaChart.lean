/- What the functions on charts come to: order, form, ends, bytes to come. No condition. -/
import Derived.Test.YtabbipdkbdojiaaCodeG
import Derived.Test.YtabbipdkbdojiaaChartP
import Derived.Test.YtabbipdkbdojiaaTrimI
namespace Go.Ab
open Go
/-- The first that isn't nought. -/
def orV : List Int → Int
  | [] => 0
  | x :: l => if x = 0 then orV l else x
def sgnV (x y : Int) : Int := if x < y then -1 else if y < x then 1 else 0
def ordI (x y : Itm) : Int := orV [sgnV x.prod y.prod, sgnV x.dot y.dot, sgnV x.frm y.frm]
theorem ordI_lt {x y : Itm} : ordI x y < 0 ↔ ltI x y := by
  unfold ordI ltI sgnV
  simp only [orV]
  (repeat' split) <;> omega
/-- Charts that a machine can hold. -/
structure ChtFit (c : Cht) : Prop where
  len : c.sets.length ≤ 4294967296
  sets : ∀ s ∈ c.sets, s.length ≤ 4294967296
theorem lastV_fit {c : Cht} (f : ChtFit c) (h : 1 ≤ c.sets.length) : (lastV c).length ≤ 4294967296 := by
  rw [last_eq h]; exact f.sets _ (List.getElem_mem _)
end Go.Ab
namespace Go.Proofs.Ytabbipdkbdojiaa
open Go Go.Ab
set_option linter.unusedVariables false
set_option linter.unusedSimpArgs false

theorem impl_Cfg_next.c {t : Cfg} {x : Itm} {a : Nat} (hx : ItemIn t a x) {h : Heap} {Q : AV → Heap → Prop} (h1 : nextV t x = none → Q (.tup [.agg [iA 0, iA 0, iA 0], bA false]) h) (h2 : ∀ s, nextV t x = some s → Q (.tup [.agg (symA s), bA true]) h) : CALL Try.prog impl_Cfg_next.id [cfgA t, .agg (itmA x)] h Q := by
  refine CALL_by mixed impl_Cfg_next.tr (Nat.le_of_ble_eq_true rfl) ?_
  have hx' := hx
  obtain ⟨i1, i2, i3⟩ := hx'
  have hl := hx.prod_lt
  have hb := hx.body
  have hl' : x.prod < (t.prods.length : Int) := by omega
  simp (disch := omega) only [S, SL, Need_of, wrap_in, getD_map, getD_lt, Heap.set_ne, wrap_tdiv, tmod_nn, tdiv_nn, ↓reduceIte, eq_self, Nat.reduceEqDiff, Nat.reduceAdd, Nat.reduceSub, Nat.reduceMul, Nat.reduceLeDiff, Int.reduceNeg, Int.reduceToNat, Int.reduceLE, Int.reduceLT, Int.reduceEq, impl_Cfg_next.g, cfgA, cfgL, itmA]
  refine allocK.in fun b2 hb2 => ?_
  simp (disch := omega) only [S, SL, Need_of, wrap_in, getD_map, getD_lt, Heap.set_ne, wrap_tdiv, tmod_nn, tdiv_nn, ↓reduceIte, eq_self, Nat.reduceEqDiff, Nat.reduceAdd, Nat.reduceSub, Nat.reduceMul, Nat.reduceLeDiff, Int.reduceNeg, Int.reduceToNat, Int.reduceLE, Int.reduceLT, Int.reduceEq, cfgL, itmA]
  refine allocK.in fun b3 hb3 => ?_
  have n3 := Heap.new_ne hb3
  simp (disch := omega) only [S, SL, Need_of, wrap_in, getD_map, getD_lt, Heap.set_ne, wrap_tdiv, tmod_nn, tdiv_nn, ↓reduceIte, eq_self, Nat.reduceEqDiff, Nat.reduceAdd, Nat.reduceSub, Nat.reduceMul, Nat.reduceLeDiff, Int.reduceNeg, Int.reduceToNat, Int.reduceLE, Int.reduceLT, Int.reduceEq, cfgL, itmA]
  refine allocK.in fun b4 hb4 => ?_
  have n4 := Heap.new_ne hb4
  have n42 := Heap.new_ne (Heap.new_none hb4)
  simp (disch := omega) only [S, SL, Need_of, wrap_in, getD_map, getD_lt, Heap.set_ne, wrap_tdiv, tmod_nn, tdiv_nn, ↓reduceIte, eq_self, Nat.reduceEqDiff, Nat.reduceAdd, Nat.reduceSub, Nat.reduceMul, Nat.reduceLeDiff, Int.reduceNeg, Int.reduceToNat, Int.reduceLE, Int.reduceLT, Int.reduceEq, cfgL, itmA, prdA]
  have hle : ∀ k4, h.le (((h.set b2 (.row 33 [iA t.heads, .imm false (t.prods.map prdA)])).set b3 (.row 82 [iA x.prod, iA x.dot, iA x.frm])).set b4 k4) := fun _ => Heap.le_trans (Heap.le_trans (Heap.le_new hb2) (Heap.le_new hb3)) (Heap.le_new hb4)
  refine condK_if (fun c1 => ?_) (fun c1 => ?_)
  · simp (disch := omega) only [S, SL, Need_of, wrap_in, getD_map, getD_lt, Heap.set_ne, wrap_tdiv, tmod_nn, tdiv_nn, ↓reduceIte, eq_self, Nat.reduceEqDiff, Nat.reduceAdd, Nat.reduceSub, Nat.reduceMul, Nat.reduceLeDiff, Int.reduceNeg, Int.reduceToNat, Int.reduceLE, Int.reduceLT, Int.reduceEq]
    exact fin.of (hle _) (h1 ((nextV_none hx).2 (by rw [hb]; exact c1)))
  · obtain ⟨q1, q2⟩ := nextV_some hx (by rw [hb]; exact c1)
    have q3 : (bodyV t x)[x.dot.toNat] = (t.prods[x.prod.toNat]).body[x.dot.toNat]'(by rw [← hb]; exact q1) := by simp only [hb]
    have q4 : x.dot < ((t.prods[x.prod.toNat]).body.length : Int) := by rw [← hb]; omega
    have q5 : x.dot.toNat < (t.prods[x.prod.toNat]).body.length := by omega
    simp (disch := omega) only [S, SL, Need_of, wrap_in, getD_map, getD_lt, Heap.set_ne, wrap_tdiv, tmod_nn, tdiv_nn, ↓reduceIte, eq_self, Nat.reduceEqDiff, Nat.reduceAdd, Nat.reduceSub, Nat.reduceMul, Nat.reduceLeDiff, Int.reduceNeg, Int.reduceToNat, Int.reduceLE, Int.reduceLT, Int.reduceEq, symA]
    have := h2 _ q2
    rw [q3] at this
    exact fin.of (hle _) this
theorem cmp_isNaN_int.c {x : Int} {h : Heap} {Q : AV → Heap → Prop} (hQ : Q (bA false) h) : CALL Try.prog cmp_isNaN_int.id [iA x] h Q := by
  refine CALL_by mixed cmp_isNaN_int.tr (Nat.le_of_ble_eq_true rfl) ?_
  simp (disch := omega) only [S, SL, Need_of, wrap_in, getD_map, getD_lt, Heap.set_ne, wrap_tdiv, tmod_nn, tdiv_nn, ↓reduceIte, eq_self, Nat.reduceEqDiff, Nat.reduceAdd, Nat.reduceSub, Nat.reduceMul, Nat.reduceLeDiff, Int.reduceNeg, Int.reduceToNat, Int.reduceLE, Int.reduceLT, Int.reduceEq, cmp_isNaN_int.g, not_true, dec_false]
  exact fin.same hQ
theorem cmp_Compare_int.c {x y : Int} {h : Heap} {Q : AV → Heap → Prop} (hQ : Q (iA (sgnV x y)) h) : CALL Try.prog cmp_Compare_int.id [iA x, iA y] h Q := by
  refine CALL_by mixed cmp_Compare_int.tr (Nat.le_of_ble_eq_true rfl) ?_
  simp (disch := omega) only [S, SL, Need_of, wrap_in, getD_map, getD_lt, Heap.set_ne, wrap_tdiv, tmod_nn, tdiv_nn, ↓reduceIte, eq_self, Nat.reduceEqDiff, Nat.reduceAdd, Nat.reduceSub, Nat.reduceMul, Nat.reduceLeDiff, Int.reduceNeg, Int.reduceToNat, Int.reduceLE, Int.reduceLT, Int.reduceEq, cmp_Compare_int.g]
  refine callK.in (cmp_isNaN_int.c ?_)
  simp (disch := omega) only [S, SL, Need_of, wrap_in, getD_map, getD_lt, Heap.set_ne, wrap_tdiv, tmod_nn, tdiv_nn, ↓reduceIte, eq_self, Nat.reduceEqDiff, Nat.reduceAdd, Nat.reduceSub, Nat.reduceMul, Nat.reduceLeDiff, Int.reduceNeg, Int.reduceToNat, Int.reduceLE, Int.reduceLT, Int.reduceEq]
  refine callK.in (cmp_isNaN_int.c ?_)
  simp (disch := omega) only [S, SL, Need_of, wrap_in, getD_map, getD_lt, Heap.set_ne, wrap_tdiv, tmod_nn, tdiv_nn, ↓reduceIte, eq_self, Nat.reduceEqDiff, Nat.reduceAdd, Nat.reduceSub, Nat.reduceMul, Nat.reduceLeDiff, Int.reduceNeg, Int.reduceToNat, Int.reduceLE, Int.reduceLT, Int.reduceEq]
  unfold sgnV at hQ
  refine condK_if (fun c1 => ?_) (fun c1 => ?_)
  · simp (disch := omega) only [S, SL, Need_of, wrap_in, getD_map, getD_lt, Heap.set_ne, wrap_tdiv, tmod_nn, tdiv_nn, ↓reduceIte, eq_self, Nat.reduceEqDiff, Nat.reduceAdd, Nat.reduceSub, Nat.reduceMul, Nat.reduceLeDiff, Int.reduceNeg, Int.reduceToNat, Int.reduceLE, Int.reduceLT, Int.reduceEq]
    rw [if_pos c1] at hQ
    exact fin.same hQ
  · simp (disch := omega) only [S, SL, Need_of, wrap_in, getD_map, getD_lt, Heap.set_ne, wrap_tdiv, tmod_nn, tdiv_nn, ↓reduceIte, eq_self, Nat.reduceEqDiff, Nat.reduceAdd, Nat.reduceSub, Nat.reduceMul, Nat.reduceLeDiff, Int.reduceNeg, Int.reduceToNat, Int.reduceLE, Int.reduceLT, Int.reduceEq]
    rw [if_neg c1] at hQ
    refine condK_if (fun c2 => ?_) (fun c2 => ?_)
    · simp (disch := omega) only [S, SL, Need_of, wrap_in, getD_map, getD_lt, Heap.set_ne, wrap_tdiv, tmod_nn, tdiv_nn, ↓reduceIte, eq_self, Nat.reduceEqDiff, Nat.reduceAdd, Nat.reduceSub, Nat.reduceMul, Nat.reduceLeDiff, Int.reduceNeg, Int.reduceToNat, Int.reduceLE, Int.reduceLT, Int.reduceEq]
      rw [if_pos c2] at hQ
      exact fin.same hQ
    · simp (disch := omega) only [S, SL, Need_of, wrap_in, getD_map, getD_lt, Heap.set_ne, wrap_tdiv, tmod_nn, tdiv_nn, ↓reduceIte, eq_self, Nat.reduceEqDiff, Nat.reduceAdd, Nat.reduceSub, Nat.reduceMul, Nat.reduceLeDiff, Int.reduceNeg, Int.reduceToNat, Int.reduceLE, Int.reduceLT, Int.reduceEq]
      rw [if_neg c2] at hQ
      exact fin.same hQ
theorem cmp_Or_int.c {l : List Int} {b : Nat} {ty : TypeId} {h : Heap} {Q : AV → Heap → Prop} (hb : h b = some (.row ty (l.map iA))) (hl : l.length ≤ 4294967296) (hQ : Q (iA (orV l)) h) : CALL Try.prog cmp_Or_int.id [.own b l.length] h Q := by
  refine CALL_by mixed cmp_Or_int.tr (Nat.le_of_ble_eq_true rfl) ?_
  simp (disch := omega) only [S, SL, Need_of, wrap_in, getD_map, getD_lt, Heap.set_ne, wrap_tdiv, tmod_nn, tdiv_nn, ↓reduceIte, eq_self, Nat.reduceEqDiff, Nat.reduceAdd, Nat.reduceSub, Nat.reduceMul, Nat.reduceLeDiff, Int.reduceNeg, Int.reduceToNat, Int.reduceLE, Int.reduceLT, Int.reduceEq, cmp_Or_int.g]
  refine CK_loop (α := Nat) (fun k => [(3, iA 0), (6, .own b l.length), (7, iA l.length), (8, iA k)]) (fun _ => h) (fun k => k ≤ l.length ∧ orV (l.drop k) = orV l) (fun k => l.length - k) 0 ?_ (Heap.le_refl _) ⟨Nat.zero_le _, rfl⟩ ?_
  · simp only [S, SL, ↓reduceIte, eq_self, Nat.reduceEqDiff, Nat.reduceAdd, Nat.reduceSub, Nat.reduceMul, Nat.reduceLeDiff, Int.reduceNeg, Int.reduceToNat, Int.reduceLE, Int.reduceLT, Int.reduceEq]
  · rintro R k ⟨hk, ho⟩ next
    simp (disch := omega) only [S, SL, Need_of, wrap_in, getD_map, getD_lt, Heap.set_ne, wrap_tdiv, tmod_nn, tdiv_nn, ↓reduceIte, eq_self, Nat.reduceEqDiff, Nat.reduceAdd, Nat.reduceSub, Nat.reduceMul, Nat.reduceLeDiff, Int.reduceNeg, Int.reduceToNat, Int.reduceLE, Int.reduceLT, Int.reduceEq, cmp_Or_int.l0]
    refine condK_if (fun c1 => ?_) (fun c1 => ?_)
    · have hk' : k < l.length := by omega
      simp (disch := omega) only [S, SL, Need_of, wrap_in, getD_map, getD_lt, Heap.set_ne, wrap_tdiv, tmod_nn, tdiv_nn, ↓reduceIte, eq_self, Nat.reduceEqDiff, Nat.reduceAdd, Nat.reduceSub, Nat.reduceMul, Nat.reduceLeDiff, Int.reduceNeg, Int.reduceToNat, Int.reduceLE, Int.reduceLT, Int.reduceEq, hb, List.length_map, List.getElem_map]
      rw [List.drop_eq_getElem_cons hk', orV] at ho
      refine condK_if (fun c2 => ?_) (fun c2 => ?_)
      · simp (disch := omega) only [S, SL, Need_of, wrap_in, getD_map, getD_lt, Heap.set_ne, wrap_tdiv, tmod_nn, tdiv_nn, ↓reduceIte, eq_self, Nat.reduceEqDiff, Nat.reduceAdd, Nat.reduceSub, Nat.reduceMul, Nat.reduceLeDiff, Int.reduceNeg, Int.reduceToNat, Int.reduceLE, Int.reduceLT, Int.reduceEq]
        rw [if_pos c2] at ho
        exact next (k + 1) _ _ ⟨by omega, ho⟩ (by omega) (by simp only [S, SL, ↓reduceIte, eq_self, Nat.reduceEqDiff, Nat.reduceAdd, Nat.reduceSub, Nat.reduceMul, Nat.reduceLeDiff, Int.reduceNeg, Int.reduceToNat, Int.reduceLE, Int.reduceLT, Int.reduceEq]) (Heap.le_refl _)
      · simp (disch := omega) only [S, SL, Need_of, wrap_in, getD_map, getD_lt, Heap.set_ne, wrap_tdiv, tmod_nn, tdiv_nn, ↓reduceIte, eq_self, Nat.reduceEqDiff, Nat.reduceAdd, Nat.reduceSub, Nat.reduceMul, Nat.reduceLeDiff, Int.reduceNeg, Int.reduceToNat, Int.reduceLE, Int.reduceLT, Int.reduceEq]
        rw [if_neg c2] at ho
        exact fin.same (by rw [ho]; exact hQ)
    · simp (disch := omega) only [S, SL, Need_of, wrap_in, getD_map, getD_lt, Heap.set_ne, wrap_tdiv, tmod_nn, tdiv_nn, ↓reduceIte, eq_self, Nat.reduceEqDiff, Nat.reduceAdd, Nat.reduceSub, Nat.reduceMul, Nat.reduceLeDiff, Int.reduceNeg, Int.reduceToNat, Int.reduceLE, Int.reduceLT, Int.reduceEq]
      obtain rfl : k = l.length := by omega
      rw [List.drop_length, orV] at ho
      exact fin.same (by rw [ho]; exact hQ)
theorem impl_lastSet.c {c : Cht} (h1 : 1 ≤ c.sets.length) (f : ChtFit c) {h : Heap} {Q : AV → Heap → Prop} (hQ : Q (.imm false ((lastV c).map itmA)) h) : CALL Try.prog impl_lastSet.id [chartA c] h Q := by
  refine CALL_by mixed impl_lastSet.tr (Nat.le_of_ble_eq_true rfl) ?_
  have f1 := f.len
  simp (disch := omega) only [S, SL, Need_of, wrap_in, getD_map, getD_lt, Heap.set_ne, wrap_tdiv, tmod_nn, tdiv_nn, ↓reduceIte, eq_self, Nat.reduceEqDiff, Nat.reduceAdd, Nat.reduceSub, Nat.reduceMul, Nat.reduceLeDiff, Int.reduceNeg, Int.reduceToNat, Int.reduceLE, Int.reduceLT, Int.reduceEq, impl_lastSet.g, chartA, chartL]
  refine allocK.in fun b1 hb1 => ?_
  simp (disch := omega) only [S, SL, Need_of, wrap_in, getD_map, getD_lt, Heap.set_ne, wrap_tdiv, tmod_nn, tdiv_nn, ↓reduceIte, eq_self, Nat.reduceEqDiff, Nat.reduceAdd, Nat.reduceSub, Nat.reduceMul, Nat.reduceLeDiff, Int.reduceNeg, Int.reduceToNat, Int.reduceLE, Int.reduceLT, Int.reduceEq, setA]
  have e : ((c.sets.length : Int) - 1).toNat = c.sets.length - 1 := by omega
  refine fin.of (Heap.le_new hb1) ?_
  rw [last_eq h1] at hQ
  simpa only [e] using hQ
set_option maxHeartbeats 8000000 in
theorem impl_itemOrder.c {x y : Itm} {h : Heap} {Q : AV → Heap → Prop} (hQ : Q (iA (ordI x y)) h) : CALL Try.prog impl_itemOrder.id [.agg (itmA x), .agg (itmA y)] h Q := by
  refine CALL_by mixed impl_itemOrder.tr (Nat.le_of_ble_eq_true rfl) ?_
  simp (disch := omega) only [S, SL, Need_of, wrap_in, getD_map, getD_lt, Heap.set_ne, wrap_tdiv, tmod_nn, tdiv_nn, ↓reduceIte, eq_self, Nat.reduceEqDiff, Nat.reduceAdd, Nat.reduceSub, Nat.reduceMul, Nat.reduceLeDiff, Int.reduceNeg, Int.reduceToNat, Int.reduceLE, Int.reduceLT, Int.reduceEq, impl_itemOrder.g, itmA]
  refine allocK.in fun b2 hb2 => ?_
  simp (disch := omega) only [S, SL, Need_of, wrap_in, getD_map, getD_lt, Heap.set_ne, wrap_tdiv, tmod_nn, tdiv_nn, ↓reduceIte, eq_self, Nat.reduceEqDiff, Nat.reduceAdd, Nat.reduceSub, Nat.reduceMul, Nat.reduceLeDiff, Int.reduceNeg, Int.reduceToNat, Int.reduceLE, Int.reduceLT, Int.reduceEq, itmA]
  refine allocK.in fun b3 hb3 => ?_
  have n3 := Heap.new_ne hb3
  simp (disch := omega) only [S, SL, Need_of, wrap_in, getD_map, getD_lt, Heap.set_ne, wrap_tdiv, tmod_nn, tdiv_nn, ↓reduceIte, eq_self, Nat.reduceEqDiff, Nat.reduceAdd, Nat.reduceSub, Nat.reduceMul, Nat.reduceLeDiff, Int.reduceNeg, Int.reduceToNat, Int.reduceLE, Int.reduceLT, Int.reduceEq, itmA]
  repeat' (with_reducible apply And.intro)
  all_goals
    refine callK.in (cmp_Compare_int.c ?_)
    simp (disch := omega) only [S, SL, Need_of, wrap_in, getD_map, getD_lt, Heap.set_ne, wrap_tdiv, tmod_nn, tdiv_nn, ↓reduceIte, eq_self, Nat.reduceEqDiff, Nat.reduceAdd, Nat.reduceSub, Nat.reduceMul, Nat.reduceLeDiff, Int.reduceNeg, Int.reduceToNat, Int.reduceLE, Int.reduceLT, Int.reduceEq]
    repeat' (with_reducible apply And.intro)
    all_goals
      refine callK.in (cmp_Compare_int.c ?_)
      simp (disch := omega) only [S, SL, Need_of, wrap_in, getD_map, getD_lt, Heap.set_ne, wrap_tdiv, tmod_nn, tdiv_nn, ↓reduceIte, eq_self, Nat.reduceEqDiff, Nat.reduceAdd, Nat.reduceSub, Nat.reduceMul, Nat.reduceLeDiff, Int.reduceNeg, Int.reduceToNat, Int.reduceLE, Int.reduceLT, Int.reduceEq]
      repeat' (with_reducible apply And.intro)
      all_goals
        refine callK.in (cmp_Compare_int.c ?_)
        simp (disch := omega) only [S, SL, Need_of, wrap_in, getD_map, getD_lt, Heap.set_ne, wrap_tdiv, tmod_nn, tdiv_nn, ↓reduceIte, eq_self, Nat.reduceEqDiff, Nat.reduceAdd, Nat.reduceSub, Nat.reduceMul, Nat.reduceLeDiff, Int.reduceNeg, Int.reduceToNat, Int.reduceLE, Int.reduceLT, Int.reduceEq]
        refine rowK.in fun b5 hb5 => ?_
        simp (disch := omega) only [S, SL, Need_of, wrap_in, getD_map, getD_lt, Heap.set_ne, wrap_tdiv, tmod_nn, tdiv_nn, ↓reduceIte, eq_self, Nat.reduceEqDiff, Nat.reduceAdd, Nat.reduceSub, Nat.reduceMul, Nat.reduceLeDiff, Int.reduceNeg, Int.reduceToNat, Int.reduceLE, Int.reduceLT, Int.reduceEq]
        refine callK.in (cmp_Or_int.c (l := [sgnV x.prod y.prod, sgnV x.dot y.dot, sgnV x.frm y.frm]) (Heap.set_same _ _ _) (by simp) ?_)
        simp (disch := omega) only [S, SL, Need_of, wrap_in, getD_map, getD_lt, Heap.set_ne, wrap_tdiv, tmod_nn, tdiv_nn, ↓reduceIte, eq_self, Nat.reduceEqDiff, Nat.reduceAdd, Nat.reduceSub, Nat.reduceMul, Nat.reduceLeDiff, Int.reduceNeg, Int.reduceToNat, Int.reduceLE, Int.reduceLT, Int.reduceEq]
        exact fin.of (Heap.le_trans (Heap.le_trans (Heap.le_new hb2) (Heap.le_new hb3)) (Heap.le_new hb5)) hQ
end Go.Proofs.Ytabbipdkbdojiaa
