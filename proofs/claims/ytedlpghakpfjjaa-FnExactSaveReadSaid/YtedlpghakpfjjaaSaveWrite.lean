/- What the two functions SaveWrite come to: the bytes of productions. No condition. -/
import Derived.Test.YtedlpghakpfjjaaCfgOk
import Derived.Test.YtedlpghakpfjjaaBytes
namespace Go.Ab
open Go
def symB (s : Sym) : List UInt8 := if 0 ≤ s.head then [1, by8 s.head] else [0, by8 s.low, by8 s.high]
def prdB (p : Prd) : List UInt8 := [by8 p.head, by8 p.body.length] ++ p.body.flatMap symB
/-- The bytes up to production k, and of that up to part j. -/
def headB (c : Cfg) : List UInt8 := [70, by8 (c.heads - 1)] ++ twoB c.prods.length
def upB (c : Cfg) (k : Nat) : List UInt8 := headB c ++ (c.prods.take k).flatMap prdB
def upB2 (c : Cfg) (k : Nat) (p : Prd) (j : Nat) : List UInt8 := upB c k ++ [by8 p.head, by8 p.body.length] ++ (p.body.take j).flatMap symB
def allB (c : Cfg) : List UInt8 := upB c c.prods.length
noncomputable def saveW (c : Cfg) : List UInt8 := if CfgOk c then allB c ++ twoB (sumB (allB c)) else []
theorem take_flatMap {α β : Type} {l : List α} {f : α → List β} {k : Nat} (hk : k < l.length) : (l.take (k + 1)).flatMap f = (l.take k).flatMap f ++ f l[k] := by
  rw [List.take_succ_eq_append_getElem hk, List.flatMap_append]; simp
theorem upB_zero (c : Cfg) : upB c 0 = headB c := by simp [upB]
theorem upB2_zero (c : Cfg) (k : Nat) (p : Prd) : upB2 c k p 0 = upB c k ++ [by8 p.head, by8 p.body.length] := by simp [upB2]
theorem upB2_succ {c : Cfg} {k : Nat} {p : Prd} {j : Nat} (hj : j < p.body.length) : upB2 c k p (j + 1) = upB2 c k p j ++ symB p.body[j] := by simp [upB2, take_flatMap hj]
theorem upB_succ {c : Cfg} {k : Nat} (hk : k < c.prods.length) : upB c (k + 1) = upB2 c k c.prods[k] c.prods[k].body.length := by simp [upB, upB2, take_flatMap hk, prdB]
theorem symB_len (s : Sym) : (symB s).length ≤ 3 := by unfold symB; split <;> simp
theorem upB2_len {c : Cfg} {k : Nat} {p : Prd} : ∀ j, j ≤ p.body.length → (upB2 c k p j).length ≤ (upB c k).length + 2 + 3 * j
  | 0, _ => by simp [upB2_zero]
  | j + 1, h => by
    have := upB2_len (c := c) (k := k) (p := p) j (by omega)
    have h2 := symB_len p.body[j]
    rw [upB2_succ (by omega)]; simp; omega
theorem upB_len {c : Cfg} (ok : CfgOk c) : ∀ k, k ≤ c.prods.length → (upB c k).length ≤ 4 + 482 * k
  | 0, _ => by simp [upB_zero, headB, twoB]
  | k + 1, h => by
    have h1 := upB_len ok k (by omega)
    have h2 := (ok.prods k (by omega)).len
    have h3 := upB2_len (c := c) (k := k) (p := c.prods[k]) c.prods[k].body.length (Nat.le_refl _)
    rw [upB_succ (by omega)]; omega
end Go.Ab

namespace Go.Proofs.Ytedlpghakpfjjaa
open Go Go.Ab
set_option linter.unusedVariables false
set_option linter.unusedSimpArgs false

theorem impl_SaveWrite.c {c : Cfg} {h : Heap} {Q : AV → Heap → Prop} (hQ : ∀ b, h b = none → Q (.own b (saveW c).length) (h.set b (.row 5 ((saveW c).map yA)))) : CALL Try.prog impl_SaveWrite.id [cfgA c] h Q := by
  refine CALL_by mixed impl_SaveWrite.tr (Nat.le_of_ble_eq_true rfl) ?_
  simp only [S, SL, ↓reduceIte, eq_self, Nat.reduceEqDiff, Nat.reduceAdd, Nat.reduceSub, Nat.reduceMul, Nat.reduceLeDiff, Int.reduceNeg, Int.reduceToNat, Int.reduceLE, Int.reduceLT, Int.reduceEq, impl_SaveWrite.g, cfgA, cfgL]
  refine allocK.in fun b1 hb1 => ?_
  simp (disch := omega) only [S, SL, Need_of, wrap_in, getD_map, getD_lt, Heap.set_ne, wrap_tdiv, tmod_nn, tdiv_nn, ↓reduceIte, eq_self, Nat.reduceEqDiff, Nat.reduceAdd, Nat.reduceSub, Nat.reduceMul, Nat.reduceLeDiff, Int.reduceNeg, Int.reduceToNat, Int.reduceLE, Int.reduceLT, Int.reduceEq]
  refine callK.in (impl_CfgOk.c (c := c) ?_)
  simp (disch := omega) only [S, SL, Need_of, wrap_in, getD_map, getD_lt, Heap.set_ne, wrap_tdiv, tmod_nn, tdiv_nn, ↓reduceIte, eq_self, Nat.reduceEqDiff, Nat.reduceAdd, Nat.reduceSub, Nat.reduceMul, Nat.reduceLeDiff, Int.reduceNeg, Int.reduceToNat, Int.reduceLE, Int.reduceLT, Int.reduceEq]
  refine condK_if (fun ok => ?_) (fun ok => ?_)
  · have hh := ok.heads
    have hlen := ok.len
    simp (disch := omega) only [S, SL, Need_of, wrap_in, getD_map, getD_lt, Heap.set_ne, wrap_tdiv, tmod_nn, tdiv_nn, ↓reduceIte, eq_self, Nat.reduceEqDiff, Nat.reduceAdd, Nat.reduceSub, Nat.reduceMul, Nat.reduceLeDiff, Int.reduceNeg, Int.reduceToNat, Int.reduceLE, Int.reduceLT, Int.reduceEq, wrap_by8]
    refine rowK.in fun b2 hb2 => ?_
    have ne2 := Heap.new_ne hb2
    simp (disch := omega) only [S, SL, Need_of, wrap_in, getD_map, getD_lt, Heap.set_ne, wrap_tdiv, tmod_nn, tdiv_nn, ↓reduceIte, eq_self, Nat.reduceEqDiff, Nat.reduceAdd, Nat.reduceSub, Nat.reduceMul, Nat.reduceLeDiff, Int.reduceNeg, Int.reduceToNat, Int.reduceLE, Int.reduceLT, Int.reduceEq]
    refine callK.in (impl_two.c (bs := [70, by8 (c.heads - 1)]) (n := (c.prods.length : Int)) (by simp) (by omega) hb2 fun b3 hb3 => ?_)
    have ne3 := Heap.new_ne hb3
    simp (disch := omega) only [S, SL, Need_of, wrap_in, getD_map, getD_lt, Heap.set_ne, wrap_tdiv, tmod_nn, tdiv_nn, ↓reduceIte, eq_self, Nat.reduceEqDiff, Nat.reduceAdd, Nat.reduceSub, Nat.reduceMul, Nat.reduceLeDiff, Int.reduceNeg, Int.reduceToNat, Int.reduceLE, Int.reduceLT, Int.reduceEq]
    refine CK_loop (α := Nat × Nat) (fun x => [(3, .own x.2 (upB c x.1).length), (22, .imm false (c.prods.map prdA)), (23, iA c.prods.length), (24, iA x.1)]) (fun x => h.set x.2 (.row 5 ((upB c x.1).map yA)))
      (fun x => x.1 ≤ c.prods.length ∧ h x.2 = none) (fun x => c.prods.length - x.1) (0, b3) ?_ ?_ ⟨by simp, Heap.new_none hb3⟩ ?_
    · simp only [S, SL, ↓reduceIte, eq_self, Nat.reduceEqDiff, Nat.reduceAdd, Nat.reduceSub, Nat.reduceMul, Nat.reduceLeDiff, Int.reduceNeg, Int.reduceToNat, Int.reduceLE, Int.reduceLT, Int.reduceEq, upB_zero, headB, twoB, List.length_append]
    · simp only [upB_zero]; exact Heap.set_mono (Heap.le_new hb1) _ _
    · rintro R ⟨k, b⟩ ⟨hk, hb⟩ next
      simp only at hk hb
      have hl := upB_len ok k hk
      simp (disch := omega) only [S, SL, Need_of, wrap_in, getD_map, getD_lt, Heap.set_ne, wrap_tdiv, tmod_nn, tdiv_nn, ↓reduceIte, eq_self, Nat.reduceEqDiff, Nat.reduceAdd, Nat.reduceSub, Nat.reduceMul, Nat.reduceLeDiff, Int.reduceNeg, Int.reduceToNat, Int.reduceLE, Int.reduceLT, Int.reduceEq, impl_SaveWrite.l1]
      refine condK_if (fun h2 => ?_) (fun h2 => ?_)
      · have hk' : k < c.prods.length := by omega
        have po := ok.prods k hk'
        have pol := po.len
        simp (disch := omega) only [S, SL, Need_of, wrap_in, getD_map, getD_lt, Heap.set_ne, wrap_tdiv, tmod_nn, tdiv_nn, ↓reduceIte, eq_self, Nat.reduceEqDiff, Nat.reduceAdd, Nat.reduceSub, Nat.reduceMul, Nat.reduceLeDiff, Int.reduceNeg, Int.reduceToNat, Int.reduceLE, Int.reduceLT, Int.reduceEq, prdA]
        refine allocK.in fun b5 hb5 => ?_
        have ne5 := Heap.new_ne hb5
        simp (disch := omega) only [S, SL, Need_of, wrap_in, getD_map, getD_lt, Heap.set_ne, wrap_tdiv, tmod_nn, tdiv_nn, ↓reduceIte, eq_self, Nat.reduceEqDiff, Nat.reduceAdd, Nat.reduceSub, Nat.reduceMul, Nat.reduceLeDiff, Int.reduceNeg, Int.reduceToNat, Int.reduceLE, Int.reduceLT, Int.reduceEq, wrap_by8]
        refine rowK.in fun b6 hb6 => ?_
        have ne6 := Heap.new_ne hb6
        have ne65 := Heap.new_ne (Heap.new_none hb6)
        simp (disch := omega) only [S, SL, Need_of, wrap_in, getD_map, getD_lt, Heap.set_ne, wrap_tdiv, tmod_nn, tdiv_nn, ↓reduceIte, eq_self, Nat.reduceEqDiff, Nat.reduceAdd, Nat.reduceSub, Nat.reduceMul, Nat.reduceLeDiff, Int.reduceNeg, Int.reduceToNat, Int.reduceLE, Int.reduceLT, Int.reduceEq]
        refine grownK.to (h0 := h.set b5 _) (Heap.le_trans (Heap.set_mono (Heap.le_new hb) _ _) (Heap.le_new hb6)) (Heap.set_none.2 ⟨fun e => ne5 e.symm, hb⟩) fun b' hb' => ?_
        have neb' := Heap.new_ne hb'
        simp (disch := omega) only [S, SL, Need_of, wrap_in, getD_map, getD_lt, Heap.set_ne, wrap_tdiv, tmod_nn, tdiv_nn, ↓reduceIte, eq_self, Nat.reduceEqDiff, Nat.reduceAdd, Nat.reduceSub, Nat.reduceMul, Nat.reduceLeDiff, Int.reduceNeg, Int.reduceToNat, Int.reduceLE, Int.reduceLT, Int.reduceEq]
        refine CK_loop (α := Nat × Nat) (fun x => [(3, .own x.2 (upB2 c k c.prods[k] x.1).length), (22, .imm false (c.prods.map prdA)), (23, iA c.prods.length), (24, iA k), (39, .imm false (c.prods[k].body.map symA)), (40, iA c.prods[k].body.length), (41, iA x.1)]) (fun x => h.set x.2 (.row 5 ((upB2 c k c.prods[k] x.1).map yA)))
          (fun x => x.1 ≤ c.prods[k].body.length ∧ h x.2 = none) (fun x => c.prods[k].body.length - x.1) (0, b') ?_ ?_ ⟨by simp, Heap.new_none hb'⟩ ?_
        · simp only [S, SL, ↓reduceIte, eq_self, Nat.reduceEqDiff, Nat.reduceAdd, Nat.reduceSub, Nat.reduceMul, Nat.reduceLeDiff, Int.reduceNeg, Int.reduceToNat, Int.reduceLE, Int.reduceLT, Int.reduceEq, upB2_zero, List.length_append]
        · simp only [upB2_zero, List.map_append, List.append_assoc]; exact Heap.set_mono (Heap.le_new (Heap.new_none hb5)) _ _
        · rintro R' ⟨j, b⟩ ⟨hj, hb⟩ next'
          simp only at hj hb
          have hl2 := upB2_len (c := c) (k := k) (p := c.prods[k]) j hj
          simp (disch := omega) only [S, SL, Need_of, wrap_in, getD_map, getD_lt, Heap.set_ne, wrap_tdiv, tmod_nn, tdiv_nn, ↓reduceIte, eq_self, Nat.reduceEqDiff, Nat.reduceAdd, Nat.reduceSub, Nat.reduceMul, Nat.reduceLeDiff, Int.reduceNeg, Int.reduceToNat, Int.reduceLE, Int.reduceLT, Int.reduceEq, impl_SaveWrite.l0]
          refine condK_if (fun h3 => ?_) (fun h3 => ?_)
          · have hj' : j < c.prods[k].body.length := by omega
            simp (disch := omega) only [S, SL, Need_of, wrap_in, getD_map, getD_lt, Heap.set_ne, wrap_tdiv, tmod_nn, tdiv_nn, ↓reduceIte, eq_self, Nat.reduceEqDiff, Nat.reduceAdd, Nat.reduceSub, Nat.reduceMul, Nat.reduceLeDiff, Int.reduceNeg, Int.reduceToNat, Int.reduceLE, Int.reduceLT, Int.reduceEq, symA]
            refine allocK.in fun b7 hb7 => ?_
            have ne7 := Heap.new_ne hb7
            simp (disch := omega) only [S, SL, Need_of, wrap_in, getD_map, getD_lt, Heap.set_ne, wrap_tdiv, tmod_nn, tdiv_nn, ↓reduceIte, eq_self, Nat.reduceEqDiff, Nat.reduceAdd, Nat.reduceSub, Nat.reduceMul, Nat.reduceLeDiff, Int.reduceNeg, Int.reduceToNat, Int.reduceLE, Int.reduceLT, Int.reduceEq]
            refine condK_if (fun h4 => ?_) (fun h4 => ?_)
            · simp (disch := omega) only [S, SL, Need_of, wrap_in, getD_map, getD_lt, Heap.set_ne, wrap_tdiv, tmod_nn, tdiv_nn, ↓reduceIte, eq_self, Nat.reduceEqDiff, Nat.reduceAdd, Nat.reduceSub, Nat.reduceMul, Nat.reduceLeDiff, Int.reduceNeg, Int.reduceToNat, Int.reduceLE, Int.reduceLT, Int.reduceEq, wrap_by8]
              refine rowK.in fun b8 hb8 => ?_
              have ne8 := Heap.new_ne hb8
              have ne87 := Heap.new_ne (Heap.new_none hb8)
              simp (disch := omega) only [S, SL, Need_of, wrap_in, getD_map, getD_lt, Heap.set_ne, wrap_tdiv, tmod_nn, tdiv_nn, ↓reduceIte, eq_self, Nat.reduceEqDiff, Nat.reduceAdd, Nat.reduceSub, Nat.reduceMul, Nat.reduceLeDiff, Int.reduceNeg, Int.reduceToNat, Int.reduceLE, Int.reduceLT, Int.reduceEq]
              refine grownK.to (h0 := h) (Heap.le_trans (Heap.le_trans (Heap.le_new hb) (Heap.le_new hb7)) (Heap.le_new hb8)) hb fun b' hb' => ?_
              simp (disch := omega) only [S, SL, Need_of, wrap_in, getD_map, getD_lt, Heap.set_ne, wrap_tdiv, tmod_nn, tdiv_nn, ↓reduceIte, eq_self, Nat.reduceEqDiff, Nat.reduceAdd, Nat.reduceSub, Nat.reduceMul, Nat.reduceLeDiff, Int.reduceNeg, Int.reduceToNat, Int.reduceLE, Int.reduceLT, Int.reduceEq]
              have e : (upB2 c k c.prods[k] (j + 1)) = upB2 c k c.prods[k] j ++ [1, by8 c.prods[k].body[j].head] := by rw [upB2_succ hj', symB, if_pos h4]
              exact next' (j + 1, b') _ _ ⟨by simp only; omega, hb'⟩ (by simp only; omega) (by simp (disch := omega) only [S, SL, Need_of, wrap_in, getD_map, getD_lt, Heap.set_ne, wrap_tdiv, tmod_nn, tdiv_nn, ↓reduceIte, eq_self, Nat.reduceEqDiff, Nat.reduceAdd, Nat.reduceSub, Nat.reduceMul, Nat.reduceLeDiff, Int.reduceNeg, Int.reduceToNat, Int.reduceLE, Int.reduceLT, Int.reduceEq, e, List.length_append]) (by simp only [e, List.map_append]; exact Heap.le_refl _)
            · simp (disch := omega) only [S, SL, Need_of, wrap_in, getD_map, getD_lt, Heap.set_ne, wrap_tdiv, tmod_nn, tdiv_nn, ↓reduceIte, eq_self, Nat.reduceEqDiff, Nat.reduceAdd, Nat.reduceSub, Nat.reduceMul, Nat.reduceLeDiff, Int.reduceNeg, Int.reduceToNat, Int.reduceLE, Int.reduceLT, Int.reduceEq, wrap_by8]
              refine rowK.in fun b8 hb8 => ?_
              have ne8 := Heap.new_ne hb8
              have ne87 := Heap.new_ne (Heap.new_none hb8)
              simp (disch := omega) only [S, SL, Need_of, wrap_in, getD_map, getD_lt, Heap.set_ne, wrap_tdiv, tmod_nn, tdiv_nn, ↓reduceIte, eq_self, Nat.reduceEqDiff, Nat.reduceAdd, Nat.reduceSub, Nat.reduceMul, Nat.reduceLeDiff, Int.reduceNeg, Int.reduceToNat, Int.reduceLE, Int.reduceLT, Int.reduceEq]
              refine grownK.to (h0 := h) (Heap.le_trans (Heap.le_trans (Heap.le_new hb) (Heap.le_new hb7)) (Heap.le_new hb8)) hb fun b' hb' => ?_
              simp (disch := omega) only [S, SL, Need_of, wrap_in, getD_map, getD_lt, Heap.set_ne, wrap_tdiv, tmod_nn, tdiv_nn, ↓reduceIte, eq_self, Nat.reduceEqDiff, Nat.reduceAdd, Nat.reduceSub, Nat.reduceMul, Nat.reduceLeDiff, Int.reduceNeg, Int.reduceToNat, Int.reduceLE, Int.reduceLT, Int.reduceEq]
              have e : (upB2 c k c.prods[k] (j + 1)) = upB2 c k c.prods[k] j ++ [0, by8 c.prods[k].body[j].low, by8 c.prods[k].body[j].high] := by rw [upB2_succ hj', symB, if_neg h4]
              exact next' (j + 1, b') _ _ ⟨by simp only; omega, hb'⟩ (by simp only; omega) (by simp (disch := omega) only [S, SL, Need_of, wrap_in, getD_map, getD_lt, Heap.set_ne, wrap_tdiv, tmod_nn, tdiv_nn, ↓reduceIte, eq_self, Nat.reduceEqDiff, Nat.reduceAdd, Nat.reduceSub, Nat.reduceMul, Nat.reduceLeDiff, Int.reduceNeg, Int.reduceToNat, Int.reduceLE, Int.reduceLT, Int.reduceEq, e, List.length_append]) (by simp only [e, List.map_append]; exact Heap.le_refl _)
          · simp (disch := omega) only [S, SL, Need_of, wrap_in, getD_map, getD_lt, Heap.set_ne, wrap_tdiv, tmod_nn, tdiv_nn, ↓reduceIte, eq_self, Nat.reduceEqDiff, Nat.reduceAdd, Nat.reduceSub, Nat.reduceMul, Nat.reduceLeDiff, Int.reduceNeg, Int.reduceToNat, Int.reduceLE, Int.reduceLT, Int.reduceEq]
            obtain rfl : j = c.prods[k].body.length := by omega
            exact next (k + 1, b) _ _ ⟨by simp only; omega, hb⟩ (by simp only; omega) (by simp (disch := omega) only [S, SL, Need_of, wrap_in, getD_map, getD_lt, Heap.set_ne, wrap_tdiv, tmod_nn, tdiv_nn, ↓reduceIte, eq_self, Nat.reduceEqDiff, Nat.reduceAdd, Nat.reduceSub, Nat.reduceMul, Nat.reduceLeDiff, Int.reduceNeg, Int.reduceToNat, Int.reduceLE, Int.reduceLT, Int.reduceEq, upB_succ hk']) (by simp only [upB_succ hk']; exact Heap.le_refl _)
      · simp (disch := omega) only [S, SL, Need_of, wrap_in, getD_map, getD_lt, Heap.set_ne, wrap_tdiv, tmod_nn, tdiv_nn, ↓reduceIte, eq_self, Nat.reduceEqDiff, Nat.reduceAdd, Nat.reduceSub, Nat.reduceMul, Nat.reduceLeDiff, Int.reduceNeg, Int.reduceToNat, Int.reduceLE, Int.reduceLT, Int.reduceEq]
        obtain rfl : k = c.prods.length := by omega
        refine rowK.in fun b4 hb4 => ?_
        have ne4 := Heap.new_ne hb4
        simp (disch := omega) only [S, SL, Need_of, wrap_in, getD_map, getD_lt, Heap.set_ne, wrap_tdiv, tmod_nn, tdiv_nn, ↓reduceIte, eq_self, Nat.reduceEqDiff, Nat.reduceAdd, Nat.reduceSub, Nat.reduceMul, Nat.reduceLeDiff, Int.reduceNeg, Int.reduceToNat, Int.reduceLE, Int.reduceLT, Int.reduceEq]
        have hs := sumB_range (upB c c.prods.length)
        refine callK.in (CALL.lendV (ys := [bytesI (upB c c.prods.length)]) rfl (vw_one (vw_bytes (e := 5) (by simp (disch := omega) only [S, SL, Need_of, wrap_in, getD_map, getD_lt, Heap.set_ne, wrap_tdiv, tmod_nn, tdiv_nn, ↓reduceIte, eq_self, Nat.reduceEqDiff, Nat.reduceAdd, Nat.reduceSub, Nat.reduceMul, Nat.reduceLeDiff, Int.reduceNeg, Int.reduceToNat, Int.reduceLE, Int.reduceLT, Int.reduceEq]))) (impl_SaveSum.c (by omega)) rfl ?_)
        simp (disch := omega) only [S, SL, Need_of, wrap_in, getD_map, getD_lt, Heap.set_ne, wrap_tdiv, tmod_nn, tdiv_nn, ↓reduceIte, eq_self, Nat.reduceEqDiff, Nat.reduceAdd, Nat.reduceSub, Nat.reduceMul, Nat.reduceLeDiff, Int.reduceNeg, Int.reduceToNat, Int.reduceLE, Int.reduceLT, Int.reduceEq]
        rw [Heap.set_comm _ _ _ (fun e => ne4 e.symm)]
        refine callK.in (impl_two.c (b := b) (by omega) (by omega) (Heap.set_none.2 ⟨fun e => ne4 e.symm, hb⟩) fun b5 hb5 => ?_)
        have ne5 := Heap.new_ne hb5
        have l5 : (upB c c.prods.length ++ twoB (sumB (upB c c.prods.length))).length ≤ 400000 := by simp [twoB]; omega
        simp (disch := omega) only [S, SL, Need_of, wrap_in, getD_map, getD_lt, Heap.set_ne, wrap_tdiv, tmod_nn, tdiv_nn, ↓reduceIte, eq_self, Nat.reduceEqDiff, Nat.reduceAdd, Nat.reduceSub, Nat.reduceMul, Nat.reduceLeDiff, Int.reduceNeg, Int.reduceToNat, Int.reduceLE, Int.reduceLT, Int.reduceEq, all_yA]
        refine grownK.to (h0 := h) (Heap.le_trans (Heap.le_new (Heap.new_none hb4)) (Heap.le_new hb5)) (Heap.new_none hb4) fun b6 hb6 => ?_
        simp (disch := omega) only [S, SL, Need_of, wrap_in, getD_map, getD_lt, Heap.set_ne, wrap_tdiv, tmod_nn, tdiv_nn, ↓reduceIte, eq_self, Nat.reduceEqDiff, Nat.reduceAdd, Nat.reduceSub, Nat.reduceMul, Nat.reduceLeDiff, Int.reduceNeg, Int.reduceToNat, Int.reduceLE, Int.reduceLT, Int.reduceEq]
        refine fin.same ?_
        have := hQ b6 hb6
        rw [saveW, if_pos ok] at this
        exact this
  · simp (disch := omega) only [S, SL, Need_of, wrap_in, getD_map, getD_lt, Heap.set_ne, wrap_tdiv, tmod_nn, tdiv_nn, ↓reduceIte, eq_self, Nat.reduceEqDiff, Nat.reduceAdd, Nat.reduceSub, Nat.reduceMul, Nat.reduceLeDiff, Int.reduceNeg, Int.reduceToNat, Int.reduceLE, Int.reduceLT, Int.reduceEq]
    refine rowK.to (Heap.le_new hb1) fun b hb => ?_
    simp (disch := omega) only [S, SL, Need_of, wrap_in, getD_map, getD_lt, Heap.set_ne, wrap_tdiv, tmod_nn, tdiv_nn, ↓reduceIte, eq_self, Nat.reduceEqDiff, Nat.reduceAdd, Nat.reduceSub, Nat.reduceMul, Nat.reduceLeDiff, Int.reduceNeg, Int.reduceToNat, Int.reduceLE, Int.reduceLT, Int.reduceEq]
    refine fin.same ?_
    have := hQ b hb
    simpa [saveW, ok] using this

theorem spec_SaveWrite.c {c : Cfg} {h : Heap} {Q : AV → Heap → Prop} (hQ : ∀ b, h b = none → Q (.own b (saveW c).length) (h.set b (.row 5 ((saveW c).map yA)))) : CALL Try.prog spec_SaveWrite.id [cfgA c] h Q := by
  refine CALL_by mixed spec_SaveWrite.tr (Nat.le_of_ble_eq_true rfl) ?_
  simp only [S, SL, ↓reduceIte, eq_self, Nat.reduceEqDiff, Nat.reduceAdd, Nat.reduceSub, Nat.reduceMul, Nat.reduceLeDiff, Int.reduceNeg, Int.reduceToNat, Int.reduceLE, Int.reduceLT, Int.reduceEq, spec_SaveWrite.g, cfgA, cfgL]
  refine allocK.in fun b1 hb1 => ?_
  simp (disch := omega) only [S, SL, Need_of, wrap_in, getD_map, getD_lt, Heap.set_ne, wrap_tdiv, tmod_nn, tdiv_nn, ↓reduceIte, eq_self, Nat.reduceEqDiff, Nat.reduceAdd, Nat.reduceSub, Nat.reduceMul, Nat.reduceLeDiff, Int.reduceNeg, Int.reduceToNat, Int.reduceLE, Int.reduceLT, Int.reduceEq]
  refine rowK.in fun b2 hb2 => ?_
  have ne2 := Heap.new_ne hb2
  simp (disch := omega) only [S, SL, Need_of, wrap_in, getD_map, getD_lt, Heap.set_ne, wrap_tdiv, tmod_nn, tdiv_nn, ↓reduceIte, eq_self, Nat.reduceEqDiff, Nat.reduceAdd, Nat.reduceSub, Nat.reduceMul, Nat.reduceLeDiff, Int.reduceNeg, Int.reduceToNat, Int.reduceLE, Int.reduceLT, Int.reduceEq]
  refine callK.in (spec_CfgOk.c (c := c) ?_)
  simp (disch := omega) only [S, SL, Need_of, wrap_in, getD_map, getD_lt, Heap.set_ne, wrap_tdiv, tmod_nn, tdiv_nn, ↓reduceIte, eq_self, Nat.reduceEqDiff, Nat.reduceAdd, Nat.reduceSub, Nat.reduceMul, Nat.reduceLeDiff, Int.reduceNeg, Int.reduceToNat, Int.reduceLE, Int.reduceLT, Int.reduceEq]
  refine condK_if (fun ok => ?_) (fun ok => ?_)
  · have hh := ok.heads
    have hlen := ok.len
    simp (disch := omega) only [S, SL, Need_of, wrap_in, getD_map, getD_lt, Heap.set_ne, wrap_tdiv, tmod_nn, tdiv_nn, ↓reduceIte, eq_self, Nat.reduceEqDiff, Nat.reduceAdd, Nat.reduceSub, Nat.reduceMul, Nat.reduceLeDiff, Int.reduceNeg, Int.reduceToNat, Int.reduceLE, Int.reduceLT, Int.reduceEq, wrap_by8]
    refine rowK.in fun b3 hb3 => ?_
    have ne3 := Heap.new_ne hb3
    have ne31 := Heap.new_ne (Heap.new_none hb3)
    simp (disch := omega) only [S, SL, Need_of, wrap_in, getD_map, getD_lt, Heap.set_ne, wrap_tdiv, tmod_nn, tdiv_nn, ↓reduceIte, eq_self, Nat.reduceEqDiff, Nat.reduceAdd, Nat.reduceSub, Nat.reduceMul, Nat.reduceLeDiff, Int.reduceNeg, Int.reduceToNat, Int.reduceLE, Int.reduceLT, Int.reduceEq]
    refine grownK.to (h0 := h.set b1 _) (Heap.le_trans (Heap.le_new hb2) (Heap.le_new hb3)) hb2 fun b4 hb4 => ?_
    have ne4 := Heap.new_ne hb4
    simp (disch := omega) only [S, SL, Need_of, wrap_in, getD_map, getD_lt, Heap.set_ne, wrap_tdiv, tmod_nn, tdiv_nn, ↓reduceIte, eq_self, Nat.reduceEqDiff, Nat.reduceAdd, Nat.reduceSub, Nat.reduceMul, Nat.reduceLeDiff, Int.reduceNeg, Int.reduceToNat, Int.reduceLE, Int.reduceLT, Int.reduceEq]
    refine callK.in (spec_l41Two.c (bs := [70, by8 (c.heads - 1)]) (n := (c.prods.length : Int)) (by simp) (by omega) hb4 fun b5 hb5 => ?_)
    have ne5 := Heap.new_ne hb5
    simp (disch := omega) only [S, SL, Need_of, wrap_in, getD_map, getD_lt, Heap.set_ne, wrap_tdiv, tmod_nn, tdiv_nn, ↓reduceIte, eq_self, Nat.reduceEqDiff, Nat.reduceAdd, Nat.reduceSub, Nat.reduceMul, Nat.reduceLeDiff, Int.reduceNeg, Int.reduceToNat, Int.reduceLE, Int.reduceLT, Int.reduceEq]
    refine CK_loop (α := Nat × Nat) (fun x => [(1, .adr b1 0), (3, .own x.2 (upB c x.1).length), (4, iA x.1)]) (fun x => (h.set b1 (.row 34 (cfgL c))).set x.2 (.row 5 ((upB c x.1).map yA)))
      (fun x => x.1 ≤ c.prods.length ∧ (h.set b1 (.row 34 (cfgL c))) x.2 = none) (fun x => c.prods.length - x.1) (0, b5) ?_ ?_ ⟨by simp, hb5⟩ ?_
    · simp only [S, SL, ↓reduceIte, eq_self, Nat.reduceEqDiff, Nat.reduceAdd, Nat.reduceSub, Nat.reduceMul, Nat.reduceLeDiff, Int.reduceNeg, Int.reduceToNat, Int.reduceLE, Int.reduceLT, Int.reduceEq, upB_zero, headB, twoB, List.length_append]
    · simp only [upB_zero]; exact Heap.le_refl _
    · rintro R ⟨k, b⟩ ⟨hk, hb⟩ next
      simp only at hk hb
      have hl := upB_len ok k hk
      have ne := Heap.new_ne hb
      simp (disch := omega) only [S, SL, Need_of, wrap_in, getD_map, getD_lt, Heap.set_ne, wrap_tdiv, tmod_nn, tdiv_nn, ↓reduceIte, eq_self, Nat.reduceEqDiff, Nat.reduceAdd, Nat.reduceSub, Nat.reduceMul, Nat.reduceLeDiff, Int.reduceNeg, Int.reduceToNat, Int.reduceLE, Int.reduceLT, Int.reduceEq, spec_SaveWrite.l1, cfgL]
      refine condK_if (fun h2 => ?_) (fun h2 => ?_)
      · have hk' : k < c.prods.length := by omega
        have po := ok.prods k hk'
        have pol := po.len
        simp (disch := omega) only [S, SL, Need_of, wrap_in, getD_map, getD_lt, Heap.set_ne, wrap_tdiv, tmod_nn, tdiv_nn, ↓reduceIte, eq_self, Nat.reduceEqDiff, Nat.reduceAdd, Nat.reduceSub, Nat.reduceMul, Nat.reduceLeDiff, Int.reduceNeg, Int.reduceToNat, Int.reduceLE, Int.reduceLT, Int.reduceEq, prdA, cfgL]
        refine allocK.in fun b5 hb5 => ?_
        have ne5 := Heap.new_ne hb5
        simp (disch := omega) only [S, SL, Need_of, wrap_in, getD_map, getD_lt, Heap.set_ne, wrap_tdiv, tmod_nn, tdiv_nn, ↓reduceIte, eq_self, Nat.reduceEqDiff, Nat.reduceAdd, Nat.reduceSub, Nat.reduceMul, Nat.reduceLeDiff, Int.reduceNeg, Int.reduceToNat, Int.reduceLE, Int.reduceLT, Int.reduceEq, wrap_by8]
        refine rowK.in fun b6 hb6 => ?_
        have ne6 := Heap.new_ne hb6
        have ne65 := Heap.new_ne (Heap.new_none hb6)
        simp (disch := omega) only [S, SL, Need_of, wrap_in, getD_map, getD_lt, Heap.set_ne, wrap_tdiv, tmod_nn, tdiv_nn, ↓reduceIte, eq_self, Nat.reduceEqDiff, Nat.reduceAdd, Nat.reduceSub, Nat.reduceMul, Nat.reduceLeDiff, Int.reduceNeg, Int.reduceToNat, Int.reduceLE, Int.reduceLT, Int.reduceEq]
        refine grownK.to (h0 := (h.set b1 (.row 34 (cfgL c))).set b5 (.row 45 (prdA c.prods[k]))) (Heap.le_trans (Heap.set_mono (Heap.le_new hb) _ _) (Heap.le_new hb6)) (Heap.set_none.2 ⟨fun e => ne5 e.symm, hb⟩) fun b' hb' => ?_
        have neb' := Heap.new_ne hb'
        simp (disch := omega) only [S, SL, Need_of, wrap_in, getD_map, getD_lt, Heap.set_ne, wrap_tdiv, tmod_nn, tdiv_nn, ↓reduceIte, eq_self, Nat.reduceEqDiff, Nat.reduceAdd, Nat.reduceSub, Nat.reduceMul, Nat.reduceLeDiff, Int.reduceNeg, Int.reduceToNat, Int.reduceLE, Int.reduceLT, Int.reduceEq]
        refine CK_loop (α := Nat × Nat) (fun x => [(1, .adr b1 0), (3, .own x.2 (upB2 c k c.prods[k] x.1).length), (4, iA k), (5, .adr b5 0), (6, iA x.1)]) (fun x => ((h.set b1 (.row 34 (cfgL c))).set b5 (.row 45 (prdA c.prods[k]))).set x.2 (.row 5 ((upB2 c k c.prods[k] x.1).map yA)))
          (fun x => x.1 ≤ c.prods[k].body.length ∧ ((h.set b1 (.row 34 (cfgL c))).set b5 (.row 45 (prdA c.prods[k]))) x.2 = none) (fun x => c.prods[k].body.length - x.1) (0, b') ?_ ?_ ⟨by simp, hb'⟩ ?_
        · simp only [S, SL, ↓reduceIte, eq_self, Nat.reduceEqDiff, Nat.reduceAdd, Nat.reduceSub, Nat.reduceMul, Nat.reduceLeDiff, Int.reduceNeg, Int.reduceToNat, Int.reduceLE, Int.reduceLT, Int.reduceEq, upB2_zero, List.length_append]
        · simp only [upB2_zero, List.map_append, List.append_assoc]; exact Heap.le_refl _
        · rintro R' ⟨j, b⟩ ⟨hj, hb⟩ next'
          simp only at hj hb
          have hl2 := upB2_len (c := c) (k := k) (p := c.prods[k]) j hj
          have ne := Heap.new_ne hb
          simp (disch := omega) only [S, SL, Need_of, wrap_in, getD_map, getD_lt, Heap.set_ne, wrap_tdiv, tmod_nn, tdiv_nn, ↓reduceIte, eq_self, Nat.reduceEqDiff, Nat.reduceAdd, Nat.reduceSub, Nat.reduceMul, Nat.reduceLeDiff, Int.reduceNeg, Int.reduceToNat, Int.reduceLE, Int.reduceLT, Int.reduceEq, spec_SaveWrite.l0, prdA]
          refine condK_if (fun h3 => ?_) (fun h3 => ?_)
          · have hj' : j < c.prods[k].body.length := by omega
            simp (disch := omega) only [S, SL, Need_of, wrap_in, getD_map, getD_lt, Heap.set_ne, wrap_tdiv, tmod_nn, tdiv_nn, ↓reduceIte, eq_self, Nat.reduceEqDiff, Nat.reduceAdd, Nat.reduceSub, Nat.reduceMul, Nat.reduceLeDiff, Int.reduceNeg, Int.reduceToNat, Int.reduceLE, Int.reduceLT, Int.reduceEq, symA, prdA]
            refine condK_if (fun h4 => ?_) (fun h4 => ?_)
            · simp (disch := omega) only [S, SL, Need_of, wrap_in, getD_map, getD_lt, Heap.set_ne, wrap_tdiv, tmod_nn, tdiv_nn, ↓reduceIte, eq_self, Nat.reduceEqDiff, Nat.reduceAdd, Nat.reduceSub, Nat.reduceMul, Nat.reduceLeDiff, Int.reduceNeg, Int.reduceToNat, Int.reduceLE, Int.reduceLT, Int.reduceEq, wrap_by8, symA, prdA]
              refine rowK.in fun b8 hb8 => ?_
              have ne8 := Heap.new_ne hb8
              simp (disch := omega) only [S, SL, Need_of, wrap_in, getD_map, getD_lt, Heap.set_ne, wrap_tdiv, tmod_nn, tdiv_nn, ↓reduceIte, eq_self, Nat.reduceEqDiff, Nat.reduceAdd, Nat.reduceSub, Nat.reduceMul, Nat.reduceLeDiff, Int.reduceNeg, Int.reduceToNat, Int.reduceLE, Int.reduceLT, Int.reduceEq]
              refine grownK.to (h0 := (h.set b1 (.row 34 (cfgL c))).set b5 (.row 45 (prdA c.prods[k]))) (Heap.le_trans (Heap.le_new hb) (Heap.le_new hb8)) hb fun b' hb' => ?_
              simp (disch := omega) only [S, SL, Need_of, wrap_in, getD_map, getD_lt, Heap.set_ne, wrap_tdiv, tmod_nn, tdiv_nn, ↓reduceIte, eq_self, Nat.reduceEqDiff, Nat.reduceAdd, Nat.reduceSub, Nat.reduceMul, Nat.reduceLeDiff, Int.reduceNeg, Int.reduceToNat, Int.reduceLE, Int.reduceLT, Int.reduceEq]
              have e : (upB2 c k c.prods[k] (j + 1)) = upB2 c k c.prods[k] j ++ [1, by8 c.prods[k].body[j].head] := by rw [upB2_succ hj', symB, if_pos h4]
              exact next' (j + 1, b') _ _ ⟨by simp only; omega, hb'⟩ (by simp only; omega) (by simp (disch := omega) only [S, SL, Need_of, wrap_in, getD_map, getD_lt, Heap.set_ne, wrap_tdiv, tmod_nn, tdiv_nn, ↓reduceIte, eq_self, Nat.reduceEqDiff, Nat.reduceAdd, Nat.reduceSub, Nat.reduceMul, Nat.reduceLeDiff, Int.reduceNeg, Int.reduceToNat, Int.reduceLE, Int.reduceLT, Int.reduceEq, e, List.length_append]) (by simp only [e, List.map_append]; exact Heap.le_refl _)
            · simp (disch := omega) only [S, SL, Need_of, wrap_in, getD_map, getD_lt, Heap.set_ne, wrap_tdiv, tmod_nn, tdiv_nn, ↓reduceIte, eq_self, Nat.reduceEqDiff, Nat.reduceAdd, Nat.reduceSub, Nat.reduceMul, Nat.reduceLeDiff, Int.reduceNeg, Int.reduceToNat, Int.reduceLE, Int.reduceLT, Int.reduceEq, wrap_by8, symA, prdA]
              refine rowK.in fun b8 hb8 => ?_
              have ne8 := Heap.new_ne hb8
              simp (disch := omega) only [S, SL, Need_of, wrap_in, getD_map, getD_lt, Heap.set_ne, wrap_tdiv, tmod_nn, tdiv_nn, ↓reduceIte, eq_self, Nat.reduceEqDiff, Nat.reduceAdd, Nat.reduceSub, Nat.reduceMul, Nat.reduceLeDiff, Int.reduceNeg, Int.reduceToNat, Int.reduceLE, Int.reduceLT, Int.reduceEq]
              refine grownK.to (h0 := (h.set b1 (.row 34 (cfgL c))).set b5 (.row 45 (prdA c.prods[k]))) (Heap.le_trans (Heap.le_new hb) (Heap.le_new hb8)) hb fun b' hb' => ?_
              simp (disch := omega) only [S, SL, Need_of, wrap_in, getD_map, getD_lt, Heap.set_ne, wrap_tdiv, tmod_nn, tdiv_nn, ↓reduceIte, eq_self, Nat.reduceEqDiff, Nat.reduceAdd, Nat.reduceSub, Nat.reduceMul, Nat.reduceLeDiff, Int.reduceNeg, Int.reduceToNat, Int.reduceLE, Int.reduceLT, Int.reduceEq]
              have e : (upB2 c k c.prods[k] (j + 1)) = upB2 c k c.prods[k] j ++ [0, by8 c.prods[k].body[j].low, by8 c.prods[k].body[j].high] := by rw [upB2_succ hj', symB, if_neg h4]
              exact next' (j + 1, b') _ _ ⟨by simp only; omega, hb'⟩ (by simp only; omega) (by simp (disch := omega) only [S, SL, Need_of, wrap_in, getD_map, getD_lt, Heap.set_ne, wrap_tdiv, tmod_nn, tdiv_nn, ↓reduceIte, eq_self, Nat.reduceEqDiff, Nat.reduceAdd, Nat.reduceSub, Nat.reduceMul, Nat.reduceLeDiff, Int.reduceNeg, Int.reduceToNat, Int.reduceLE, Int.reduceLT, Int.reduceEq, e, List.length_append]) (by simp only [e, List.map_append]; exact Heap.le_refl _)
          · simp (disch := omega) only [S, SL, Need_of, wrap_in, getD_map, getD_lt, Heap.set_ne, wrap_tdiv, tmod_nn, tdiv_nn, ↓reduceIte, eq_self, Nat.reduceEqDiff, Nat.reduceAdd, Nat.reduceSub, Nat.reduceMul, Nat.reduceLeDiff, Int.reduceNeg, Int.reduceToNat, Int.reduceLE, Int.reduceLT, Int.reduceEq]
            obtain rfl : j = c.prods[k].body.length := by omega
            have hb1' : (h.set b1 (.row 34 (cfgL c))) b = none := Heap.new_none hb
            exact next (k + 1, b) _ _ ⟨by simp only; omega, hb1'⟩ (by simp only; omega) (by simp (disch := omega) only [S, SL, Need_of, wrap_in, getD_map, getD_lt, Heap.set_ne, wrap_tdiv, tmod_nn, tdiv_nn, ↓reduceIte, eq_self, Nat.reduceEqDiff, Nat.reduceAdd, Nat.reduceSub, Nat.reduceMul, Nat.reduceLeDiff, Int.reduceNeg, Int.reduceToNat, Int.reduceLE, Int.reduceLT, Int.reduceEq, upB_succ hk']) (by simp only [upB_succ hk']; exact Heap.set_mono (Heap.le_new (Heap.new_none hb5)) _ _)
      · simp (disch := omega) only [S, SL, Need_of, wrap_in, getD_map, getD_lt, Heap.set_ne, wrap_tdiv, tmod_nn, tdiv_nn, ↓reduceIte, eq_self, Nat.reduceEqDiff, Nat.reduceAdd, Nat.reduceSub, Nat.reduceMul, Nat.reduceLeDiff, Int.reduceNeg, Int.reduceToNat, Int.reduceLE, Int.reduceLT, Int.reduceEq]
        obtain rfl : k = c.prods.length := by omega
        have hs := sumB_range (upB c c.prods.length)
        refine callK.in (CALL.lendV (ys := [bytesI (upB c c.prods.length)]) rfl (vw_one (vw_bytes (e := 5) (by simp (disch := omega) only [S, SL, Need_of, wrap_in, getD_map, getD_lt, Heap.set_ne, wrap_tdiv, tmod_nn, tdiv_nn, ↓reduceIte, eq_self, Nat.reduceEqDiff, Nat.reduceAdd, Nat.reduceSub, Nat.reduceMul, Nat.reduceLeDiff, Int.reduceNeg, Int.reduceToNat, Int.reduceLE, Int.reduceLT, Int.reduceEq]))) (spec_SaveSum.c (by omega)) rfl ?_)
        simp (disch := omega) only [S, SL, Need_of, wrap_in, getD_map, getD_lt, Heap.set_ne, wrap_tdiv, tmod_nn, tdiv_nn, ↓reduceIte, eq_self, Nat.reduceEqDiff, Nat.reduceAdd, Nat.reduceSub, Nat.reduceMul, Nat.reduceLeDiff, Int.reduceNeg, Int.reduceToNat, Int.reduceLE, Int.reduceLT, Int.reduceEq]
        refine callK.in (spec_l41Two.c (b := b) (by omega) (by omega) hb fun b5 hb5 => ?_)
        simp (disch := omega) only [S, SL, Need_of, wrap_in, getD_map, getD_lt, Heap.set_ne, wrap_tdiv, tmod_nn, tdiv_nn, ↓reduceIte, eq_self, Nat.reduceEqDiff, Nat.reduceAdd, Nat.reduceSub, Nat.reduceMul, Nat.reduceLeDiff, Int.reduceNeg, Int.reduceToNat, Int.reduceLE, Int.reduceLT, Int.reduceEq]
        refine fin.of (Heap.set_mono (Heap.le_new hb1) _ _) ?_
        have := hQ b5 (Heap.new_none hb5)
        rw [saveW, if_pos ok] at this
        exact this
  · simp (disch := omega) only [S, SL, Need_of, wrap_in, getD_map, getD_lt, Heap.set_ne, wrap_tdiv, tmod_nn, tdiv_nn, ↓reduceIte, eq_self, Nat.reduceEqDiff, Nat.reduceAdd, Nat.reduceSub, Nat.reduceMul, Nat.reduceLeDiff, Int.reduceNeg, Int.reduceToNat, Int.reduceLE, Int.reduceLT, Int.reduceEq]
    refine fin.of (Heap.set_mono (Heap.le_new hb1) _ _) ?_
    have := hQ b2 (Heap.new_none hb2)
    simpa [saveW, ok] using this
end Go.Proofs.Ytedlpghakpfjjaa
