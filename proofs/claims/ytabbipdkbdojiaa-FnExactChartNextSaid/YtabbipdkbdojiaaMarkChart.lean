/- What the laws' functions mark.. and held.. come to over own charts and truth values. No condition. -/
import Derived.Test.YtabbipdkbdojiaaCodeH
import Derived.Test.YtabbipdkbdojiaaCodeI
import Derived.Test.YtabbipdkbdojiaaMarkCfg
namespace Go.Ab
open Go
/-- An own slice of slices of three whole numbers each. -/
inductive IsSets : Tree → Prop where
  | nil : IsSets .nil
  | row (b : Nat) (ty : TypeId) (n : Nat) (cells : List Tree) (hl : cells.length = n * 1) (t : Nat → Tree) (h1 : ∀ i, i < n → cells[i]? = some (t i) ∧ IsSyms (t i)) : IsSets (.row b ty n 1 cells)
inductive IsBools : Tree → Prop where
  | nil : IsBools .nil
  | row (b : Nat) (ty : TypeId) (n : Nat) (cells : List Tree) (hl : cells.length = n * 1) (a : Nat → Bool) (hc : ∀ j, j < n → cells[j]? = some (.leaf (.bool (a j)))) : IsBools (.row b ty n 1 cells)
theorem IsSets.not_leaf {t : Tree} (h : IsSets t) : ∀ v, t ≠ .leaf v := by cases h <;> intro v e <;> cases e
theorem IsSets.brand {k : Int} {t : Tree} (h : IsSets t) : IsSets (brand k t) := by
  cases h with
  | nil => exact .nil
  | row b ty n cells hl t h1 =>
    exact .row b ty n _ (by rw [brandL_len]; exact hl) (fun i => Go.Ab.brand (k + countL (cells.take i)) (t i)) fun i hi => ⟨brandL_get k cells _ _ (h1 i hi).1, (h1 i hi).2.brand⟩
theorem IsBools.brand {k : Int} {t : Tree} (h : IsBools t) : IsBools (brand k t) := by
  cases h with
  | nil => exact .nil
  | row b ty n cells hl a hc => exact .row b ty n _ (by rw [brandL_len]; exact hl) (fun j => decide ((k + countL (cells.take j)).tmod 3 = 0)) fun j hj => by rw [brandL_get k cells j _ (hc j hj)]; rfl
/-- How many elements a slice has. -/
def rowsT : Tree → Nat
  | .row _ _ n _ _ => n
  | _ => 0
theorem markV_b {b : Bool} {k : Int} : Value.bool (decide (k.tmod 3 = 0)) = markV (.bool b) k := rfl
theorem held_bool {k : Int} {j : Nat} {cs : List Tree} {b : Bool} (hm : brandL k cs = cs) (hj : cs[j]? = some (.leaf (.bool b))) : (cs.map tA).getD j .junk = .val (markV (.bool b) (k + countL (cs.take j))) := by
  have := heldL_get hm j _ hj
  rw [List.getD_eq_getElem?_getD, List.getElem?_map, hj]
  simp only [Held, brand, Tree.leaf.injEq] at this
  simp only [Option.map_some, tA, Option.getD_some, this]
end Go.Ab

namespace Go.Proofs.Ytabbipdkbdojiaa
open Go Go.Ab
set_option linter.unusedVariables false
set_option linter.unusedSimpArgs false

theorem laws_markItemS.c {t : Tree} {k : Int} {h : Heap} (hs : IsSyms t) (hat : t.at h) (hnd : (blocks t).Nodup) (hk : 0 ≤ k ∧ k + count t ≤ 4611686018427387904) {Q : AV → Heap → Prop}
    (hQ : ∀ h', (brand k t).at h' → (∀ b, b ∉ blocks t → h' b = h b) → Q (iA (k + count t)) h') : CALL Try.prog laws_markItemS.id [tA t, iA k] h Q := by
  refine CALL_by mixed laws_markItemS.tr (Nat.le_of_ble_eq_true rfl) ?_
  cases hs with
  | nil =>
    have := hQ h trivial (fun _ _ => rfl)
    simp only [S, SL, ↓reduceIte, eq_self, Nat.reduceEqDiff, Nat.reduceAdd, Nat.reduceSub, Nat.reduceMul, Nat.reduceLeDiff, Int.reduceNeg, Int.reduceToNat, Int.reduceLE, Int.reduceLT, Int.reduceEq, laws_markItemS.g, tA]
    refine CK_loop (α := Unit) (fun x => [(0, nilA), (1, iA k), (5, iA 0)]) (fun _ => h) (fun _ => True) (fun _ => 0) () ?_ (Heap.le_refl _) trivial ?_
    · simp only [S, SL, ↓reduceIte, eq_self, Nat.reduceEqDiff, Nat.reduceAdd, Nat.reduceSub, Nat.reduceMul, Nat.reduceLeDiff, Int.reduceNeg, Int.reduceToNat, Int.reduceLE, Int.reduceLT, Int.reduceEq]
    · intro R x hx next
      simp only [S, SL, ↓reduceIte, eq_self, Nat.reduceEqDiff, Nat.reduceAdd, Nat.reduceSub, Nat.reduceMul, Nat.reduceLeDiff, Int.reduceNeg, Int.reduceToNat, Int.reduceLE, Int.reduceLT, Int.reduceEq, laws_markItemS.l0, Int.lt_irrefl]
      refine fin.same ?_
      simpa [count] using this
  | row b ty n cells hl a hc =>
    have hnb : b ∉ blocksL cells := fun hm => by simp only [blocks, List.nodup_cons] at hnd; exact hnd.1 hm
    have hcnt : n * 3 ≤ countL cells := by
      have key : ∀ j, j ≤ n * 3 → countL (cells.take j) = j := by
        intro j
        induction j with
        | zero => intro _; simp [countL]
        | succ j ih => intro hj; rw [countL_leaf (hc j (by omega)), ih (by omega)]
      have := key (n * 3) (Nat.le_refl _)
      have := countL_le cells (n * 3)
      omega
    simp only [count] at hk hQ
    simp only [S, SL, ↓reduceIte, eq_self, Nat.reduceEqDiff, Nat.reduceAdd, Nat.reduceSub, Nat.reduceMul, Nat.reduceLeDiff, Int.reduceNeg, Int.reduceToNat, Int.reduceLE, Int.reduceLT, Int.reduceEq, laws_markItemS.g, tA]
    refine CK_loop (α := Nat × Heap) (fun x => [(0, .own b n), (1, iA (k + countL (cells.take (x.1 * 3)))), (5, iA x.1)]) (fun x => x.2)
      (fun x => x.1 ≤ n ∧ (Tree.row b ty n 3 (markTo k (x.1 * 3) cells)).at x.2 ∧ ∀ b', b' ≠ b → x.2 b' = h b') (fun x => n - x.1) (0, h) ?_ (Heap.le_refl _) ⟨by simp, by simpa [markTo] using hat, fun _ _ => rfl⟩ ?_
    · simp only [S, SL, ↓reduceIte, eq_self, Nat.reduceEqDiff, Nat.reduceAdd, Nat.reduceSub, Nat.reduceMul, Nat.reduceLeDiff, Int.reduceNeg, Int.reduceToNat, Int.reduceLE, Int.reduceLT, Int.reduceEq, Nat.zero_mul, countL, Int.add_zero]
    · rintro R ⟨i, h'⟩ ⟨hi, hat', hfr⟩ next
      simp only at hi hat' hfr
      have hb := hat'.1
      simp (disch := omega) only [S, SL, Need_of, wrap_in, getD_map, getD_lt, Heap.set_ne, wrap_tdiv, tmod_nn, tdiv_nn, ↓reduceIte, eq_self, Nat.reduceEqDiff, Nat.reduceAdd, Nat.reduceSub, Nat.reduceMul, Nat.reduceLeDiff, Int.reduceNeg, Int.reduceToNat, Int.reduceLE, Int.reduceLT, Int.reduceEq, laws_markItemS.l0]
      refine condK_if (fun h2 => ?_) (fun h2 => ?_)
      · have c0 := hc (i * 3) (by omega)
        have c1 := hc (i * 3 + 1) (by omega)
        have c2 := hc (i * 3 + 2) (by omega)
        have e0 := mark_cell (k := k) (kk := k + countL (cells.take (i * 3))) c0 rfl markV_i
        have e1 := mark_cell (k := k) (kk := k + countL (cells.take (i * 3)) + 1) c1 (by rw [countL_leaf c0]; omega) markV_i
        have e2 := mark_cell (k := k) (kk := k + countL (cells.take (i * 3)) + 1 + 1) c2 (by rw [countL_leaf c1, countL_leaf c0]; omega) markV_i
        have a3 := mark_leaf (mark_leaf (mark_leaf hat' hnb c0) hnb c1) hnb c2
        rw [Heap.set_set, Heap.set_set] at a3
        have e3 : (i + 1) * 3 = i * 3 + 2 + 1 := by omega
        have ec : countL (cells.take ((i + 1) * 3)) = countL (cells.take (i * 3)) + 1 + 1 + 1 := by rw [e3, countL_leaf c2, countL_leaf c1, countL_leaf c0]
        have hle := countL_le cells ((i + 1) * 3)
        rw [ec] at hle
        simp (disch := omega) only [S, SL, Need_of, wrap_in, getD_map, getD_lt, Heap.set_ne, wrap_tdiv, tmod_nn, tdiv_nn, ↓reduceIte, eq_self, Nat.reduceEqDiff, Nat.reduceAdd, Nat.reduceSub, Nat.reduceMul, Nat.reduceLeDiff, Int.reduceNeg, Int.reduceToNat, Int.reduceLE, Int.reduceLT, Int.reduceEq, hb, markTo_len, e0, e1, e2]
        exact next (i + 1, h'.set b (.row ty ((markTo k (i * 3 + 2 + 1) cells).map tA))) _ _ ⟨by simp only; omega, by simp only [e3]; exact a3, fun b' hb' => (Heap.set_ne _ _ hb').trans (hfr b' hb')⟩ (by simp only; omega) (by simp (disch := omega) only [S, SL, Need_of, wrap_in, getD_map, getD_lt, Heap.set_ne, wrap_tdiv, tmod_nn, tdiv_nn, ↓reduceIte, eq_self, Nat.reduceEqDiff, Nat.reduceAdd, Nat.reduceSub, Nat.reduceMul, Nat.reduceLeDiff, Int.reduceNeg, Int.reduceToNat, Int.reduceLE, Int.reduceLT, Int.reduceEq, ec, Int.add_assoc]) (Heap.le_refl _)
      · simp (disch := omega) only [S, SL, Need_of, wrap_in, getD_map, getD_lt, Heap.set_ne, wrap_tdiv, tmod_nn, tdiv_nn, ↓reduceIte, eq_self, Nat.reduceEqDiff, Nat.reduceAdd, Nat.reduceSub, Nat.reduceMul, Nat.reduceLeDiff, Int.reduceNeg, Int.reduceToNat, Int.reduceLE, Int.reduceLT, Int.reduceEq]
        obtain rfl : i = n := by omega
        refine fin.same ?_
        rw [take_all hl]
        rw [markTo_full hl] at hat'
        exact hQ h' hat' fun b' hb' => hfr b' fun e => hb' (by simp [blocks, e])
theorem laws_heldItemS.c {t : Tree} {k : Int} {h : Heap} (hs : IsSyms t) (hat : t.at h) (hm : brand k t = t) (hk : 0 ≤ k ∧ k + count t ≤ 4611686018427387904) {Q : AV → Heap → Prop}
    (hQ : Q (iA (k + count t)) h) : CALL Try.prog laws_heldItemS.id [tA t, iA k] h Q := by
  refine CALL_by mixed laws_heldItemS.tr (Nat.le_of_ble_eq_true rfl) ?_
  cases hs with
  | nil =>
    simp only [S, SL, ↓reduceIte, eq_self, Nat.reduceEqDiff, Nat.reduceAdd, Nat.reduceSub, Nat.reduceMul, Nat.reduceLeDiff, Int.reduceNeg, Int.reduceToNat, Int.reduceLE, Int.reduceLT, Int.reduceEq, laws_heldItemS.g, tA]
    refine CK_loop (α := Unit) (fun x => [(0, nilA), (1, iA k), (5, iA 0)]) (fun _ => h) (fun _ => True) (fun _ => 0) () ?_ (Heap.le_refl _) trivial ?_
    · simp only [S, SL, ↓reduceIte, eq_self, Nat.reduceEqDiff, Nat.reduceAdd, Nat.reduceSub, Nat.reduceMul, Nat.reduceLeDiff, Int.reduceNeg, Int.reduceToNat, Int.reduceLE, Int.reduceLT, Int.reduceEq]
    · intro R x hx next
      simp only [S, SL, ↓reduceIte, eq_self, Nat.reduceEqDiff, Nat.reduceAdd, Nat.reduceSub, Nat.reduceMul, Nat.reduceLeDiff, Int.reduceNeg, Int.reduceToNat, Int.reduceLE, Int.reduceLT, Int.reduceEq, laws_heldItemS.l0, Int.lt_irrefl]
      refine fin.same ?_
      simpa [count] using hQ
  | row b ty n cells hl a hc =>
    have hcnt : n * 3 ≤ countL cells := by
      have key : ∀ j, j ≤ n * 3 → countL (cells.take j) = j := by
        intro j
        induction j with
        | zero => intro _; simp [countL]
        | succ j ih => intro hj; rw [countL_leaf (hc j (by omega)), ih (by omega)]
      have := key (n * 3) (Nat.le_refl _)
      have := countL_le cells (n * 3)
      omega
    have hb := hat.1
    simp only [count] at hk hQ
    have hm' : brandL k cells = cells := by simpa [brand] using hm
    simp only [S, SL, ↓reduceIte, eq_self, Nat.reduceEqDiff, Nat.reduceAdd, Nat.reduceSub, Nat.reduceMul, Nat.reduceLeDiff, Int.reduceNeg, Int.reduceToNat, Int.reduceLE, Int.reduceLT, Int.reduceEq, laws_heldItemS.g, tA]
    refine CK_loop (α := Nat) (fun i => [(0, .own b n), (1, iA (k + countL (cells.take (i * 3)))), (5, iA i)]) (fun _ => h) (fun i => i ≤ n) (fun i => n - i) 0 ?_ (Heap.le_refl _) (Nat.zero_le _) ?_
    · simp only [S, SL, ↓reduceIte, eq_self, Nat.reduceEqDiff, Nat.reduceAdd, Nat.reduceSub, Nat.reduceMul, Nat.reduceLeDiff, Int.reduceNeg, Int.reduceToNat, Int.reduceLE, Int.reduceLT, Int.reduceEq, Nat.zero_mul, countL, Int.add_zero]
    · intro R i hi next
      simp (disch := omega) only [S, SL, Need_of, wrap_in, getD_map, getD_lt, Heap.set_ne, wrap_tdiv, tmod_nn, tdiv_nn, ↓reduceIte, eq_self, Nat.reduceEqDiff, Nat.reduceAdd, Nat.reduceSub, Nat.reduceMul, Nat.reduceLeDiff, Int.reduceNeg, Int.reduceToNat, Int.reduceLE, Int.reduceLT, Int.reduceEq, laws_heldItemS.l0]
      refine condK_if (fun h2 => ?_) (fun h2 => ?_)
      · have c0 := hc (i * 3) (by omega)
        have c1 := hc (i * 3 + 1) (by omega)
        have c2 := hc (i * 3 + 2) (by omega)
        have e0 : (cells.map tA).getD (i * 3) .junk = iA (k + countL (cells.take (i * 3))) := held_leaf hm' c0
        have e1 : (cells.map tA).getD (i * 3 + 1) .junk = iA (k + countL (cells.take (i * 3)) + 1) := by rw [held_leaf hm' c1, countL_leaf c0, Int.natCast_add, ← Int.add_assoc]; rfl
        have e2 : (cells.map tA).getD (i * 3 + 2) .junk = iA (k + countL (cells.take (i * 3)) + 1 + 1) := by rw [held_leaf hm' c2, countL_leaf c1, countL_leaf c0, Int.natCast_add, Int.natCast_add, ← Int.add_assoc, ← Int.add_assoc]; rfl
        have e3 : (i + 1) * 3 = i * 3 + 2 + 1 := by omega
        have ec : countL (cells.take ((i + 1) * 3)) = countL (cells.take (i * 3)) + 1 + 1 + 1 := by rw [e3, countL_leaf c2, countL_leaf c1, countL_leaf c0]
        have hle := countL_le cells ((i + 1) * 3)
        rw [ec] at hle
        simp (disch := omega) only [S, SL, Need_of, wrap_in, getD_map, getD_lt, Heap.set_ne, wrap_tdiv, tmod_nn, tdiv_nn, ↓reduceIte, eq_self, Nat.reduceEqDiff, Nat.reduceAdd, Nat.reduceSub, Nat.reduceMul, Nat.reduceLeDiff, Int.reduceNeg, Int.reduceToNat, Int.reduceLE, Int.reduceLT, Int.reduceEq, hb, e0, e1, e2]
        exact next (i + 1) _ _ (by omega) (by omega) (by simp (disch := omega) only [S, SL, Need_of, wrap_in, getD_map, getD_lt, Heap.set_ne, wrap_tdiv, tmod_nn, tdiv_nn, ↓reduceIte, eq_self, Nat.reduceEqDiff, Nat.reduceAdd, Nat.reduceSub, Nat.reduceMul, Nat.reduceLeDiff, Int.reduceNeg, Int.reduceToNat, Int.reduceLE, Int.reduceLT, Int.reduceEq, ec, Int.add_assoc]) (Heap.le_refl _)
      · simp (disch := omega) only [S, SL, Need_of, wrap_in, getD_map, getD_lt, Heap.set_ne, wrap_tdiv, tmod_nn, tdiv_nn, ↓reduceIte, eq_self, Nat.reduceEqDiff, Nat.reduceAdd, Nat.reduceSub, Nat.reduceMul, Nat.reduceLeDiff, Int.reduceNeg, Int.reduceToNat, Int.reduceLE, Int.reduceLT, Int.reduceEq]
        obtain rfl : i = n := by omega
        refine fin.same ?_
        rw [take_all hl]
        exact hQ
theorem laws_markBoolS.c {t : Tree} {k : Int} {h : Heap} (hs : IsBools t) (hat : t.at h) (hnd : (blocks t).Nodup) (hk : 0 ≤ k ∧ k + count t ≤ 4611686018427387904) {Q : AV → Heap → Prop}
    (hQ : ∀ h', (brand k t).at h' → (∀ b, b ∉ blocks t → h' b = h b) → Q (iA (k + count t)) h') : CALL Try.prog laws_markBoolS.id [tA t, iA k] h Q := by
  refine CALL_by mixed laws_markBoolS.tr (Nat.le_of_ble_eq_true rfl) ?_
  cases hs with
  | nil =>
    have := hQ h trivial (fun _ _ => rfl)
    simp only [S, SL, ↓reduceIte, eq_self, Nat.reduceEqDiff, Nat.reduceAdd, Nat.reduceSub, Nat.reduceMul, Nat.reduceLeDiff, Int.reduceNeg, Int.reduceToNat, Int.reduceLE, Int.reduceLT, Int.reduceEq, laws_markBoolS.g, tA]
    refine CK_loop (α := Unit) (fun x => [(0, nilA), (1, iA k), (5, iA 0)]) (fun _ => h) (fun _ => True) (fun _ => 0) () ?_ (Heap.le_refl _) trivial ?_
    · simp only [S, SL, ↓reduceIte, eq_self, Nat.reduceEqDiff, Nat.reduceAdd, Nat.reduceSub, Nat.reduceMul, Nat.reduceLeDiff, Int.reduceNeg, Int.reduceToNat, Int.reduceLE, Int.reduceLT, Int.reduceEq]
    · intro R x hx next
      simp only [S, SL, ↓reduceIte, eq_self, Nat.reduceEqDiff, Nat.reduceAdd, Nat.reduceSub, Nat.reduceMul, Nat.reduceLeDiff, Int.reduceNeg, Int.reduceToNat, Int.reduceLE, Int.reduceLT, Int.reduceEq, laws_markBoolS.l0, Int.lt_irrefl]
      refine fin.same ?_
      simpa [count] using this
  | row b ty n cells hl a hc =>
    rw [Nat.mul_one] at hl
    have hnb : b ∉ blocksL cells := fun hm => by simp only [blocks, List.nodup_cons] at hnd; exact hnd.1 hm
    have hcnt : n ≤ countL cells := by
      have key : ∀ j, j ≤ n → countL (cells.take j) = j := by
        intro j
        induction j with
        | zero => intro _; simp [countL]
        | succ j ih => intro hj; rw [countL_leaf (hc j (by omega)), ih (by omega)]
      have := key n (Nat.le_refl _)
      have := countL_le cells n
      omega
    simp only [count] at hk hQ
    simp only [S, SL, ↓reduceIte, eq_self, Nat.reduceEqDiff, Nat.reduceAdd, Nat.reduceSub, Nat.reduceMul, Nat.reduceLeDiff, Int.reduceNeg, Int.reduceToNat, Int.reduceLE, Int.reduceLT, Int.reduceEq, laws_markBoolS.g, tA]
    refine CK_loop (α := Nat × Heap) (fun x => [(0, .own b n), (1, iA (k + countL (cells.take x.1))), (5, iA x.1)]) (fun x => x.2)
      (fun x => x.1 ≤ n ∧ (Tree.row b ty n 1 (markTo k x.1 cells)).at x.2 ∧ ∀ b', b' ≠ b → x.2 b' = h b') (fun x => n - x.1) (0, h) ?_ (Heap.le_refl _) ⟨by simp, by simpa [markTo] using hat, fun _ _ => rfl⟩ ?_
    · simp only [S, SL, ↓reduceIte, eq_self, Nat.reduceEqDiff, Nat.reduceAdd, Nat.reduceSub, Nat.reduceMul, Nat.reduceLeDiff, Int.reduceNeg, Int.reduceToNat, Int.reduceLE, Int.reduceLT, Int.reduceEq, Nat.zero_mul, countL, Int.add_zero]
    · rintro R ⟨i, h'⟩ ⟨hi, hat', hfr⟩ next
      simp only at hi hat' hfr
      have hb := hat'.1
      simp (disch := omega) only [S, SL, Need_of, wrap_in, getD_map, getD_lt, Heap.set_ne, wrap_tdiv, tmod_nn, tdiv_nn, ↓reduceIte, eq_self, Nat.reduceEqDiff, Nat.reduceAdd, Nat.reduceSub, Nat.reduceMul, Nat.reduceLeDiff, Int.reduceNeg, Int.reduceToNat, Int.reduceLE, Int.reduceLT, Int.reduceEq, laws_markBoolS.l0]
      refine condK_if (fun h2 => ?_) (fun h2 => ?_)
      · have c0 := hc i (by omega)
        have e0 := mark_cell (k := k) (kk := k + countL (cells.take i)) c0 rfl markV_b
        have em : (k + (countL (cells.take i) : Int)).tmod 3 = (k + (countL (cells.take i) : Int)) % 3 := Int.tmod_eq_emod_of_nonneg (by omega)
        rw [em] at e0
        have a1 := mark_leaf hat' hnb c0
        have ec : countL (cells.take (i + 1)) = countL (cells.take i) + 1 := by rw [countL_leaf c0]
        have hle := countL_le cells (i + 1)
        rw [ec] at hle
        simp (disch := omega) only [S, SL, Need_of, wrap_in, getD_map, getD_lt, Heap.set_ne, wrap_tdiv, tmod_nn, tdiv_nn, ↓reduceIte, eq_self, Nat.reduceEqDiff, Nat.reduceAdd, Nat.reduceSub, Nat.reduceMul, Nat.reduceLeDiff, Int.reduceNeg, Int.reduceToNat, Int.reduceLE, Int.reduceLT, Int.reduceEq, hb, markTo_len, e0]
        exact next (i + 1, h'.set b (.row ty ((markTo k (i + 1) cells).map tA))) _ _ ⟨by simp only; omega, a1, fun b' hb' => (Heap.set_ne _ _ hb').trans (hfr b' hb')⟩ (by simp only; omega) (by simp (disch := omega) only [S, SL, Need_of, wrap_in, getD_map, getD_lt, Heap.set_ne, wrap_tdiv, tmod_nn, tdiv_nn, ↓reduceIte, eq_self, Nat.reduceEqDiff, Nat.reduceAdd, Nat.reduceSub, Nat.reduceMul, Nat.reduceLeDiff, Int.reduceNeg, Int.reduceToNat, Int.reduceLE, Int.reduceLT, Int.reduceEq, ec, Int.add_assoc]) (Heap.le_refl _)
      · simp (disch := omega) only [S, SL, Need_of, wrap_in, getD_map, getD_lt, Heap.set_ne, wrap_tdiv, tmod_nn, tdiv_nn, ↓reduceIte, eq_self, Nat.reduceEqDiff, Nat.reduceAdd, Nat.reduceSub, Nat.reduceMul, Nat.reduceLeDiff, Int.reduceNeg, Int.reduceToNat, Int.reduceLE, Int.reduceLT, Int.reduceEq]
        obtain rfl : i = n := by omega
        refine fin.same ?_
        rw [take_all hl]
        rw [markTo_full hl] at hat'
        exact hQ h' hat' fun b' hb' => hfr b' fun e => hb' (by simp [blocks, e])
theorem laws_heldBoolS.c {t : Tree} {k : Int} {h : Heap} (hs : IsBools t) (hat : t.at h) (hm : brand k t = t) (hk : 0 ≤ k ∧ k + count t ≤ 4611686018427387904) {Q : AV → Heap → Prop}
    (hQ : Q (iA (k + count t)) h) : CALL Try.prog laws_heldBoolS.id [tA t, iA k] h Q := by
  refine CALL_by mixed laws_heldBoolS.tr (Nat.le_of_ble_eq_true rfl) ?_
  cases hs with
  | nil =>
    simp only [S, SL, ↓reduceIte, eq_self, Nat.reduceEqDiff, Nat.reduceAdd, Nat.reduceSub, Nat.reduceMul, Nat.reduceLeDiff, Int.reduceNeg, Int.reduceToNat, Int.reduceLE, Int.reduceLT, Int.reduceEq, laws_heldBoolS.g, tA]
    refine CK_loop (α := Unit) (fun x => [(0, nilA), (1, iA k), (5, iA 0)]) (fun _ => h) (fun _ => True) (fun _ => 0) () ?_ (Heap.le_refl _) trivial ?_
    · simp only [S, SL, ↓reduceIte, eq_self, Nat.reduceEqDiff, Nat.reduceAdd, Nat.reduceSub, Nat.reduceMul, Nat.reduceLeDiff, Int.reduceNeg, Int.reduceToNat, Int.reduceLE, Int.reduceLT, Int.reduceEq]
    · intro R x hx next
      simp only [S, SL, ↓reduceIte, eq_self, Nat.reduceEqDiff, Nat.reduceAdd, Nat.reduceSub, Nat.reduceMul, Nat.reduceLeDiff, Int.reduceNeg, Int.reduceToNat, Int.reduceLE, Int.reduceLT, Int.reduceEq, laws_heldBoolS.l0, Int.lt_irrefl]
      refine fin.same ?_
      simpa [count] using hQ
  | row b ty n cells hl a hc =>
    rw [Nat.mul_one] at hl
    have hcnt : n ≤ countL cells := by
      have key : ∀ j, j ≤ n → countL (cells.take j) = j := by
        intro j
        induction j with
        | zero => intro _; simp [countL]
        | succ j ih => intro hj; rw [countL_leaf (hc j (by omega)), ih (by omega)]
      have := key n (Nat.le_refl _)
      have := countL_le cells n
      omega
    have hb := hat.1
    simp only [count] at hk hQ
    have hm' : brandL k cells = cells := by simpa [brand] using hm
    simp only [S, SL, ↓reduceIte, eq_self, Nat.reduceEqDiff, Nat.reduceAdd, Nat.reduceSub, Nat.reduceMul, Nat.reduceLeDiff, Int.reduceNeg, Int.reduceToNat, Int.reduceLE, Int.reduceLT, Int.reduceEq, laws_heldBoolS.g, tA]
    refine CK_loop (α := Nat) (fun i => [(0, .own b n), (1, iA (k + countL (cells.take i))), (5, iA i)]) (fun _ => h) (fun i => i ≤ n) (fun i => n - i) 0 ?_ (Heap.le_refl _) (Nat.zero_le _) ?_
    · simp only [S, SL, ↓reduceIte, eq_self, Nat.reduceEqDiff, Nat.reduceAdd, Nat.reduceSub, Nat.reduceMul, Nat.reduceLeDiff, Int.reduceNeg, Int.reduceToNat, Int.reduceLE, Int.reduceLT, Int.reduceEq, Nat.zero_mul, countL, Int.add_zero]
    · intro R i hi next
      simp (disch := omega) only [S, SL, Need_of, wrap_in, getD_map, getD_lt, Heap.set_ne, wrap_tdiv, tmod_nn, tdiv_nn, ↓reduceIte, eq_self, Nat.reduceEqDiff, Nat.reduceAdd, Nat.reduceSub, Nat.reduceMul, Nat.reduceLeDiff, Int.reduceNeg, Int.reduceToNat, Int.reduceLE, Int.reduceLT, Int.reduceEq, laws_heldBoolS.l0]
      refine condK_if (fun h2 => ?_) (fun h2 => ?_)
      · have c0 := hc i (by omega)
        have e0 : (cells.map tA).getD i .junk = .val (.bool (decide ((k + countL (cells.take i)).tmod 3 = 0))) := held_bool hm' c0
        have em : (k + (countL (cells.take i) : Int)).tmod 3 = (k + (countL (cells.take i) : Int)) % 3 := Int.tmod_eq_emod_of_nonneg (by omega)
        rw [em] at e0
        have ec : countL (cells.take (i + 1)) = countL (cells.take i) + 1 := by rw [countL_leaf c0]
        have hle := countL_le cells (i + 1)
        rw [ec] at hle
        simp (disch := omega) only [S, SL, Need_of, wrap_in, getD_map, getD_lt, Heap.set_ne, wrap_tdiv, tmod_nn, tdiv_nn, ↓reduceIte, eq_self, Nat.reduceEqDiff, Nat.reduceAdd, Nat.reduceSub, Nat.reduceMul, Nat.reduceLeDiff, Int.reduceNeg, Int.reduceToNat, Int.reduceLE, Int.reduceLT, Int.reduceEq, hb, e0, beq_self_eq_true]
        exact next (i + 1) _ _ (by omega) (by omega) (by simp (disch := omega) only [S, SL, Need_of, wrap_in, getD_map, getD_lt, Heap.set_ne, wrap_tdiv, tmod_nn, tdiv_nn, ↓reduceIte, eq_self, Nat.reduceEqDiff, Nat.reduceAdd, Nat.reduceSub, Nat.reduceMul, Nat.reduceLeDiff, Int.reduceNeg, Int.reduceToNat, Int.reduceLE, Int.reduceLT, Int.reduceEq, ec, Int.add_assoc]) (Heap.le_refl _)
      · simp (disch := omega) only [S, SL, Need_of, wrap_in, getD_map, getD_lt, Heap.set_ne, wrap_tdiv, tmod_nn, tdiv_nn, ↓reduceIte, eq_self, Nat.reduceEqDiff, Nat.reduceAdd, Nat.reduceSub, Nat.reduceMul, Nat.reduceLeDiff, Int.reduceNeg, Int.reduceToNat, Int.reduceLE, Int.reduceLT, Int.reduceEq]
        obtain rfl : i = n := by omega
        refine fin.same ?_
        rw [take_all hl]
        exact hQ
theorem laws_markItemSS.c {t : Tree} {k : Int} {h : Heap} (hs : IsSets t) (hat : t.at h) (hnd : (blocks t).Nodup) (hk : 0 ≤ k ∧ k + count t ≤ 4611686018427387904) (hk2 : count t ≤ 4611686018427387904) (hn9 : rowsT t ≤ 4611686018427387904) {Q : AV → Heap → Prop}
    (hQ : ∀ h', (brand k t).at h' → (∀ b, b ∉ blocks t → h' b = h b) → Q (iA (k + count t)) h') : CALL Try.prog laws_markItemSS.id [tA t, iA k] h Q := by
  refine CALL_by mixed laws_markItemSS.tr (Nat.le_of_ble_eq_true rfl) ?_
  cases hs with
  | nil =>
    have := hQ h trivial (fun _ _ => rfl)
    simp only [S, SL, ↓reduceIte, eq_self, Nat.reduceEqDiff, Nat.reduceAdd, Nat.reduceSub, Nat.reduceMul, Nat.reduceLeDiff, Int.reduceNeg, Int.reduceToNat, Int.reduceLE, Int.reduceLT, Int.reduceEq, laws_markItemSS.g, tA]
    refine CK_loop (α := Unit) (fun x => [(0, nilA), (1, iA k), (5, iA 0)]) (fun _ => h) (fun _ => True) (fun _ => 0) () ?_ (Heap.le_refl _) trivial ?_
    · simp only [S, SL, ↓reduceIte, eq_self, Nat.reduceEqDiff, Nat.reduceAdd, Nat.reduceSub, Nat.reduceMul, Nat.reduceLeDiff, Int.reduceNeg, Int.reduceToNat, Int.reduceLE, Int.reduceLT, Int.reduceEq]
    · intro R x hx next
      simp only [S, SL, ↓reduceIte, eq_self, Nat.reduceEqDiff, Nat.reduceAdd, Nat.reduceSub, Nat.reduceMul, Nat.reduceLeDiff, Int.reduceNeg, Int.reduceToNat, Int.reduceLE, Int.reduceLT, Int.reduceEq, laws_markItemSS.l0, Int.lt_irrefl]
      refine fin.same ?_
      simpa [count] using this
  | row b ty n cells hl t hc1 =>
    rw [Nat.mul_one] at hl
    have hnb : b ∉ blocksL cells := fun hm => by simp only [blocks, List.nodup_cons] at hnd; exact hnd.1 hm
    have hn2 : (blocksL cells).Nodup := by simp only [blocks, List.nodup_cons] at hnd; exact hnd.2
    have hn63 : n ≤ 4611686018427387904 := hn9
    simp only [count] at hk hk2 hQ
    simp only [S, SL, ↓reduceIte, eq_self, Nat.reduceEqDiff, Nat.reduceAdd, Nat.reduceSub, Nat.reduceMul, Nat.reduceLeDiff, Int.reduceNeg, Int.reduceToNat, Int.reduceLE, Int.reduceLT, Int.reduceEq, laws_markItemSS.g, tA]
    refine CK_loop (α := Nat × Heap) (fun x => [(0, .own b n), (1, iA (k + countL (cells.take x.1))), (5, iA x.1)]) (fun x => x.2)
      (fun x => x.1 ≤ n ∧ (Tree.row b ty n 1 (markTo k x.1 cells)).at x.2 ∧ ∀ b', b' ∉ b :: blocksL cells → x.2 b' = h b') (fun x => n - x.1) (0, h) ?_ (Heap.le_refl _) ⟨by simp, by simpa [markTo] using hat, fun _ _ => rfl⟩ ?_
    · simp only [S, SL, ↓reduceIte, eq_self, Nat.reduceEqDiff, Nat.reduceAdd, Nat.reduceSub, Nat.reduceMul, Nat.reduceLeDiff, Int.reduceNeg, Int.reduceToNat, Int.reduceLE, Int.reduceLT, Int.reduceEq, Nat.zero_mul, countL, Int.add_zero]
    · rintro R ⟨i, h'⟩ ⟨hi, hat', hfr⟩ next
      simp only at hi hat' hfr
      have hb := hat'.1
      simp (disch := omega) only [S, SL, Need_of, wrap_in, getD_map, getD_lt, Heap.set_ne, wrap_tdiv, tmod_nn, tdiv_nn, ↓reduceIte, eq_self, Nat.reduceEqDiff, Nat.reduceAdd, Nat.reduceSub, Nat.reduceMul, Nat.reduceLeDiff, Int.reduceNeg, Int.reduceToNat, Int.reduceLE, Int.reduceLT, Int.reduceEq, laws_markItemSS.l0]
      refine condK_if (fun h2 => ?_) (fun h2 => ?_)
      · obtain ⟨c1, hsy⟩ := hc1 i (by omega)
        have ec : countL (cells.take (i + 1)) = countL (cells.take i) + count (t i) := countL_sub c1
        have hle := countL_le cells (i + 1)
        rw [ec] at hle
        have e1 : ((markTo k i cells).map tA).getD i .junk = tA (t i) := mark_load c1
        simp (disch := omega) only [S, SL, Need_of, wrap_in, getD_map, getD_lt, Heap.set_ne, wrap_tdiv, tmod_nn, tdiv_nn, ↓reduceIte, eq_self, Nat.reduceEqDiff, Nat.reduceAdd, Nat.reduceSub, Nat.reduceMul, Nat.reduceLeDiff, Int.reduceNeg, Int.reduceToNat, Int.reduceLE, Int.reduceLT, Int.reduceEq, hb, markTo_len, e1]
        refine callK.in (laws_markItemS.c hsy (at_of_get hat'.2.2 (by rw [markTo_get _ _ _ _ (Nat.le_refl _)]; exact c1)) (nodup_sub hn2 c1) (by omega) fun h'' ht hf => ?_)
        have a2 := mark_sub hat' hnb hn2 c1 hsy.not_leaf ht hf
        simp (disch := omega) only [S, SL, Need_of, wrap_in, getD_map, getD_lt, Heap.set_ne, wrap_tdiv, tmod_nn, tdiv_nn, ↓reduceIte, eq_self, Nat.reduceEqDiff, Nat.reduceAdd, Nat.reduceSub, Nat.reduceMul, Nat.reduceLeDiff, Int.reduceNeg, Int.reduceToNat, Int.reduceLE, Int.reduceLT, Int.reduceEq]
        refine next (i + 1, h'') _ _ ⟨by simp only; omega, a2, fun b' hb' => ?_⟩ (by simp only; omega) (by simp (disch := omega) only [S, SL, Need_of, wrap_in, getD_map, getD_lt, Heap.set_ne, wrap_tdiv, tmod_nn, tdiv_nn, ↓reduceIte, eq_self, Nat.reduceEqDiff, Nat.reduceAdd, Nat.reduceSub, Nat.reduceMul, Nat.reduceLeDiff, Int.reduceNeg, Int.reduceToNat, Int.reduceLE, Int.reduceLT, Int.reduceEq, ec, Int.add_assoc]) (Heap.le_refl _)
        simp only [List.mem_cons, not_or] at hb'
        exact (hf b' fun hm => hb'.2 (blocks_sub c1 hm)).trans (hfr b' (by simp only [List.mem_cons, not_or]; exact hb'))
      · simp (disch := omega) only [S, SL, Need_of, wrap_in, getD_map, getD_lt, Heap.set_ne, wrap_tdiv, tmod_nn, tdiv_nn, ↓reduceIte, eq_self, Nat.reduceEqDiff, Nat.reduceAdd, Nat.reduceSub, Nat.reduceMul, Nat.reduceLeDiff, Int.reduceNeg, Int.reduceToNat, Int.reduceLE, Int.reduceLT, Int.reduceEq]
        obtain rfl : i = n := by omega
        refine fin.same ?_
        rw [take_all hl]
        rw [markTo_full hl] at hat'
        exact hQ h' hat' fun b' hb' => hfr b' hb'
theorem laws_markChart.c {t : Tree} {k : Int} {h : Heap} (hs : IsSets t) (hat : t.at h) (hnd : (blocks t).Nodup) (hk : 0 ≤ k ∧ k + count t ≤ 4611686018427387904) (hn9 : rowsT t ≤ 4611686018427387904) {Q : AV → Heap → Prop}
    (hQ : ∀ h', (brand k t).at h' → (∀ b, b ∉ blocks t → h' b = h b) → Q (iA (k + count t)) h') : CALL Try.prog laws_markChart.id [.agg [tA t], iA k] h Q := by
  have hone : oneC (tA t) = true := by cases hs <;> rfl
  have hcells : cellsOf? (tA t) = some [tA t] := by cases hs <;> rfl
  refine CALL_by mixed laws_markChart.tr (Nat.le_of_ble_eq_true rfl) ?_
  simp (disch := omega) only [S, SL, Need_of, wrap_in, getD_map, getD_lt, Heap.set_ne, wrap_tdiv, tmod_nn, tdiv_nn, ↓reduceIte, eq_self, Nat.reduceEqDiff, Nat.reduceAdd, Nat.reduceSub, Nat.reduceMul, Nat.reduceLeDiff, Int.reduceNeg, Int.reduceToNat, Int.reduceLE, Int.reduceLT, Int.reduceEq, laws_markChart.g]
  refine allocK.in fun b1 hb1 => ?_
  simp (disch := omega) only [S, SL, Need_of, wrap_in, getD_map, getD_lt, Heap.set_ne, wrap_tdiv, tmod_nn, tdiv_nn, ↓reduceIte, eq_self, Nat.reduceEqDiff, Nat.reduceAdd, Nat.reduceSub, Nat.reduceMul, Nat.reduceLeDiff, Int.reduceNeg, Int.reduceToNat, Int.reduceLE, Int.reduceLT, Int.reduceEq]
  refine callK.in (laws_markItemSS.c hs (at_le (Heap.le_new hb1) hat) hnd hk (by omega) hn9 fun h' ha hf => ?_)
  simp (disch := omega) only [S, SL, Need_of, wrap_in, getD_map, getD_lt, Heap.set_ne, wrap_tdiv, tmod_nn, tdiv_nn, ↓reduceIte, eq_self, Nat.reduceEqDiff, Nat.reduceAdd, Nat.reduceSub, Nat.reduceMul, Nat.reduceLeDiff, Int.reduceNeg, Int.reduceToNat, Int.reduceLE, Int.reduceLT, Int.reduceEq]
  refine fin.of (h' := fun b => if b = b1 then none else h' b) (fun b k hb => by simp only at hb; split at hb; cases hb; exact hb) (hQ _ (at_frame (fun b hb => ?_) ha) fun b hb => ?_)
  · rw [blocks_brand] at hb
    rw [if_neg]; intro e; subst e
    exact at_some hat _ hb hb1
  · by_cases e : b = b1
    · subst e; rw [if_pos rfl, hb1]
    · rw [if_neg e, hf b hb, Heap.set_ne _ _ e]
end Go.Proofs.Ytabbipdkbdojiaa
