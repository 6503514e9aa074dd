/- What the laws' functions mark.. and held.. come to over own productions and bytes. No condition. -/
import Derived.Test.YtabbipdkbdojiaaCodeC
import Derived.Test.YtabbipdkbdojiaaBytes
import Derived.Test.YtabbipdkbdojiaaAb16
namespace Go.Ab
open Go
/-- An own slice of parts. -/
inductive IsSyms : Tree → Prop where
  | nil : IsSyms .nil
  | row (b : Nat) (ty : TypeId) (n : Nat) (cells : List Tree) (hl : cells.length = n * 3) (a : Nat → Int) (hc : ∀ j, j < n * 3 → cells[j]? = some (.leaf (.int .i64 (a j)))) : IsSyms (.row b ty n 3 cells)
/-- An own slice of productions. -/
inductive IsPrds : Tree → Prop where
  | nil : IsPrds .nil
  | row (b : Nat) (ty : TypeId) (n : Nat) (cells : List Tree) (hl : cells.length = n * 2) (a : Nat → Int) (t : Nat → Tree) (h0 : ∀ i, i < n → cells[i * 2]? = some (.leaf (.int .i64 (a i)))) (h1 : ∀ i, i < n → cells[i * 2 + 1]? = some (t i) ∧ IsSyms (t i)) : IsPrds (.row b ty n 2 cells)
inductive IsBytes : Tree → Prop where
  | nil : IsBytes .nil
  | row (b : Nat) (ty : TypeId) (n : Nat) (cells : List Tree) (hl : cells.length = n * 1) (a : Nat → Int) (hc : ∀ j, j < n → cells[j]? = some (.leaf (.int .u8 (a j)))) : IsBytes (.row b ty n 1 cells)
theorem countL_leaf {cs : List Tree} {j : Nat} {v : Value} (hj : cs[j]? = some (.leaf v)) : countL (cs.take (j + 1)) = countL (cs.take j) + 1 := by
  obtain ⟨h1, h2⟩ := List.getElem?_eq_some_iff.1 hj
  rw [countL_take h1, h2]; rfl
theorem countL_sub {cs : List Tree} {j : Nat} {t : Tree} (hj : cs[j]? = some t) : countL (cs.take (j + 1)) = countL (cs.take j) + count t := by
  obtain ⟨h1, h2⟩ := List.getElem?_eq_some_iff.1 hj
  rw [countL_take h1, h2]
theorem IsSyms.not_leaf {t : Tree} (h : IsSyms t) : ∀ v, t ≠ .leaf v := by cases h <;> intro v e <;> cases e
theorem IsPrds.not_leaf {t : Tree} (h : IsPrds t) : ∀ v, t ≠ .leaf v := by cases h <;> intro v e <;> cases e
theorem IsBytes.brand {k : Int} {t : Tree} (h : IsBytes t) : IsBytes (brand k t) := by
  cases h with
  | nil => exact .nil
  | row b ty n cells hl a hc => exact .row b ty n _ (by rw [brandL_len]; exact hl) (fun j => IntKind.u8.wrap (k + countL (cells.take j))) fun j hj => by rw [brandL_get k cells j _ (hc j hj)]; rfl
theorem IsSyms.brand {k : Int} {t : Tree} (h : IsSyms t) : IsSyms (brand k t) := by
  cases h with
  | nil => exact .nil
  | row b ty n cells hl a hc => exact .row b ty n _ (by rw [brandL_len]; exact hl) (fun j => k + countL (cells.take j)) fun j hj => by rw [brandL_get k cells j _ (hc j hj)]; rfl
theorem IsPrds.brand {k : Int} {t : Tree} (h : IsPrds t) : IsPrds (brand k t) := by
  cases h with
  | nil => exact .nil
  | row b ty n cells hl a t h0 h1 =>
    exact .row b ty n _ (by rw [brandL_len]; exact hl) (fun i => k + countL (cells.take (i * 2))) (fun i => Go.Ab.brand (k + countL (cells.take (i * 2 + 1))) (t i)) (fun i hi => by rw [brandL_get k cells _ _ (h0 i hi)]; rfl) fun i hi => ⟨brandL_get k cells _ _ (h1 i hi).1, (h1 i hi).2.brand⟩
theorem markV_i {n k : Int} : Value.int .i64 k = markV (.int .i64 n) k := rfl
theorem markV_y {n k : Int} : Value.int .u8 (IntKind.u8.wrap k) = markV (.int .u8 n) k := rfl
theorem take_all {α : Type} {l : List α} {n : Nat} (h : l.length = n) : l.take n = l := by rw [← h, List.take_length]
theorem markTo_full {k : Int} {cs : List Tree} {n : Nat} (h : cs.length = n) : markTo k n cs = brandL k cs := by rw [← h, markTo_all]
theorem held_leaf {k : Int} {j : Nat} {cs : List Tree} {n : Int} {kd : IntKind} (hm : brandL k cs = cs) (hj : cs[j]? = some (.leaf (.int kd n))) : (cs.map tA).getD j .junk = .val (markV (.int kd n) (k + countL (cs.take j))) := by
  have := heldL_get hm j _ hj
  rw [List.getD_eq_getElem?_getD, List.getElem?_map, hj]
  simp only [Held, brand, Tree.leaf.injEq] at this
  simp only [Option.map_some, tA, Option.getD_some, this]
theorem held_load {cs : List Tree} {j : Nat} {t : Tree} (hj : cs[j]? = some t) : (cs.map tA).getD j .junk = tA t := by
  rw [List.getD_eq_getElem?_getD, List.getElem?_map, hj]; rfl
end Go.Ab

namespace Go.Proofs.Ytabbipdkbdojiaa
open Go Go.Ab
set_option linter.unusedVariables false
set_option linter.unusedSimpArgs false

theorem laws_markSymS.c {t : Tree} {k : Int} {h : Heap} (hs : IsSyms t) (hat : t.at h) (hnd : (blocks t).Nodup) (hk : 0 ≤ k ∧ k + count t ≤ 4611686018427387904) {Q : AV → Heap → Prop}
    (hQ : ∀ h', (brand k t).at h' → (∀ b, b ∉ blocks t → h' b = h b) → Q (iA (k + count t)) h') : CALL Try.prog laws_markSymS.id [tA t, iA k] h Q := by
  refine CALL_by mixed laws_markSymS.tr (Nat.le_of_ble_eq_true rfl) ?_
  cases hs with
  | nil =>
    have := hQ h trivial (fun _ _ => rfl)
    simp only [S, SL, ↓reduceIte, eq_self, Nat.reduceEqDiff, Nat.reduceAdd, Nat.reduceSub, Nat.reduceMul, Nat.reduceLeDiff, Int.reduceNeg, Int.reduceToNat, Int.reduceLE, Int.reduceLT, Int.reduceEq, laws_markSymS.g, tA]
    refine CK_loop (α := Unit) (fun x => [(0, nilA), (1, iA k), (5, iA 0)]) (fun _ => h) (fun _ => True) (fun _ => 0) () ?_ (Heap.le_refl _) trivial ?_
    · simp only [S, SL, ↓reduceIte, eq_self, Nat.reduceEqDiff, Nat.reduceAdd, Nat.reduceSub, Nat.reduceMul, Nat.reduceLeDiff, Int.reduceNeg, Int.reduceToNat, Int.reduceLE, Int.reduceLT, Int.reduceEq]
    · intro R x hx next
      simp only [S, SL, ↓reduceIte, eq_self, Nat.reduceEqDiff, Nat.reduceAdd, Nat.reduceSub, Nat.reduceMul, Nat.reduceLeDiff, Int.reduceNeg, Int.reduceToNat, Int.reduceLE, Int.reduceLT, Int.reduceEq, laws_markSymS.l0, Int.lt_irrefl]
      refine fin.same ?_
      simpa [count] using this
  | row b ty n cells hl a hc =>
    have hnb : b ∉ blocksL cells := fun hm => by simp only [blocks, List.nodup_cons] at hnd; exact hnd.1 hm
    have hcnt : n * 3 ≤ countL cells := by
      have key : ∀ j, j ≤ n * 3 → countL (cells.take j) = j := by
        intro j
        induction j with
        | zero => intro _; simp [countL]
        | succ j ih => intro hj; rw [countL_leaf (hc j (by omega)), ih (by omega)]
      have := key (n * 3) (Nat.le_refl _)
      have := countL_le cells (n * 3)
      omega
    simp only [count] at hk hQ
    simp only [S, SL, ↓reduceIte, eq_self, Nat.reduceEqDiff, Nat.reduceAdd, Nat.reduceSub, Nat.reduceMul, Nat.reduceLeDiff, Int.reduceNeg, Int.reduceToNat, Int.reduceLE, Int.reduceLT, Int.reduceEq, laws_markSymS.g, tA]
    refine CK_loop (α := Nat × Heap) (fun x => [(0, .own b n), (1, iA (k + countL (cells.take (x.1 * 3)))), (5, iA x.1)]) (fun x => x.2)
      (fun x => x.1 ≤ n ∧ (Tree.row b ty n 3 (markTo k (x.1 * 3) cells)).at x.2 ∧ ∀ b', b' ≠ b → x.2 b' = h b') (fun x => n - x.1) (0, h) ?_ (Heap.le_refl _) ⟨by simp, by simpa [markTo] using hat, fun _ _ => rfl⟩ ?_
    · simp only [S, SL, ↓reduceIte, eq_self, Nat.reduceEqDiff, Nat.reduceAdd, Nat.reduceSub, Nat.reduceMul, Nat.reduceLeDiff, Int.reduceNeg, Int.reduceToNat, Int.reduceLE, Int.reduceLT, Int.reduceEq, Nat.zero_mul, countL, Int.add_zero]
    · rintro R ⟨i, h'⟩ ⟨hi, hat', hfr⟩ next
      simp only at hi hat' hfr
      have hb := hat'.1
      simp (disch := omega) only [S, SL, Need_of, wrap_in, getD_map, getD_lt, Heap.set_ne, wrap_tdiv, tmod_nn, tdiv_nn, ↓reduceIte, eq_self, Nat.reduceEqDiff, Nat.reduceAdd, Nat.reduceSub, Nat.reduceMul, Nat.reduceLeDiff, Int.reduceNeg, Int.reduceToNat, Int.reduceLE, Int.reduceLT, Int.reduceEq, laws_markSymS.l0]
      refine condK_if (fun h2 => ?_) (fun h2 => ?_)
      · have c0 := hc (i * 3) (by omega)
        have c1 := hc (i * 3 + 1) (by omega)
        have c2 := hc (i * 3 + 2) (by omega)
        have e0 := mark_cell (k := k) (kk := k + countL (cells.take (i * 3))) c0 rfl markV_i
        have e1 := mark_cell (k := k) (kk := k + countL (cells.take (i * 3)) + 1) c1 (by rw [countL_leaf c0]; omega) markV_i
        have e2 := mark_cell (k := k) (kk := k + countL (cells.take (i * 3)) + 1 + 1) c2 (by rw [countL_leaf c1, countL_leaf c0]; omega) markV_i
        have a3 := mark_leaf (mark_leaf (mark_leaf hat' hnb c0) hnb c1) hnb c2
        rw [Heap.set_set, Heap.set_set] at a3
        have e3 : (i + 1) * 3 = i * 3 + 2 + 1 := by omega
        have ec : countL (cells.take ((i + 1) * 3)) = countL (cells.take (i * 3)) + 1 + 1 + 1 := by rw [e3, countL_leaf c2, countL_leaf c1, countL_leaf c0]
        have hle := countL_le cells ((i + 1) * 3)
        rw [ec] at hle
        simp (disch := omega) only [S, SL, Need_of, wrap_in, getD_map, getD_lt, Heap.set_ne, wrap_tdiv, tmod_nn, tdiv_nn, ↓reduceIte, eq_self, Nat.reduceEqDiff, Nat.reduceAdd, Nat.reduceSub, Nat.reduceMul, Nat.reduceLeDiff, Int.reduceNeg, Int.reduceToNat, Int.reduceLE, Int.reduceLT, Int.reduceEq, hb, markTo_len, e0, e1, e2]
        exact next (i + 1, h'.set b (.row ty ((markTo k (i * 3 + 2 + 1) cells).map tA))) _ _ ⟨by simp only; omega, by simp only [e3]; exact a3, fun b' hb' => (Heap.set_ne _ _ hb').trans (hfr b' hb')⟩ (by simp only; omega) (by simp (disch := omega) only [S, SL, Need_of, wrap_in, getD_map, getD_lt, Heap.set_ne, wrap_tdiv, tmod_nn, tdiv_nn, ↓reduceIte, eq_self, Nat.reduceEqDiff, Nat.reduceAdd, Nat.reduceSub, Nat.reduceMul, Nat.reduceLeDiff, Int.reduceNeg, Int.reduceToNat, Int.reduceLE, Int.reduceLT, Int.reduceEq, ec, Int.add_assoc]) (Heap.le_refl _)
      · simp (disch := omega) only [S, SL, Need_of, wrap_in, getD_map, getD_lt, Heap.set_ne, wrap_tdiv, tmod_nn, tdiv_nn, ↓reduceIte, eq_self, Nat.reduceEqDiff, Nat.reduceAdd, Nat.reduceSub, Nat.reduceMul, Nat.reduceLeDiff, Int.reduceNeg, Int.reduceToNat, Int.reduceLE, Int.reduceLT, Int.reduceEq]
        obtain rfl : i = n := by omega
        refine fin.same ?_
        rw [take_all hl]
        rw [markTo_full hl] at hat'
        exact hQ h' hat' fun b' hb' => hfr b' fun e => hb' (by simp [blocks, e])

theorem laws_markProdS.c {t : Tree} {k : Int} {h : Heap} (hs : IsPrds t) (hat : t.at h) (hnd : (blocks t).Nodup) (hk : 0 ≤ k ∧ k + count t ≤ 4611686018427387904) (hk2 : count t ≤ 4611686018427387904) {Q : AV → Heap → Prop}
    (hQ : ∀ h', (brand k t).at h' → (∀ b, b ∉ blocks t → h' b = h b) → Q (iA (k + count t)) h') : CALL Try.prog laws_markProdS.id [tA t, iA k] h Q := by
  refine CALL_by mixed laws_markProdS.tr (Nat.le_of_ble_eq_true rfl) ?_
  cases hs with
  | nil =>
    have := hQ h trivial (fun _ _ => rfl)
    simp only [S, SL, ↓reduceIte, eq_self, Nat.reduceEqDiff, Nat.reduceAdd, Nat.reduceSub, Nat.reduceMul, Nat.reduceLeDiff, Int.reduceNeg, Int.reduceToNat, Int.reduceLE, Int.reduceLT, Int.reduceEq, laws_markProdS.g, tA]
    refine CK_loop (α := Unit) (fun x => [(0, nilA), (1, iA k), (5, iA 0)]) (fun _ => h) (fun _ => True) (fun _ => 0) () ?_ (Heap.le_refl _) trivial ?_
    · simp only [S, SL, ↓reduceIte, eq_self, Nat.reduceEqDiff, Nat.reduceAdd, Nat.reduceSub, Nat.reduceMul, Nat.reduceLeDiff, Int.reduceNeg, Int.reduceToNat, Int.reduceLE, Int.reduceLT, Int.reduceEq]
    · intro R x hx next
      simp only [S, SL, ↓reduceIte, eq_self, Nat.reduceEqDiff, Nat.reduceAdd, Nat.reduceSub, Nat.reduceMul, Nat.reduceLeDiff, Int.reduceNeg, Int.reduceToNat, Int.reduceLE, Int.reduceLT, Int.reduceEq, laws_markProdS.l0, Int.lt_irrefl]
      refine fin.same ?_
      simpa [count] using this
  | row b ty n cells hl a t hc0 hc1 =>
    have hnb : b ∉ blocksL cells := fun hm => by simp only [blocks, List.nodup_cons] at hnd; exact hnd.1 hm
    have hn2 : (blocksL cells).Nodup := by simp only [blocks, List.nodup_cons] at hnd; exact hnd.2
    have hcnt : n ≤ countL cells := by
      have key : ∀ j, j ≤ n → j ≤ countL (cells.take (j * 2)) := by
        intro j
        induction j with
        | zero => intro _; simp
        | succ j ih =>
          intro hj
          have := ih (by omega)
          rw [show (j + 1) * 2 = j * 2 + 1 + 1 by omega, countL_sub (hc1 j (by omega)).1, countL_leaf (hc0 j (by omega))]; omega
      have := key n (Nat.le_refl _)
      have := countL_le cells (n * 2)
      omega
    simp only [count] at hk hk2 hQ
    simp only [S, SL, ↓reduceIte, eq_self, Nat.reduceEqDiff, Nat.reduceAdd, Nat.reduceSub, Nat.reduceMul, Nat.reduceLeDiff, Int.reduceNeg, Int.reduceToNat, Int.reduceLE, Int.reduceLT, Int.reduceEq, laws_markProdS.g, tA]
    refine CK_loop (α := Nat × Heap) (fun x => [(0, .own b n), (1, iA (k + countL (cells.take (x.1 * 2)))), (5, iA x.1)]) (fun x => x.2)
      (fun x => x.1 ≤ n ∧ (Tree.row b ty n 2 (markTo k (x.1 * 2) cells)).at x.2 ∧ ∀ b', b' ∉ b :: blocksL cells → x.2 b' = h b') (fun x => n - x.1) (0, h) ?_ (Heap.le_refl _) ⟨by simp, by simpa [markTo] using hat, fun _ _ => rfl⟩ ?_
    · simp only [S, SL, ↓reduceIte, eq_self, Nat.reduceEqDiff, Nat.reduceAdd, Nat.reduceSub, Nat.reduceMul, Nat.reduceLeDiff, Int.reduceNeg, Int.reduceToNat, Int.reduceLE, Int.reduceLT, Int.reduceEq, Nat.zero_mul, countL, Int.add_zero]
    · rintro R ⟨i, h'⟩ ⟨hi, hat', hfr⟩ next
      simp only at hi hat' hfr
      have hb := hat'.1
      simp (disch := omega) only [S, SL, Need_of, wrap_in, getD_map, getD_lt, Heap.set_ne, wrap_tdiv, tmod_nn, tdiv_nn, ↓reduceIte, eq_self, Nat.reduceEqDiff, Nat.reduceAdd, Nat.reduceSub, Nat.reduceMul, Nat.reduceLeDiff, Int.reduceNeg, Int.reduceToNat, Int.reduceLE, Int.reduceLT, Int.reduceEq, laws_markProdS.l0]
      refine condK_if (fun h2 => ?_) (fun h2 => ?_)
      · have c0 := hc0 i (by omega)
        obtain ⟨c1, hsy⟩ := hc1 i (by omega)
        have e0 := mark_cell (k := k) (kk := k + countL (cells.take (i * 2))) c0 rfl markV_i
        have a1 := mark_leaf hat' hnb c0
        have e3 : (i + 1) * 2 = i * 2 + 1 + 1 := by omega
        have ec : countL (cells.take ((i + 1) * 2)) = countL (cells.take (i * 2)) + 1 + count (t i) := by rw [e3, countL_sub c1, countL_leaf c0]
        have hle := countL_le cells ((i + 1) * 2)
        rw [ec] at hle
        have e1 : ((markTo k (i * 2 + 1) cells).map tA).getD (i * 2 + 1) .junk = tA (t i) := mark_load c1
        simp (disch := omega) only [S, SL, Need_of, wrap_in, getD_map, getD_lt, Heap.set_ne, wrap_tdiv, tmod_nn, tdiv_nn, ↓reduceIte, eq_self, Nat.reduceEqDiff, Nat.reduceAdd, Nat.reduceSub, Nat.reduceMul, Nat.reduceLeDiff, Int.reduceNeg, Int.reduceToNat, Int.reduceLE, Int.reduceLT, Int.reduceEq, hb, markTo_len, e0, e1]
        have kk : k + countL (cells.take (i * 2)) + 1 = k + countL (cells.take (i * 2 + 1)) := by rw [countL_leaf c0]; omega
        refine callK.in (laws_markSymS.c hsy (at_of_get a1.2.2 (by rw [markTo_get _ _ _ _ (Nat.le_refl _)]; exact c1)) (nodup_sub hn2 c1) (by omega) fun h'' ht hf => ?_)
        rw [kk] at ht
        have a2 := mark_sub a1 hnb hn2 c1 hsy.not_leaf ht hf
        simp (disch := omega) only [S, SL, Need_of, wrap_in, getD_map, getD_lt, Heap.set_ne, wrap_tdiv, tmod_nn, tdiv_nn, ↓reduceIte, eq_self, Nat.reduceEqDiff, Nat.reduceAdd, Nat.reduceSub, Nat.reduceMul, Nat.reduceLeDiff, Int.reduceNeg, Int.reduceToNat, Int.reduceLE, Int.reduceLT, Int.reduceEq]
        refine next (i + 1, h'') _ _ ⟨by simp only; omega, by simp only [e3]; exact a2, fun b' hb' => ?_⟩ (by simp only; omega) (by simp (disch := omega) only [S, SL, Need_of, wrap_in, getD_map, getD_lt, Heap.set_ne, wrap_tdiv, tmod_nn, tdiv_nn, ↓reduceIte, eq_self, Nat.reduceEqDiff, Nat.reduceAdd, Nat.reduceSub, Nat.reduceMul, Nat.reduceLeDiff, Int.reduceNeg, Int.reduceToNat, Int.reduceLE, Int.reduceLT, Int.reduceEq, ec, Int.add_assoc]) (Heap.le_refl _)
        simp only [List.mem_cons, not_or] at hb'
        exact (hf b' fun hm => hb'.2 (blocks_sub c1 hm)).trans ((Heap.set_ne _ _ hb'.1).trans (hfr b' (by simp only [List.mem_cons, not_or]; exact hb')))
      · simp (disch := omega) only [S, SL, Need_of, wrap_in, getD_map, getD_lt, Heap.set_ne, wrap_tdiv, tmod_nn, tdiv_nn, ↓reduceIte, eq_self, Nat.reduceEqDiff, Nat.reduceAdd, Nat.reduceSub, Nat.reduceMul, Nat.reduceLeDiff, Int.reduceNeg, Int.reduceToNat, Int.reduceLE, Int.reduceLT, Int.reduceEq]
        obtain rfl : i = n := by omega
        refine fin.same ?_
        rw [take_all hl]
        rw [markTo_full hl] at hat'
        exact hQ h' hat' fun b' hb' => hfr b' hb'

theorem laws_markCfg.c {x : Int} {t : Tree} {k : Int} {h : Heap} (hs : IsPrds t) (hat : t.at h) (hnd : (blocks t).Nodup) (hk : 0 ≤ k ∧ k + count t ≤ 4611686018427387904) {Q : AV → Heap → Prop}
    (hQ : ∀ h', (brand k t).at h' → (∀ b, b ∉ blocks t → h' b = h b) → Q (iA (k + count t)) h') : CALL Try.prog laws_markCfg.id [.agg [iA x, tA t], iA k] h Q := by
  have hone : oneC (tA t) = true := by cases hs <;> rfl
  have hcells : cellsOf? (tA t) = some [tA t] := by cases hs <;> rfl
  refine CALL_by mixed laws_markCfg.tr (Nat.le_of_ble_eq_true rfl) ?_
  simp (disch := omega) only [S, SL, Need_of, wrap_in, getD_map, getD_lt, Heap.set_ne, wrap_tdiv, tmod_nn, tdiv_nn, ↓reduceIte, eq_self, Nat.reduceEqDiff, Nat.reduceAdd, Nat.reduceSub, Nat.reduceMul, Nat.reduceLeDiff, Int.reduceNeg, Int.reduceToNat, Int.reduceLE, Int.reduceLT, Int.reduceEq, laws_markCfg.g]
  refine allocK.in fun b1 hb1 => ?_
  simp (disch := omega) only [S, SL, Need_of, wrap_in, getD_map, getD_lt, Heap.set_ne, wrap_tdiv, tmod_nn, tdiv_nn, ↓reduceIte, eq_self, Nat.reduceEqDiff, Nat.reduceAdd, Nat.reduceSub, Nat.reduceMul, Nat.reduceLeDiff, Int.reduceNeg, Int.reduceToNat, Int.reduceLE, Int.reduceLT, Int.reduceEq]
  refine callK.in (laws_markProdS.c hs (at_le (Heap.le_new hb1) hat) hnd hk (by omega) fun h' ha hf => ?_)
  simp (disch := omega) only [S, SL, Need_of, wrap_in, getD_map, getD_lt, Heap.set_ne, wrap_tdiv, tmod_nn, tdiv_nn, ↓reduceIte, eq_self, Nat.reduceEqDiff, Nat.reduceAdd, Nat.reduceSub, Nat.reduceMul, Nat.reduceLeDiff, Int.reduceNeg, Int.reduceToNat, Int.reduceLE, Int.reduceLT, Int.reduceEq]
  refine fin.of (h' := fun b => if b = b1 then none else h' b) (fun b k hb => by simp only at hb; split at hb; cases hb; exact hb) (hQ _ (at_frame (fun b hb => ?_) ha) fun b hb => ?_)
  · rw [blocks_brand] at hb
    rw [if_neg]; intro e; subst e
    exact at_some hat _ hb hb1
  · by_cases e : b = b1
    · subst e; rw [if_pos rfl, hb1]
    · rw [if_neg e, hf b hb, Heap.set_ne _ _ e]

end Go.Proofs.Ytabbipdkbdojiaa
