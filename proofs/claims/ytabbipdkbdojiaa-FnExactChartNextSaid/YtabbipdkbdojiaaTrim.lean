/- What the functions that trim productions come to: lengths, use, and what is left. No condition. -/
import Derived.Test.YtabbipdkbdojiaaCodeF
import Derived.Test.YtabbipdkbdojiaaCfgOk
import Derived.Test.YtabbipdkbdojiaaTrimP
import Derived.Test.YtabbipdkbdojiaaLawCfg
import Derived.Test.YtabbipdkbdojiaaAb21
import Derived.Laws.BitsLemmas
namespace Go.Ab
open Go
theorem bits_low32 {n : Int} (h0 : 0 ≤ n) (h1 : n < 4294967296) : bits .and .u64 n 4294967295 = n := by
  have h := bits_mask .u64 63 (by decide) (fun n h0 h1 => by rw [IntKind.wrap_u64]; omega) 32 (by decide) n h0 (by omega)
  have e : ((2 : Int) ^ 32 - 1) = 4294967295 := by decide
  have e2 : ((2 : Int) ^ 32) = 4294967296 := by decide
  rw [e, e2] at h
  rw [h]; omega
theorem wrap_u64_in {n : Int} (h0 : 0 ≤ n) (h1 : n < 18446744073709551616) : IntKind.u64.wrap n = n := by rw [IntKind.wrap_u64]; omega
/-- Whole numbers that don't change. -/
def intsI (l : List Int) : AV := .imm false (l.map fun x => [iA x])
theorem ints_row {P : Program} {e : Nat → AV} {h : Heap} {t : Tl} {l : List Int} : lenK P (intsI l) false e h t = on P t e h (.val (.int .i64 l.length)) := by rw [intsI, lenK_imm, List.length_map]
def intE (x : Int) : List Value := [.int .i64 x]
theorem vw_ints {h : Heap} {b : Nat} {e : TypeId} {l : List Int} (hb : h b = some (.row e (l.map iA))) : Vw h (.own b l.length) (intsI l) := by
  have ht : (Tree.row b e l.length 1 (l.map fun x => .leaf (.int .i64 x))).at h := ⟨by rw [hb, List.map_map]; rfl, by simp, atL_of_mem fun t ht => by obtain ⟨x, -, rfl⟩ := List.mem_map.1 ht; trivial⟩
  have hv := at_vw ht
  have : tV (Tree.row b e l.length 1 (l.map fun x => .leaf (.int .i64 x))) = intsI l := by
    have r : RowsT e 1 (flatE intE) l (Tree.row b e l.length 1 (l.map fun x => .leaf (.int .i64 x))) := by
      refine RowsT.ofFlat ?_
      have : (l.flatMap intE).map Tree.leaf = l.map fun x => .leaf (.int .i64 x) := by
        clear hb ht hv
        induction l with
        | nil => rfl
        | cons x l ih => rw [List.flatMap_cons, List.map_append, ih]; rfl
      rw [this]
      exact .row b _ _ (by simp)
    exact r.flatView fun _ => rfl
  rw [this] at hv
  exact hv
theorem getD_iA {l : List Int} {i : Nat} (hi : i < l.length) : (l.map iA).getD i .junk = iA (l.getD i (-1)) := by
  simp [List.getD_eq_getElem?_getD, hi]
theorem set_iA {l : List Int} {i : Nat} {x : Int} : (l.map iA).set i (iA x) = (l.set i x).map iA := by rw [List.map_set]
end Go.Ab
namespace Go.Proofs.Ytabbipdkbdojiaa
open Go Go.Ab
set_option linter.unusedVariables false
set_option linter.unusedSimpArgs false

theorem math_bits_Mul64.one {n : Int} (h0 : 0 ≤ n) (h1 : n < 4294967296) {h : Heap} {Q : AV → Heap → Prop} (hQ : Q (.tup [.val (.int .u64 0), .val (.int .u64 n)]) h) : CALL Try.prog math_bits_Mul64.id [.val (.int .u64 1), .val (.int .u64 n)] h Q := by
  refine CALL_by mixed math_bits_Mul64.tr (Nat.le_of_ble_eq_true rfl) ?_
  have e1 : bits .and .u64 1 4294967295 = 1 := by decide
  have e2 : bits .and .u64 0 4294967295 = 0 := by decide
  have e5 : min 32 (IntKind.bits .u64) = 32 := by decide
  have e4 : Int.fdiv n (2 ^ 32) = 0 := by rw [Int.fdiv_eq_ediv_of_nonneg _ (by decide)]; omega
  have e6 : Int.fdiv 0 (2 ^ 32) = 0 := by decide
  have e7 : Int.fdiv 1 (2 ^ 32) = 0 := by decide
  simp (disch := omega) only [S, SL, Need_of, wrap_in, getD_map, getD_lt, Heap.set_ne, wrap_tdiv, tmod_nn, tdiv_nn, ↓reduceIte, eq_self, Nat.reduceEqDiff, Nat.reduceAdd, Nat.reduceSub, Nat.reduceMul, Nat.reduceLeDiff, Int.reduceNeg, Int.reduceToNat, Int.reduceLE, Int.reduceLT, Int.reduceEq, math_bits_Mul64.g, bits_low32 h0 h1, e1, e2, e5, e4, e6, e7, Int.zero_mul, Int.one_mul, Int.mul_zero, Int.add_zero, Int.zero_add, wrap_u64_in]
  exact fin.same hQ
theorem math_bits_Mul.one {n : Int} (h0 : 0 ≤ n) (h1 : n < 4294967296) {h : Heap} {Q : AV → Heap → Prop} (hQ : Q (.tup [.val (.int .u64 0), .val (.int .u64 n)]) h) : CALL Try.prog math_bits_Mul.id [.val (.int .u64 1), .val (.int .u64 n)] h Q := by
  refine CALL_by mixed math_bits_Mul.tr (Nat.le_of_ble_eq_true rfl) ?_
  simp (disch := omega) only [S, SL, Need_of, wrap_in, getD_map, getD_lt, Heap.set_ne, wrap_tdiv, tmod_nn, tdiv_nn, ↓reduceIte, eq_self, Nat.reduceEqDiff, Nat.reduceAdd, Nat.reduceSub, Nat.reduceMul, Nat.reduceLeDiff, Int.reduceNeg, Int.reduceToNat, Int.reduceLE, Int.reduceLT, Int.reduceEq, math_bits_Mul.g]
  refine callK.in (math_bits_Mul64.one h0 h1 ?_)
  simp (disch := omega) only [S, SL, Need_of, wrap_in, getD_map, getD_lt, Heap.set_ne, wrap_tdiv, tmod_nn, tdiv_nn, ↓reduceIte, eq_self, Nat.reduceEqDiff, Nat.reduceAdd, Nat.reduceSub, Nat.reduceMul, Nat.reduceLeDiff, Int.reduceNeg, Int.reduceToNat, Int.reduceLE, Int.reduceLT, Int.reduceEq]
  exact fin.same hQ
/-- One number again and again. -/
theorem slices_Repeat_int_int.c {b : Nat} {x : Int} {n : Int} (h0 : 1 ≤ n) (h1 : n < 4294967296) {h : Heap} (hb : h b = none) {Q : AV → Heap → Prop}
    (hQ : ∀ b', h b' = none → Q (.own b' n.toNat) (h.set b' (.row 3 ((List.replicate n.toNat x).map iA)))) : CALL Try.prog slices_Repeat_int_int.id [.own b 1, iA n] (h.set b (.row 3 [iA x])) Q := by
  refine CALL_by mixed slices_Repeat_int_int.tr (Nat.le_of_ble_eq_true rfl) ?_
  have c1 : ¬ n < 0 := by omega
  have c2 : ¬ (9223372036854775807 : Int) < n := by omega
  have c3 : ¬ (0 : Int) < 0 := by omega
  simp (disch := omega) only [S, SL, Need_of, wrap_in, getD_map, getD_lt, Heap.set_ne, wrap_tdiv, tmod_nn, tdiv_nn, ↓reduceIte, eq_self, Nat.reduceEqDiff, Nat.reduceAdd, Nat.reduceSub, Nat.reduceMul, Nat.reduceLeDiff, Int.reduceNeg, Int.reduceToNat, Int.reduceLE, Int.reduceLT, Int.reduceEq, slices_Repeat_int_int.g, c1, wrap_u64_in]
  refine callK.in (math_bits_Mul.one (by omega) h1 ?_)
  simp (disch := omega) only [S, SL, Need_of, wrap_in, getD_map, getD_lt, Heap.set_ne, wrap_tdiv, tmod_nn, tdiv_nn, ↓reduceIte, eq_self, Nat.reduceEqDiff, Nat.reduceAdd, Nat.reduceSub, Nat.reduceMul, Nat.reduceLeDiff, Int.reduceNeg, Int.reduceToNat, Int.reduceLE, Int.reduceLT, Int.reduceEq, c2, c3, wrap_u64_in]
  refine rowK.in fun b' hb' => ?_
  have ne := Heap.new_ne hb'
  simp (disch := omega) only [S, SL, Need_of, wrap_in, getD_map, getD_lt, Heap.set_ne, wrap_tdiv, tmod_nn, tdiv_nn, ↓reduceIte, eq_self, Nat.reduceEqDiff, Nat.reduceAdd, Nat.reduceSub, Nat.reduceMul, Nat.reduceLeDiff, Int.reduceNeg, Int.reduceToNat, Int.reduceLE, Int.reduceLT, Int.reduceEq]
  have hz : (List.replicate n.toNat [iA 0]).flatten = (List.replicate n.toNat 0).map iA := by
    generalize n.toNat = k
    induction k with
    | zero => rfl
    | succ k ih => rw [List.replicate_succ, List.flatten_cons, ih]; rfl
  rw [show [AV.val (Value.int IntKind.i64 0)] = [iA 0] from rfl, hz]
  refine copyK.own (Heap.set_same _ _ _) ((Heap.set_ne _ _ (fun e => ne e.symm)).trans (Heap.set_same _ _ _)) (by simp) (by simp) rfl ?_
  obtain ⟨m, rfl⟩ : ∃ m : Nat, n = m + 1 := ⟨(n - 1).toNat, by omega⟩
  have hN : ((m : Int) + 1).toNat = m + 1 := by omega
  have hmin : min 1 (m + 1) = 1 := by omega
  have hsp : splice ((List.replicate (m + 1) (0 : Int)).map iA) 0 ((([iA x] : List AV).take (1 * 1)).take (1 * 1)) = ((List.replicate 1 x ++ List.replicate (m + 1 - 1) 0) : List Int).map iA := by
    simp [List.replicate_succ, splice, splice_nil]
  rw [hN, hmin, hsp]
  simp (disch := omega) only [S, SL, Need_of, wrap_in, getD_map, getD_lt, Heap.set_ne, wrap_tdiv, tmod_nn, tdiv_nn, ↓reduceIte, eq_self, Nat.reduceEqDiff, Nat.reduceAdd, Nat.reduceSub, Nat.reduceMul, Nat.reduceLeDiff, Int.reduceNeg, Int.reduceToNat, Int.reduceLE, Int.reduceLT, Int.reduceEq]
  refine CK_loop (α := Nat) (fun k => [(7, .own b' (m + 1)), (8, iA k)]) (fun k => h.set b' (.row 3 ((List.replicate k x ++ List.replicate (m + 1 - k) 0).map iA))) (fun k => 1 ≤ k ∧ k ≤ m + 1) (fun k => m + 1 - k) 1 ?_ ?_ ⟨by omega, by omega⟩ ?_
  · simp only [S, SL, ↓reduceIte, eq_self, Nat.reduceEqDiff, Nat.reduceAdd, Nat.reduceSub, Nat.reduceMul, Nat.reduceLeDiff, Int.reduceNeg, Int.reduceToNat, Int.reduceLE, Int.reduceLT, Int.reduceEq]
  · exact Heap.set_mono (Heap.le_new hb) _ _
  · rintro R k ⟨hk1, hk2⟩ next
    simp (disch := omega) only [S, SL, Need_of, wrap_in, getD_map, getD_lt, Heap.set_ne, wrap_tdiv, tmod_nn, tdiv_nn, ↓reduceIte, eq_self, Nat.reduceEqDiff, Nat.reduceAdd, Nat.reduceSub, Nat.reduceMul, Nat.reduceLeDiff, Int.reduceNeg, Int.reduceToNat, Int.reduceLE, Int.reduceLT, Int.reduceEq, slices_Repeat_int_int.l0]
    refine condK_if (fun c => ?_) (fun c => ?_)
    · simp (disch := omega) only [S, SL, Need_of, wrap_in, getD_map, getD_lt, Heap.set_ne, wrap_tdiv, tmod_nn, tdiv_nn, ↓reduceIte, eq_self, Nat.reduceEqDiff, Nat.reduceAdd, Nat.reduceSub, Nat.reduceMul, Nat.reduceLeDiff, Int.reduceNeg, Int.reduceToNat, Int.reduceLE, Int.reduceLT, Int.reduceEq, slK_own_lo]
      have hk3 : k < m + 1 := by omega
      have ej : ((m : Int) + 1 - k).toNat = m + 1 - k := by omega
      have hmk : min k (m + 1 - k) ≤ k ∧ min k (m + 1 - k) ≤ m + 1 - k := by omega
      have hsp : splice ((List.replicate k x ++ List.replicate (m + 1 - k) (0 : Int)).map iA) k (((((List.replicate k x ++ List.replicate (m + 1 - k) 0).map iA).take (k * 1)).take (min k (m + 1 - k) * 1))) = (List.replicate (k + min k (m + 1 - k)) x ++ List.replicate (m + 1 - (k + min k (m + 1 - k))) (0 : Int)).map iA := by
        have e1 : (((List.replicate k x ++ List.replicate (m + 1 - k) (0 : Int)).map iA).take (k * 1)).take (min k (m + 1 - k) * 1) = (List.replicate (min k (m + 1 - k)) x).map iA := by
          rw [Nat.mul_one, Nat.mul_one, ← List.map_take, ← List.map_take, List.take_left' (by simp), List.take_replicate, Nat.min_eq_left hmk.1]
        have e2 : (List.replicate k x ++ List.replicate (m + 1 - k) (0 : Int)).map iA = (List.replicate k x).map iA ++ (List.replicate (min k (m + 1 - k)) (0 : Int)).map iA ++ (List.replicate (m + 1 - (k + min k (m + 1 - k))) (0 : Int)).map iA := by
          rw [← List.map_append, ← List.map_append, List.append_assoc, List.replicate_append_replicate]
          congr 3; omega
        rw [e1, e2]
        have := splice_mid ((List.replicate (min k (m + 1 - k)) x).map iA) ((List.replicate k x).map iA) ((List.replicate (min k (m + 1 - k)) (0 : Int)).map iA) ((List.replicate (m + 1 - (k + min k (m + 1 - k))) (0 : Int)).map iA) (by simp)
        rw [List.length_map, List.length_replicate] at this
        rw [this, ← List.map_append, ← List.map_append, List.replicate_append_replicate]
      refine copyK.sub (Heap.set_same _ _ _) (Heap.set_same _ _ _) (by omega) (by simp) (by simp <;> omega) ?_ ?_
      · rw [List.all_eq_true]; intro y hy
        obtain ⟨z, -, rfl⟩ := List.mem_map.1 (List.mem_of_mem_take hy); rfl
      · rw [Nat.mul_one k] at hsp ⊢
        rw [hsp, Heap.set_set]
        simp (disch := omega) only [S, SL, Need_of, wrap_in, getD_map, getD_lt, Heap.set_ne, wrap_tdiv, tmod_nn, tdiv_nn, ↓reduceIte, eq_self, Nat.reduceEqDiff, Nat.reduceAdd, Nat.reduceSub, Nat.reduceMul, Nat.reduceLeDiff, Int.reduceNeg, Int.reduceToNat, Int.reduceLE, Int.reduceLT, Int.reduceEq]
        exact next (k + min k (m + 1 - k)) _ _ ⟨by omega, by omega⟩ (by omega) (by simp only [S, SL, ↓reduceIte, eq_self, Nat.reduceEqDiff, Nat.reduceAdd, Nat.reduceSub, Nat.reduceMul, Nat.reduceLeDiff, Int.reduceNeg, Int.reduceToNat, Int.reduceLE, Int.reduceLT, Int.reduceEq, Int.natCast_add]) (Heap.le_refl _)
    · simp (disch := omega) only [S, SL, Need_of, wrap_in, getD_map, getD_lt, Heap.set_ne, wrap_tdiv, tmod_nn, tdiv_nn, ↓reduceIte, eq_self, Nat.reduceEqDiff, Nat.reduceAdd, Nat.reduceSub, Nat.reduceMul, Nat.reduceLeDiff, Int.reduceNeg, Int.reduceToNat, Int.reduceLE, Int.reduceLT, Int.reduceEq]
      obtain rfl : k = m + 1 := by omega
      have := hQ b' (Heap.new_none hb')
      rw [Nat.sub_self, List.replicate_zero, List.append_nil]
      rw [hN] at this
      exact fin.same this

/-- A part's head finds its length. -/
theorem sym_at {heads : Int} {l : List Int} {s : Sym} (ok : SymOk heads s) (hl : LeastOk heads l) (h0 : ¬ s.head < 0) : ∃ hi : s.head.toNat < l.length, l.getD s.head.toNat (-1) = l[s.head.toNat] ∧ -1 ≤ l[s.head.toNat] ∧ l[s.head.toNat] ≤ 20000 := by
  have hi : s.head.toNat < l.length := by have := hl.1; unfold SymOk at ok; omega
  exact ⟨hi, by simp [List.getD_eq_getElem?_getD, hi], hl.2 _ (List.getElem_mem hi)⟩
theorem sumV_drop {l : List Int} {body : List Sym} {k : Nat} {n : Int} (hk : k < body.length) : sumV l (body.drop k) n = if body[k].head < 0 then sumV l (body.drop (k + 1)) (n + 1) else if l.getD body[k].head.toNat (-1) < 0 then -1 else sumV l (body.drop (k + 1)) (min (n + l.getD body[k].head.toNat (-1)) 9999) := by
  rw [List.drop_eq_getElem_cons hk, sumV]
theorem impl_sum.c {heads : Int} {body : List Sym} {l : List Int} (hs : ∀ s ∈ body, SymOk heads s) (hl : LeastOk heads l) (hb : body.length ≤ 160) (hh : heads ≤ 200) {h : Heap} {Q : AV → Heap → Prop} (hQ : Q (iA (lenOf l body)) h) : CALL Try.prog impl_sum.id [.imm false (body.map symA), intsI l] h Q := by
  refine CALL_by mixed impl_sum.tr (Nat.le_of_ble_eq_true rfl) ?_
  have hll : l.length ≤ 200 := by have := hl.1; omega
  simp (disch := omega) only [S, SL, Need_of, wrap_in, getD_map, getD_lt, Heap.set_ne, wrap_tdiv, tmod_nn, tdiv_nn, ↓reduceIte, eq_self, Nat.reduceEqDiff, Nat.reduceAdd, Nat.reduceSub, Nat.reduceMul, Nat.reduceLeDiff, Int.reduceNeg, Int.reduceToNat, Int.reduceLE, Int.reduceLT, Int.reduceEq, impl_sum.g]
  refine CK_loop (α := Nat × Int) (fun x => [(1, intsI l), (5, iA x.2), (8, .imm false (body.map symA)), (9, iA body.length), (10, iA x.1)]) (fun _ => h) (fun x => x.1 ≤ body.length ∧ 0 ≤ x.2 ∧ x.2 ≤ 9999 + x.1 ∧ sumV l (body.drop x.1) x.2 = lenOf l body) (fun x => body.length - x.1) (0, 0) ?_ (Heap.le_refl _) ⟨by simp, by simp, by simp, rfl⟩ ?_
  · simp only [S, SL, ↓reduceIte, eq_self, Nat.reduceEqDiff, Nat.reduceAdd, Nat.reduceSub, Nat.reduceMul, Nat.reduceLeDiff, Int.reduceNeg, Int.reduceToNat, Int.reduceLE, Int.reduceLT, Int.reduceEq]
  · rintro R ⟨k, n⟩ ⟨hk, hn0, hn1, hsum⟩ next
    simp only at hk hn0 hn1 hsum
    simp (disch := omega) only [S, SL, Need_of, wrap_in, getD_map, getD_lt, Heap.set_ne, wrap_tdiv, tmod_nn, tdiv_nn, ↓reduceIte, eq_self, Nat.reduceEqDiff, Nat.reduceAdd, Nat.reduceSub, Nat.reduceMul, Nat.reduceLeDiff, Int.reduceNeg, Int.reduceToNat, Int.reduceLE, Int.reduceLT, Int.reduceEq, impl_sum.l0]
    refine condK_if (fun c1 => ?_) (fun c1 => ?_)
    · have hk' : k < body.length := by omega
      simp (disch := omega) only [S, SL, Need_of, wrap_in, getD_map, getD_lt, Heap.set_ne, wrap_tdiv, tmod_nn, tdiv_nn, ↓reduceIte, eq_self, Nat.reduceEqDiff, Nat.reduceAdd, Nat.reduceSub, Nat.reduceMul, Nat.reduceLeDiff, Int.reduceNeg, Int.reduceToNat, Int.reduceLE, Int.reduceLT, Int.reduceEq, symA]
      refine allocK.in fun b hb' => ?_
      simp (disch := omega) only [S, SL, Need_of, wrap_in, getD_map, getD_lt, Heap.set_ne, wrap_tdiv, tmod_nn, tdiv_nn, ↓reduceIte, eq_self, Nat.reduceEqDiff, Nat.reduceAdd, Nat.reduceSub, Nat.reduceMul, Nat.reduceLeDiff, Int.reduceNeg, Int.reduceToNat, Int.reduceLE, Int.reduceLT, Int.reduceEq]
      rw [sumV_drop hk'] at hsum
      refine condK_if (fun c2 => ?_) (fun c2 => ?_)
      · simp (disch := omega) only [S, SL, Need_of, wrap_in, getD_map, getD_lt, Heap.set_ne, wrap_tdiv, tmod_nn, tdiv_nn, ↓reduceIte, eq_self, Nat.reduceEqDiff, Nat.reduceAdd, Nat.reduceSub, Nat.reduceMul, Nat.reduceLeDiff, Int.reduceNeg, Int.reduceToNat, Int.reduceLE, Int.reduceLT, Int.reduceEq]
        rw [if_pos c2] at hsum
        exact next (k + 1, n + 1) _ _ ⟨by simp only; omega, by simp only; omega, by simp only; omega, hsum⟩ (by simp only; omega) (by simp only [S, SL, ↓reduceIte, eq_self, Nat.reduceEqDiff, Nat.reduceAdd, Nat.reduceSub, Nat.reduceMul, Nat.reduceLeDiff, Int.reduceNeg, Int.reduceToNat, Int.reduceLE, Int.reduceLT, Int.reduceEq]) (Heap.le_new hb')
      · rw [if_neg c2] at hsum
        obtain ⟨hi, e1, e2, e3⟩ := sym_at (hs _ (List.getElem_mem hk')) hl c2
        have hi' : body[k].head < (l.length : Int) := by omega
        rw [e1] at hsum
        simp (disch := omega) only [S, SL, Need_of, wrap_in, getD_map, getD_lt, Heap.set_ne, wrap_tdiv, tmod_nn, tdiv_nn, ↓reduceIte, eq_self, Nat.reduceEqDiff, Nat.reduceAdd, Nat.reduceSub, Nat.reduceMul, Nat.reduceLeDiff, Int.reduceNeg, Int.reduceToNat, Int.reduceLE, Int.reduceLT, Int.reduceEq, intsI]
        refine condK_if (fun c3 => ?_) (fun c3 => ?_)
        · simp (disch := omega) only [S, SL, Need_of, wrap_in, getD_map, getD_lt, Heap.set_ne, wrap_tdiv, tmod_nn, tdiv_nn, ↓reduceIte, eq_self, Nat.reduceEqDiff, Nat.reduceAdd, Nat.reduceSub, Nat.reduceMul, Nat.reduceLeDiff, Int.reduceNeg, Int.reduceToNat, Int.reduceLE, Int.reduceLT, Int.reduceEq]
          rw [if_pos c3] at hsum
          exact fin.of (Heap.le_new hb') (by rw [hsum]; exact hQ)
        · simp (disch := omega) only [S, SL, Need_of, wrap_in, getD_map, getD_lt, Heap.set_ne, wrap_tdiv, tmod_nn, tdiv_nn, ↓reduceIte, eq_self, Nat.reduceEqDiff, Nat.reduceAdd, Nat.reduceSub, Nat.reduceMul, Nat.reduceLeDiff, Int.reduceNeg, Int.reduceToNat, Int.reduceLE, Int.reduceLT, Int.reduceEq, intsI]
          rw [if_neg c3] at hsum
          exact next (k + 1, min (n + l[body[k].head.toNat]) 9999) _ _ ⟨by simp only; omega, by simp only; omega, by simp only; omega, hsum⟩ (by simp only; omega) (by simp only [S, SL, ↓reduceIte, eq_self, Nat.reduceEqDiff, Nat.reduceAdd, Nat.reduceSub, Nat.reduceMul, Nat.reduceLeDiff, Int.reduceNeg, Int.reduceToNat, Int.reduceLE, Int.reduceLT, Int.reduceEq, intsI]) (Heap.le_new hb')
    · simp (disch := omega) only [S, SL, Need_of, wrap_in, getD_map, getD_lt, Heap.set_ne, wrap_tdiv, tmod_nn, tdiv_nn, ↓reduceIte, eq_self, Nat.reduceEqDiff, Nat.reduceAdd, Nat.reduceSub, Nat.reduceMul, Nat.reduceLeDiff, Int.reduceNeg, Int.reduceToNat, Int.reduceLE, Int.reduceLT, Int.reduceEq]
      obtain rfl : k = body.length := by omega
      rw [List.drop_length, sumV] at hsum
      exact fin.same (by rw [hsum]; exact hQ)
theorem spec_l3Body.c {heads : Int} {body : List Sym} {l : List Int} (hs : ∀ s ∈ body, SymOk heads s) (hl : LeastOk heads l) (hb : body.length ≤ 160) (hh : heads ≤ 200) {h : Heap} {Q : AV → Heap → Prop} (hQ : Q (iA (lenOf l body)) h) : CALL Try.prog spec_l3Body.id [.imm false (body.map symA), intsI l] h Q := by
  refine CALL_by mixed spec_l3Body.tr (Nat.le_of_ble_eq_true rfl) ?_
  have hll : l.length ≤ 200 := by have := hl.1; omega
  simp (disch := omega) only [S, SL, Need_of, wrap_in, getD_map, getD_lt, Heap.set_ne, wrap_tdiv, tmod_nn, tdiv_nn, ↓reduceIte, eq_self, Nat.reduceEqDiff, Nat.reduceAdd, Nat.reduceSub, Nat.reduceMul, Nat.reduceLeDiff, Int.reduceNeg, Int.reduceToNat, Int.reduceLE, Int.reduceLT, Int.reduceEq, spec_l3Body.g]
  refine CK_loop (α := Nat × Int) (fun x => [(0, .imm false (body.map symA)), (1, intsI l), (5, iA x.2), (6, iA x.1)]) (fun _ => h) (fun x => x.1 ≤ body.length ∧ 0 ≤ x.2 ∧ x.2 ≤ 9999 + x.1 ∧ sumV l (body.drop x.1) x.2 = lenOf l body) (fun x => body.length - x.1) (0, 0) ?_ (Heap.le_refl _) ⟨by simp, by simp, by simp, rfl⟩ ?_
  · simp only [S, SL, ↓reduceIte, eq_self, Nat.reduceEqDiff, Nat.reduceAdd, Nat.reduceSub, Nat.reduceMul, Nat.reduceLeDiff, Int.reduceNeg, Int.reduceToNat, Int.reduceLE, Int.reduceLT, Int.reduceEq]
  · rintro R ⟨k, n⟩ ⟨hk, hn0, hn1, hsum⟩ next
    simp only at hk hn0 hn1 hsum
    simp (disch := omega) only [S, SL, Need_of, wrap_in, getD_map, getD_lt, Heap.set_ne, wrap_tdiv, tmod_nn, tdiv_nn, ↓reduceIte, eq_self, Nat.reduceEqDiff, Nat.reduceAdd, Nat.reduceSub, Nat.reduceMul, Nat.reduceLeDiff, Int.reduceNeg, Int.reduceToNat, Int.reduceLE, Int.reduceLT, Int.reduceEq, spec_l3Body.l0]
    refine condK_if (fun c1 => ?_) (fun c1 => ?_)
    · have hk' : k < body.length := by omega
      rw [sumV_drop hk'] at hsum
      simp (disch := omega) only [S, SL, Need_of, wrap_in, getD_map, getD_lt, Heap.set_ne, wrap_tdiv, tmod_nn, tdiv_nn, ↓reduceIte, eq_self, Nat.reduceEqDiff, Nat.reduceAdd, Nat.reduceSub, Nat.reduceMul, Nat.reduceLeDiff, Int.reduceNeg, Int.reduceToNat, Int.reduceLE, Int.reduceLT, Int.reduceEq, symA]
      refine condK_if (fun c2 => ?_) (fun c2 => ?_)
      · simp (disch := omega) only [S, SL, Need_of, wrap_in, getD_map, getD_lt, Heap.set_ne, wrap_tdiv, tmod_nn, tdiv_nn, ↓reduceIte, eq_self, Nat.reduceEqDiff, Nat.reduceAdd, Nat.reduceSub, Nat.reduceMul, Nat.reduceLeDiff, Int.reduceNeg, Int.reduceToNat, Int.reduceLE, Int.reduceLT, Int.reduceEq]
        rw [if_pos c2] at hsum
        exact next (k + 1, n + 1) _ _ ⟨by simp only; omega, by simp only; omega, by simp only; omega, hsum⟩ (by simp only; omega) (by simp only [S, SL, ↓reduceIte, eq_self, Nat.reduceEqDiff, Nat.reduceAdd, Nat.reduceSub, Nat.reduceMul, Nat.reduceLeDiff, Int.reduceNeg, Int.reduceToNat, Int.reduceLE, Int.reduceLT, Int.reduceEq]) (Heap.le_refl _)
      · rw [if_neg c2] at hsum
        obtain ⟨hi, e1, e2, e3⟩ := sym_at (hs _ (List.getElem_mem hk')) hl c2
        have hi' : body[k].head < (l.length : Int) := by omega
        rw [e1] at hsum
        simp (disch := omega) only [S, SL, Need_of, wrap_in, getD_map, getD_lt, Heap.set_ne, wrap_tdiv, tmod_nn, tdiv_nn, ↓reduceIte, eq_self, Nat.reduceEqDiff, Nat.reduceAdd, Nat.reduceSub, Nat.reduceMul, Nat.reduceLeDiff, Int.reduceNeg, Int.reduceToNat, Int.reduceLE, Int.reduceLT, Int.reduceEq, intsI, symA]
        refine condK_if (fun c3 => ?_) (fun c3 => ?_)
        · simp (disch := omega) only [S, SL, Need_of, wrap_in, getD_map, getD_lt, Heap.set_ne, wrap_tdiv, tmod_nn, tdiv_nn, ↓reduceIte, eq_self, Nat.reduceEqDiff, Nat.reduceAdd, Nat.reduceSub, Nat.reduceMul, Nat.reduceLeDiff, Int.reduceNeg, Int.reduceToNat, Int.reduceLE, Int.reduceLT, Int.reduceEq]
          rw [if_pos c3] at hsum
          exact fin.same (by rw [hsum]; exact hQ)
        · simp (disch := omega) only [S, SL, Need_of, wrap_in, getD_map, getD_lt, Heap.set_ne, wrap_tdiv, tmod_nn, tdiv_nn, ↓reduceIte, eq_self, Nat.reduceEqDiff, Nat.reduceAdd, Nat.reduceSub, Nat.reduceMul, Nat.reduceLeDiff, Int.reduceNeg, Int.reduceToNat, Int.reduceLE, Int.reduceLT, Int.reduceEq, intsI, symA]
          rw [if_neg c3] at hsum
          refine condK_if (fun c4 => ?_) (fun c4 => ?_)
          · simp (disch := omega) only [S, SL, Need_of, wrap_in, getD_map, getD_lt, Heap.set_ne, wrap_tdiv, tmod_nn, tdiv_nn, ↓reduceIte, eq_self, Nat.reduceEqDiff, Nat.reduceAdd, Nat.reduceSub, Nat.reduceMul, Nat.reduceLeDiff, Int.reduceNeg, Int.reduceToNat, Int.reduceLE, Int.reduceLT, Int.reduceEq]
            rw [Int.min_eq_right (by omega)] at hsum
            exact next (k + 1, 9999) _ _ ⟨by simp only; omega, by simp only; omega, by simp only; omega, hsum⟩ (by simp only; omega) (by simp only [S, SL, ↓reduceIte, eq_self, Nat.reduceEqDiff, Nat.reduceAdd, Nat.reduceSub, Nat.reduceMul, Nat.reduceLeDiff, Int.reduceNeg, Int.reduceToNat, Int.reduceLE, Int.reduceLT, Int.reduceEq, intsI]) (Heap.le_refl _)
          · simp (disch := omega) only [S, SL, Need_of, wrap_in, getD_map, getD_lt, Heap.set_ne, wrap_tdiv, tmod_nn, tdiv_nn, ↓reduceIte, eq_self, Nat.reduceEqDiff, Nat.reduceAdd, Nat.reduceSub, Nat.reduceMul, Nat.reduceLeDiff, Int.reduceNeg, Int.reduceToNat, Int.reduceLE, Int.reduceLT, Int.reduceEq]
            rw [Int.min_eq_left (by omega)] at hsum
            exact next (k + 1, n + l[body[k].head.toNat]) _ _ ⟨by simp only; omega, by simp only; omega, by simp only; omega, hsum⟩ (by simp only; omega) (by simp only [S, SL, ↓reduceIte, eq_self, Nat.reduceEqDiff, Nat.reduceAdd, Nat.reduceSub, Nat.reduceMul, Nat.reduceLeDiff, Int.reduceNeg, Int.reduceToNat, Int.reduceLE, Int.reduceLT, Int.reduceEq, intsI]) (Heap.le_refl _)
    · simp (disch := omega) only [S, SL, Need_of, wrap_in, getD_map, getD_lt, Heap.set_ne, wrap_tdiv, tmod_nn, tdiv_nn, ↓reduceIte, eq_self, Nat.reduceEqDiff, Nat.reduceAdd, Nat.reduceSub, Nat.reduceMul, Nat.reduceLeDiff, Int.reduceNeg, Int.reduceToNat, Int.reduceLE, Int.reduceLT, Int.reduceEq]
      obtain rfl : k = body.length := by omega
      rw [List.drop_length, sumV] at hsum
      exact fin.same (by rw [hsum]; exact hQ)

theorem impl_Cfg_least.c {c : Cfg} (ok : CfgOk c) {h : Heap} {Q : AV → Heap → Prop} (hQ : ∀ b, h b = none → Q (.own b (leastV c).length) (h.set b (.row 3 ((leastV c).map iA)))) : CALL Try.prog impl_Cfg_least.id [cfgA c] h Q := by
  refine CALL_by mixed impl_Cfg_least.tr (Nat.le_of_ble_eq_true rfl) ?_
  have hh := ok.heads
  have hlen := ok.len
  simp (disch := omega) only [S, SL, Need_of, wrap_in, getD_map, getD_lt, Heap.set_ne, wrap_tdiv, tmod_nn, tdiv_nn, ↓reduceIte, eq_self, Nat.reduceEqDiff, Nat.reduceAdd, Nat.reduceSub, Nat.reduceMul, Nat.reduceLeDiff, Int.reduceNeg, Int.reduceToNat, Int.reduceLE, Int.reduceLT, Int.reduceEq, impl_Cfg_least.g, cfgA, cfgL]
  refine allocK.in fun b1 hb1 => ?_
  simp (disch := omega) only [S, SL, Need_of, wrap_in, getD_map, getD_lt, Heap.set_ne, wrap_tdiv, tmod_nn, tdiv_nn, ↓reduceIte, eq_self, Nat.reduceEqDiff, Nat.reduceAdd, Nat.reduceSub, Nat.reduceMul, Nat.reduceLeDiff, Int.reduceNeg, Int.reduceToNat, Int.reduceLE, Int.reduceLT, Int.reduceEq]
  refine rowK.in fun b8 hb8 => ?_
  have ne8 := Heap.new_ne hb8
  simp (disch := omega) only [S, SL, Need_of, wrap_in, getD_map, getD_lt, Heap.set_ne, wrap_tdiv, tmod_nn, tdiv_nn, ↓reduceIte, eq_self, Nat.reduceEqDiff, Nat.reduceAdd, Nat.reduceSub, Nat.reduceMul, Nat.reduceLeDiff, Int.reduceNeg, Int.reduceToNat, Int.reduceLE, Int.reduceLT, Int.reduceEq, cfgL]
  refine callK.in (slices_Repeat_int_int.c (by omega) (by omega) hb8 fun b3 hb3 => ?_)
  have ne31 := Heap.new_ne hb3
  simp (disch := omega) only [S, SL, Need_of, wrap_in, getD_map, getD_lt, Heap.set_ne, wrap_tdiv, tmod_nn, tdiv_nn, ↓reduceIte, eq_self, Nat.reduceEqDiff, Nat.reduceAdd, Nat.reduceSub, Nat.reduceMul, Nat.reduceLeDiff, Int.reduceNeg, Int.reduceToNat, Int.reduceLE, Int.reduceLT, Int.reduceEq]
  refine CK_loop (α := List Int × Bool) (fun x => [(1, .adr b1 0), (3, .own b3 c.heads.toNat), (4, bA x.2)]) (fun x => (h.set b1 (.row 33 (cfgL c))).set b3 (.row 3 (x.1.map iA)))
    (fun x => LeastOk c.heads x.1 ∧ (∃ j, x.1 = iterN (fun out => c.prods.foldl relax out) j (List.replicate c.heads.toNat (-1))) ∧ (x.2 = false → c.prods.foldl relax x.1 = x.1)) (fun x => 2 * gain x.1 + x.2.toNat) (List.replicate c.heads.toNat (-1), true) ?_ (Heap.le_refl _) ⟨⟨by simp, fun x hx => by rw [List.eq_of_mem_replicate hx]; omega⟩, ⟨0, rfl⟩, fun e => by cases e⟩ ?_
  · simp only [S, SL, ↓reduceIte, eq_self, Nat.reduceEqDiff, Nat.reduceAdd, Nat.reduceSub, Nat.reduceMul, Nat.reduceLeDiff, Int.reduceNeg, Int.reduceToNat, Int.reduceLE, Int.reduceLT, Int.reduceEq]
  · rintro R ⟨l0, again⟩ ⟨hl0, hj, hfix⟩ next
    simp only at hl0 hj hfix
    simp (disch := omega) only [S, SL, Need_of, wrap_in, getD_map, getD_lt, Heap.set_ne, wrap_tdiv, tmod_nn, tdiv_nn, ↓reduceIte, eq_self, Nat.reduceEqDiff, Nat.reduceAdd, Nat.reduceSub, Nat.reduceMul, Nat.reduceLeDiff, Int.reduceNeg, Int.reduceToNat, Int.reduceLE, Int.reduceLT, Int.reduceEq, impl_Cfg_least.l1]
    refine condK_bool (fun c1 => ?_) (fun c1 => ?_)
    · simp (disch := omega) only [S, SL, Need_of, wrap_in, getD_map, getD_lt, Heap.set_ne, wrap_tdiv, tmod_nn, tdiv_nn, ↓reduceIte, eq_self, Nat.reduceEqDiff, Nat.reduceAdd, Nat.reduceSub, Nat.reduceMul, Nat.reduceLeDiff, Int.reduceNeg, Int.reduceToNat, Int.reduceLE, Int.reduceLT, Int.reduceEq, cfgL]
      refine CK_loop (α := Nat × List Int × Bool) (fun x => [(1, .adr b1 0), (3, .own b3 c.heads.toNat), (4, bA x.2.2), (14, .imm false (c.prods.map prdA)), (15, iA c.prods.length), (16, iA x.1)]) (fun x => (h.set b1 (.row 33 (cfgL c))).set b3 (.row 3 (x.2.1.map iA)))
        (fun x => x.1 ≤ c.prods.length ∧ LeastOk c.heads x.2.1 ∧ x.2.1 = (c.prods.take x.1).foldl relax l0 ∧ (x.2.2 = false → x.2.1 = l0) ∧ (x.2.2 = true → gain x.2.1 < gain l0)) (fun x => c.prods.length - x.1) (0, l0, false) ?_ (Heap.le_refl _) ⟨Nat.zero_le _, hl0, rfl, fun _ => rfl, fun e => by cases e⟩ ?_
      · simp only [S, SL, ↓reduceIte, eq_self, Nat.reduceEqDiff, Nat.reduceAdd, Nat.reduceSub, Nat.reduceMul, Nat.reduceLeDiff, Int.reduceNeg, Int.reduceToNat, Int.reduceLE, Int.reduceLT, Int.reduceEq]
      · rintro R' ⟨k, l, ag⟩ ⟨hk, hl, hfold, hno, hyes⟩ next'
        simp only at hk hl hfold hno hyes
        simp (disch := omega) only [S, SL, Need_of, wrap_in, getD_map, getD_lt, Heap.set_ne, wrap_tdiv, tmod_nn, tdiv_nn, ↓reduceIte, eq_self, Nat.reduceEqDiff, Nat.reduceAdd, Nat.reduceSub, Nat.reduceMul, Nat.reduceLeDiff, Int.reduceNeg, Int.reduceToNat, Int.reduceLE, Int.reduceLT, Int.reduceEq, impl_Cfg_least.l0]
        refine condK_if (fun c2 => ?_) (fun c2 => ?_)
        · have hk' : k < c.prods.length := by omega
          obtain ⟨p1, p2, p3, p4⟩ := ok.prod hk'
          have hll : l.length = c.heads.toNat := hl.1
          have hi : c.prods[k].head.toNat < l.length := by omega
          have hi' : c.prods[k].head < (c.heads.toNat : Int) := by omega
          have hsr := lenOf_range l c.prods[k].body
          simp (disch := omega) only [S, SL, Need_of, wrap_in, getD_map, getD_lt, Heap.set_ne, wrap_tdiv, tmod_nn, tdiv_nn, ↓reduceIte, eq_self, Nat.reduceEqDiff, Nat.reduceAdd, Nat.reduceSub, Nat.reduceMul, Nat.reduceLeDiff, Int.reduceNeg, Int.reduceToNat, Int.reduceLE, Int.reduceLT, Int.reduceEq, prdA]
          refine allocK.in fun b6 hb6 => ?_
          have ne6 := Heap.new_ne hb6
          have ne61 := Heap.new_ne (Heap.new_none hb6)
          simp (disch := omega) only [S, SL, Need_of, wrap_in, getD_map, getD_lt, Heap.set_ne, wrap_tdiv, tmod_nn, tdiv_nn, ↓reduceIte, eq_self, Nat.reduceEqDiff, Nat.reduceAdd, Nat.reduceSub, Nat.reduceMul, Nat.reduceLeDiff, Int.reduceNeg, Int.reduceToNat, Int.reduceLE, Int.reduceLT, Int.reduceEq]
          refine callK.in (CALL.lendV (args := [.imm false (c.prods[k].body.map symA), .own b3 c.heads.toNat]) (ys := [.imm false (c.prods[k].body.map symA), intsI l]) rfl (vw_two (.refl _) (by rw [← hll]; exact vw_ints (e := 3) (by simp (disch := omega) only [S, SL, Need_of, wrap_in, getD_map, getD_lt, Heap.set_ne, wrap_tdiv, tmod_nn, tdiv_nn, ↓reduceIte, eq_self, Nat.reduceEqDiff, Nat.reduceAdd, Nat.reduceSub, Nat.reduceMul, Nat.reduceLeDiff, Int.reduceNeg, Int.reduceToNat, Int.reduceLE, Int.reduceLT, Int.reduceEq]))) (impl_sum.c p4 hl p3 hh.2) rfl ?_)
          have hstep : (c.prods.take (k + 1)).foldl relax l0 = relax l c.prods[k] := by rw [foldl_take hk', ← hfold]
          have hml : (l.map iA).length = c.heads.toNat := by rw [List.length_map, hll]
          have hv : l.getD c.prods[k].head.toNat (-1) = l[c.prods[k].head.toNat] := by simp [List.getD_eq_getElem?_getD, hi]
          have hvb := hl.2 _ (List.getElem_mem hi)
          simp (disch := omega) only [S, SL, Need_of, wrap_in, getD_map, getD_lt, Heap.set_ne, wrap_tdiv, tmod_nn, tdiv_nn, ↓reduceIte, eq_self, Nat.reduceEqDiff, Nat.reduceAdd, Nat.reduceSub, Nat.reduceMul, Nat.reduceLeDiff, Int.reduceNeg, Int.reduceToNat, Int.reduceLE, Int.reduceLT, Int.reduceEq]
          repeat' ((first | refine gdK_if ?_ ?_ | refine condK_if ?_ ?_ | refine gdK_bool ?_ ?_ | refine condK_bool ?_ ?_) <;> intro hc <;> simp (disch := omega) only [S, SL, Need_of, wrap_in, getD_map, getD_lt, Heap.set_ne, wrap_tdiv, tmod_nn, tdiv_nn, ↓reduceIte, eq_self, Nat.reduceEqDiff, Nat.reduceAdd, Nat.reduceSub, Nat.reduceMul, Nat.reduceLeDiff, Int.reduceNeg, Int.reduceToNat, Int.reduceLE, Int.reduceLT, Int.reduceEq, hc, hml, List.getElem_map])
          all_goals try
            (have hc : ¬ (0 ≤ lenOf l c.prods[k].body ∧ (l.getD c.prods[k].head.toNat (-1) < 0 ∨ lenOf l c.prods[k].body < l.getD c.prods[k].head.toNat (-1))) := by rw [hv]; omega
             exact next' (k + 1, l, ag) _ _ ⟨by simp only; omega, hl, by simp only [hstep, relax_no hc], hno, hyes⟩ (by simp only; omega) (by simp only [S, SL, ↓reduceIte, eq_self, Nat.reduceEqDiff, Nat.reduceAdd, Nat.reduceSub, Nat.reduceMul, Nat.reduceLeDiff, Int.reduceNeg, Int.reduceToNat, Int.reduceLE, Int.reduceLT, Int.reduceEq]) (Heap.le_new hb6))
          all_goals
            have hc : 0 ≤ lenOf l c.prods[k].body ∧ (l.getD c.prods[k].head.toNat (-1) < 0 ∨ lenOf l c.prods[k].body < l.getD c.prods[k].head.toNat (-1)) := by rw [hv]; omega
            have hg := relax_gain p1 hi p3 hc
            have hgl : gain l ≤ gain l0 := by
              cases ag with
              | false => rw [hno rfl]; exact Nat.le_refl _
              | true => exact Nat.le_of_lt (hyes rfl)
            refine next' (k + 1, l.set c.prods[k].head.toNat (lenOf l c.prods[k].body), true) _ _ ⟨by simp only; omega, by rw [← relax_yes hc]; exact relax_ok hl p3, by simp only [hstep, relax_yes hc], fun e => (by cases e), fun _ => (by simp only; omega)⟩ (by simp only; omega) (by simp only [S, SL, ↓reduceIte, eq_self, Nat.reduceEqDiff, Nat.reduceAdd, Nat.reduceSub, Nat.reduceMul, Nat.reduceLeDiff, Int.reduceNeg, Int.reduceToNat, Int.reduceLE, Int.reduceLT, Int.reduceEq]) ?_
            rw [set_iA]
            exact Heap.set_mono (Heap.le_trans (Heap.le_new hb3) (Heap.le_new hb6)) _ _
        · simp (disch := omega) only [S, SL, Need_of, wrap_in, getD_map, getD_lt, Heap.set_ne, wrap_tdiv, tmod_nn, tdiv_nn, ↓reduceIte, eq_self, Nat.reduceEqDiff, Nat.reduceAdd, Nat.reduceSub, Nat.reduceMul, Nat.reduceLeDiff, Int.reduceNeg, Int.reduceToNat, Int.reduceLE, Int.reduceLT, Int.reduceEq]
          obtain rfl : k = c.prods.length := by omega
          rw [List.take_length] at hfold
          refine next (l, ag) _ _ ⟨hl, ?_, fun e => ?_⟩ ?_ (by simp only [S, SL, ↓reduceIte, eq_self, Nat.reduceEqDiff, Nat.reduceAdd, Nat.reduceSub, Nat.reduceMul, Nat.reduceLeDiff, Int.reduceNeg, Int.reduceToNat, Int.reduceLE, Int.reduceLT, Int.reduceEq]) (Heap.le_refl _)
          · obtain ⟨j, hj⟩ := hj
            exact ⟨j + 1, by simp only [iterN, ← hj]; exact hfold⟩
          · simp only; simp only at e
            rw [hno e] at hfold ⊢; exact hfold.symm
          · simp only; subst c1
            cases ag with
            | false => rw [hno rfl]; simp
            | true => have := hyes rfl; simp; omega
    · simp (disch := omega) only [S, SL, Need_of, wrap_in, getD_map, getD_lt, Heap.set_ne, wrap_tdiv, tmod_nn, tdiv_nn, ↓reduceIte, eq_self, Nat.reduceEqDiff, Nat.reduceAdd, Nat.reduceSub, Nat.reduceMul, Nat.reduceLeDiff, Int.reduceNeg, Int.reduceToNat, Int.reduceLE, Int.reduceLT, Int.reduceEq]
      obtain ⟨j, hj⟩ := hj
      have e : leastV c = l0 := by rw [leastV, fixOf_eq (n := j) (by rw [← hj]; exact hfix c1), ← hj]
      have := hQ b3 (Heap.new_none hb3)
      rw [e, hl0.1] at this
      exact fin.of (Heap.set_mono (Heap.le_new hb1) _ _) this

theorem spec_CfgLeast.c {c : Cfg} (ok : CfgOk c) {h : Heap} {Q : AV → Heap → Prop} (hQ : ∀ b, h b = none → Q (.own b (leastV c).length) (h.set b (.row 3 ((leastV c).map iA)))) : CALL Try.prog spec_CfgLeast.id [cfgA c] h Q := by
  refine CALL_by mixed spec_CfgLeast.tr (Nat.le_of_ble_eq_true rfl) ?_
  have hh := ok.heads
  have hlen := ok.len
  simp (disch := omega) only [S, SL, Need_of, wrap_in, getD_map, getD_lt, Heap.set_ne, wrap_tdiv, tmod_nn, tdiv_nn, ↓reduceIte, eq_self, Nat.reduceEqDiff, Nat.reduceAdd, Nat.reduceSub, Nat.reduceMul, Nat.reduceLeDiff, Int.reduceNeg, Int.reduceToNat, Int.reduceLE, Int.reduceLT, Int.reduceEq, spec_CfgLeast.g, cfgA, cfgL]
  refine allocK.in fun b1 hb1 => ?_
  simp (disch := omega) only [S, SL, Need_of, wrap_in, getD_map, getD_lt, Heap.set_ne, wrap_tdiv, tmod_nn, tdiv_nn, ↓reduceIte, eq_self, Nat.reduceEqDiff, Nat.reduceAdd, Nat.reduceSub, Nat.reduceMul, Nat.reduceLeDiff, Int.reduceNeg, Int.reduceToNat, Int.reduceLE, Int.reduceLT, Int.reduceEq]
  refine rowK.in fun b8 hb8 => ?_
  have ne8 := Heap.new_ne hb8
  simp (disch := omega) only [S, SL, Need_of, wrap_in, getD_map, getD_lt, Heap.set_ne, wrap_tdiv, tmod_nn, tdiv_nn, ↓reduceIte, eq_self, Nat.reduceEqDiff, Nat.reduceAdd, Nat.reduceSub, Nat.reduceMul, Nat.reduceLeDiff, Int.reduceNeg, Int.reduceToNat, Int.reduceLE, Int.reduceLT, Int.reduceEq, cfgL]
  refine callK.in (spec_CfgOk.c (c := c) ?_)
  rw [decide_eq_true ok]
  simp (disch := omega) only [S, SL, Need_of, wrap_in, getD_map, getD_lt, Heap.set_ne, wrap_tdiv, tmod_nn, tdiv_nn, ↓reduceIte, eq_self, Nat.reduceEqDiff, Nat.reduceAdd, Nat.reduceSub, Nat.reduceMul, Nat.reduceLeDiff, Int.reduceNeg, Int.reduceToNat, Int.reduceLE, Int.reduceLT, Int.reduceEq]
  refine CK_loop (α := Nat × Nat) (fun x => [(1, .adr b1 0), (3, .own x.2 x.1), (4, iA x.1)]) (fun x => (h.set b1 (.row 33 (cfgL c))).set x.2 (.row 3 ((List.replicate x.1 (-1)).map iA)))
    (fun x => x.1 ≤ c.heads.toNat ∧ (h.set b1 (.row 33 (cfgL c))) x.2 = none) (fun x => c.heads.toNat - x.1) (0, b8) ?_ (Heap.le_refl _) ⟨Nat.zero_le _, hb8⟩ ?_
  · simp only [S, SL, ↓reduceIte, eq_self, Nat.reduceEqDiff, Nat.reduceAdd, Nat.reduceSub, Nat.reduceMul, Nat.reduceLeDiff, Int.reduceNeg, Int.reduceToNat, Int.reduceLE, Int.reduceLT, Int.reduceEq]
  rintro R ⟨k, b⟩ ⟨hk, hb⟩ next
  simp only at hk hb
  have ne := Heap.new_ne hb
  simp (disch := omega) only [S, SL, Need_of, wrap_in, getD_map, getD_lt, Heap.set_ne, wrap_tdiv, tmod_nn, tdiv_nn, ↓reduceIte, eq_self, Nat.reduceEqDiff, Nat.reduceAdd, Nat.reduceSub, Nat.reduceMul, Nat.reduceLeDiff, Int.reduceNeg, Int.reduceToNat, Int.reduceLE, Int.reduceLT, Int.reduceEq, spec_CfgLeast.l0, cfgL]
  refine condK_if (fun c0 => ?_) (fun c0 => ?_)
  · simp (disch := omega) only [S, SL, Need_of, wrap_in, getD_map, getD_lt, Heap.set_ne, wrap_tdiv, tmod_nn, tdiv_nn, ↓reduceIte, eq_self, Nat.reduceEqDiff, Nat.reduceAdd, Nat.reduceSub, Nat.reduceMul, Nat.reduceLeDiff, Int.reduceNeg, Int.reduceToNat, Int.reduceLE, Int.reduceLT, Int.reduceEq]
    refine rowK.in fun b9 hb9 => ?_
    have ne9 := Heap.new_ne hb9
    simp (disch := omega) only [S, SL, Need_of, wrap_in, getD_map, getD_lt, Heap.set_ne, wrap_tdiv, tmod_nn, tdiv_nn, ↓reduceIte, eq_self, Nat.reduceEqDiff, Nat.reduceAdd, Nat.reduceSub, Nat.reduceMul, Nat.reduceLeDiff, Int.reduceNeg, Int.reduceToNat, Int.reduceLE, Int.reduceLT, Int.reduceEq, List.length_replicate]
    refine grownK.to (h0 := h.set b1 (.row 33 (cfgL c))) (Heap.le_trans (Heap.le_new hb) (Heap.le_new hb9)) hb fun b' hb' => ?_
    simp (disch := omega) only [S, SL, Need_of, wrap_in, getD_map, getD_lt, Heap.set_ne, wrap_tdiv, tmod_nn, tdiv_nn, ↓reduceIte, eq_self, Nat.reduceEqDiff, Nat.reduceAdd, Nat.reduceSub, Nat.reduceMul, Nat.reduceLeDiff, Int.reduceNeg, Int.reduceToNat, Int.reduceLE, Int.reduceLT, Int.reduceEq]
    refine next (k + 1, b') _ _ ⟨by simp only; omega, hb'⟩ (by simp only; omega) (by simp only [S, SL, ↓reduceIte, eq_self, Nat.reduceEqDiff, Nat.reduceAdd, Nat.reduceSub, Nat.reduceMul, Nat.reduceLeDiff, Int.reduceNeg, Int.reduceToNat, Int.reduceLE, Int.reduceLT, Int.reduceEq]) ?_
    have e : List.map iA (List.replicate (k + 1) (-1)) = (List.map iA (List.replicate k (-1))).take k ++ [iA (-1)] := by
      rw [List.take_of_length_le (by simp), List.replicate_succ', List.map_append]; rfl
    simp only [e]; exact Heap.le_refl _
  obtain rfl : k = c.heads.toNat := by omega
  simp (disch := omega) only [S, SL, Need_of, wrap_in, getD_map, getD_lt, Heap.set_ne, wrap_tdiv, tmod_nn, tdiv_nn, ↓reduceIte, eq_self, Nat.reduceEqDiff, Nat.reduceAdd, Nat.reduceSub, Nat.reduceMul, Nat.reduceLeDiff, Int.reduceNeg, Int.reduceToNat, Int.reduceLE, Int.reduceLT, Int.reduceEq]
  have hb3 := hb
  refine CK_loop (α := List Int × Bool) (fun x => [(1, .adr b1 0), (3, .own b c.heads.toNat), (5, bA x.2)]) (fun x => (h.set b1 (.row 33 (cfgL c))).set b (.row 3 (x.1.map iA)))
    (fun x => LeastOk c.heads x.1 ∧ (∃ j, x.1 = iterN (fun out => c.prods.foldl relax out) j (List.replicate c.heads.toNat (-1))) ∧ (x.2 = false → c.prods.foldl relax x.1 = x.1)) (fun x => 2 * gain x.1 + x.2.toNat) (List.replicate c.heads.toNat (-1), true) ?_ (Heap.le_refl _) ⟨⟨by simp, fun x hx => by rw [List.eq_of_mem_replicate hx]; omega⟩, ⟨0, rfl⟩, fun e => by cases e⟩ ?_
  · simp only [S, SL, ↓reduceIte, eq_self, Nat.reduceEqDiff, Nat.reduceAdd, Nat.reduceSub, Nat.reduceMul, Nat.reduceLeDiff, Int.reduceNeg, Int.reduceToNat, Int.reduceLE, Int.reduceLT, Int.reduceEq]
  · rintro R ⟨l0, again⟩ ⟨hl0, hj, hfix⟩ next
    simp only at hl0 hj hfix
    simp (disch := omega) only [S, SL, Need_of, wrap_in, getD_map, getD_lt, Heap.set_ne, wrap_tdiv, tmod_nn, tdiv_nn, ↓reduceIte, eq_self, Nat.reduceEqDiff, Nat.reduceAdd, Nat.reduceSub, Nat.reduceMul, Nat.reduceLeDiff, Int.reduceNeg, Int.reduceToNat, Int.reduceLE, Int.reduceLT, Int.reduceEq, spec_CfgLeast.l2]
    refine condK_bool (fun c1 => ?_) (fun c1 => ?_)
    · simp (disch := omega) only [S, SL, Need_of, wrap_in, getD_map, getD_lt, Heap.set_ne, wrap_tdiv, tmod_nn, tdiv_nn, ↓reduceIte, eq_self, Nat.reduceEqDiff, Nat.reduceAdd, Nat.reduceSub, Nat.reduceMul, Nat.reduceLeDiff, Int.reduceNeg, Int.reduceToNat, Int.reduceLE, Int.reduceLT, Int.reduceEq, cfgL]
      refine CK_loop (α := Nat × List Int × Bool) (fun x => [(1, .adr b1 0), (3, .own b c.heads.toNat), (5, bA x.2.2), (6, iA x.1)]) (fun x => (h.set b1 (.row 33 (cfgL c))).set b (.row 3 (x.2.1.map iA)))
        (fun x => x.1 ≤ c.prods.length ∧ LeastOk c.heads x.2.1 ∧ x.2.1 = (c.prods.take x.1).foldl relax l0 ∧ (x.2.2 = false → x.2.1 = l0) ∧ (x.2.2 = true → gain x.2.1 < gain l0)) (fun x => c.prods.length - x.1) (0, l0, false) ?_ (Heap.le_refl _) ⟨Nat.zero_le _, hl0, rfl, fun _ => rfl, fun e => by cases e⟩ ?_
      · simp only [S, SL, ↓reduceIte, eq_self, Nat.reduceEqDiff, Nat.reduceAdd, Nat.reduceSub, Nat.reduceMul, Nat.reduceLeDiff, Int.reduceNeg, Int.reduceToNat, Int.reduceLE, Int.reduceLT, Int.reduceEq]
      · rintro R' ⟨k, l, ag⟩ ⟨hk, hl, hfold, hno, hyes⟩ next'
        simp only at hk hl hfold hno hyes
        simp (disch := omega) only [S, SL, Need_of, wrap_in, getD_map, getD_lt, Heap.set_ne, wrap_tdiv, tmod_nn, tdiv_nn, ↓reduceIte, eq_self, Nat.reduceEqDiff, Nat.reduceAdd, Nat.reduceSub, Nat.reduceMul, Nat.reduceLeDiff, Int.reduceNeg, Int.reduceToNat, Int.reduceLE, Int.reduceLT, Int.reduceEq, spec_CfgLeast.l1, cfgL]
        refine condK_if (fun c2 => ?_) (fun c2 => ?_)
        · have hk' : k < c.prods.length := by omega
          obtain ⟨p1, p2, p3, p4⟩ := ok.prod hk'
          have hll : l.length = c.heads.toNat := hl.1
          have hi : c.prods[k].head.toNat < l.length := by omega
          have hi' : c.prods[k].head < (c.heads.toNat : Int) := by omega
          have hsr := lenOf_range l c.prods[k].body
          simp (disch := omega) only [S, SL, Need_of, wrap_in, getD_map, getD_lt, Heap.set_ne, wrap_tdiv, tmod_nn, tdiv_nn, ↓reduceIte, eq_self, Nat.reduceEqDiff, Nat.reduceAdd, Nat.reduceSub, Nat.reduceMul, Nat.reduceLeDiff, Int.reduceNeg, Int.reduceToNat, Int.reduceLE, Int.reduceLT, Int.reduceEq, prdA, cfgL]
          refine callK.in (CALL.lendV (args := [.imm false (c.prods[k].body.map symA), .own b c.heads.toNat]) (ys := [.imm false (c.prods[k].body.map symA), intsI l]) rfl (vw_two (.refl _) (by rw [← hll]; exact vw_ints (e := 3) (by simp (disch := omega) only [S, SL, Need_of, wrap_in, getD_map, getD_lt, Heap.set_ne, wrap_tdiv, tmod_nn, tdiv_nn, ↓reduceIte, eq_self, Nat.reduceEqDiff, Nat.reduceAdd, Nat.reduceSub, Nat.reduceMul, Nat.reduceLeDiff, Int.reduceNeg, Int.reduceToNat, Int.reduceLE, Int.reduceLT, Int.reduceEq]))) (spec_l3Body.c p4 hl p3 hh.2) rfl ?_)
          have hstep : (c.prods.take (k + 1)).foldl relax l0 = relax l c.prods[k] := by rw [foldl_take hk', ← hfold]
          have hml : (l.map iA).length = c.heads.toNat := by rw [List.length_map, hll]
          have hv : l.getD c.prods[k].head.toNat (-1) = l[c.prods[k].head.toNat] := by simp [List.getD_eq_getElem?_getD, hi]
          have hvb := hl.2 _ (List.getElem_mem hi)
          simp (disch := omega) only [S, SL, Need_of, wrap_in, getD_map, getD_lt, Heap.set_ne, wrap_tdiv, tmod_nn, tdiv_nn, ↓reduceIte, eq_self, Nat.reduceEqDiff, Nat.reduceAdd, Nat.reduceSub, Nat.reduceMul, Nat.reduceLeDiff, Int.reduceNeg, Int.reduceToNat, Int.reduceLE, Int.reduceLT, Int.reduceEq, prdA, cfgL]
          repeat' ((first | refine gdK_if ?_ ?_ | refine condK_if ?_ ?_ | refine gdK_bool ?_ ?_ | refine condK_bool ?_ ?_) <;> intro hc <;> simp (disch := omega) only [S, SL, Need_of, wrap_in, getD_map, getD_lt, Heap.set_ne, wrap_tdiv, tmod_nn, tdiv_nn, ↓reduceIte, eq_self, Nat.reduceEqDiff, Nat.reduceAdd, Nat.reduceSub, Nat.reduceMul, Nat.reduceLeDiff, Int.reduceNeg, Int.reduceToNat, Int.reduceLE, Int.reduceLT, Int.reduceEq, hc, hml, List.getElem_map])
          all_goals try
            (have hc : ¬ (0 ≤ lenOf l c.prods[k].body ∧ (l.getD c.prods[k].head.toNat (-1) < 0 ∨ lenOf l c.prods[k].body < l.getD c.prods[k].head.toNat (-1))) := by rw [hv]; omega
             exact next' (k + 1, l, ag) _ _ ⟨by simp only; omega, hl, by simp only [hstep, relax_no hc], hno, hyes⟩ (by simp only; omega) (by simp only [S, SL, ↓reduceIte, eq_self, Nat.reduceEqDiff, Nat.reduceAdd, Nat.reduceSub, Nat.reduceMul, Nat.reduceLeDiff, Int.reduceNeg, Int.reduceToNat, Int.reduceLE, Int.reduceLT, Int.reduceEq]) (Heap.le_refl _))
          all_goals
            have hc : 0 ≤ lenOf l c.prods[k].body ∧ (l.getD c.prods[k].head.toNat (-1) < 0 ∨ lenOf l c.prods[k].body < l.getD c.prods[k].head.toNat (-1)) := by rw [hv]; omega
            have hg := relax_gain p1 hi p3 hc
            have hgl : gain l ≤ gain l0 := by
              cases ag with
              | false => rw [hno rfl]; exact Nat.le_refl _
              | true => exact Nat.le_of_lt (hyes rfl)
            refine next' (k + 1, l.set c.prods[k].head.toNat (lenOf l c.prods[k].body), true) _ _ ⟨by simp only; omega, by rw [← relax_yes hc]; exact relax_ok hl p3, by simp only [hstep, relax_yes hc], fun e => (by cases e), fun _ => (by simp only; omega)⟩ (by simp only; omega) (by simp only [S, SL, ↓reduceIte, eq_self, Nat.reduceEqDiff, Nat.reduceAdd, Nat.reduceSub, Nat.reduceMul, Nat.reduceLeDiff, Int.reduceNeg, Int.reduceToNat, Int.reduceLE, Int.reduceLT, Int.reduceEq]) ?_
            rw [set_iA]
            exact Heap.le_refl _
        · simp (disch := omega) only [S, SL, Need_of, wrap_in, getD_map, getD_lt, Heap.set_ne, wrap_tdiv, tmod_nn, tdiv_nn, ↓reduceIte, eq_self, Nat.reduceEqDiff, Nat.reduceAdd, Nat.reduceSub, Nat.reduceMul, Nat.reduceLeDiff, Int.reduceNeg, Int.reduceToNat, Int.reduceLE, Int.reduceLT, Int.reduceEq]
          obtain rfl : k = c.prods.length := by omega
          rw [List.take_length] at hfold
          refine next (l, ag) _ _ ⟨hl, ?_, fun e => ?_⟩ ?_ (by simp only [S, SL, ↓reduceIte, eq_self, Nat.reduceEqDiff, Nat.reduceAdd, Nat.reduceSub, Nat.reduceMul, Nat.reduceLeDiff, Int.reduceNeg, Int.reduceToNat, Int.reduceLE, Int.reduceLT, Int.reduceEq]) (Heap.le_refl _)
          · obtain ⟨j, hj⟩ := hj
            exact ⟨j + 1, by simp only [iterN, ← hj]; exact hfold⟩
          · simp only; simp only at e
            rw [hno e] at hfold ⊢; exact hfold.symm
          · simp only; subst c1
            cases ag with
            | false => rw [hno rfl]; simp
            | true => have := hyes rfl; simp; omega
    · simp (disch := omega) only [S, SL, Need_of, wrap_in, getD_map, getD_lt, Heap.set_ne, wrap_tdiv, tmod_nn, tdiv_nn, ↓reduceIte, eq_self, Nat.reduceEqDiff, Nat.reduceAdd, Nat.reduceSub, Nat.reduceMul, Nat.reduceLeDiff, Int.reduceNeg, Int.reduceToNat, Int.reduceLE, Int.reduceLT, Int.reduceEq]
      obtain ⟨j, hj⟩ := hj
      have e : leastV c = l0 := by rw [leastV, fixOf_eq (n := j) (by rw [← hj]; exact hfix c1), ← hj]
      have := hQ b (Heap.new_none hb3)
      rw [e, hl0.1] at this
      exact fin.of (Heap.set_mono (Heap.le_new hb1) _ _) this

/-- Own whole numbers, laid down for good. -/
theorem lay_ints {f : FuncId} {args : List AV} {l : List Int} {ty : TypeId} {h : Heap} {Q : AV → Heap → Prop} (hc : ∀ {Q' : AV → Heap → Prop}, (∀ b, h b = none → Q' (.own b l.length) (h.set b (.row ty (l.map iA)))) → CALL Try.prog f args h Q') (hQ : Q (intsI l) h) : CALL Try.prog f args h Q := by
  refine CALL.lay (hc (Q' := fun r h' => ∃ b, h b = none ∧ r = .own b l.length ∧ h' = h.set b (.row ty (l.map iA))) fun b hb => ⟨b, hb, rfl, rfl⟩) ?_
  rintro r h' ⟨b, hb, rfl, rfl⟩
  exact ⟨h, intsI l, Heap.le_new hb, vw_ints (e := ty) (by simp [Heap.minus, hb, Heap.set_same]), hQ⟩
theorem impl_Cfg_least.i {c : Cfg} (ok : CfgOk c) {h : Heap} {Q : AV → Heap → Prop} (hQ : Q (intsI (leastV c)) h) : CALL Try.prog impl_Cfg_least.id [cfgA c] h Q := lay_ints (impl_Cfg_least.c ok) hQ
theorem spec_CfgLeast.i {c : Cfg} (ok : CfgOk c) {h : Heap} {Q : AV → Heap → Prop} (hQ : Q (intsI (leastV c)) h) : CALL Try.prog spec_CfgLeast.id [cfgA c] h Q := lay_ints (spec_CfgLeast.c ok) hQ
end Go.Proofs.Ytabbipdkbdojiaa
