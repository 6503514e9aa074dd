/- The bytes that a chart waits for, as both have them. No condition. -/
import Derived.Test.YtabbipdkbdojiaaChart3
namespace Go.Ab
open Go
open Classical
/-- Which bytes are waited for by these items. -/
noncomputable def upTo (t : Cfg) (l : List Itm) : List Bool := (List.range 256).map fun b => decide (∃ x ∈ l, waitsB t x b)
theorem upTo_len (t : Cfg) (l : List Itm) : (upTo t l).length = 256 := by simp [upTo]
theorem upTo_nil (t : Cfg) : upTo t [] = List.replicate 256 false := by
  apply List.ext_getElem
  · rw [upTo_len, List.length_replicate]
  · intro i h1 h2
    rw [List.getElem_replicate]
    simp only [upTo, List.getElem_map]
    exact decide_eq_false fun ⟨x, hx, _⟩ => by cases hx
/-- While a part's bytes are marked: up to this one. -/
noncomputable def partB (t : Cfg) (l : List Itm) (s : Sym) (b : Int) : List Bool := (List.range 256).map fun i => (upTo t l).getD i false || decide (s.low ≤ i ∧ (i : Int) < b)
theorem part_len (t : Cfg) (l : List Itm) (s : Sym) (b : Int) : (partB t l s b).length = 256 := by simp [partB]
theorem part_zero (t : Cfg) (l : List Itm) (s : Sym) : partB t l s s.low = upTo t l := by
  apply List.ext_getElem
  · simp [partB, upTo]
  · intro i h1 h2
    have : ¬ (s.low ≤ i ∧ (i : Int) < s.low) := by omega
    simp only [partB, List.getElem_map, List.getElem_range, decide_eq_false this, Bool.or_false]
    rw [List.getD_eq_getElem?_getD, List.getElem?_eq_getElem h2]; rfl
theorem part_succ (t : Cfg) (l : List Itm) (s : Sym) (b : Int) (h0 : s.low ≤ b) (h1 : 0 ≤ b ∧ b ≤ 255) : (partB t l s b).set b.toNat true = partB t l s (b + 1) := by
  apply List.ext_getElem
  · simp [partB]
  · intro i g1 g2
    rw [List.getElem_set]
    simp only [partB, List.getElem_map, List.getElem_range]
    split
    · rename_i e
      rw [decide_eq_true (by omega : s.low ≤ (i : Int) ∧ (i : Int) < b + 1), Bool.or_true]
    · rename_i e
      congr 1
      exact decide_eq_decide.2 (by omega)
theorem part_done (t : Cfg) (l : List Itm) (x : Itm) (s : Sym) (hs : nextV t x = some s) (h : s.head < 0) : partB t l s (s.high + 1) = upTo t (l ++ [x]) := by
  apply List.ext_getElem
  · simp [partB, upTo]
  · intro i g1 g2
    have hi : i < 256 := by simpa [partB] using g1
    simp only [partB, upTo, List.getElem_map, List.getElem_range]
    rw [List.getD_eq_getElem?_getD, List.getElem?_map, List.getElem?_range hi]
    simp only [Option.map_some, Option.getD_some]
    rw [Bool.eq_iff_iff, Bool.or_eq_true, decide_eq_true_iff, decide_eq_true_iff, decide_eq_true_iff]
    refine ⟨?_, ?_⟩
    · rintro (⟨y, hy, hw⟩ | hw)
      · exact ⟨y, List.mem_append.2 (.inl hy), hw⟩
      · exact ⟨x, List.mem_append.2 (.inr (by simp)), s, hs, h, hw.1, by omega⟩
    · rintro ⟨y, hy, hw⟩
      rcases List.mem_append.1 hy with hy | hy
      · exact .inl ⟨y, hy, hw⟩
      · obtain rfl : y = x := by simpa using hy
        obtain ⟨s', h1, h2, h3, h4⟩ := hw
        rw [hs] at h1; cases h1
        exact .inr ⟨h3, by omega⟩
theorem upTo_not (t : Cfg) (l : List Itm) (x : Itm) (h : ∀ s, nextV t x = some s → ¬ s.head < 0) : upTo t (l ++ [x]) = upTo t l := by
  apply List.ext_getElem
  · simp [upTo]
  · intro i g1 g2
    simp only [upTo, List.getElem_map, List.getElem_range]
    refine decide_eq_decide.2 ⟨?_, ?_⟩
    · rintro ⟨y, hy, hw⟩
      rcases List.mem_append.1 hy with hy | hy
      · exact ⟨y, hy, hw⟩
      · obtain rfl : y = x := by simpa using hy
        obtain ⟨s', h1, h2, -⟩ := hw
        exact absurd h2 (h _ h1)
    · rintro ⟨y, hy, hw⟩
      exact ⟨y, List.mem_append.2 (.inl hy), hw⟩
theorem expect_full (t : Cfg) (c : Cht) (h : c.sets.length = 81) : expectV t c = List.replicate 256 false := by
  apply List.ext_getElem
  · rw [expectV, List.length_map, List.length_range, List.length_replicate]
  · intro i g1 g2
    rw [List.getElem_replicate]
    simp only [expectV, List.getElem_map]
    exact decide_eq_false fun hx => hx.1 h
theorem expect_eq (t : Cfg) (c : Cht) (h : c.sets.length ≠ 81) : expectV t c = upTo t (lastV c) := by
  apply List.ext_getElem
  · rw [expectV, upTo, List.length_map, List.length_map]
  · intro i g1 g2
    simp only [expectV, upTo, List.getElem_map]
    exact decide_eq_decide.2 ⟨fun hx => hx.2, fun hx => ⟨h, hx⟩⟩
end Go.Ab
namespace Go.Ab
theorem rowK.as {P : Program} {e : Nat → AV} {h : Heap} {t : Tl} {ty : TypeId} {n : Nat} {cells cells' : List AV} (hc : cells = cells') (hb : ∀ b, h b = none → on P t e (h.set b (.row ty cells')) (.own b n)) : rowK P ty n cells e h t := by subst hc; exact rowK.in hb
/-- The bytes that a chart waits for, if all is in form. -/
noncomputable def nextB (p : Cfg) (c : Cht) : List Bool := if CfgOk p ∧ ChartIn (trimV p) c then expectV (trimV p) c else List.replicate 256 false
theorem take_next {t : Cfg} {l : List Itm} {k : Nat} (hk : k < l.length) : upTo t (l.take (k + 1)) = upTo t (l.take k ++ [l[k]]) := by rw [List.take_succ_eq_append_getElem hk]
end Go.Ab
namespace Go.Proofs.Ytabbipdkbdojiaa
open Go Go.Ab
set_option linter.unusedVariables false
set_option linter.unusedSimpArgs false

set_option maxRecDepth 20000 in
set_option maxHeartbeats 4000000 in
theorem impl_Cfg_expected.c {t : Cfg} (okt : CfgOk t) {c : Cht} (f : ChtFit c) (ci : ChartIn t c) {h : Heap} {Q : AV → Heap → Prop} (hQ : ∀ b, h b = none → Q (.own b 256) (h.set b (.row 4 ((expectV t c).map bA)))) : CALL Try.prog impl_Cfg_expected.id [cfgA t, chartA c] h Q := by
  refine CALL_by mixed impl_Cfg_expected.tr (Nat.le_of_ble_eq_true rfl) ?_
  have hlen := okt.len
  have f0 := ci.len
  have f1 := f.len
  have f2 := lastV_fit f ci.len.1
  simp (disch := omega) only [S, SL, Need_of, wrap_in, getD_map, getD_lt, Heap.set_ne, wrap_tdiv, tmod_nn, tdiv_nn, ↓reduceIte, eq_self, Nat.reduceEqDiff, Nat.reduceAdd, Nat.reduceSub, Nat.reduceMul, Nat.reduceLeDiff, Int.reduceNeg, Int.reduceToNat, Int.reduceLE, Int.reduceLT, Int.reduceEq, impl_Cfg_expected.g, cfgA, chartA]
  refine allocK.in fun b2 hb2 => ?_
  simp (disch := omega) only [S, SL, Need_of, wrap_in, getD_map, getD_lt, Heap.set_ne, wrap_tdiv, tmod_nn, tdiv_nn, ↓reduceIte, eq_self, Nat.reduceEqDiff, Nat.reduceAdd, Nat.reduceSub, Nat.reduceMul, Nat.reduceLeDiff, Int.reduceNeg, Int.reduceToNat, Int.reduceLE, Int.reduceLT, Int.reduceEq]
  refine allocK.in fun b3 hb3 => ?_
  have n3 := Heap.new_ne hb3
  simp (disch := omega) only [S, SL, Need_of, wrap_in, getD_map, getD_lt, Heap.set_ne, wrap_tdiv, tmod_nn, tdiv_nn, ↓reduceIte, eq_self, Nat.reduceEqDiff, Nat.reduceAdd, Nat.reduceSub, Nat.reduceMul, Nat.reduceLeDiff, Int.reduceNeg, Int.reduceToNat, Int.reduceLE, Int.reduceLT, Int.reduceEq]
  refine rowK.as (cells' := (upTo t []).map bA) (by rw [upTo_nil]; rfl) fun b5 hb5 => ?_
  have n5 := Heap.new_ne hb5
  have n52 := Heap.new_ne (Heap.new_none hb5)
  have hb52 : h.set b2 (.row 33 (cfgL t)) b5 = none := Heap.new_none hb5
  have hb5' : h b5 = none := Heap.new_none hb52
  simp (disch := omega) only [S, SL, Need_of, wrap_in, getD_map, getD_lt, Heap.set_ne, wrap_tdiv, tmod_nn, tdiv_nn, ↓reduceIte, eq_self, Nat.reduceEqDiff, Nat.reduceAdd, Nat.reduceSub, Nat.reduceMul, Nat.reduceLeDiff, Int.reduceNeg, Int.reduceToNat, Int.reduceLE, Int.reduceLT, Int.reduceEq, chartL]
  refine condK_if (fun c1 => ?_) (fun c1 => ?_)
  · simp (disch := omega) only [S, SL, Need_of, wrap_in, getD_map, getD_lt, Heap.set_ne, wrap_tdiv, tmod_nn, tdiv_nn, ↓reduceIte, eq_self, Nat.reduceEqDiff, Nat.reduceAdd, Nat.reduceSub, Nat.reduceMul, Nat.reduceLeDiff, Int.reduceNeg, Int.reduceToNat, Int.reduceLE, Int.reduceLT, Int.reduceEq]
    have := hQ b5 hb5'
    rw [expect_full t c (by omega), ← upTo_nil t] at this
    exact fin.of (Heap.set_mono (Heap.le_trans (Heap.le_new hb2) (Heap.le_new hb3)) _ _) this
  simp (disch := omega) only [S, SL, Need_of, wrap_in, getD_map, getD_lt, Heap.set_ne, wrap_tdiv, tmod_nn, tdiv_nn, ↓reduceIte, eq_self, Nat.reduceEqDiff, Nat.reduceAdd, Nat.reduceSub, Nat.reduceMul, Nat.reduceLeDiff, Int.reduceNeg, Int.reduceToNat, Int.reduceLE, Int.reduceLT, Int.reduceEq, chartL]
  refine callK.in (impl_lastSet.c ci.len.1 f ?_)
  simp (disch := omega) only [S, SL, Need_of, wrap_in, getD_map, getD_lt, Heap.set_ne, wrap_tdiv, tmod_nn, tdiv_nn, ↓reduceIte, eq_self, Nat.reduceEqDiff, Nat.reduceAdd, Nat.reduceSub, Nat.reduceMul, Nat.reduceLeDiff, Int.reduceNeg, Int.reduceToNat, Int.reduceLE, Int.reduceLT, Int.reduceEq]
  refine CK_loop (α := Nat) (fun k => [(2, .adr b2 0), (5, .own b5 256), (18, .imm false ((lastV c).map itmA)), (19, iA (lastV c).length), (20, iA k)]) (fun k => (h.set b2 (.row 33 (cfgL t))).set b5 (.row 4 ((upTo t ((lastV c).take k)).map bA)))
    (fun k => k ≤ (lastV c).length) (fun k => (lastV c).length - k) 0 ?_ ?_ (Nat.zero_le _) ?_
  · simp only [S, SL, ↓reduceIte, eq_self, Nat.reduceEqDiff, Nat.reduceAdd, Nat.reduceSub, Nat.reduceMul, Nat.reduceLeDiff, Int.reduceNeg, Int.reduceToNat, Int.reduceLE, Int.reduceLT, Int.reduceEq]
  · rw [List.take_zero]; exact Heap.set_mono (Heap.le_new hb3) _ _
  rintro R k hk next
  simp (disch := omega) only [S, SL, Need_of, wrap_in, getD_map, getD_lt, Heap.set_ne, wrap_tdiv, tmod_nn, tdiv_nn, ↓reduceIte, eq_self, Nat.reduceEqDiff, Nat.reduceAdd, Nat.reduceSub, Nat.reduceMul, Nat.reduceLeDiff, Int.reduceNeg, Int.reduceToNat, Int.reduceLE, Int.reduceLT, Int.reduceEq, impl_Cfg_expected.l1]
  refine condK_if (fun c3 => ?_) (fun c3 => ?_)
  · have hk' : k < (lastV c).length := by omega
    have it := ci.last (List.getElem_mem hk')
    have tk := take_next (t := t) hk'
    simp (disch := omega) only [S, SL, Need_of, wrap_in, getD_map, getD_lt, Heap.set_ne, wrap_tdiv, tmod_nn, tdiv_nn, ↓reduceIte, eq_self, Nat.reduceEqDiff, Nat.reduceAdd, Nat.reduceSub, Nat.reduceMul, Nat.reduceLeDiff, Int.reduceNeg, Int.reduceToNat, Int.reduceLE, Int.reduceLT, Int.reduceEq, itmA]
    refine allocK.in fun b7 hb7 => ?_
    have n7 := Heap.new_ne hb7
    have n72 := Heap.new_ne (Heap.new_none hb7)
    simp (disch := omega) only [S, SL, Need_of, wrap_in, getD_map, getD_lt, Heap.set_ne, wrap_tdiv, tmod_nn, tdiv_nn, ↓reduceIte, eq_self, Nat.reduceEqDiff, Nat.reduceAdd, Nat.reduceSub, Nat.reduceMul, Nat.reduceLeDiff, Int.reduceNeg, Int.reduceToNat, Int.reduceLE, Int.reduceLT, Int.reduceEq, cfgL]
    refine callK.in (impl_Cfg_next.c (t := t) (x := (lastV c)[k]) it (fun nx => ?_) (fun s nx => ?_))
    · simp (disch := omega) only [S, SL, Need_of, wrap_in, getD_map, getD_lt, Heap.set_ne, wrap_tdiv, tmod_nn, tdiv_nn, ↓reduceIte, eq_self, Nat.reduceEqDiff, Nat.reduceAdd, Nat.reduceSub, Nat.reduceMul, Nat.reduceLeDiff, Int.reduceNeg, Int.reduceToNat, Int.reduceLE, Int.reduceLT, Int.reduceEq]
      refine allocK.in fun b8 hb8 => ?_
      simp (disch := omega) only [S, SL, Need_of, wrap_in, getD_map, getD_lt, Heap.set_ne, wrap_tdiv, tmod_nn, tdiv_nn, ↓reduceIte, eq_self, Nat.reduceEqDiff, Nat.reduceAdd, Nat.reduceSub, Nat.reduceMul, Nat.reduceLeDiff, Int.reduceNeg, Int.reduceToNat, Int.reduceLE, Int.reduceLT, Int.reduceEq]
      rw [upTo_not t _ _ (fun s hs => by rw [nx] at hs; cases hs)] at tk
      exact next (k + 1) _ _ (by omega) (by omega) (by simp only [S, SL, ↓reduceIte, eq_self, Nat.reduceEqDiff, Nat.reduceAdd, Nat.reduceSub, Nat.reduceMul, Nat.reduceLeDiff, Int.reduceNeg, Int.reduceToNat, Int.reduceLE, Int.reduceLT, Int.reduceEq]) (by rw [tk]; exact Heap.le_trans (Heap.le_new hb7) (Heap.le_new hb8))
    · have so := nextV_ok okt it nx
      simp (disch := omega) only [S, SL, Need_of, wrap_in, getD_map, getD_lt, Heap.set_ne, wrap_tdiv, tmod_nn, tdiv_nn, ↓reduceIte, eq_self, Nat.reduceEqDiff, Nat.reduceAdd, Nat.reduceSub, Nat.reduceMul, Nat.reduceLeDiff, Int.reduceNeg, Int.reduceToNat, Int.reduceLE, Int.reduceLT, Int.reduceEq]
      refine allocK.in fun b8 hb8 => ?_
      have n8 := Heap.new_ne hb8
      have n85 := Heap.new_ne (Heap.new_none hb8)
      have hb8' : h.set b2 (.row 33 (cfgL t)) b8 = none := Heap.new_none (Heap.new_none hb8)
      simp (disch := omega) only [S, SL, Need_of, wrap_in, getD_map, getD_lt, Heap.set_ne, wrap_tdiv, tmod_nn, tdiv_nn, ↓reduceIte, eq_self, Nat.reduceEqDiff, Nat.reduceAdd, Nat.reduceSub, Nat.reduceMul, Nat.reduceLeDiff, Int.reduceNeg, Int.reduceToNat, Int.reduceLE, Int.reduceLT, Int.reduceEq, symA]
      refine condK_if (fun c4 => ?_) (fun c4 => ?_)
      · have so' : 0 ≤ s.low ∧ s.low ≤ s.high ∧ s.high ≤ 255 := by unfold SymOk at so; omega
        simp (disch := omega) only [S, SL, Need_of, wrap_in, getD_map, getD_lt, Heap.set_ne, wrap_tdiv, tmod_nn, tdiv_nn, ↓reduceIte, eq_self, Nat.reduceEqDiff, Nat.reduceAdd, Nat.reduceSub, Nat.reduceMul, Nat.reduceLeDiff, Int.reduceNeg, Int.reduceToNat, Int.reduceLE, Int.reduceLT, Int.reduceEq, symA]
        refine CK_loop (α := Nat) (fun j => [(2, .adr b2 0), (5, .own b5 256), (8, .adr b8 0), (10, iA (s.low + j)), (18, .imm false ((lastV c).map itmA)), (19, iA (lastV c).length), (20, iA k)]) (fun j => ((h.set b2 (.row 33 (cfgL t))).set b8 (.row 94 (symA s))).set b5 (.row 4 ((partB t ((lastV c).take k) s (s.low + j)).map bA)))
          (fun j => s.low + j ≤ s.high + 1) (fun j => (s.high + 1 - s.low).toNat - j) 0 ?_ ?_ (by omega) ?_
        · simp only [S, SL, ↓reduceIte, eq_self, Nat.reduceEqDiff, Nat.reduceAdd, Nat.reduceSub, Nat.reduceMul, Nat.reduceLeDiff, Int.reduceNeg, Int.reduceToNat, Int.reduceLE, Int.reduceLT, Int.reduceEq, Int.add_zero]
        · simp only [Int.natCast_zero, Int.add_zero, part_zero]
          rw [Heap.set_comm _ _ _ n85]
          exact Heap.set_mono (Heap.le_new hb7) _ _
        · rintro R' j hj next'
          simp (disch := omega) only [S, SL, Need_of, wrap_in, getD_map, getD_lt, Heap.set_ne, wrap_tdiv, tmod_nn, tdiv_nn, ↓reduceIte, eq_self, Nat.reduceEqDiff, Nat.reduceAdd, Nat.reduceSub, Nat.reduceMul, Nat.reduceLeDiff, Int.reduceNeg, Int.reduceToNat, Int.reduceLE, Int.reduceLT, Int.reduceEq, impl_Cfg_expected.l0, symA]
          refine condK_if (fun c5 => ?_) (fun c5 => ?_)
          · have hl : ((partB t ((lastV c).take k) s (s.low + j)).map bA).length = 256 := by rw [List.length_map, part_len]
            have hb256 : s.low + (j : Int) < 256 := by omega
            have e2 : (s.low + (j : Int)).toNat < 256 := by omega
            simp (disch := omega) only [S, SL, Need_of, wrap_in, getD_map, getD_lt, Heap.set_ne, wrap_tdiv, tmod_nn, tdiv_nn, ↓reduceIte, eq_self, Nat.reduceEqDiff, Nat.reduceAdd, Nat.reduceSub, Nat.reduceMul, Nat.reduceLeDiff, Int.reduceNeg, Int.reduceToNat, Int.reduceLE, Int.reduceLT, Int.reduceEq, hl]
            refine next' (j + 1) _ _ (by omega) (by omega) (by simp only [S, SL, ↓reduceIte, eq_self, Nat.reduceEqDiff, Nat.reduceAdd, Nat.reduceSub, Nat.reduceMul, Nat.reduceLeDiff, Int.reduceNeg, Int.reduceToNat, Int.reduceLE, Int.reduceLT, Int.reduceEq, Int.natCast_add, Int.add_assoc]) ?_
            have ej : s.low + ((j + 1 : Nat) : Int) = s.low + j + 1 := by omega
            simp only [ej, ← part_succ t _ s (s.low + j) (by omega) (by omega), List.map_set]
            exact Heap.le_refl _
          · simp (disch := omega) only [S, SL, Need_of, wrap_in, getD_map, getD_lt, Heap.set_ne, wrap_tdiv, tmod_nn, tdiv_nn, ↓reduceIte, eq_self, Nat.reduceEqDiff, Nat.reduceAdd, Nat.reduceSub, Nat.reduceMul, Nat.reduceLeDiff, Int.reduceNeg, Int.reduceToNat, Int.reduceLE, Int.reduceLT, Int.reduceEq]
            have ej : s.low + (j : Int) = s.high + 1 := by omega
            rw [ej, part_done t _ _ s nx c4, ← tk]
            exact next (k + 1) _ _ (by omega) (by omega) (by simp only [S, SL, ↓reduceIte, eq_self, Nat.reduceEqDiff, Nat.reduceAdd, Nat.reduceSub, Nat.reduceMul, Nat.reduceLeDiff, Int.reduceNeg, Int.reduceToNat, Int.reduceLE, Int.reduceLT, Int.reduceEq]) (Heap.set_mono (Heap.le_new hb8') _ _)
      · simp (disch := omega) only [S, SL, Need_of, wrap_in, getD_map, getD_lt, Heap.set_ne, wrap_tdiv, tmod_nn, tdiv_nn, ↓reduceIte, eq_self, Nat.reduceEqDiff, Nat.reduceAdd, Nat.reduceSub, Nat.reduceMul, Nat.reduceLeDiff, Int.reduceNeg, Int.reduceToNat, Int.reduceLE, Int.reduceLT, Int.reduceEq]
        rw [upTo_not t _ _ (fun s' hs => by rw [nx] at hs; cases hs; exact c4)] at tk
        exact next (k + 1) _ _ (by omega) (by omega) (by simp only [S, SL, ↓reduceIte, eq_self, Nat.reduceEqDiff, Nat.reduceAdd, Nat.reduceSub, Nat.reduceMul, Nat.reduceLeDiff, Int.reduceNeg, Int.reduceToNat, Int.reduceLE, Int.reduceLT, Int.reduceEq]) (by rw [tk]; exact Heap.le_trans (Heap.le_new hb7) (Heap.le_new hb8))
  · simp (disch := omega) only [S, SL, Need_of, wrap_in, getD_map, getD_lt, Heap.set_ne, wrap_tdiv, tmod_nn, tdiv_nn, ↓reduceIte, eq_self, Nat.reduceEqDiff, Nat.reduceAdd, Nat.reduceSub, Nat.reduceMul, Nat.reduceLeDiff, Int.reduceNeg, Int.reduceToNat, Int.reduceLE, Int.reduceLT, Int.reduceEq]
    obtain rfl : k = (lastV c).length := by omega
    have := hQ b5 hb5'
    rw [expect_eq t c (by omega)] at this
    rw [List.take_length]
    exact fin.of (Heap.set_mono (Heap.le_new hb2) _ _) this

set_option maxRecDepth 20000 in
theorem impl_ChartNext.c {p : Cfg} {c : Cht} (f : ChtFit c) {h : Heap} {Q : AV → Heap → Prop} (hQ : ∀ b, h b = none → Q (.own b 256) (h.set b (.row 4 ((nextB p c).map bA)))) : CALL Try.prog impl_ChartNext.id [cfgA p, chartA c] h Q := by
  refine CALL_by mixed impl_ChartNext.tr (Nat.le_of_ble_eq_true rfl) ?_
  simp (disch := omega) only [S, SL, Need_of, wrap_in, getD_map, getD_lt, Heap.set_ne, wrap_tdiv, tmod_nn, tdiv_nn, ↓reduceIte, eq_self, Nat.reduceEqDiff, Nat.reduceAdd, Nat.reduceSub, Nat.reduceMul, Nat.reduceLeDiff, Int.reduceNeg, Int.reduceToNat, Int.reduceLE, Int.reduceLT, Int.reduceEq, impl_ChartNext.g, cfgA, chartA]
  refine allocK.in fun b2 hb2 => ?_
  simp (disch := omega) only [S, SL, Need_of, wrap_in, getD_map, getD_lt, Heap.set_ne, wrap_tdiv, tmod_nn, tdiv_nn, ↓reduceIte, eq_self, Nat.reduceEqDiff, Nat.reduceAdd, Nat.reduceSub, Nat.reduceMul, Nat.reduceLeDiff, Int.reduceNeg, Int.reduceToNat, Int.reduceLE, Int.reduceLT, Int.reduceEq]
  refine allocK.in fun b3 hb3 => ?_
  have n3 := Heap.new_ne hb3
  simp (disch := omega) only [S, SL, Need_of, wrap_in, getD_map, getD_lt, Heap.set_ne, wrap_tdiv, tmod_nn, tdiv_nn, ↓reduceIte, eq_self, Nat.reduceEqDiff, Nat.reduceAdd, Nat.reduceSub, Nat.reduceMul, Nat.reduceLeDiff, Int.reduceNeg, Int.reduceToNat, Int.reduceLE, Int.reduceLT, Int.reduceEq, cfgL, chartL]
  refine callK.in (impl_CfgOk.c (c := p) ?_)
  simp (disch := omega) only [S, SL, Need_of, wrap_in, getD_map, getD_lt, Heap.set_ne, wrap_tdiv, tmod_nn, tdiv_nn, ↓reduceIte, eq_self, Nat.reduceEqDiff, Nat.reduceAdd, Nat.reduceSub, Nat.reduceMul, Nat.reduceLeDiff, Int.reduceNeg, Int.reduceToNat, Int.reduceLE, Int.reduceLT, Int.reduceEq]
  refine condK_if (fun ok => ?_) (fun ok => ?_)
  · simp (disch := omega) only [S, SL, Need_of, wrap_in, getD_map, getD_lt, Heap.set_ne, wrap_tdiv, tmod_nn, tdiv_nn, ↓reduceIte, eq_self, Nat.reduceEqDiff, Nat.reduceAdd, Nat.reduceSub, Nat.reduceMul, Nat.reduceLeDiff, Int.reduceNeg, Int.reduceToNat, Int.reduceLE, Int.reduceLT, Int.reduceEq, cfgL]
    refine callK.in (impl_Cfg_trim.i ok ?_)
    simp (disch := omega) only [S, SL, Need_of, wrap_in, getD_map, getD_lt, Heap.set_ne, wrap_tdiv, tmod_nn, tdiv_nn, ↓reduceIte, eq_self, Nat.reduceEqDiff, Nat.reduceAdd, Nat.reduceSub, Nat.reduceMul, Nat.reduceLeDiff, Int.reduceNeg, Int.reduceToNat, Int.reduceLE, Int.reduceLT, Int.reduceEq, cfgA, cfgL]
    refine allocK.in fun b5 hb5 => ?_
    have n5 := Heap.new_ne hb5
    have n53 := Heap.new_ne (Heap.new_none hb5)
    simp (disch := omega) only [S, SL, Need_of, wrap_in, getD_map, getD_lt, Heap.set_ne, wrap_tdiv, tmod_nn, tdiv_nn, ↓reduceIte, eq_self, Nat.reduceEqDiff, Nat.reduceAdd, Nat.reduceSub, Nat.reduceMul, Nat.reduceLeDiff, Int.reduceNeg, Int.reduceToNat, Int.reduceLE, Int.reduceLT, Int.reduceEq, cfgL, chartL]
    refine callK.in (impl_Cfg_chartOk.c (trimV_ok ok) f ?_)
    simp (disch := omega) only [S, SL, Need_of, wrap_in, getD_map, getD_lt, Heap.set_ne, wrap_tdiv, tmod_nn, tdiv_nn, ↓reduceIte, eq_self, Nat.reduceEqDiff, Nat.reduceAdd, Nat.reduceSub, Nat.reduceMul, Nat.reduceLeDiff, Int.reduceNeg, Int.reduceToNat, Int.reduceLE, Int.reduceLT, Int.reduceEq]
    refine condK_if (fun ci => ?_) (fun ci => ?_)
    · simp (disch := omega) only [S, SL, Need_of, wrap_in, getD_map, getD_lt, Heap.set_ne, wrap_tdiv, tmod_nn, tdiv_nn, ↓reduceIte, eq_self, Nat.reduceEqDiff, Nat.reduceAdd, Nat.reduceSub, Nat.reduceMul, Nat.reduceLeDiff, Int.reduceNeg, Int.reduceToNat, Int.reduceLE, Int.reduceLT, Int.reduceEq, cfgL, chartL]
      refine callK.in (impl_Cfg_expected.c (trimV_ok ok) f ci fun b6 hb6 => ?_)
      simp (disch := omega) only [S, SL, Need_of, wrap_in, getD_map, getD_lt, Heap.set_ne, wrap_tdiv, tmod_nn, tdiv_nn, ↓reduceIte, eq_self, Nat.reduceEqDiff, Nat.reduceAdd, Nat.reduceSub, Nat.reduceMul, Nat.reduceLeDiff, Int.reduceNeg, Int.reduceToNat, Int.reduceLE, Int.reduceLT, Int.reduceEq]
      have := hQ b6 (Heap.new_none (Heap.new_none (Heap.new_none hb6)))
      rw [nextB, if_pos ⟨ok, ci⟩] at this
      exact fin.of (Heap.set_mono (Heap.le_trans (Heap.le_trans (Heap.le_new hb2) (Heap.le_new hb3)) (Heap.le_new hb5)) _ _) this
    · simp (disch := omega) only [S, SL, Need_of, wrap_in, getD_map, getD_lt, Heap.set_ne, wrap_tdiv, tmod_nn, tdiv_nn, ↓reduceIte, eq_self, Nat.reduceEqDiff, Nat.reduceAdd, Nat.reduceSub, Nat.reduceMul, Nat.reduceLeDiff, Int.reduceNeg, Int.reduceToNat, Int.reduceLE, Int.reduceLT, Int.reduceEq]
      refine rowK.as (cells' := (upTo p []).map bA) (by rw [upTo_nil]; rfl) fun b6 hb6 => ?_
      simp (disch := omega) only [S, SL, Need_of, wrap_in, getD_map, getD_lt, Heap.set_ne, wrap_tdiv, tmod_nn, tdiv_nn, ↓reduceIte, eq_self, Nat.reduceEqDiff, Nat.reduceAdd, Nat.reduceSub, Nat.reduceMul, Nat.reduceLeDiff, Int.reduceNeg, Int.reduceToNat, Int.reduceLE, Int.reduceLT, Int.reduceEq]
      have := hQ b6 (Heap.new_none (Heap.new_none (Heap.new_none hb6)))
      rw [nextB, if_neg fun x => ci x.2, ← upTo_nil p] at this
      exact fin.of (Heap.set_mono (Heap.le_trans (Heap.le_trans (Heap.le_new hb2) (Heap.le_new hb3)) (Heap.le_new hb5)) _ _) this
  · simp (disch := omega) only [S, SL, Need_of, wrap_in, getD_map, getD_lt, Heap.set_ne, wrap_tdiv, tmod_nn, tdiv_nn, ↓reduceIte, eq_self, Nat.reduceEqDiff, Nat.reduceAdd, Nat.reduceSub, Nat.reduceMul, Nat.reduceLeDiff, Int.reduceNeg, Int.reduceToNat, Int.reduceLE, Int.reduceLT, Int.reduceEq]
    refine rowK.as (cells' := (upTo p []).map bA) (by rw [upTo_nil]; rfl) fun b6 hb6 => ?_
    simp (disch := omega) only [S, SL, Need_of, wrap_in, getD_map, getD_lt, Heap.set_ne, wrap_tdiv, tmod_nn, tdiv_nn, ↓reduceIte, eq_self, Nat.reduceEqDiff, Nat.reduceAdd, Nat.reduceSub, Nat.reduceMul, Nat.reduceLeDiff, Int.reduceNeg, Int.reduceToNat, Int.reduceLE, Int.reduceLT, Int.reduceEq]
    have := hQ b6 (Heap.new_none (Heap.new_none hb6))
    rw [nextB, if_neg fun x => ok x.1, ← upTo_nil p] at this
    exact fin.of (Heap.set_mono (Heap.le_trans (Heap.le_new hb2) (Heap.le_new hb3)) _ _) this
end Go.Proofs.Ytabbipdkbdojiaa
namespace Go.Ab
open Go
theorem headN_byte {t : Cfg} {a : Nat} {x : Itm} (ok : CfgOk t) (h : ItemIn t a x) : headN t x = -1 ↔ ∃ s, nextV t x = some s ∧ s.head < 0 := by
  unfold headN
  cases hx : nextV t x with
  | none => simp
  | some s =>
    have := nextV_ok ok h hx
    unfold SymOk at this
    constructor
    · intro e; exact ⟨s, rfl, by simp only at e; omega⟩
    · rintro ⟨s', e, h'⟩; cases e; simp only; omega
end Go.Ab
namespace Go.Proofs.Ytabbipdkbdojiaa
open Go Go.Ab
set_option linter.unusedVariables false
set_option linter.unusedSimpArgs false

set_option maxRecDepth 20000 in
set_option maxHeartbeats 8000000 in
theorem spec_ChartNext.c {p : Cfg} {c : Cht} (f : ChtFit c) {h : Heap} {Q : AV → Heap → Prop} (hQ : ∀ b, h b = none → Q (.own b 256) (h.set b (.row 4 ((nextB p c).map bA)))) : CALL Try.prog spec_ChartNext.id [cfgA p, chartA c] h Q := by
  refine CALL_by mixed spec_ChartNext.tr (Nat.le_of_ble_eq_true rfl) ?_
  have f1 := f.len
  simp (disch := omega) only [S, SL, Need_of, wrap_in, getD_map, getD_lt, Heap.set_ne, wrap_tdiv, tmod_nn, tdiv_nn, ↓reduceIte, eq_self, Nat.reduceEqDiff, Nat.reduceAdd, Nat.reduceSub, Nat.reduceMul, Nat.reduceLeDiff, Int.reduceNeg, Int.reduceToNat, Int.reduceLE, Int.reduceLT, Int.reduceEq, spec_ChartNext.g, cfgA, chartA]
  refine allocK.in fun b2 hb2 => ?_
  simp (disch := omega) only [S, SL, Need_of, wrap_in, getD_map, getD_lt, Heap.set_ne, wrap_tdiv, tmod_nn, tdiv_nn, ↓reduceIte, eq_self, Nat.reduceEqDiff, Nat.reduceAdd, Nat.reduceSub, Nat.reduceMul, Nat.reduceLeDiff, Int.reduceNeg, Int.reduceToNat, Int.reduceLE, Int.reduceLT, Int.reduceEq]
  refine allocK.in fun b3 hb3 => ?_
  have n3 := Heap.new_ne hb3
  simp (disch := omega) only [S, SL, Need_of, wrap_in, getD_map, getD_lt, Heap.set_ne, wrap_tdiv, tmod_nn, tdiv_nn, ↓reduceIte, eq_self, Nat.reduceEqDiff, Nat.reduceAdd, Nat.reduceSub, Nat.reduceMul, Nat.reduceLeDiff, Int.reduceNeg, Int.reduceToNat, Int.reduceLE, Int.reduceLT, Int.reduceEq]
  refine rowK.as (cells' := (upTo p []).map bA) (by rw [upTo_nil]; rfl) fun b5 hb5 => ?_
  have n5 := Heap.new_ne hb5
  have n52 := Heap.new_ne (Heap.new_none hb5)
  have hb5' : h b5 = none := Heap.new_none (Heap.new_none hb5)
  have le3 : ∀ k3, h.le ((h.set b2 (.row 33 [iA p.heads, .imm false (p.prods.map prdA)])).set b3 k3) := fun k3 => Heap.le_trans (Heap.le_new hb2) (Heap.le_new hb3)
  have stop : ∀ {H : Heap}, h.le H → ¬ (CfgOk p ∧ ChartIn (trimV p) c ∧ c.sets.length ≠ 81) → fin (H.set b5 (.row 4 ((upTo p []).map bA))) Q (.own b5 256) := fun {H} hH hn => by
    refine fin.of (Heap.set_mono hH _ _) ?_
    have := hQ b5 hb5'
    have e : nextB p c = upTo p [] := by
      rw [nextB, upTo_nil]
      split
      · rename_i hh; exact expect_full _ _ (Classical.not_not.1 fun hx => hn ⟨hh.1, hh.2, hx⟩)
      · rfl
    rwa [e] at this
  simp (disch := omega) only [S, SL, Need_of, wrap_in, getD_map, getD_lt, Heap.set_ne, wrap_tdiv, tmod_nn, tdiv_nn, ↓reduceIte, eq_self, Nat.reduceEqDiff, Nat.reduceAdd, Nat.reduceSub, Nat.reduceMul, Nat.reduceLeDiff, Int.reduceNeg, Int.reduceToNat, Int.reduceLE, Int.reduceLT, Int.reduceEq, cfgL, chartL]
  refine callK.in (spec_CfgOk.c (c := p) ?_)
  simp (disch := omega) only [S, SL, Need_of, wrap_in, getD_map, getD_lt, Heap.set_ne, wrap_tdiv, tmod_nn, tdiv_nn, ↓reduceIte, eq_self, Nat.reduceEqDiff, Nat.reduceAdd, Nat.reduceSub, Nat.reduceMul, Nat.reduceLeDiff, Int.reduceNeg, Int.reduceToNat, Int.reduceLE, Int.reduceLT, Int.reduceEq]
  refine gdK_if (fun ok => ?_) (fun ok => ?_)
  · have d := decide_eq_true ok
    simp (disch := omega) only [S, SL, Need_of, wrap_in, getD_map, getD_lt, Heap.set_ne, wrap_tdiv, tmod_nn, tdiv_nn, ↓reduceIte, eq_self, Nat.reduceEqDiff, Nat.reduceAdd, Nat.reduceSub, Nat.reduceMul, Nat.reduceLeDiff, Int.reduceNeg, Int.reduceToNat, Int.reduceLE, Int.reduceLT, Int.reduceEq, d]
    repeat' (with_reducible apply And.intro)
    all_goals
      try simp (disch := omega) only [S, SL, Need_of, wrap_in, getD_map, getD_lt, Heap.set_ne, wrap_tdiv, tmod_nn, tdiv_nn, ↓reduceIte, eq_self, Nat.reduceEqDiff, Nat.reduceAdd, Nat.reduceSub, Nat.reduceMul, Nat.reduceLeDiff, Int.reduceNeg, Int.reduceToNat, Int.reduceLE, Int.reduceLT, Int.reduceEq, cfgL, chartL]
      refine callK.in (spec_CfgTrim.i ok ?_)
      simp (disch := omega) only [S, SL, Need_of, wrap_in, getD_map, getD_lt, Heap.set_ne, wrap_tdiv, tmod_nn, tdiv_nn, ↓reduceIte, eq_self, Nat.reduceEqDiff, Nat.reduceAdd, Nat.reduceSub, Nat.reduceMul, Nat.reduceLeDiff, Int.reduceNeg, Int.reduceToNat, Int.reduceLE, Int.reduceLT, Int.reduceEq, d, chartL]
      refine callK.in (spec_l11Ok.c (trimV_ok ok) f ?_)
      simp (disch := omega) only [S, SL, Need_of, wrap_in, getD_map, getD_lt, Heap.set_ne, wrap_tdiv, tmod_nn, tdiv_nn, ↓reduceIte, eq_self, Nat.reduceEqDiff, Nat.reduceAdd, Nat.reduceSub, Nat.reduceMul, Nat.reduceLeDiff, Int.reduceNeg, Int.reduceToNat, Int.reduceLE, Int.reduceLT, Int.reduceEq, d]
      refine gdK_if (fun ci => ?_) (fun ci => ?_)
      · have d2 := decide_eq_true ci
        have f0 := ci.len
        have f2 := lastV_fit f ci.len.1
        have hlen := (trimV_ok ok).len
        simp (disch := omega) only [S, SL, Need_of, wrap_in, getD_map, getD_lt, Heap.set_ne, wrap_tdiv, tmod_nn, tdiv_nn, ↓reduceIte, eq_self, Nat.reduceEqDiff, Nat.reduceAdd, Nat.reduceSub, Nat.reduceMul, Nat.reduceLeDiff, Int.reduceNeg, Int.reduceToNat, Int.reduceLE, Int.reduceLT, Int.reduceEq, d, d2, chartL]
        refine condK_if (fun c1 => ?_) (fun c1 => ?_)
        · simp (disch := omega) only [S, SL, Need_of, wrap_in, getD_map, getD_lt, Heap.set_ne, wrap_tdiv, tmod_nn, tdiv_nn, ↓reduceIte, eq_self, Nat.reduceEqDiff, Nat.reduceAdd, Nat.reduceSub, Nat.reduceMul, Nat.reduceLeDiff, Int.reduceNeg, Int.reduceToNat, Int.reduceLE, Int.reduceLT, Int.reduceEq]
          exact stop (le3 _) fun x => by omega
        simp (disch := omega) only [S, SL, Need_of, wrap_in, getD_map, getD_lt, Heap.set_ne, wrap_tdiv, tmod_nn, tdiv_nn, ↓reduceIte, eq_self, Nat.reduceEqDiff, Nat.reduceAdd, Nat.reduceSub, Nat.reduceMul, Nat.reduceLeDiff, Int.reduceNeg, Int.reduceToNat, Int.reduceLE, Int.reduceLT, Int.reduceEq, cfgL]
        refine callK.in (spec_CfgTrim.i ok ?_)
        simp (disch := omega) only [S, SL, Need_of, wrap_in, getD_map, getD_lt, Heap.set_ne, wrap_tdiv, tmod_nn, tdiv_nn, ↓reduceIte, eq_self, Nat.reduceEqDiff, Nat.reduceAdd, Nat.reduceSub, Nat.reduceMul, Nat.reduceLeDiff, Int.reduceNeg, Int.reduceToNat, Int.reduceLE, Int.reduceLT, Int.reduceEq, cfgA, cfgL]
        refine allocK.in fun b6 hb6 => ?_
        have n65 := Heap.new_ne hb6
        have hb6a := Heap.new_none hb6
        have n63 := Heap.new_ne hb6a
        have hb6' : h b6 = none := Heap.new_none (Heap.new_none hb6a)
        have e2 := (last_eq ci.len.1).symm
        simp (disch := omega) only [S, SL, Need_of, wrap_in, getD_map, getD_lt, Heap.set_ne, wrap_tdiv, tmod_nn, tdiv_nn, ↓reduceIte, eq_self, Nat.reduceEqDiff, Nat.reduceAdd, Nat.reduceSub, Nat.reduceMul, Nat.reduceLeDiff, Int.reduceNeg, Int.reduceToNat, Int.reduceLE, Int.reduceLT, Int.reduceEq, cfgL, chartL, setA, e2]
        refine CK_loop (α := Nat) (fun k => [(5, .own b5 256), (6, .adr b6 0), (7, .imm false ((lastV c).map itmA)), (8, iA k)]) (fun k => (h.set b6 (.row 33 (cfgL (trimV p)))).set b5 (.row 4 ((upTo (trimV p) ((lastV c).take k)).map bA)))
          (fun k => k ≤ (lastV c).length) (fun k => (lastV c).length - k) 0 ?_ ?_ (Nat.zero_le _) ?_
        · simp only [S, SL, ↓reduceIte, eq_self, Nat.reduceEqDiff, Nat.reduceAdd, Nat.reduceSub, Nat.reduceMul, Nat.reduceLeDiff, Int.reduceNeg, Int.reduceToNat, Int.reduceLE, Int.reduceLT, Int.reduceEq]
        · rw [List.take_zero, upTo_nil, ← upTo_nil p, Heap.set_comm _ _ _ n65.symm]
          exact Heap.set_mono (Heap.set_mono (le3 _) _ _) _ _
        rintro R k hk next
        simp (disch := omega) only [S, SL, Need_of, wrap_in, getD_map, getD_lt, Heap.set_ne, wrap_tdiv, tmod_nn, tdiv_nn, ↓reduceIte, eq_self, Nat.reduceEqDiff, Nat.reduceAdd, Nat.reduceSub, Nat.reduceMul, Nat.reduceLeDiff, Int.reduceNeg, Int.reduceToNat, Int.reduceLE, Int.reduceLT, Int.reduceEq, spec_ChartNext.l1]
        refine condK_if (fun c3 => ?_) (fun c3 => ?_)
        · have hk' : k < (lastV c).length := by omega
          have it := ci.last (List.getElem_mem hk')
          have tk := take_next (t := trimV p) hk'
          have hpl := it.prod_lt
          have it' := it
          obtain ⟨i1, i2, i3⟩ := it'
          have hpl' : (lastV c)[k].prod < ((trimV p).prods.length : Int) := by omega
          simp (disch := omega) only [S, SL, Need_of, wrap_in, getD_map, getD_lt, Heap.set_ne, wrap_tdiv, tmod_nn, tdiv_nn, ↓reduceIte, eq_self, Nat.reduceEqDiff, Nat.reduceAdd, Nat.reduceSub, Nat.reduceMul, Nat.reduceLeDiff, Int.reduceNeg, Int.reduceToNat, Int.reduceLE, Int.reduceLT, Int.reduceEq, cfgL, itmA]
          refine callK.in (spec_l11Head.c (t := trimV p) (x := (lastV c)[k]) it ?_)
          simp (disch := omega) only [S, SL, Need_of, wrap_in, getD_map, getD_lt, Heap.set_ne, wrap_tdiv, tmod_nn, tdiv_nn, ↓reduceIte, eq_self, Nat.reduceEqDiff, Nat.reduceAdd, Nat.reduceSub, Nat.reduceMul, Nat.reduceLeDiff, Int.reduceNeg, Int.reduceToNat, Int.reduceLE, Int.reduceLT, Int.reduceEq]
          refine condK_if (fun c4 => ?_) (fun c4 => ?_)
          · obtain ⟨s, nx, hs0⟩ := (headN_byte (trimV_ok ok) it).1 c4
            have so := nextV_ok (trimV_ok ok) it nx
            have so' : 0 ≤ s.low ∧ s.low ≤ s.high ∧ s.high ≤ 255 := by unfold SymOk at so; omega
            have hb := it.body
            have hd : (lastV c)[k].dot ≠ (bodyV (trimV p) (lastV c)[k]).length := fun e => by rw [(nextV_none it).2 e] at nx; cases nx
            obtain ⟨q1, q2⟩ := nextV_some it hd
            rw [nx] at q2
            have q3 : ((trimV p).prods[(lastV c)[k].prod.toNat]).body[(lastV c)[k].dot.toNat]'(by rw [← hb]; exact q1) = s := by
              have := Option.some.inj q2
              rw [this]; simp only [hb]
            have q4 : (lastV c)[k].dot < (((trimV p).prods[(lastV c)[k].prod.toNat]).body.length : Int) := by rw [← hb]; omega
            have q5 : (lastV c)[k].dot.toNat < ((trimV p).prods[(lastV c)[k].prod.toNat]).body.length := by omega
            simp (disch := omega) only [S, SL, Need_of, wrap_in, getD_map, getD_lt, Heap.set_ne, wrap_tdiv, tmod_nn, tdiv_nn, ↓reduceIte, eq_self, Nat.reduceEqDiff, Nat.reduceAdd, Nat.reduceSub, Nat.reduceMul, Nat.reduceLeDiff, Int.reduceNeg, Int.reduceToNat, Int.reduceLE, Int.reduceLT, Int.reduceEq, cfgL, itmA, prdA, symA, q3]
            refine allocK.in fun b9 hb9 => ?_
            have n95 := Heap.new_ne hb9
            have hb9' : h.set b6 (.row 33 (cfgL (trimV p))) b9 = none := Heap.new_none hb9
            simp (disch := omega) only [S, SL, Need_of, wrap_in, getD_map, getD_lt, Heap.set_ne, wrap_tdiv, tmod_nn, tdiv_nn, ↓reduceIte, eq_self, Nat.reduceEqDiff, Nat.reduceAdd, Nat.reduceSub, Nat.reduceMul, Nat.reduceLeDiff, Int.reduceNeg, Int.reduceToNat, Int.reduceLE, Int.reduceLT, Int.reduceEq, symA, q3]
            refine CK_loop (α := Nat) (fun j => [(5, .own b5 256), (6, .adr b6 0), (7, .imm false ((lastV c).map itmA)), (8, iA k), (9, .adr b9 0), (10, iA (s.low + j))]) (fun j => ((h.set b6 (.row 33 (cfgL (trimV p)))).set b9 (.row 94 (symA s))).set b5 (.row 4 ((partB (trimV p) ((lastV c).take k) s (s.low + j)).map bA)))
              (fun j => s.low + j ≤ s.high + 1) (fun j => (s.high + 1 - s.low).toNat - j) 0 ?_ ?_ (by omega) ?_
            · simp only [S, SL, ↓reduceIte, eq_self, Nat.reduceEqDiff, Nat.reduceAdd, Nat.reduceSub, Nat.reduceMul, Nat.reduceLeDiff, Int.reduceNeg, Int.reduceToNat, Int.reduceLE, Int.reduceLT, Int.reduceEq, Int.add_zero]
            · simp only [Int.natCast_zero, Int.add_zero, part_zero]
              rw [Heap.set_comm _ _ _ n95]
              exact Heap.le_refl _
            · rintro R' j hj next'
              simp (disch := omega) only [S, SL, Need_of, wrap_in, getD_map, getD_lt, Heap.set_ne, wrap_tdiv, tmod_nn, tdiv_nn, ↓reduceIte, eq_self, Nat.reduceEqDiff, Nat.reduceAdd, Nat.reduceSub, Nat.reduceMul, Nat.reduceLeDiff, Int.reduceNeg, Int.reduceToNat, Int.reduceLE, Int.reduceLT, Int.reduceEq, spec_ChartNext.l0, symA]
              refine condK_if (fun c5 => ?_) (fun c5 => ?_)
              · have hl : ((partB (trimV p) ((lastV c).take k) s (s.low + j)).map bA).length = 256 := by rw [List.length_map, part_len]
                have hb256 : s.low + (j : Int) < 256 := by omega
                have e2 : (s.low + (j : Int)).toNat < 256 := by omega
                simp (disch := omega) only [S, SL, Need_of, wrap_in, getD_map, getD_lt, Heap.set_ne, wrap_tdiv, tmod_nn, tdiv_nn, ↓reduceIte, eq_self, Nat.reduceEqDiff, Nat.reduceAdd, Nat.reduceSub, Nat.reduceMul, Nat.reduceLeDiff, Int.reduceNeg, Int.reduceToNat, Int.reduceLE, Int.reduceLT, Int.reduceEq, hl]
                refine next' (j + 1) _ _ (by omega) (by omega) (by simp only [S, SL, ↓reduceIte, eq_self, Nat.reduceEqDiff, Nat.reduceAdd, Nat.reduceSub, Nat.reduceMul, Nat.reduceLeDiff, Int.reduceNeg, Int.reduceToNat, Int.reduceLE, Int.reduceLT, Int.reduceEq, Int.natCast_add, Int.add_assoc]) ?_
                have ej : s.low + ((j + 1 : Nat) : Int) = s.low + j + 1 := by omega
                simp only [ej, ← part_succ (trimV p) _ s (s.low + j) (by omega) (by omega), List.map_set]
                exact Heap.le_refl _
              · simp (disch := omega) only [S, SL, Need_of, wrap_in, getD_map, getD_lt, Heap.set_ne, wrap_tdiv, tmod_nn, tdiv_nn, ↓reduceIte, eq_self, Nat.reduceEqDiff, Nat.reduceAdd, Nat.reduceSub, Nat.reduceMul, Nat.reduceLeDiff, Int.reduceNeg, Int.reduceToNat, Int.reduceLE, Int.reduceLT, Int.reduceEq]
                have ej : s.low + (j : Int) = s.high + 1 := by omega
                rw [ej, part_done (trimV p) _ _ s nx hs0, ← tk]
                exact next (k + 1) _ _ (by omega) (by omega) (by simp only [S, SL, ↓reduceIte, eq_self, Nat.reduceEqDiff, Nat.reduceAdd, Nat.reduceSub, Nat.reduceMul, Nat.reduceLeDiff, Int.reduceNeg, Int.reduceToNat, Int.reduceLE, Int.reduceLT, Int.reduceEq]) (Heap.set_mono (Heap.le_new hb9') _ _)
          · simp (disch := omega) only [S, SL, Need_of, wrap_in, getD_map, getD_lt, Heap.set_ne, wrap_tdiv, tmod_nn, tdiv_nn, ↓reduceIte, eq_self, Nat.reduceEqDiff, Nat.reduceAdd, Nat.reduceSub, Nat.reduceMul, Nat.reduceLeDiff, Int.reduceNeg, Int.reduceToNat, Int.reduceLE, Int.reduceLT, Int.reduceEq]
            rw [upTo_not (trimV p) _ _ (fun s' hs h0 => c4 ((headN_byte (trimV_ok ok) it).2 ⟨s', hs, h0⟩))] at tk
            exact next (k + 1) _ _ (by omega) (by omega) (by simp only [S, SL, ↓reduceIte, eq_self, Nat.reduceEqDiff, Nat.reduceAdd, Nat.reduceSub, Nat.reduceMul, Nat.reduceLeDiff, Int.reduceNeg, Int.reduceToNat, Int.reduceLE, Int.reduceLT, Int.reduceEq]) (by rw [tk]; exact Heap.le_refl _)
        · simp (disch := omega) only [S, SL, Need_of, wrap_in, getD_map, getD_lt, Heap.set_ne, wrap_tdiv, tmod_nn, tdiv_nn, ↓reduceIte, eq_self, Nat.reduceEqDiff, Nat.reduceAdd, Nat.reduceSub, Nat.reduceMul, Nat.reduceLeDiff, Int.reduceNeg, Int.reduceToNat, Int.reduceLE, Int.reduceLT, Int.reduceEq]
          obtain rfl : k = (lastV c).length := by omega
          have := hQ b5 hb5'
          rw [nextB, if_pos ⟨ok, ci⟩, expect_eq (trimV p) c (by omega)] at this
          rw [List.take_length]
          exact fin.of (Heap.set_mono (Heap.le_new hb6') _ _) this
      · have d2 := decide_eq_false ci
        simp (disch := omega) only [S, SL, Need_of, wrap_in, getD_map, getD_lt, Heap.set_ne, wrap_tdiv, tmod_nn, tdiv_nn, ↓reduceIte, eq_self, Nat.reduceEqDiff, Nat.reduceAdd, Nat.reduceSub, Nat.reduceMul, Nat.reduceLeDiff, Int.reduceNeg, Int.reduceToNat, Int.reduceLE, Int.reduceLT, Int.reduceEq, d, d2]
        exact stop (le3 _) fun x => ci x.2.1
  · have d := decide_eq_false ok
    simp (disch := omega) only [S, SL, Need_of, wrap_in, getD_map, getD_lt, Heap.set_ne, wrap_tdiv, tmod_nn, tdiv_nn, ↓reduceIte, eq_self, Nat.reduceEqDiff, Nat.reduceAdd, Nat.reduceSub, Nat.reduceMul, Nat.reduceLeDiff, Int.reduceNeg, Int.reduceToNat, Int.reduceLE, Int.reduceLT, Int.reduceEq, d]
    repeat' (with_reducible apply And.intro)
    all_goals
      exact stop (le3 _) fun x => ok x.1
end Go.Proofs.Ytabbipdkbdojiaa
