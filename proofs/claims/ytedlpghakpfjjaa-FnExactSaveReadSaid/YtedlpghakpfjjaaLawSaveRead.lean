/- The law FnExactSaveRead: over whatever bytes it answers true. Condition: the bytes are as arguments are read. -/
import Derived.Test.YtedlpghakpfjjaaCodeL6
import Derived.Test.YtedlpghakpfjjaaSaveReadS
import Derived.Test.YtedlpghakpfjjaaAb21
namespace Go.Ab
open Go
/-- What is read from bytes. -/
noncomputable def readC (bs : List UInt8) : Cfg × Bool := open Classical in if h : ∃ c, CfgOk c ∧ saveW c = bs then (h.choose, true) else (⟨0, []⟩, false)
theorem readC_yes {bs : List UInt8} {c : Cfg} (ok : CfgOk c) (hs : saveW c = bs) (hu : ∀ d, CfgOk d → saveW d = bs → d = c) : readC bs = (c, true) := by
  have h : ∃ c, CfgOk c ∧ saveW c = bs := ⟨c, ok, hs⟩
  rw [readC, dif_pos h, hu _ h.choose_spec.1 h.choose_spec.2]
theorem readC_no {bs : List UInt8} (h : ∀ c, CfgOk c → saveW c ≠ bs) : readC bs = (⟨0, []⟩, false) := by
  rw [readC, dif_neg]; rintro ⟨c, h1, h2⟩; exact h c h1 h2
theorem readC_ok {bs : List UInt8} : (CfgOk (readC bs).1 ∧ saveW (readC bs).1 = bs ∧ (readC bs).2 = true) ∨ readC bs = (⟨0, []⟩, false) := by
  unfold readC; split
  · rename_i h; exact .inl ⟨h.choose_spec.1, h.choose_spec.2, rfl⟩
  · exact .inr rfl
theorem CfgOk.size {c : Cfg} (ok : CfgOk c) : (c.prods.map szPrd).sum ≤ 160 * c.prods.length := by
  have key : ∀ l : List Prd, (∀ p ∈ l, p.body.length ≤ 160) → (l.map szPrd).sum ≤ 160 * l.length := by
    intro l
    induction l with
    | nil => intro _; simp
    | cons p l ih => intro h; have := ih fun q hq => h q (by simp [hq]); have := h p (by simp); simp only [List.map_cons, List.sum_cons, List.length_cons, szPrd] at *; omega
  refine key _ fun p hp => ?_
  obtain ⟨k, hk⟩ := List.getElem?_of_mem hp
  obtain ⟨h1, h2⟩ := List.getElem?_eq_some_iff.1 hk
  rw [← h2]; exact (ok.prods k h1).len
theorem readC_wf (bs : List UInt8) : CfgWf (readC bs).1 := by
  rcases readC_ok (bs := bs) with ⟨ok, _, _⟩ | e
  · have := ok.size; have := ok.len
    exact CfgWf.of_size (by unfold szCfgN sizeL; omega)
  · rw [e]; exact CfgWf.of_size (by simp [szCfgN, sizeL])
theorem IsPrds.tA_brand {t : Tree} (h : IsPrds t) (k : Int) : tA (Go.Ab.brand k t) = tA t := by cases h <;> rfl
theorem IsSyms.solid {t : Tree} (h : IsSyms t) : solidT t = true := by
  cases h with
  | nil => rfl
  | row b ty n cells hl a hc =>
    refine solidTL_all.2 fun t ht => ?_
    obtain ⟨j, hj⟩ := List.getElem?_of_mem ht
    have := (List.getElem?_eq_some_iff.1 hj).1
    rw [hc j (by omega)] at hj; cases hj; rfl
theorem IsPrds.solid {t : Tree} (h : IsPrds t) : solidT t = true := by
  cases h with
  | nil => rfl
  | row b ty n cells hl a t h0 h1 =>
    refine solidTL_all.2 fun u hu => ?_
    obtain ⟨j, hj⟩ := List.getElem?_of_mem hu
    have := (List.getElem?_eq_some_iff.1 hj).1
    have hm : j = j / 2 * 2 ∨ j = j / 2 * 2 + 1 := by omega
    rcases hm with hm | hm
    · rw [hm, h0 (j / 2) (by omega)] at hj; cases hj; rfl
    · obtain ⟨g1, g2⟩ := h1 (j / 2) (by omega)
      rw [hm, g1] at hj; cases hj; exact g2.solid
end Go.Ab
namespace Go.Proofs.Ytedlpghakpfjjaa
open Go Go.Ab
set_option linter.unusedVariables false
set_option linter.unusedSimpArgs false

/-- What own productions as they're read show. -/
def ReadT (bs : List UInt8) (t : Tree) : Prop := IsPrds t ∧ tV t = .imm false ((readC bs).1.prods.map prdA) ∧ count t ≤ 200000
theorem impl_SaveRead.t {bs : List UInt8} (hl : bs.length ≤ 4611686018427387904) {h : Heap} {Q : AV → Heap → Prop} (hQ : ∀ t h', ReadT bs t → Made h h' [t] → Q (.tup [.agg [iA (readC bs).1.heads, tA t], bA (readC bs).2]) h') : CALL Try.prog impl_SaveRead.id [bytesI bs] h Q := by
  refine impl_SaveRead.c hl (fun c t h' ok hs hu hp hv hc m => ?_) (fun hn => ?_)
  · have e := readC_yes ok hs hu
    have := ok.size; have := ok.len
    have := hQ t h' ⟨hp, by rw [e]; exact hv, by omega⟩ m
    rwa [e] at this
  · have e := readC_no hn
    have := hQ .nil h ⟨.nil, by rw [e]; rfl, by simp [count]⟩ Made.none.nilI
    rwa [e] at this
theorem spec_SaveRead.t {bs : List UInt8} (hl : bs.length ≤ 4611686018427387904) {h : Heap} {Q : AV → Heap → Prop} (hQ : ∀ t h', ReadT bs t → Made h h' [t] → Q (.tup [.agg [iA (readC bs).1.heads, tA t], bA (readC bs).2]) h') : CALL Try.prog spec_SaveRead.id [bytesI bs] h Q := by
  refine spec_SaveRead.c hl (fun c t h' ok hs hu hp hv hc m => ?_) (fun hn => ?_)
  · have e := readC_yes ok hs hu
    have := ok.size; have := ok.len
    have := hQ t h' ⟨hp, by rw [e]; exact hv, by omega⟩ m
    rwa [e] at this
  · have e := readC_no hn
    have := hQ .nil h ⟨.nil, by rw [e]; rfl, by simp [count]⟩ Made.none.nilI
    rwa [e] at this
theorem vw_read {bs : List UInt8} {t : Tree} {h : Heap} (ht : t.at h) (hr : ReadT bs t) : Vw h (.tup [.agg [iA (readC bs).1.heads, tA t], bA (readC bs).2]) (.tup [cfgA (readC bs).1, bA (readC bs).2]) := by
  refine .tup _ _ rfl fun i x y hx hy => ?_
  match i with
  | 0 => simp at hx hy; subst hx; subst hy; exact vw_cfg (c := (readC bs).1) ht hr.2.1
  | 1 => simp at hx hy; subst hx; subst hy; exact .refl _
  | i + 2 => simp at hx
theorem lay_read {f : FuncId} {args : List AV} {bs : List UInt8} {h : Heap} {Q : AV → Heap → Prop}
    (hc : ∀ {Q' : AV → Heap → Prop}, (∀ t h', ReadT bs t → Made h h' [t] → Q' (.tup [.agg [iA (readC bs).1.heads, tA t], bA (readC bs).2]) h') → CALL Try.prog f args h Q') (hQ : Q (.tup [cfgA (readC bs).1, bA (readC bs).2]) h) : CALL Try.prog f args h Q :=
  lay_made (α := Tree) (fun t ts => .tup [.agg [iA (readC bs).1.heads, tA t], bA (readC bs).2]) (fun t ts => ts = [t] ∧ ReadT bs t) (fun t => .tup [cfgA (readC bs).1, bA (readC bs).2]) (fun hq => hc fun t h' hr m => hq t [t] h' ⟨rfl, hr⟩ m)
    (fun t ts h' ok hat => by obtain ⟨rfl, hr⟩ := ok; exact vw_read hat.1 hr) (fun t ts ok => hQ)
theorem lend_read {f : FuncId} {x y : AV} {bs : List UInt8} {h : Heap} {Q : AV → Heap → Prop} (hv : Vw h x y)
    (hc : ∀ {Q' : AV → Heap → Prop}, (∀ t h', ReadT bs t → Made Heap.none h' [t] → Q' (.tup [.agg [iA (readC bs).1.heads, tA t], bA (readC bs).2]) h') → CALL Try.prog f [y] Heap.none Q')
    (hQ : ∀ t h', ReadT bs t → Made h h' [t] → Q (.tup [.agg [iA (readC bs).1.heads, tA t], bA (readC bs).2]) h') : CALL Try.prog f [x] h Q :=
  lend_made (α := Tree) (args := [x]) (ys := [y]) (fun t ts => .tup [.agg [iA (readC bs).1.heads, tA t], bA (readC bs).2]) (fun t ts => ts = [t] ∧ ReadT bs t) rfl (vw_one hv) (fun hq => hc fun t h' hr m => hq t [t] h' ⟨rfl, hr⟩ m)
    (fun t ts ok => by
      obtain ⟨rfl, hr⟩ := ok
      have := hr.1.solid
      exact ⟨by simp [solid, solid.solidL, solid_tA this], by simp [solidTL, this]⟩) (fun t ts h' ok m => by obtain ⟨rfl, hr⟩ := ok; exact hQ t h' hr m)

/-- Marked productions are held. -/
theorem heldCfg_b {x : Int} {t : Tree} {k : Int} {h : Heap} (hs : IsPrds t) (hat : (brand k t).at h) (hk : 0 ≤ k ∧ k + count t ≤ 4611686018427387904) {Q : AV → Heap → Prop}
    (hQ : Q (iA (k + count t)) h) : CALL Try.prog laws_heldCfg.id [.agg [iA x, tA t], iA k] h Q := by
  have := laws_heldCfg.c (x := x) (k := k) hs.brand hat (mark_mark _ _) (by rw [count_mark]; exact hk) (Q := Q) (by rw [count_mark]; exact hQ)
  rwa [hs.tA_brand] at this
theorem laws_FnExactSaveRead.c {bs : List UInt8} (hl : bs.length ≤ 9223372036854775807) : CALL Try.prog laws_FnExactSaveRead.id [bytesI bs] Heap.none (fun r _ => r = bA true) := by
  refine CALL_by mixed laws_FnExactSaveRead.tr (Nat.le_of_ble_eq_true rfl) ?_
  generalize Heap.none = h
  simp (disch := omega) only [S, SL, Need_of, wrap_in, getD_map, getD_lt, Heap.set_ne, wrap_tdiv, tmod_nn, tdiv_nn, ↓reduceIte, eq_self, Nat.reduceEqDiff, Nat.reduceAdd, Nat.reduceSub, Nat.reduceMul, Nat.reduceLeDiff, Int.reduceNeg, Int.reduceToNat, Int.reduceLE, Int.reduceLT, Int.reduceEq, laws_FnExactSaveRead.g, lenK_bytes]
  refine condK_if (fun h1 => ?_) (fun h1 => ?_)
  · simp (disch := omega) only [S, SL, Need_of, wrap_in, getD_map, getD_lt, Heap.set_ne, wrap_tdiv, tmod_nn, tdiv_nn, ↓reduceIte, eq_self, Nat.reduceEqDiff, Nat.reduceAdd, Nat.reduceSub, Nat.reduceMul, Nat.reduceLeDiff, Int.reduceNeg, Int.reduceToNat, Int.reduceLE, Int.reduceLT, Int.reduceEq]
    exact fin.same rfl
  simp (disch := omega) only [S, SL, Need_of, wrap_in, getD_map, getD_lt, Heap.set_ne, wrap_tdiv, tmod_nn, tdiv_nn, ↓reduceIte, eq_self, Nat.reduceEqDiff, Nat.reduceAdd, Nat.reduceSub, Nat.reduceMul, Nat.reduceLeDiff, Int.reduceNeg, Int.reduceToNat, Int.reduceLE, Int.reduceLT, Int.reduceEq]
  refine callK.in (toByteS.i (by omega) ?_)
  simp (disch := omega) only [S, SL, Need_of, wrap_in, getD_map, getD_lt, Heap.set_ne, wrap_tdiv, tmod_nn, tdiv_nn, ↓reduceIte, eq_self, Nat.reduceEqDiff, Nat.reduceAdd, Nat.reduceSub, Nat.reduceMul, Nat.reduceLeDiff, Int.reduceNeg, Int.reduceToNat, Int.reduceLE, Int.reduceLT, Int.reduceEq]
  refine callK.in (lay_read (spec_SaveRead.t (by omega)) ?_)
  simp (disch := omega) only [S, SL, Need_of, wrap_in, getD_map, getD_lt, Heap.set_ne, wrap_tdiv, tmod_nn, tdiv_nn, ↓reduceIte, eq_self, Nat.reduceEqDiff, Nat.reduceAdd, Nat.reduceSub, Nat.reduceMul, Nat.reduceLeDiff, Int.reduceNeg, Int.reduceToNat, Int.reduceLE, Int.reduceLT, Int.reduceEq, cfgA, cfgL]
  refine allocK.in fun b3 hb3 => ?_
  simp (disch := omega) only [S, SL, Need_of, wrap_in, getD_map, getD_lt, Heap.set_ne, wrap_tdiv, tmod_nn, tdiv_nn, ↓reduceIte, eq_self, Nat.reduceEqDiff, Nat.reduceAdd, Nat.reduceSub, Nat.reduceMul, Nat.reduceLeDiff, Int.reduceNeg, Int.reduceToNat, Int.reduceLE, Int.reduceLT, Int.reduceEq]
  refine callK.in (toByteS.c (by omega) fun b5 hb5 => ?_)
  have ne5 := Heap.new_ne hb5
  simp (disch := omega) only [S, SL, Need_of, wrap_in, getD_map, getD_lt, Heap.set_ne, wrap_tdiv, tmod_nn, tdiv_nn, ↓reduceIte, eq_self, Nat.reduceEqDiff, Nat.reduceAdd, Nat.reduceSub, Nat.reduceMul, Nat.reduceLeDiff, Int.reduceNeg, Int.reduceToNat, Int.reduceLE, Int.reduceLT, Int.reduceEq]
  refine callK.in (lend_read (vw_bytes (e := 5) (by simp (disch := omega) only [S, SL, Need_of, wrap_in, getD_map, getD_lt, Heap.set_ne, wrap_tdiv, tmod_nn, tdiv_nn, ↓reduceIte, eq_self, Nat.reduceEqDiff, Nat.reduceAdd, Nat.reduceSub, Nat.reduceMul, Nat.reduceLeDiff, Int.reduceNeg, Int.reduceToNat, Int.reduceLE, Int.reduceLT, Int.reduceEq])) (impl_SaveRead.t (by omega)) fun t h6 hr m6 => ?_)
  have wf := readC_wf bs
  obtain ⟨hp, hv, hc⟩ := hr
  have f3 : h6 b3 = some (.row 34 (cfgL (readC bs).1)) := m6.le b3 _ (by simp (disch := omega) only [S, SL, Need_of, wrap_in, getD_map, getD_lt, Heap.set_ne, wrap_tdiv, tmod_nn, tdiv_nn, ↓reduceIte, eq_self, Nat.reduceEqDiff, Nat.reduceAdd, Nat.reduceSub, Nat.reduceMul, Nat.reduceLeDiff, Int.reduceNeg, Int.reduceToNat, Int.reduceLE, Int.reduceLT, Int.reduceEq, cfgL])
  have f5 : h6 b5 = some (.row 5 (bs.map yA)) := m6.le b5 _ (by simp (disch := omega) only [S, SL, Need_of, wrap_in, getD_map, getD_lt, Heap.set_ne, wrap_tdiv, tmod_nn, tdiv_nn, ↓reduceIte, eq_self, Nat.reduceEqDiff, Nat.reduceAdd, Nat.reduceSub, Nat.reduceMul, Nat.reduceLeDiff, Int.reduceNeg, Int.reduceToNat, Int.reduceLE, Int.reduceLT, Int.reduceEq])
  obtain ⟨s1, s2⟩ : cellsOf? (tA t) = some [tA t] ∧ oneC (tA t) = true := by cases hp <;> exact ⟨rfl, rfl⟩
  have ta := m6.at_.1
  have tn : (blocks t).Nodup := by have := m6.nodup; simpa [blocksL] using this
  have n5 : b5 ∉ blocks t := fun hm => by have := m6.fresh b5 (by simp [blocksL, hm]); simp [Heap.set_same] at this
  have n3 : b3 ∉ blocks t := fun hm => by have := m6.fresh b3 (by simp [blocksL, hm]); rw [Heap.set_ne _ _ (fun e => ne5 e.symm)] at this; simp [Heap.set_same] at this
  simp (disch := omega) only [S, SL, Need_of, wrap_in, getD_map, getD_lt, Heap.set_ne, wrap_tdiv, tmod_nn, tdiv_nn, ↓reduceIte, eq_self, Nat.reduceEqDiff, Nat.reduceAdd, Nat.reduceSub, Nat.reduceMul, Nat.reduceLeDiff, Int.reduceNeg, Int.reduceToNat, Int.reduceLE, Int.reduceLT, Int.reduceEq, f3]
  refine allocK.in fun b6 hb6 => ?_
  have ne63 : b6 ≠ b3 := fun e => by rw [e, f3] at hb6; cases hb6
  have ne65 : b6 ≠ b5 := fun e => by rw [e, f5] at hb6; cases hb6
  have n6 : b6 ∉ blocks t := fun hm => at_some ta b6 hm hb6
  simp (disch := omega) only [S, SL, Need_of, wrap_in, getD_map, getD_lt, Heap.set_ne, wrap_tdiv, tmod_nn, tdiv_nn, ↓reduceIte, eq_self, Nat.reduceEqDiff, Nat.reduceAdd, Nat.reduceSub, Nat.reduceMul, Nat.reduceLeDiff, Int.reduceNeg, Int.reduceToNat, Int.reduceLE, Int.reduceLT, Int.reduceEq, f3, s1, s2, cfgL]
  have tb : t.at (h6.set b6 (.row 34 [iA (readC bs).1.heads, tA t])) := at_le (Heap.le_new hb6) ta
  refine callK.in (CALL.lendV (args := [.agg [iA (readC bs).1.heads, tA t], cfgA (readC bs).1]) (ys := [cfgA (readC bs).1, cfgA (readC bs).1]) rfl (vw_two (vw_cfg tb hv) (.refl _)) (laws_eqCfg.c wf wf) rfl ?_)
  simp (disch := omega) only [S, SL, Need_of, wrap_in, getD_map, getD_lt, Heap.set_ne, wrap_tdiv, tmod_nn, tdiv_nn, ↓reduceIte, eq_self, Nat.reduceEqDiff, Nat.reduceAdd, Nat.reduceSub, Nat.reduceMul, Nat.reduceLeDiff, Int.reduceNeg, Int.reduceToNat, Int.reduceLE, Int.reduceLT, Int.reduceEq, beq_self_eq_true]
  refine callK.in (toByteS.i (by omega) ?_)
  simp (disch := omega) only [S, SL, Need_of, wrap_in, getD_map, getD_lt, Heap.set_ne, wrap_tdiv, tmod_nn, tdiv_nn, ↓reduceIte, eq_self, Nat.reduceEqDiff, Nat.reduceAdd, Nat.reduceSub, Nat.reduceMul, Nat.reduceLeDiff, Int.reduceNeg, Int.reduceToNat, Int.reduceLE, Int.reduceLT, Int.reduceEq]
  refine callK.in (CALL.lendV (args := [.own b5 bs.length, bytesI bs]) (ys := [bytesI bs, bytesI bs]) rfl (vw_two (vw_bytes (e := 5) (by simp (disch := omega) only [S, SL, Need_of, wrap_in, getD_map, getD_lt, Heap.set_ne, wrap_tdiv, tmod_nn, tdiv_nn, ↓reduceIte, eq_self, Nat.reduceEqDiff, Nat.reduceAdd, Nat.reduceSub, Nat.reduceMul, Nat.reduceLeDiff, Int.reduceNeg, Int.reduceToNat, Int.reduceLE, Int.reduceLT, Int.reduceEq, f5])) (.refl _)) (eqByteS.c (by omega) (by omega)) rfl ?_)
  simp (disch := omega) only [S, SL, Need_of, wrap_in, getD_map, getD_lt, Heap.set_ne, wrap_tdiv, tmod_nn, tdiv_nn, ↓reduceIte, eq_self, Nat.reduceEqDiff, Nat.reduceAdd, Nat.reduceSub, Nat.reduceMul, Nat.reduceLeDiff, Int.reduceNeg, Int.reduceToNat, Int.reduceLE, Int.reduceLT, Int.reduceEq]
  have tg : (bytesT b5 5 bs).at (h6.set b6 (.row 34 [iA (readC bs).1.heads, tA t])) := bytesT_at (by simp (disch := omega) only [S, SL, Need_of, wrap_in, getD_map, getD_lt, Heap.set_ne, wrap_tdiv, tmod_nn, tdiv_nn, ↓reduceIte, eq_self, Nat.reduceEqDiff, Nat.reduceAdd, Nat.reduceSub, Nat.reduceMul, Nat.reduceLeDiff, Int.reduceNeg, Int.reduceToNat, Int.reduceLE, Int.reduceLT, Int.reduceEq, f5])
  have bc := bytesT_count b5 5 bs
  refine callK.in (laws_markByteS.c (t := bytesT b5 5 bs) (bytesT_is _ _ _) tg (by rw [bytesT_blocks]; simp) (by omega) fun h7 td hf7 => ?_)
  rw [bytesT_blocks] at hf7
  have g6 : h7 b6 = some (.row 34 [iA (readC bs).1.heads, tA t]) := (hf7 b6 (by simpa using ne65)).trans (Heap.set_same _ _ _)
  have g3 : h7 b3 = some (.row 34 (cfgL (readC bs).1)) := (hf7 b3 (by simpa using fun e => ne5 e.symm)).trans (by simp (disch := omega) only [S, SL, Need_of, wrap_in, getD_map, getD_lt, Heap.set_ne, wrap_tdiv, tmod_nn, tdiv_nn, ↓reduceIte, eq_self, Nat.reduceEqDiff, Nat.reduceAdd, Nat.reduceSub, Nat.reduceMul, Nat.reduceLeDiff, Int.reduceNeg, Int.reduceToNat, Int.reduceLE, Int.reduceLT, Int.reduceEq, f3])
  have t7 : t.at h7 := at_frame (fun c hc => hf7 c (by simp; intro e; subst e; exact n5 hc)) tb
  have k1 : ¬ (1 + (count (bytesT b5 5 bs) : Int) < 0) := by omega
  simp (disch := omega) only [S, SL, Need_of, wrap_in, getD_map, getD_lt, Heap.set_ne, wrap_tdiv, tmod_nn, tdiv_nn, ↓reduceIte, eq_self, Nat.reduceEqDiff, Nat.reduceAdd, Nat.reduceSub, Nat.reduceMul, Nat.reduceLeDiff, Int.reduceNeg, Int.reduceToNat, Int.reduceLE, Int.reduceLT, Int.reduceEq, k1, g6, g3, cfgL]
  refine callK.in (CALL.lendV (args := [.agg [iA (readC bs).1.heads, tA t], cfgA (readC bs).1]) (ys := [cfgA (readC bs).1, cfgA (readC bs).1]) rfl (vw_two (vw_cfg t7 hv) (.refl _)) (laws_eqCfg.c wf wf) rfl ?_)
  simp (disch := omega) only [S, SL, Need_of, wrap_in, getD_map, getD_lt, Heap.set_ne, wrap_tdiv, tmod_nn, tdiv_nn, ↓reduceIte, eq_self, Nat.reduceEqDiff, Nat.reduceAdd, Nat.reduceSub, Nat.reduceMul, Nat.reduceLeDiff, Int.reduceNeg, Int.reduceToNat, Int.reduceLE, Int.reduceLT, Int.reduceEq, beq_self_eq_true, g6, g3]
  refine callK.in (laws_markCfg.c hp t7 tn (by omega) fun h8 t8 hf8 => ?_)
  have g6 : h8 b6 = some (.row 34 [iA (readC bs).1.heads, tA t]) := (hf8 b6 n6).trans g6
  have g3 : h8 b3 = some (.row 34 (cfgL (readC bs).1)) := (hf8 b3 n3).trans g3
  simp (disch := omega) only [S, SL, Need_of, wrap_in, getD_map, getD_lt, Heap.set_ne, wrap_tdiv, tmod_nn, tdiv_nn, ↓reduceIte, eq_self, Nat.reduceEqDiff, Nat.reduceAdd, Nat.reduceSub, Nat.reduceMul, Nat.reduceLeDiff, Int.reduceNeg, Int.reduceToNat, Int.reduceLE, Int.reduceLT, Int.reduceEq, g6]
  refine callK.in (heldCfg_b hp t8 (by omega) ?_)
  have k2 : ¬ (1 + (count t : Int) < 0) := by omega
  simp (disch := omega) only [S, SL, Need_of, wrap_in, getD_map, getD_lt, Heap.set_ne, wrap_tdiv, tmod_nn, tdiv_nn, ↓reduceIte, eq_self, Nat.reduceEqDiff, Nat.reduceAdd, Nat.reduceSub, Nat.reduceMul, Nat.reduceLeDiff, Int.reduceNeg, Int.reduceToNat, Int.reduceLE, Int.reduceLT, Int.reduceEq, k2]
  refine callK.in (toByteS.i (by omega) ?_)
  simp (disch := omega) only [S, SL, Need_of, wrap_in, getD_map, getD_lt, Heap.set_ne, wrap_tdiv, tmod_nn, tdiv_nn, ↓reduceIte, eq_self, Nat.reduceEqDiff, Nat.reduceAdd, Nat.reduceSub, Nat.reduceMul, Nat.reduceLeDiff, Int.reduceNeg, Int.reduceToNat, Int.reduceLE, Int.reduceLT, Int.reduceEq]
  refine callK.in (lay_read (impl_SaveRead.t (by omega)) ?_)
  simp (disch := omega) only [S, SL, Need_of, wrap_in, getD_map, getD_lt, Heap.set_ne, wrap_tdiv, tmod_nn, tdiv_nn, ↓reduceIte, eq_self, Nat.reduceEqDiff, Nat.reduceAdd, Nat.reduceSub, Nat.reduceMul, Nat.reduceLeDiff, Int.reduceNeg, Int.reduceToNat, Int.reduceLE, Int.reduceLT, Int.reduceEq, cfgA, cfgL]
  refine allocK.in fun b11 hb11 => ?_
  have n113 : b11 ≠ b3 := fun e => by rw [e, g3] at hb11; cases hb11
  have n116 : b11 ≠ b6 := fun e => by rw [e, g6] at hb11; cases hb11
  simp (disch := omega) only [S, SL, Need_of, wrap_in, getD_map, getD_lt, Heap.set_ne, wrap_tdiv, tmod_nn, tdiv_nn, ↓reduceIte, eq_self, Nat.reduceEqDiff, Nat.reduceAdd, Nat.reduceSub, Nat.reduceMul, Nat.reduceLeDiff, Int.reduceNeg, Int.reduceToNat, Int.reduceLE, Int.reduceLT, Int.reduceEq, g3, cfgL]
  refine callK.in (laws_eqCfg.c (a := (readC bs).1) (b := (readC bs).1) wf wf ?_)
  simp (disch := omega) only [S, SL, Need_of, wrap_in, getD_map, getD_lt, Heap.set_ne, wrap_tdiv, tmod_nn, tdiv_nn, ↓reduceIte, eq_self, Nat.reduceEqDiff, Nat.reduceAdd, Nat.reduceSub, Nat.reduceMul, Nat.reduceLeDiff, Int.reduceNeg, Int.reduceToNat, Int.reduceLE, Int.reduceLT, Int.reduceEq, beq_self_eq_true, g6]
  refine callK.in (heldCfg_b hp (at_le (Heap.le_new hb11) t8) (by omega) ?_)
  simp (disch := omega) only [S, SL, Need_of, wrap_in, getD_map, getD_lt, Heap.set_ne, wrap_tdiv, tmod_nn, tdiv_nn, ↓reduceIte, eq_self, Nat.reduceEqDiff, Nat.reduceAdd, Nat.reduceSub, Nat.reduceMul, Nat.reduceLeDiff, Int.reduceNeg, Int.reduceToNat, Int.reduceLE, Int.reduceLT, Int.reduceEq, k2]
  exact fin.same rfl
end Go.Proofs.Ytedlpghakpfjjaa
