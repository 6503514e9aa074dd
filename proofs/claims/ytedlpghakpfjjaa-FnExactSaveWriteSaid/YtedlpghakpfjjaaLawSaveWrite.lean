/- The law FnExactSaveWrite: over whatever productions it answers true. Condition: the productions are as arguments are read. -/
import Derived.Test.YtedlpghakpfjjaaCodeL5
import Derived.Test.YtedlpghakpfjjaaSaveWrite
import Derived.Test.YtedlpghakpfjjaaLawCfg
namespace Go.Ab
open Go
theorem Heap.none_set_or {h : Heap} {b : Nat} {k : Blk} : (Heap.none.set b k).or h = h.set b k := by
  funext i; simp only [Heap.or, Heap.set, Heap.none]; split <;> rfl
theorem solid_yA {l : List UInt8} : ∀ x ∈ l.map yA, solid x = true := fun x hx => by obtain ⟨y, -, rfl⟩ := List.mem_map.1 hx; rfl
/-- Own memory lent to a call that makes bytes. -/
theorem lend_bytes {P : Program} {f : FuncId} {args ys : List AV} {bs : List UInt8} {ty : TypeId} {h : Heap} {Q : AV → Heap → Prop} (hl : args.length = ys.length) (hv : ∀ (i : Nat) (x y : AV), args[i]? = some x → ys[i]? = some y → Vw h x y)
    (hc : ∀ {Q' : AV → Heap → Prop}, (∀ b, Heap.none b = none → Q' (.own b bs.length) (Heap.none.set b (.row ty (bs.map yA)))) → CALL P f ys Heap.none Q') (hQ : ∀ b, h b = none → Q (.own b bs.length) (h.set b (.row ty (bs.map yA)))) : CALL P f args h Q := by
  refine CALL.lend hl hv (hc (Q' := fun r h' => ∃ b, r = .own b bs.length ∧ h' = Heap.none.set b (.row ty (bs.map yA))) fun b hb => ⟨b, rfl, rfl⟩) ?_
  rintro r h' ⟨b, rfl, rfl⟩
  refine ⟨rfl, fun c k hk => ?_, fun hd => ?_⟩
  · simp only [Heap.set, Heap.none] at hk
    split at hk
    · cases hk; exact solid_yA
    · cases hk
  · rw [Heap.none_set_or]
    exact hQ b (hd b (by rw [Heap.set_same]; simp))
def bytesT (b : Nat) (ty : TypeId) (bs : List UInt8) : Tree := .row b ty bs.length 1 (bs.map fun x => .leaf (.int .u8 x.toNat))
theorem bytesT_is (b : Nat) (ty : TypeId) (bs : List UInt8) : IsBytes (bytesT b ty bs) := by
  refine .row b ty bs.length _ (by simp) (fun j => (bs.getD j 0).toNat) fun j hj => ?_
  rw [List.getElem?_map, List.getElem?_eq_getElem hj, List.getD_eq_getElem?_getD, List.getElem?_eq_getElem hj]; rfl
theorem blocksL_leaf {α : Type} (f : α → Value) (l : List α) : blocksL (l.map fun x => .leaf (f x)) = [] := blocksL_flat_nil fun z hz => by obtain ⟨x, -, rfl⟩ := List.mem_map.1 hz; rfl
theorem bytesT_at {h : Heap} {b : Nat} {ty : TypeId} {bs : List UInt8} (hb : h b = some (.row ty (bs.map yA))) : (bytesT b ty bs).at h := by
  refine ⟨by rw [hb, List.map_map]; rfl, by simp, atL_mk fun i hi => ?_⟩
  simp only [List.getElem_map]; trivial
theorem bytesT_blocks (b : Nat) (ty : TypeId) (bs : List UInt8) : blocks (bytesT b ty bs) = [b] := by
  show b :: blocksL _ = [b]; rw [blocksL_leaf]
theorem bytesT_count (b : Nat) (ty : TypeId) (bs : List UInt8) : count (bytesT b ty bs) = bs.length := by
  show countL _ = _
  induction bs with
  | nil => rfl
  | cons x bs ih => simp only [List.map_cons, countL, count, List.length_cons]; rw [ih]; omega
theorem saveW_len (c : Cfg) : (saveW c).length ≤ 400000 := by
  unfold saveW
  split
  · rename_i ok
    have := upB_len ok c.prods.length (Nat.le_refl _)
    have := ok.len
    simp [allB, twoB]; omega
  · simp
theorem vw_cfg {h : Heap} {c : Cfg} {t : Tree} (ht : t.at h) (hv : tV t = .imm false (c.prods.map prdA)) : Vw h (.agg [iA c.heads, tA t]) (cfgA c) := by
  have := at_vw ht
  rw [hv] at this
  refine .agg _ _ rfl fun i x y hx hy => ?_
  match i with
  | 0 => simp [cfgL] at hx hy; subst hx; subst hy; exact .refl _
  | 1 => simp [cfgL] at hx hy; subst hx; subst hy; exact this
  | i + 2 => simp at hx
end Go.Ab
namespace Go.Proofs.Ytedlpghakpfjjaa
open Go Go.Ab
set_option linter.unusedVariables false
set_option linter.unusedSimpArgs false

theorem laws_FnExactSaveWrite.c {c : Cfg} (hw : CfgWf c) : CALL Try.prog laws_FnExactSaveWrite.id [cfgA c] Heap.none (fun r _ => r = bA true) := by
  refine CALL_by mixed laws_FnExactSaveWrite.tr (Nat.le_of_ble_eq_true rfl) ?_
  generalize Heap.none = h
  simp (disch := omega) only [S, SL, Need_of, wrap_in, getD_map, getD_lt, Heap.set_ne, wrap_tdiv, tmod_nn, tdiv_nn, ↓reduceIte, eq_self, Nat.reduceEqDiff, Nat.reduceAdd, Nat.reduceSub, Nat.reduceMul, Nat.reduceLeDiff, Int.reduceNeg, Int.reduceToNat, Int.reduceLE, Int.reduceLT, Int.reduceEq, laws_FnExactSaveWrite.g, cfgA, cfgL]
  refine allocK.in fun b1 hb1 => ?_
  simp (disch := omega) only [S, SL, Need_of, wrap_in, getD_map, getD_lt, Heap.set_ne, wrap_tdiv, tmod_nn, tdiv_nn, ↓reduceIte, eq_self, Nat.reduceEqDiff, Nat.reduceAdd, Nat.reduceSub, Nat.reduceMul, Nat.reduceLeDiff, Int.reduceNeg, Int.reduceToNat, Int.reduceLE, Int.reduceLT, Int.reduceEq]
  refine callK.in (laws_szCfg.c (c := c) hw (by omega) (by omega) ?_)
  simp (disch := omega) only [S, SL, Need_of, wrap_in, getD_map, getD_lt, Heap.set_ne, wrap_tdiv, tmod_nn, tdiv_nn, ↓reduceIte, eq_self, Nat.reduceEqDiff, Nat.reduceAdd, Nat.reduceSub, Nat.reduceMul, Nat.reduceLeDiff, Int.reduceNeg, Int.reduceToNat, Int.reduceLE, Int.reduceLT, Int.reduceEq]
  refine condK_if (fun h1 => ?_) (fun h1 => ?_)
  · simp (disch := omega) only [S, SL, Need_of, wrap_in, getD_map, getD_lt, Heap.set_ne, wrap_tdiv, tmod_nn, tdiv_nn, ↓reduceIte, eq_self, Nat.reduceEqDiff, Nat.reduceAdd, Nat.reduceSub, Nat.reduceMul, Nat.reduceLeDiff, Int.reduceNeg, Int.reduceToNat, Int.reduceLE, Int.reduceLT, Int.reduceEq]
    exact fin.same rfl
  obtain ⟨hsz, -⟩ := remn_pos h1
  have hsw := saveW_len c
  simp (disch := omega) only [S, SL, Need_of, wrap_in, getD_map, getD_lt, Heap.set_ne, wrap_tdiv, tmod_nn, tdiv_nn, ↓reduceIte, eq_self, Nat.reduceEqDiff, Nat.reduceAdd, Nat.reduceSub, Nat.reduceMul, Nat.reduceLeDiff, Int.reduceNeg, Int.reduceToNat, Int.reduceLE, Int.reduceLT, Int.reduceEq]
  refine callK.in (laws_toCfg.i (c := c) (by omega) ?_)
  simp (disch := omega) only [S, SL, Need_of, wrap_in, getD_map, getD_lt, Heap.set_ne, wrap_tdiv, tmod_nn, tdiv_nn, ↓reduceIte, eq_self, Nat.reduceEqDiff, Nat.reduceAdd, Nat.reduceSub, Nat.reduceMul, Nat.reduceLeDiff, Int.reduceNeg, Int.reduceToNat, Int.reduceLE, Int.reduceLT, Int.reduceEq]
  refine callK.in (lay_bytes (spec_SaveWrite.c (c := c)) ?_)
  simp (disch := omega) only [S, SL, Need_of, wrap_in, getD_map, getD_lt, Heap.set_ne, wrap_tdiv, tmod_nn, tdiv_nn, ↓reduceIte, eq_self, Nat.reduceEqDiff, Nat.reduceAdd, Nat.reduceSub, Nat.reduceMul, Nat.reduceLeDiff, Int.reduceNeg, Int.reduceToNat, Int.reduceLE, Int.reduceLT, Int.reduceEq]
  refine callK.in (laws_toCfg.c (c := c) (by omega) fun t h1 ht hv hcn m => ?_)
  have l1 : h1 b1 = some (.row 29 (cfgL c)) := m.le b1 _ (by simp (disch := omega) only [S, SL, Need_of, wrap_in, getD_map, getD_lt, Heap.set_ne, wrap_tdiv, tmod_nn, tdiv_nn, ↓reduceIte, eq_self, Nat.reduceEqDiff, Nat.reduceAdd, Nat.reduceSub, Nat.reduceMul, Nat.reduceLeDiff, Int.reduceNeg, Int.reduceToNat, Int.reduceLE, Int.reduceLT, Int.reduceEq, cfgL])
  obtain ⟨s1, s2⟩ : cellsOf? (tA t) = some [tA t] ∧ oneC (tA t) = true := by cases ht <;> exact ⟨rfl, rfl⟩
  have ta := m.at_.1
  have tn : (blocks t).Nodup := by have := m.nodup; simpa [blocksL] using this
  simp (disch := omega) only [S, SL, Need_of, wrap_in, getD_map, getD_lt, Heap.set_ne, wrap_tdiv, tmod_nn, tdiv_nn, ↓reduceIte, eq_self, Nat.reduceEqDiff, Nat.reduceAdd, Nat.reduceSub, Nat.reduceMul, Nat.reduceLeDiff, Int.reduceNeg, Int.reduceToNat, Int.reduceLE, Int.reduceLT, Int.reduceEq, l1]
  refine allocK.in fun b5 hb5 => ?_
  have ne5 : b5 ≠ b1 := fun e => by rw [e, l1] at hb5; cases hb5
  simp (disch := omega) only [S, SL, Need_of, wrap_in, getD_map, getD_lt, Heap.set_ne, wrap_tdiv, tmod_nn, tdiv_nn, ↓reduceIte, eq_self, Nat.reduceEqDiff, Nat.reduceAdd, Nat.reduceSub, Nat.reduceMul, Nat.reduceLeDiff, Int.reduceNeg, Int.reduceToNat, Int.reduceLE, Int.reduceLT, Int.reduceEq, l1, cfgL, s1, s2]
  have t5 : b5 ∉ blocks t := fun hm => at_some ta b5 hm hb5
  refine callK.in (lend_bytes (ys := [cfgA c]) rfl (vw_one (vw_cfg (at_le (Heap.le_new hb5) ta) hv)) (impl_SaveWrite.c (c := c)) fun b6 hb6 => ?_)
  have ne6 := Heap.new_ne hb6
  have hn6 := Heap.new_none hb6
  have ne61 : b6 ≠ b1 := fun e => by rw [e, l1] at hn6; cases hn6
  have t6 : b6 ∉ blocks t := fun hm => at_some ta b6 hm hn6
  simp (disch := omega) only [S, SL, Need_of, wrap_in, getD_map, getD_lt, Heap.set_ne, wrap_tdiv, tmod_nn, tdiv_nn, ↓reduceIte, eq_self, Nat.reduceEqDiff, Nat.reduceAdd, Nat.reduceSub, Nat.reduceMul, Nat.reduceLeDiff, Int.reduceNeg, Int.reduceToNat, Int.reduceLE, Int.reduceLT, Int.reduceEq]
  refine callK.in (CALL.lendV (ys := [bytesI (saveW c), bytesI (saveW c)]) rfl (vw_two (vw_bytes (e := 5) (by simp (disch := omega) only [S, SL, Need_of, wrap_in, getD_map, getD_lt, Heap.set_ne, wrap_tdiv, tmod_nn, tdiv_nn, ↓reduceIte, eq_self, Nat.reduceEqDiff, Nat.reduceAdd, Nat.reduceSub, Nat.reduceMul, Nat.reduceLeDiff, Int.reduceNeg, Int.reduceToNat, Int.reduceLE, Int.reduceLT, Int.reduceEq])) (.refl _)) (eqByteS.c (by omega) (by omega)) rfl ?_)
  simp (disch := omega) only [S, SL, Need_of, wrap_in, getD_map, getD_lt, Heap.set_ne, wrap_tdiv, tmod_nn, tdiv_nn, ↓reduceIte, eq_self, Nat.reduceEqDiff, Nat.reduceAdd, Nat.reduceSub, Nat.reduceMul, Nat.reduceLeDiff, Int.reduceNeg, Int.reduceToNat, Int.reduceLE, Int.reduceLT, Int.reduceEq, l1, cfgL]
  refine ⟨?_, ?_⟩
  all_goals
    refine callK.in (laws_toCfg.i (c := c) (by omega) ?_)
    simp (disch := omega) only [S, SL, Need_of, wrap_in, getD_map, getD_lt, Heap.set_ne, wrap_tdiv, tmod_nn, tdiv_nn, ↓reduceIte, eq_self, Nat.reduceEqDiff, Nat.reduceAdd, Nat.reduceSub, Nat.reduceMul, Nat.reduceLeDiff, Int.reduceNeg, Int.reduceToNat, Int.reduceLE, Int.reduceLT, Int.reduceEq]
    have tb : t.at ((h1.set b5 (.row 34 [iA c.heads, tA t])).set b6 (.row 5 ((saveW c).map yA))) := at_le (Heap.le_trans (Heap.le_new hb5) (Heap.le_new hb6)) ta
    refine callK.in (CALL.lendV (ys := [cfgA c, cfgA c]) rfl (vw_two (vw_cfg tb hv) (.refl _)) (laws_eqCfg.c hw hw) rfl ?_)
    simp (disch := omega) only [S, SL, Need_of, wrap_in, getD_map, getD_lt, Heap.set_ne, wrap_tdiv, tmod_nn, tdiv_nn, ↓reduceIte, eq_self, Nat.reduceEqDiff, Nat.reduceAdd, Nat.reduceSub, Nat.reduceMul, Nat.reduceLeDiff, Int.reduceNeg, Int.reduceToNat, Int.reduceLE, Int.reduceLT, Int.reduceEq]
    refine callK.in (laws_markCfg.c ht tb tn (by omega) fun h2 tc hf => ?_)
    have f1 : h2 b1 = some (.row 29 (cfgL c)) := (hf b1 fun hm => by have := m.fresh b1 (by simp [blocksL, hm]); rw [Heap.set_same] at this; cases this).trans (by simp (disch := omega) only [S, SL, Need_of, wrap_in, getD_map, getD_lt, Heap.set_ne, wrap_tdiv, tmod_nn, tdiv_nn, ↓reduceIte, eq_self, Nat.reduceEqDiff, Nat.reduceAdd, Nat.reduceSub, Nat.reduceMul, Nat.reduceLeDiff, Int.reduceNeg, Int.reduceToNat, Int.reduceLE, Int.reduceLT, Int.reduceEq, l1])
    have f6 : h2 b6 = some (.row 5 ((saveW c).map yA)) := (hf b6 t6).trans (by simp (disch := omega) only [S, SL, Need_of, wrap_in, getD_map, getD_lt, Heap.set_ne, wrap_tdiv, tmod_nn, tdiv_nn, ↓reduceIte, eq_self, Nat.reduceEqDiff, Nat.reduceAdd, Nat.reduceSub, Nat.reduceMul, Nat.reduceLeDiff, Int.reduceNeg, Int.reduceToNat, Int.reduceLE, Int.reduceLT, Int.reduceEq])
    simp (disch := omega) only [S, SL, Need_of, wrap_in, getD_map, getD_lt, Heap.set_ne, wrap_tdiv, tmod_nn, tdiv_nn, ↓reduceIte, eq_self, Nat.reduceEqDiff, Nat.reduceAdd, Nat.reduceSub, Nat.reduceMul, Nat.reduceLeDiff, Int.reduceNeg, Int.reduceToNat, Int.reduceLE, Int.reduceLT, Int.reduceEq]
    have k1 : ¬ (1 + (count t : Int) < 0) := by omega
    simp (disch := omega) only [S, SL, Need_of, wrap_in, getD_map, getD_lt, Heap.set_ne, wrap_tdiv, tmod_nn, tdiv_nn, ↓reduceIte, eq_self, Nat.reduceEqDiff, Nat.reduceAdd, Nat.reduceSub, Nat.reduceMul, Nat.reduceLeDiff, Int.reduceNeg, Int.reduceToNat, Int.reduceLE, Int.reduceLT, Int.reduceEq, k1]
    refine callK.in (CALL.lendV (ys := [bytesI (saveW c), bytesI (saveW c)]) rfl (vw_two (vw_bytes f6) (.refl _)) (eqByteS.c (by omega) (by omega)) rfl ?_)
    simp (disch := omega) only [S, SL, Need_of, wrap_in, getD_map, getD_lt, Heap.set_ne, wrap_tdiv, tmod_nn, tdiv_nn, ↓reduceIte, eq_self, Nat.reduceEqDiff, Nat.reduceAdd, Nat.reduceSub, Nat.reduceMul, Nat.reduceLeDiff, Int.reduceNeg, Int.reduceToNat, Int.reduceLE, Int.reduceLT, Int.reduceEq, k1]
    have tg := bytesT_at f6
    have bc := bytesT_count b6 5 (saveW c)
    refine callK.in (laws_markByteS.c (t := bytesT b6 5 (saveW c)) (bytesT_is _ _ _) tg (by rw [bytesT_blocks]; simp) (by omega) fun h3 td hf3 => ?_)
    rw [bytesT_blocks] at hf3
    have g1 : h3 b1 = some (.row 29 (cfgL c)) := (hf3 b1 (by simpa using fun e => ne61 e.symm)).trans f1
    have hd : IsBytes (brand 1 (bytesT b6 5 (saveW c))) := (bytesT_is _ _ _).brand
    simp (disch := omega) only [S, SL, Need_of, wrap_in, getD_map, getD_lt, Heap.set_ne, wrap_tdiv, tmod_nn, tdiv_nn, ↓reduceIte, eq_self, Nat.reduceEqDiff, Nat.reduceAdd, Nat.reduceSub, Nat.reduceMul, Nat.reduceLeDiff, Int.reduceNeg, Int.reduceToNat, Int.reduceLE, Int.reduceLT, Int.reduceEq]
    refine callK.in (laws_heldByteS.c (t := brand 1 (bytesT b6 5 (saveW c))) hd td (mark_mark _ _) (by rw [count_mark]; omega) ?_)
    have q1 : ¬ (1 + (count (bytesT b6 5 (saveW c)) : Int) < 0) := by omega
    simp (disch := omega) only [S, SL, Need_of, wrap_in, getD_map, getD_lt, Heap.set_ne, wrap_tdiv, tmod_nn, tdiv_nn, ↓reduceIte, eq_self, Nat.reduceEqDiff, Nat.reduceAdd, Nat.reduceSub, Nat.reduceMul, Nat.reduceLeDiff, Int.reduceNeg, Int.reduceToNat, Int.reduceLE, Int.reduceLT, Int.reduceEq, count_mark, q1, g1, cfgL]
    refine callK.in (laws_toCfg.i (c := c) (by omega) ?_)
    simp (disch := omega) only [S, SL, Need_of, wrap_in, getD_map, getD_lt, Heap.set_ne, wrap_tdiv, tmod_nn, tdiv_nn, ↓reduceIte, eq_self, Nat.reduceEqDiff, Nat.reduceAdd, Nat.reduceSub, Nat.reduceMul, Nat.reduceLeDiff, Int.reduceNeg, Int.reduceToNat, Int.reduceLE, Int.reduceLT, Int.reduceEq]
    refine callK.in (lay_bytes (impl_SaveWrite.c (c := c)) ?_)
    simp (disch := omega) only [S, SL, Need_of, wrap_in, getD_map, getD_lt, Heap.set_ne, wrap_tdiv, tmod_nn, tdiv_nn, ↓reduceIte, eq_self, Nat.reduceEqDiff, Nat.reduceAdd, Nat.reduceSub, Nat.reduceMul, Nat.reduceLeDiff, Int.reduceNeg, Int.reduceToNat, Int.reduceLE, Int.reduceLT, Int.reduceEq]
    refine callK.in (eqByteS.c (by omega) (by omega) ?_)
    simp (disch := omega) only [S, SL, Need_of, wrap_in, getD_map, getD_lt, Heap.set_ne, wrap_tdiv, tmod_nn, tdiv_nn, ↓reduceIte, eq_self, Nat.reduceEqDiff, Nat.reduceAdd, Nat.reduceSub, Nat.reduceMul, Nat.reduceLeDiff, Int.reduceNeg, Int.reduceToNat, Int.reduceLE, Int.reduceLT, Int.reduceEq]
    refine callK.in (laws_heldByteS.c (t := brand 1 (bytesT b6 5 (saveW c))) hd td (mark_mark _ _) (by rw [count_mark]; omega) ?_)
    simp (disch := omega) only [S, SL, Need_of, wrap_in, getD_map, getD_lt, Heap.set_ne, wrap_tdiv, tmod_nn, tdiv_nn, ↓reduceIte, eq_self, Nat.reduceEqDiff, Nat.reduceAdd, Nat.reduceSub, Nat.reduceMul, Nat.reduceLeDiff, Int.reduceNeg, Int.reduceToNat, Int.reduceLE, Int.reduceLT, Int.reduceEq, count_mark, q1]
    exact fin.same rfl
end Go.Proofs.Ytedlpghakpfjjaa
