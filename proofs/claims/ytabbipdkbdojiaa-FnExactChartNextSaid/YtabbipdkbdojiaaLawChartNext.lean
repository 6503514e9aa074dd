/- The law FnExactChartNext: over whatever productions and charts it answers true. Condition: they are as arguments are read. -/
import Derived.Test.YtabbipdkbdojiaaCodeL8
import Derived.Test.YtabbipdkbdojiaaLawChart2
namespace Go.Proofs.Ytabbipdkbdojiaa
open Go Go.Ab
set_option linter.unusedVariables false
set_option linter.unusedSimpArgs false

/-- Own truth values, laid down for good. -/
theorem lay_bools {f : FuncId} {args : List AV} {l : List Bool} {n : Nat} (hn : l.length = n) {ty : TypeId} {h : Heap} {Q : AV → Heap → Prop} (hc : ∀ {Q' : AV → Heap → Prop}, (∀ b, h b = none → Q' (.own b n) (h.set b (.row ty (l.map bA)))) → CALL Try.prog f args h Q') (hQ : Q (boolsI l) h) : CALL Try.prog f args h Q := by
  subst hn
  refine CALL.lay (hc (Q' := fun r h' => ∃ b, h b = none ∧ r = .own b l.length ∧ h' = h.set b (.row ty (l.map bA))) fun b hb => ⟨b, hb, rfl, rfl⟩) ?_
  rintro r h' ⟨b, hb, rfl, rfl⟩
  exact ⟨h, boolsI l, Heap.le_new hb, vw_bools (e := ty) (by simp [Heap.minus, hb, Heap.set_same]), hQ⟩
theorem vw_mask {h : Heap} {b : Nat} {e : TypeId} {p : Cfg} {c : Cht} (hb : h b = some (.row e ((nextB p c).map bA))) : Vw h (.own b 256) (boolsI (nextB p c)) := by
  have := vw_bools hb
  rwa [nextB_len] at this

theorem mark_mask {b : Nat} {h : Heap} {l : List Bool} (nl : l.length = 256) (hb : h b = some (.row 4 (l.map bA))) {Q : AV → Heap → Prop} (hQ : ∀ h', (brand 1 (boolsT b 4 l)).at h' → (∀ x, x ≠ b → h' x = h x) → Q (iA 257) h') : CALL Try.prog laws_markBoolS.id [.own b 256, iA 1] h Q := by
  have bt : tA (boolsT b 4 l) = .own b 256 := by show AV.own b l.length = _; rw [nl]
  have bc := boolsT_count b 4 l
  rw [nl] at bc
  rw [← bt]
  refine laws_markBoolS.c (boolsT_is _ _ _) (boolsT_at hb) (by rw [bools_blocks]; simp) (by rw [bc]; omega) fun h' td hf => ?_
  rw [bc]
  exact hQ h' td fun x hx => hf x (by rw [bools_blocks]; simpa using hx)
theorem held_mask {b : Nat} {h : Heap} {l : List Bool} (nl : l.length = 256) (td : (brand 1 (boolsT b 4 l)).at h) {Q : AV → Heap → Prop} (hQ : Q (iA 257) h) : CALL Try.prog laws_heldBoolS.id [.own b 256, iA 1] h Q := by
  have bt : tA (brand 1 (boolsT b 4 l)) = .own b 256 := by show AV.own b l.length = _; rw [nl]
  have bc := boolsT_count b 4 l
  rw [nl] at bc
  rw [← bt]
  refine laws_heldBoolS.c (boolsT_is b 4 l).brand td (mark_mark _ _) (by rw [count_mark, bc]; omega) ?_
  rw [count_mark, bc]
  exact hQ

set_option maxRecDepth 20000 in
set_option maxHeartbeats 8000000 in
theorem laws_FnExactChartNext.c {p : Cfg} (hw : CfgWf p) {c : Cht} (hc : ChartWf c) : CALL Try.prog laws_FnExactChartNext.id [cfgA p, chartA c] Heap.none (fun r _ => r = bA true) := by
  refine CALL_by mixed laws_FnExactChartNext.tr (Nat.le_of_ble_eq_true rfl) ?_
  generalize Heap.none = h
  simp (disch := omega) only [S, SL, Need_of, wrap_in, getD_map, getD_lt, Heap.set_ne, wrap_tdiv, tmod_nn, tdiv_nn, ↓reduceIte, eq_self, Nat.reduceEqDiff, Nat.reduceAdd, Nat.reduceSub, Nat.reduceMul, Nat.reduceLeDiff, Int.reduceNeg, Int.reduceToNat, Int.reduceLE, Int.reduceLT, Int.reduceEq, laws_FnExactChartNext.g, cfgA, cfgL, chartA, chartL]
  refine allocK.in fun b2 hb2 => ?_
  simp (disch := omega) only [S, SL, Need_of, wrap_in, getD_map, getD_lt, Heap.set_ne, wrap_tdiv, tmod_nn, tdiv_nn, ↓reduceIte, eq_self, Nat.reduceEqDiff, Nat.reduceAdd, Nat.reduceSub, Nat.reduceMul, Nat.reduceLeDiff, Int.reduceNeg, Int.reduceToNat, Int.reduceLE, Int.reduceLT, Int.reduceEq]
  refine allocK.in fun b3 hb3 => ?_
  have n3 := Heap.new_ne hb3
  simp (disch := omega) only [S, SL, Need_of, wrap_in, getD_map, getD_lt, Heap.set_ne, wrap_tdiv, tmod_nn, tdiv_nn, ↓reduceIte, eq_self, Nat.reduceEqDiff, Nat.reduceAdd, Nat.reduceSub, Nat.reduceMul, Nat.reduceLeDiff, Int.reduceNeg, Int.reduceToNat, Int.reduceLE, Int.reduceLT, Int.reduceEq]
  refine callK.in (laws_szCfg.c (c := p) hw (by omega) (by omega) ?_)
  simp (disch := omega) only [S, SL, Need_of, wrap_in, getD_map, getD_lt, Heap.set_ne, wrap_tdiv, tmod_nn, tdiv_nn, ↓reduceIte, eq_self, Nat.reduceEqDiff, Nat.reduceAdd, Nat.reduceSub, Nat.reduceMul, Nat.reduceLeDiff, Int.reduceNeg, Int.reduceToNat, Int.reduceLE, Int.reduceLT, Int.reduceEq]
  refine condK_if (fun h1 => ?_) (fun h1 => ?_)
  · simp (disch := omega) only [S, SL, Need_of, wrap_in, getD_map, getD_lt, Heap.set_ne, wrap_tdiv, tmod_nn, tdiv_nn, ↓reduceIte, eq_self, Nat.reduceEqDiff, Nat.reduceAdd, Nat.reduceSub, Nat.reduceMul, Nat.reduceLeDiff, Int.reduceNeg, Int.reduceToNat, Int.reduceLE, Int.reduceLT, Int.reduceEq]
    exact fin.same rfl
  obtain ⟨hsz, hl⟩ := remn_pos h1
  simp (disch := omega) only [S, SL, Need_of, wrap_in, getD_map, getD_lt, Heap.set_ne, wrap_tdiv, tmod_nn, tdiv_nn, ↓reduceIte, eq_self, Nat.reduceEqDiff, Nat.reduceAdd, Nat.reduceSub, Nat.reduceMul, Nat.reduceLeDiff, Int.reduceNeg, Int.reduceToNat, Int.reduceLE, Int.reduceLT, Int.reduceEq]
  refine callK.in (laws_szChart.c (c := c) hc (by omega) (by omega) ?_)
  simp (disch := omega) only [S, SL, Need_of, wrap_in, getD_map, getD_lt, Heap.set_ne, wrap_tdiv, tmod_nn, tdiv_nn, ↓reduceIte, eq_self, Nat.reduceEqDiff, Nat.reduceAdd, Nat.reduceSub, Nat.reduceMul, Nat.reduceLeDiff, Int.reduceNeg, Int.reduceToNat, Int.reduceLE, Int.reduceLT, Int.reduceEq]
  refine condK_if (fun h2 => ?_) (fun h2 => ?_)
  · simp (disch := omega) only [S, SL, Need_of, wrap_in, getD_map, getD_lt, Heap.set_ne, wrap_tdiv, tmod_nn, tdiv_nn, ↓reduceIte, eq_self, Nat.reduceEqDiff, Nat.reduceAdd, Nat.reduceSub, Nat.reduceMul, Nat.reduceLeDiff, Int.reduceNeg, Int.reduceToNat, Int.reduceLE, Int.reduceLT, Int.reduceEq]
    exact fin.same rfl
  obtain ⟨hsz2, -⟩ := remn_pos h2
  have hsz3 : szChtN c ≤ 1048576 := by omega
  have hsz4 : szCfgN p ≤ 1048576 := by omega
  have f : ChtFit c := ChtFit.of_size (by omega)
  have nl := nextB_len p c
  simp (disch := omega) only [S, SL, Need_of, wrap_in, getD_map, getD_lt, Heap.set_ne, wrap_tdiv, tmod_nn, tdiv_nn, ↓reduceIte, eq_self, Nat.reduceEqDiff, Nat.reduceAdd, Nat.reduceSub, Nat.reduceMul, Nat.reduceLeDiff, Int.reduceNeg, Int.reduceToNat, Int.reduceLE, Int.reduceLT, Int.reduceEq]
  have e2 : ((h.set b2 (.row 24 (cfgL p))).set b3 (.row 27 (chartL c))) b2 = some (.row 24 (cfgL p)) := by simp (disch := omega) only [S, SL, Need_of, wrap_in, getD_map, getD_lt, Heap.set_ne, wrap_tdiv, tmod_nn, tdiv_nn, ↓reduceIte, eq_self, Nat.reduceEqDiff, Nat.reduceAdd, Nat.reduceSub, Nat.reduceMul, Nat.reduceLeDiff, Int.reduceNeg, Int.reduceToNat, Int.reduceLE, Int.reduceLT, Int.reduceEq]
  have e3 : ((h.set b2 (.row 24 (cfgL p))).set b3 (.row 27 (chartL c))) b3 = some (.row 27 (chartL c)) := by simp (disch := omega) only [S, SL, Need_of, wrap_in, getD_map, getD_lt, Heap.set_ne, wrap_tdiv, tmod_nn, tdiv_nn, ↓reduceIte, eq_self, Nat.reduceEqDiff, Nat.reduceAdd, Nat.reduceSub, Nat.reduceMul, Nat.reduceLeDiff, Int.reduceNeg, Int.reduceToNat, Int.reduceLE, Int.reduceLT, Int.reduceEq]
  simp only [cfgL, chartL] at e2 e3
  generalize ((h.set b2 (.row 24 [iA p.heads, .imm false (p.prods.map prdA)])).set b3 (.row 27 [.imm false (c.sets.map setA)])) = h0 at e2 e3 ⊢
  repeat' (with_reducible apply And.intro)
  all_goals
    refine callK.in (laws_toCfg.i (c := p) (by omega) ?_)
    simp (disch := omega) only [S, SL, Need_of, wrap_in, getD_map, getD_lt, Heap.set_ne, wrap_tdiv, tmod_nn, tdiv_nn, ↓reduceIte, eq_self, Nat.reduceEqDiff, Nat.reduceAdd, Nat.reduceSub, Nat.reduceMul, Nat.reduceLeDiff, Int.reduceNeg, Int.reduceToNat, Int.reduceLE, Int.reduceLT, Int.reduceEq, e2, e3]
    refine callK.in (laws_toChart.i (c := c) f ?_)
    simp (disch := omega) only [S, SL, Need_of, wrap_in, getD_map, getD_lt, Heap.set_ne, wrap_tdiv, tmod_nn, tdiv_nn, ↓reduceIte, eq_self, Nat.reduceEqDiff, Nat.reduceAdd, Nat.reduceSub, Nat.reduceMul, Nat.reduceLeDiff, Int.reduceNeg, Int.reduceToNat, Int.reduceLE, Int.reduceLT, Int.reduceEq, e2, e3]
    refine callK.in (lay_bools nl (spec_ChartNext.c (p := p) f) ?_)
    simp (disch := omega) only [S, SL, Need_of, wrap_in, getD_map, getD_lt, Heap.set_ne, wrap_tdiv, tmod_nn, tdiv_nn, ↓reduceIte, eq_self, Nat.reduceEqDiff, Nat.reduceAdd, Nat.reduceSub, Nat.reduceMul, Nat.reduceLeDiff, Int.reduceNeg, Int.reduceToNat, Int.reduceLE, Int.reduceLT, Int.reduceEq, e2, e3]
    refine callK.in (laws_toCfg.c (c := p) (by omega) fun t h1 ht hv hcn m => ?_)
    obtain ⟨s1, s2⟩ : cellsOf? (tA t) = some [tA t] ∧ oneC (tA t) = true := by cases ht <;> exact ⟨rfl, rfl⟩
    have ta := m.at_.1
    have tn : (blocks t).Nodup := by have := m.nodup; simpa [blocksL] using this
    have t2 : b2 ∉ blocks t := fun hm => by have := m.fresh b2 (by simp [blocksL, hm]); rw [e2] at this; cases this
    have t3 : b3 ∉ blocks t := fun hm => by have := m.fresh b3 (by simp [blocksL, hm]); rw [e3] at this; cases this
    replace e2 := m.le _ _ e2
    replace e3 := m.le _ _ e3
    simp (disch := omega) only [S, SL, Need_of, wrap_in, getD_map, getD_lt, Heap.set_ne, wrap_tdiv, tmod_nn, tdiv_nn, ↓reduceIte, eq_self, Nat.reduceEqDiff, Nat.reduceAdd, Nat.reduceSub, Nat.reduceMul, Nat.reduceLeDiff, Int.reduceNeg, Int.reduceToNat, Int.reduceLE, Int.reduceLT, Int.reduceEq, e2, e3]
    refine allocK.in fun b7 hb7 => ?_
    simp (disch := omega) only [S, SL, Need_of, wrap_in, getD_map, getD_lt, Heap.set_ne, wrap_tdiv, tmod_nn, tdiv_nn, ↓reduceIte, eq_self, Nat.reduceEqDiff, Nat.reduceAdd, Nat.reduceSub, Nat.reduceMul, Nat.reduceLeDiff, Int.reduceNeg, Int.reduceToNat, Int.reduceLE, Int.reduceLT, Int.reduceEq, s1, s2]
    have t7 : b7 ∉ blocks t := fun hm => at_some ta b7 hm hb7
    replace e2 := Heap.le_new (k := .row 33 [iA p.heads, tA t]) hb7 _ _ e2
    replace e3 := Heap.le_new (k := .row 33 [iA p.heads, tA t]) hb7 _ _ e3
    replace ta := at_le (Heap.le_new (k := .row 33 [iA p.heads, tA t]) hb7) ta
    have e7 : (h1.set b7 (.row 33 [iA p.heads, tA t])) b7 = some (.row 33 [iA p.heads, tA t]) := Heap.set_same _ _ _
    generalize h1.set b7 _ = h1 at e2 e3 e7 ta ⊢
    clear m
    simp (disch := omega) only [S, SL, Need_of, wrap_in, getD_map, getD_lt, Heap.set_ne, wrap_tdiv, tmod_nn, tdiv_nn, ↓reduceIte, eq_self, Nat.reduceEqDiff, Nat.reduceAdd, Nat.reduceSub, Nat.reduceMul, Nat.reduceLeDiff, Int.reduceNeg, Int.reduceToNat, Int.reduceLE, Int.reduceLT, Int.reduceEq, e2, e3]
    refine callK.in (laws_toChart.c (c := c) f fun u h3 hu hv2 hcn2 hr m => ?_)
    obtain ⟨s3, s4⟩ : cellsOf? (tA u) = some [tA u] ∧ oneC (tA u) = true := by cases hu <;> exact ⟨rfl, rfl⟩
    have ua := m.at_.1
    have un : (blocks u).Nodup := by have := m.nodup; simpa [blocksL] using this
    have u2 : b2 ∉ blocks u := fun hm => by have := m.fresh b2 (by simp [blocksL, hm]); rw [e2] at this; cases this
    have u3 : b3 ∉ blocks u := fun hm => by have := m.fresh b3 (by simp [blocksL, hm]); rw [e3] at this; cases this
    have dj : ∀ x ∈ blocks t, x ∉ blocks u := fun x hx hm => at_some ta x hx (m.fresh x (by simp [blocksL, hm]))
    replace e2 := m.le _ _ e2
    replace e3 := m.le _ _ e3
    replace e7 := m.le _ _ e7
    replace ta := at_le m.le ta
    simp (disch := omega) only [S, SL, Need_of, wrap_in, getD_map, getD_lt, Heap.set_ne, wrap_tdiv, tmod_nn, tdiv_nn, ↓reduceIte, eq_self, Nat.reduceEqDiff, Nat.reduceAdd, Nat.reduceSub, Nat.reduceMul, Nat.reduceLeDiff, Int.reduceNeg, Int.reduceToNat, Int.reduceLE, Int.reduceLT, Int.reduceEq, e2, e3, e7]
    refine allocK.in fun b8 hb8 => ?_
    simp (disch := omega) only [S, SL, Need_of, wrap_in, getD_map, getD_lt, Heap.set_ne, wrap_tdiv, tmod_nn, tdiv_nn, ↓reduceIte, eq_self, Nat.reduceEqDiff, Nat.reduceAdd, Nat.reduceSub, Nat.reduceMul, Nat.reduceLeDiff, Int.reduceNeg, Int.reduceToNat, Int.reduceLE, Int.reduceLT, Int.reduceEq, s3, s4]
    have t8 : b8 ∉ blocks t := fun hm => at_some ta b8 hm hb8
    have u8 : b8 ∉ blocks u := fun hm => at_some ua b8 hm hb8
    replace e2 := Heap.le_new (k := .row 37 [tA u]) hb8 _ _ e2
    replace e3 := Heap.le_new (k := .row 37 [tA u]) hb8 _ _ e3
    replace e7 := Heap.le_new (k := .row 37 [tA u]) hb8 _ _ e7
    replace ta := at_le (Heap.le_new (k := .row 37 [tA u]) hb8) ta
    replace ua := at_le (Heap.le_new (k := .row 37 [tA u]) hb8) ua
    have e8 : (h3.set b8 (.row 37 [tA u])) b8 = some (.row 37 [tA u]) := Heap.set_same _ _ _
    generalize h3.set b8 _ = h3 at e2 e3 e7 e8 ta ua ⊢
    clear m
    simp (disch := omega) only [S, SL, Need_of, wrap_in, getD_map, getD_lt, Heap.set_ne, wrap_tdiv, tmod_nn, tdiv_nn, ↓reduceIte, eq_self, Nat.reduceEqDiff, Nat.reduceAdd, Nat.reduceSub, Nat.reduceMul, Nat.reduceLeDiff, Int.reduceNeg, Int.reduceToNat, Int.reduceLE, Int.reduceLT, Int.reduceEq, e2, e3, e7, e8]
    refine callK.in (lend_row (args := [.agg [iA p.heads, tA t], .agg [tA u]]) (n := 256) (cells := (nextB p c).map bA) (ty := 4) (ys := [cfgA p, chartA c]) rfl (vw_two (vw_cfg ta hv) (vw_chart ua hv2)) solid_bA (fun k => impl_ChartNext.c f k) fun b9 hb9 => ?_)
    have t9 : b9 ∉ blocks t := fun hm => at_some ta b9 hm hb9
    have u9 : b9 ∉ blocks u := fun hm => at_some ua b9 hm hb9
    replace e2 := Heap.le_new (k := .row 4 ((nextB p c).map bA)) hb9 _ _ e2
    replace e3 := Heap.le_new (k := .row 4 ((nextB p c).map bA)) hb9 _ _ e3
    replace e7 := Heap.le_new (k := .row 4 ((nextB p c).map bA)) hb9 _ _ e7
    replace e8 := Heap.le_new (k := .row 4 ((nextB p c).map bA)) hb9 _ _ e8
    replace ta := at_le (Heap.le_new (k := .row 4 ((nextB p c).map bA)) hb9) ta
    replace ua := at_le (Heap.le_new (k := .row 4 ((nextB p c).map bA)) hb9) ua
    have e9 : (h3.set b9 (.row 4 ((nextB p c).map bA))) b9 = some (.row 4 ((nextB p c).map bA)) := Heap.set_same _ _ _
    have n92 : b9 ≠ b2 := fun e => by rw [← e, e9] at e2; cases e2
    have n93 : b9 ≠ b3 := fun e => by rw [← e, e9] at e3; cases e3
    generalize h3.set b9 _ = h4 at e2 e3 e7 e8 e9 ta ua ⊢
    simp (disch := omega) only [S, SL, Need_of, wrap_in, getD_map, getD_lt, Heap.set_ne, wrap_tdiv, tmod_nn, tdiv_nn, ↓reduceIte, eq_self, Nat.reduceEqDiff, Nat.reduceAdd, Nat.reduceSub, Nat.reduceMul, Nat.reduceLeDiff, Int.reduceNeg, Int.reduceToNat, Int.reduceLE, Int.reduceLT, Int.reduceEq, e2, e3, e7, e8]
    refine callK.in (CALL.lendV (args := [.own b9 256, boolsI (nextB p c)]) (ys := [boolsI (nextB p c), boolsI (nextB p c)]) rfl (vw_two (vw_mask e9) (.refl _)) (laws_eqBoolS.c (by omega) (by omega)) rfl ?_)
    simp (disch := omega) only [S, SL, Need_of, wrap_in, getD_map, getD_lt, Heap.set_ne, wrap_tdiv, tmod_nn, tdiv_nn, ↓reduceIte, eq_self, Nat.reduceEqDiff, Nat.reduceAdd, Nat.reduceSub, Nat.reduceMul, Nat.reduceLeDiff, Int.reduceNeg, Int.reduceToNat, Int.reduceLE, Int.reduceLT, Int.reduceEq, e2, e3, e7, e8]
    repeat' (with_reducible apply And.intro)
    all_goals
      refine callK.in (laws_toCfg.i (c := p) (by omega) ?_)
      simp (disch := omega) only [S, SL, Need_of, wrap_in, getD_map, getD_lt, Heap.set_ne, wrap_tdiv, tmod_nn, tdiv_nn, ↓reduceIte, eq_self, Nat.reduceEqDiff, Nat.reduceAdd, Nat.reduceSub, Nat.reduceMul, Nat.reduceLeDiff, Int.reduceNeg, Int.reduceToNat, Int.reduceLE, Int.reduceLT, Int.reduceEq, e2, e3, e7, e8]
      refine callK.in (CALL.lendV (ys := [cfgA p, cfgA p]) rfl (vw_two (vw_cfg ta hv) (.refl _)) (laws_eqCfg.c hw hw) rfl ?_)
      simp (disch := omega) only [S, SL, Need_of, wrap_in, getD_map, getD_lt, Heap.set_ne, wrap_tdiv, tmod_nn, tdiv_nn, ↓reduceIte, eq_self, Nat.reduceEqDiff, Nat.reduceAdd, Nat.reduceSub, Nat.reduceMul, Nat.reduceLeDiff, Int.reduceNeg, Int.reduceToNat, Int.reduceLE, Int.reduceLT, Int.reduceEq, e2, e3, e7, e8]
      repeat' (with_reducible apply And.intro)
      all_goals
        refine callK.in (laws_toChart.i (c := c) f ?_)
        simp (disch := omega) only [S, SL, Need_of, wrap_in, getD_map, getD_lt, Heap.set_ne, wrap_tdiv, tmod_nn, tdiv_nn, ↓reduceIte, eq_self, Nat.reduceEqDiff, Nat.reduceAdd, Nat.reduceSub, Nat.reduceMul, Nat.reduceLeDiff, Int.reduceNeg, Int.reduceToNat, Int.reduceLE, Int.reduceLT, Int.reduceEq, e2, e3, e7, e8]
        refine callK.in (CALL.lendV (ys := [chartA c, chartA c]) rfl (vw_two (vw_chart ua hv2) (.refl _)) (laws_eqChart.c hc hc) rfl ?_)
        simp (disch := omega) only [S, SL, Need_of, wrap_in, getD_map, getD_lt, Heap.set_ne, wrap_tdiv, tmod_nn, tdiv_nn, ↓reduceIte, eq_self, Nat.reduceEqDiff, Nat.reduceAdd, Nat.reduceSub, Nat.reduceMul, Nat.reduceLeDiff, Int.reduceNeg, Int.reduceToNat, Int.reduceLE, Int.reduceLT, Int.reduceEq, e2, e3, e7, e8]
        refine callK.in (laws_markCfg.c ht ta tn (by omega) fun h5 ta5 hf5 => ?_)
        have i2 := (hf5 b2 t2).trans e2
        have i3 := (hf5 b3 t3).trans e3
        have i8 := (hf5 b8 t8).trans e8
        have i9 := (hf5 b9 t9).trans e9
        have ua5 : u.at h5 := at_frame (fun x hx => hf5 x fun hm => dj x hm hx) ua
        simp (disch := omega) only [S, SL, Need_of, wrap_in, getD_map, getD_lt, Heap.set_ne, wrap_tdiv, tmod_nn, tdiv_nn, ↓reduceIte, eq_self, Nat.reduceEqDiff, Nat.reduceAdd, Nat.reduceSub, Nat.reduceMul, Nat.reduceLeDiff, Int.reduceNeg, Int.reduceToNat, Int.reduceLE, Int.reduceLT, Int.reduceEq, i2, i3, i8]
        refine callK.in (laws_markChart.c hu ua5 un (by omega) (by omega) fun h6 ua6 hf6 => ?_)
        have j2 := (hf6 b2 u2).trans i2
        have j3 := (hf6 b3 u3).trans i3
        have j9 := (hf6 b9 u9).trans i9
        have k1 : ¬ (1 + (count t : Int) + count u < 0) := by omega
        simp (disch := omega) only [S, SL, Need_of, wrap_in, getD_map, getD_lt, Heap.set_ne, wrap_tdiv, tmod_nn, tdiv_nn, ↓reduceIte, eq_self, Nat.reduceEqDiff, Nat.reduceAdd, Nat.reduceSub, Nat.reduceMul, Nat.reduceLeDiff, Int.reduceNeg, Int.reduceToNat, Int.reduceLE, Int.reduceLT, Int.reduceEq, k1]
        refine callK.in (CALL.lendV (args := [.own b9 256, boolsI (nextB p c)]) (ys := [boolsI (nextB p c), boolsI (nextB p c)]) rfl (vw_two (vw_mask j9) (.refl _)) (laws_eqBoolS.c (by omega) (by omega)) rfl ?_)
        simp (disch := omega) only [S, SL, Need_of, wrap_in, getD_map, getD_lt, Heap.set_ne, wrap_tdiv, tmod_nn, tdiv_nn, ↓reduceIte, eq_self, Nat.reduceEqDiff, Nat.reduceAdd, Nat.reduceSub, Nat.reduceMul, Nat.reduceLeDiff, Int.reduceNeg, Int.reduceToNat, Int.reduceLE, Int.reduceLT, Int.reduceEq, k1]
        refine callK.in (mark_mask nl j9 fun h7 td hf7 => ?_)
        have m2 := (hf7 b2 (fun e => n92 e.symm)).trans j2
        have m3 := (hf7 b3 (fun e => n93 e.symm)).trans j3
        simp (disch := omega) only [S, SL, Need_of, wrap_in, getD_map, getD_lt, Heap.set_ne, wrap_tdiv, tmod_nn, tdiv_nn, ↓reduceIte, eq_self, Nat.reduceEqDiff, Nat.reduceAdd, Nat.reduceSub, Nat.reduceMul, Nat.reduceLeDiff, Int.reduceNeg, Int.reduceToNat, Int.reduceLE, Int.reduceLT, Int.reduceEq]
        refine callK.in (held_mask nl td ?_)
        simp (disch := omega) only [S, SL, Need_of, wrap_in, getD_map, getD_lt, Heap.set_ne, wrap_tdiv, tmod_nn, tdiv_nn, ↓reduceIte, eq_self, Nat.reduceEqDiff, Nat.reduceAdd, Nat.reduceSub, Nat.reduceMul, Nat.reduceLeDiff, Int.reduceNeg, Int.reduceToNat, Int.reduceLE, Int.reduceLT, Int.reduceEq, m2, m3]
        repeat' (with_reducible apply And.intro)
        all_goals
          refine callK.in (laws_toCfg.i (c := p) (by omega) ?_)
          simp (disch := omega) only [S, SL, Need_of, wrap_in, getD_map, getD_lt, Heap.set_ne, wrap_tdiv, tmod_nn, tdiv_nn, ↓reduceIte, eq_self, Nat.reduceEqDiff, Nat.reduceAdd, Nat.reduceSub, Nat.reduceMul, Nat.reduceLeDiff, Int.reduceNeg, Int.reduceToNat, Int.reduceLE, Int.reduceLT, Int.reduceEq, m2, m3]
          refine callK.in (laws_toChart.i (c := c) f ?_)
          simp (disch := omega) only [S, SL, Need_of, wrap_in, getD_map, getD_lt, Heap.set_ne, wrap_tdiv, tmod_nn, tdiv_nn, ↓reduceIte, eq_self, Nat.reduceEqDiff, Nat.reduceAdd, Nat.reduceSub, Nat.reduceMul, Nat.reduceLeDiff, Int.reduceNeg, Int.reduceToNat, Int.reduceLE, Int.reduceLT, Int.reduceEq, m2, m3]
          refine callK.in (lay_bools nl (impl_ChartNext.c (p := p) f) ?_)
          simp (disch := omega) only [S, SL, Need_of, wrap_in, getD_map, getD_lt, Heap.set_ne, wrap_tdiv, tmod_nn, tdiv_nn, ↓reduceIte, eq_self, Nat.reduceEqDiff, Nat.reduceAdd, Nat.reduceSub, Nat.reduceMul, Nat.reduceLeDiff, Int.reduceNeg, Int.reduceToNat, Int.reduceLE, Int.reduceLT, Int.reduceEq]
          refine callK.in (laws_eqBoolS.c (by omega) (by omega) ?_)
          simp (disch := omega) only [S, SL, Need_of, wrap_in, getD_map, getD_lt, Heap.set_ne, wrap_tdiv, tmod_nn, tdiv_nn, ↓reduceIte, eq_self, Nat.reduceEqDiff, Nat.reduceAdd, Nat.reduceSub, Nat.reduceMul, Nat.reduceLeDiff, Int.reduceNeg, Int.reduceToNat, Int.reduceLE, Int.reduceLT, Int.reduceEq]
          refine callK.in (held_mask nl td ?_)
          simp (disch := omega) only [S, SL, Need_of, wrap_in, getD_map, getD_lt, Heap.set_ne, wrap_tdiv, tmod_nn, tdiv_nn, ↓reduceIte, eq_self, Nat.reduceEqDiff, Nat.reduceAdd, Nat.reduceSub, Nat.reduceMul, Nat.reduceLeDiff, Int.reduceNeg, Int.reduceToNat, Int.reduceLE, Int.reduceLT, Int.reduceEq]
          exact fin.same rfl
end Go.Proofs.Ytabbipdkbdojiaa
