/- What the laws' functions to.., eq.. come to over charts as own memory, and over truth values. No condition. -/
import Derived.Test.YtabbipdkbdojiaaLawChart
import Derived.Test.YtabbipdkbdojiaaMarkChart
import Derived.Test.YtabbipdkbdojiaaChart4
namespace Go.Ab
open Go
def EItm (s : Itm) (ts : List Tree) : Prop := ts = itmT s
/-- A set, as own memory. -/
def ESet (s : List Itm) (ts : List Tree) : Prop := ∃ t, ts = [t] ∧ IsSyms t ∧ tV t = .imm false (s.map itmA) ∧ count t = 3 * s.length
theorem ESet.len {s : List Itm} {ts : List Tree} (h : ESet s ts) : ts.length = 1 := by obtain ⟨t, rfl, _⟩ := h; rfl
theorem ESet.view {s : List Itm} {ts : List Tree} (h : ESet s ts) : ts.map tV = setA s := by obtain ⟨t, rfl, _, hv, _⟩ := h; simp [setA, hv]
theorem sets_parts {l : List (List Itm)} {parts : List (List Tree)} (hp : Parts ESet l parts) (b : Nat) (ty : TypeId) : IsSets (.row b ty l.length 1 parts.flatten) ∧ count (.row b ty l.length 1 parts.flatten) = 3 * (l.map List.length).sum := by
  have get : ∀ (i : Nat) (hi : i < l.length), ∃ ts, parts[i]? = some ts ∧ ESet l[i] ts := fun i hi =>
    ⟨_, List.getElem?_eq_getElem (by rw [hp.len]; exact hi), hp.each i _ _ (List.getElem?_eq_getElem hi) (List.getElem?_eq_getElem _)⟩
  have hlen : ∀ ts ∈ parts, ts.length = 1 := fun ts hts => by
    obtain ⟨i, hi⟩ := List.getElem?_of_mem hts
    have hil := (List.getElem?_eq_some_iff.1 hi).1
    obtain ⟨us, h1, h2⟩ := get i (by rw [← hp.len]; exact hil)
    rw [hi] at h1; cases h1; exact ESet.len h2
  have hfl : parts.flatten.length = l.length * 1 := by rw [parts_len hlen, hp.len]
  constructor
  · refine .row b ty l.length parts.flatten hfl (fun i => parts.flatten.getD i .nil) fun i hi => ?_
    obtain ⟨ts, h1, t, rfl, h3, _⟩ := get i hi
    have g0 := parts_get hlen i 0 (by omega)
    rw [h1, Nat.mul_one, Nat.add_zero] at g0
    have g0' : parts.flatten[i]? = some t := g0
    rw [List.getD_eq_getElem?_getD, g0']; exact ⟨rfl, h3⟩
  · rw [count, countL_flat]
    have key : ∀ (l : List (List Itm)) (ps : List (List Tree)), Parts ESet l ps → (ps.map countL).sum = 3 * (l.map List.length).sum := by
      intro l
      induction l with
      | nil => intro ps h; have : ps = [] := List.length_eq_zero_iff.1 h.len; subst this; rfl
      | cons p l ih =>
        intro ps h
        cases ps with
        | nil => have := h.len; simp at this
        | cons t ps =>
          have h0 := h.each 0 p t rfl rfl
          have := ih ps ⟨by have := h.len; simpa using this, fun i a ts ha hts => h.each (i + 1) a ts (by simpa using ha) (by simpa using hts)⟩
          obtain ⟨u, rfl, _, _, hc⟩ := h0
          simp only [List.map_cons, List.sum_cons, this, countL, hc]
          omega
    exact key l parts hp
theorem vw_chart {h : Heap} {c : Cht} {t : Tree} (ht : t.at h) (hv : tV t = .imm false (c.sets.map setA)) : Vw h (.agg [tA t]) (chartA c) := by
  have := at_vw ht
  rw [hv] at this
  refine .agg _ _ rfl fun i x y hx hy => ?_
  match i with
  | 0 => simp [chartL] at hx hy; subst hx; subst hy; exact this
  | i + 1 => simp at hx
/-- Truth values that don't change. -/
def boolsI (l : List Bool) : AV := .imm false (l.map fun x => [bA x])
def boolsT (b : Nat) (ty : TypeId) (bs : List Bool) : Tree := .row b ty bs.length 1 (bs.map fun x => .leaf (.bool x))
theorem boolsT_is (b : Nat) (ty : TypeId) (bs : List Bool) : IsBools (boolsT b ty bs) := by
  refine .row b ty bs.length _ (by simp) (fun j => bs.getD j false) fun j hj => ?_
  rw [List.getElem?_map, List.getElem?_eq_getElem hj, List.getD_eq_getElem?_getD, List.getElem?_eq_getElem hj]; rfl
theorem bools_blocks (b : Nat) (ty : TypeId) (bs : List Bool) : blocks (boolsT b ty bs) = [b] := by
  show b :: blocksL _ = [b]
  rw [blocksL_flat_nil fun z hz => by obtain ⟨x, -, rfl⟩ := List.mem_map.1 hz; rfl]
theorem boolsT_at {h : Heap} {b : Nat} {ty : TypeId} {bs : List Bool} (hb : h b = some (.row ty (bs.map bA))) : (boolsT b ty bs).at h := by
  refine ⟨by rw [hb, List.map_map]; rfl, by simp, atL_of_mem fun t ht => by obtain ⟨x, -, rfl⟩ := List.mem_map.1 ht; trivial⟩
theorem boolsT_count (b : Nat) (ty : TypeId) (bs : List Bool) : count (boolsT b ty bs) = bs.length := by
  show countL _ = _
  induction bs with
  | nil => rfl
  | cons x bs ih => simp only [List.map_cons, countL, count, List.length_cons]; rw [ih]; omega
theorem vw_bools {h : Heap} {b : Nat} {e : TypeId} {l : List Bool} (hb : h b = some (.row e (l.map bA))) : Vw h (.own b l.length) (boolsI l) := by
  have hv := at_vw (boolsT_at hb)
  have : tV (boolsT b e l) = boolsI l := by
    have r : RowsT e 1 (flatE fun x : Bool => [Value.bool x]) l (boolsT b e l) := by
      refine RowsT.ofFlat ?_
      have : (l.flatMap fun x : Bool => [Value.bool x]).map Tree.leaf = l.map fun x => .leaf (.bool x) := by
        clear hb hv
        induction l with
        | nil => rfl
        | cons x l ih => rw [List.flatMap_cons, List.map_append, ih]; rfl
      rw [this]
      exact .row b _ _ (by simp)
    exact r.flatView fun _ => rfl
  rw [this] at hv
  exact hv
/-- Own memory lent to a call that makes one row. -/
theorem lend_row {P : Program} {f : FuncId} {args ys : List AV} {n : Nat} {cells : List AV} {ty : TypeId} {h : Heap} {Q : AV → Heap → Prop} (hl : args.length = ys.length) (hv : ∀ (i : Nat) (x y : AV), args[i]? = some x → ys[i]? = some y → Vw h x y) (hsol : ∀ x ∈ cells, solid x = true)
    (hc : ∀ {Q' : AV → Heap → Prop}, (∀ b, Heap.none b = none → Q' (.own b n) (Heap.none.set b (.row ty cells))) → CALL P f ys Heap.none Q') (hQ : ∀ b, h b = none → Q (.own b n) (h.set b (.row ty cells))) : CALL P f args h Q := by
  refine CALL.lend hl hv (hc (Q' := fun r h' => ∃ b, r = .own b n ∧ h' = Heap.none.set b (.row ty cells)) fun b hb => ⟨b, rfl, rfl⟩) ?_
  rintro r h' ⟨b, rfl, rfl⟩
  refine ⟨rfl, fun c k hk => ?_, fun hd => ?_⟩
  · simp only [Heap.set, Heap.none] at hk
    split at hk
    · cases hk; exact hsol
    · cases hk
  · have e : (Heap.none.set b (.row ty cells)).or h = h.set b (.row ty cells) := by
      funext i; simp only [Heap.or, Heap.set, Heap.none]; split <;> rfl
    rw [e]
    exact hQ b (hd b (by rw [Heap.set_same]; simp))
theorem solid_bA {l : List Bool} : ∀ x ∈ l.map bA, solid x = true := fun x hx => by obtain ⟨y, -, rfl⟩ := List.mem_map.1 hx; rfl
theorem nextB_len (p : Cfg) (c : Cht) : (nextB p c).length = 256 := by
  unfold nextB; split
  · rw [expectV, List.length_map, List.length_range]
  · exact List.length_replicate
end Go.Ab
namespace Go.Proofs.Ytabbipdkbdojiaa
open Go Go.Ab
set_option linter.unusedVariables false
set_option linter.unusedSimpArgs false

theorem toItemS.c {l : List Itm} (hl : l.length ≤ 4294967296) {h : Heap} {Q : AV → Heap → Prop} (hQ : ∀ t h', IsSyms t → tV t = .imm false (l.map itmA) → count t = 3 * l.length → Made h h' [t] → Q (tA t) h') : CALL Try.prog 95 [.imm false (l.map itmA)] h Q := by
  refine toSlice_c (val := fun s => .agg (itmA s)) (E := EItm) (rv := fun ts => .agg (ts.map tA)) (zs := [.leaf (.int .i64 0), .leaf (.int .i64 0), .leaf (.int .i64 0)]) mixed toItemS.tr itmA_len (fun _ => rfl) (fun a ts h => ⟨by rw [h]; rfl, rfl⟩) rfl rfl ?_ (fun x hx h Q hf => laws_toItem.c (hf (itmT x) h rfl ?_)) (fun a ts h => by rw [h]; rfl) hl fun b parts h' hp m => ?_
  · intro z hz
    have : z = .leaf (.int .i64 0) := by simpa using hz
    subst this; exact ⟨rfl, fun _ => trivial⟩
  · exact ⟨⟨trivial, trivial, trivial, trivial⟩, List.nodup_nil, fun b hb => by simp [itmT, blocksL, blocks] at hb, Heap.le_refl _⟩
  · have hlen : ∀ ts ∈ parts, ts.length = 3 := fun ts hts => by
      obtain ⟨i, hi⟩ := List.getElem?_of_mem hts
      have hil := (List.getElem?_eq_some_iff.1 hi).1
      have hl' : l[i]? = some (l[i]'(by rw [← hp.len]; exact hil)) := by simp [← hp.len, hil]
      have := hp.each i _ ts hl' hi
      rw [this]; rfl
    have hfl : parts.flatten.length = l.length * 3 := by rw [parts_len hlen, hp.len]
    refine hQ _ h' (.row b _ _ _ hfl (fun j => (match parts.flatten[j]? with | some (.leaf (.int _ n)) => n | _ => 0)) fun j hj => ?_) (hp.view fun a ha ts h => ⟨by rw [h]; rfl, by rw [h]; rfl⟩) ?_ m
    · have hi : j / 3 < l.length := by omega
      have hj3 : j = (j / 3) * 3 + j % 3 := by omega
      have hget := parts_get hlen (j / 3) (j % 3) (by omega)
      rw [← hj3] at hget
      have hpi : parts[j / 3]? = some (itmT l[j / 3]) := by
        rw [List.getElem?_eq_getElem (by rw [hp.len]; exact hi)]
        exact congrArg some (hp.each (j / 3) _ _ (List.getElem?_eq_getElem hi) (List.getElem?_eq_getElem _))
      rw [hpi] at hget
      simp only [Option.bind_some] at hget
      have hm : j % 3 = 0 ∨ j % 3 = 1 ∨ j % 3 = 2 := by omega
      rcases hm with hm | hm | hm <;> rw [hm] at hget <;> rw [hget] <;> rfl
    · rw [count, countL_flat]
      have key : ∀ (ps : List (List Tree)), (∀ ts ∈ ps, countL ts = 3) → (ps.map countL).sum = 3 * ps.length := by
        intro ps
        induction ps with
        | nil => intro _; rfl
        | cons t ps ih => intro h; rw [List.map_cons, List.sum_cons, ih fun ts hts => h ts (List.mem_cons_of_mem _ hts), h t (List.mem_cons_self ..), List.length_cons]; omega
      rw [← hp.len]
      refine key parts fun ts hts => ?_
      obtain ⟨i, hi⟩ := List.getElem?_of_mem hts
      have hil := (List.getElem?_eq_some_iff.1 hi).1
      have hl' : l[i]? = some (l[i]'(by rw [← hp.len]; exact hil)) := by simp [← hp.len, hil]
      have := hp.each i _ ts hl' hi
      rw [this]; rfl
theorem toItemSS.c {l : List (List Itm)} (hl : l.length ≤ 4294967296) (hb : ∀ s ∈ l, s.length ≤ 4294967296) {h : Heap} {Q : AV → Heap → Prop} (hQ : ∀ t h', IsSets t → tV t = .imm false (l.map setA) → count t = 3 * (l.map List.length).sum → rowsT t = l.length → Made h h' [t] → Q (tA t) h') : CALL Try.prog 56 [.imm false (l.map setA)] h Q := by
  refine toSlice_c (val := fun s => .imm false (s.map itmA)) (E := ESet) (rv := fun ts => (ts.map tA).getD 0 .junk) (zs := [.nil]) mixed toItemSS.tr setA_len (fun _ => rfl) (fun a ts h => ⟨h.len, ?_⟩) rfl rfl ?_ (fun x hx h Q hf => toItemS.c (hb x hx) fun t h' hs hv hc m => hf [t] h' ⟨t, rfl, hs, hv, hc⟩ m) (fun a ts h => by obtain ⟨t, rfl, hs, _⟩ := h; cases hs <;> rfl) hl fun b parts h' hp m => ?_
  · obtain ⟨t, rfl, hs, _⟩ := h; cases hs <;> rfl
  · intro z hz
    have : z = .nil := by simpa using hz
    subst this; exact ⟨rfl, fun _ => trivial⟩
  · obtain ⟨h1, h2⟩ := sets_parts hp b 80
    exact hQ _ h' h1 (hp.view fun a ha ts h => ⟨h.len, h.view⟩) h2 rfl m
theorem laws_toChart.c {c : Cht} (f : ChtFit c) {h : Heap} {Q : AV → Heap → Prop} (hQ : ∀ t h', IsSets t → tV t = .imm false (c.sets.map setA) → count t ≤ 3 * szChtN c → rowsT t ≤ szChtN c → Made h h' [t] → Q (.agg [tA t]) h') : CALL Try.prog laws_toChart.id [chartA c] h Q := by
  refine CALL_by mixed laws_toChart.tr (Nat.le_of_ble_eq_true rfl) ?_
  simp (disch := omega) only [S, SL, Need_of, wrap_in, getD_map, getD_lt, Heap.set_ne, wrap_tdiv, tmod_nn, tdiv_nn, ↓reduceIte, eq_self, Nat.reduceEqDiff, Nat.reduceAdd, Nat.reduceSub, Nat.reduceMul, Nat.reduceLeDiff, Int.reduceNeg, Int.reduceToNat, Int.reduceLE, Int.reduceLT, Int.reduceEq, laws_toChart.g, chartA, chartL]
  refine allocK.in fun b1 hb1 => ?_
  simp (disch := omega) only [S, SL, Need_of, wrap_in, getD_map, getD_lt, Heap.set_ne, wrap_tdiv, tmod_nn, tdiv_nn, ↓reduceIte, eq_self, Nat.reduceEqDiff, Nat.reduceAdd, Nat.reduceSub, Nat.reduceMul, Nat.reduceLeDiff, Int.reduceNeg, Int.reduceToNat, Int.reduceLE, Int.reduceLT, Int.reduceEq]
  refine allocK.in fun b2 hb2 => ?_
  have ne2 := Heap.new_ne hb2
  have hn2 := Heap.new_none hb2
  simp (disch := omega) only [S, SL, Need_of, wrap_in, getD_map, getD_lt, Heap.set_ne, wrap_tdiv, tmod_nn, tdiv_nn, ↓reduceIte, eq_self, Nat.reduceEqDiff, Nat.reduceAdd, Nat.reduceSub, Nat.reduceMul, Nat.reduceLeDiff, Int.reduceNeg, Int.reduceToNat, Int.reduceLE, Int.reduceLT, Int.reduceEq]
  refine allocK.in fun b3 hb3 => ?_
  have ne3 := Heap.new_ne hb3
  have ne31 := Heap.new_ne (Heap.new_none hb3)
  have hn3 := Heap.new_none (Heap.new_none hb3)
  simp (disch := omega) only [S, SL, Need_of, wrap_in, getD_map, getD_lt, Heap.set_ne, wrap_tdiv, tmod_nn, tdiv_nn, ↓reduceIte, eq_self, Nat.reduceEqDiff, Nat.reduceAdd, Nat.reduceSub, Nat.reduceMul, Nat.reduceLeDiff, Int.reduceNeg, Int.reduceToNat, Int.reduceLE, Int.reduceLT, Int.reduceEq]
  refine callK.in (toItemSS.c f.len f.sets fun t h' hs' hv hc hr m => ?_)
  obtain ⟨s1, s2⟩ : cellsOf? (tA t) = some [tA t] ∧ oneC (tA t) = true := by cases hs' <;> exact ⟨rfl, rfl⟩
  have l2 : h' b2 = some (.row 37 [nilA]) := m.le b2 _ (by simp (disch := omega) only [S, SL, Need_of, wrap_in, getD_map, getD_lt, Heap.set_ne, wrap_tdiv, tmod_nn, tdiv_nn, ↓reduceIte, eq_self, Nat.reduceEqDiff, Nat.reduceAdd, Nat.reduceSub, Nat.reduceMul, Nat.reduceLeDiff, Int.reduceNeg, Int.reduceToNat, Int.reduceLE, Int.reduceLT, Int.reduceEq])
  have l3 : h' b3 = some (.row 37 [nilA]) := m.le b3 _ (by simp (disch := omega) only [S, SL, Need_of, wrap_in, getD_map, getD_lt, Heap.set_ne, wrap_tdiv, tmod_nn, tdiv_nn, ↓reduceIte, eq_self, Nat.reduceEqDiff, Nat.reduceAdd, Nat.reduceSub, Nat.reduceMul, Nat.reduceLeDiff, Int.reduceNeg, Int.reduceToNat, Int.reduceLE, Int.reduceLT, Int.reduceEq])
  have n2 := m.not (b := b2) (k := .row 37 [nilA]) (by simp (disch := omega) only [S, SL, Need_of, wrap_in, getD_map, getD_lt, Heap.set_ne, wrap_tdiv, tmod_nn, tdiv_nn, ↓reduceIte, eq_self, Nat.reduceEqDiff, Nat.reduceAdd, Nat.reduceSub, Nat.reduceMul, Nat.reduceLeDiff, Int.reduceNeg, Int.reduceToNat, Int.reduceLE, Int.reduceLT, Int.reduceEq])
  have n3 := m.not (b := b3) (k := .row 37 [nilA]) (by simp (disch := omega) only [S, SL, Need_of, wrap_in, getD_map, getD_lt, Heap.set_ne, wrap_tdiv, tmod_nn, tdiv_nn, ↓reduceIte, eq_self, Nat.reduceEqDiff, Nat.reduceAdd, Nat.reduceSub, Nat.reduceMul, Nat.reduceLeDiff, Int.reduceNeg, Int.reduceToNat, Int.reduceLE, Int.reduceLT, Int.reduceEq])
  simp (disch := omega) only [S, SL, Need_of, wrap_in, getD_map, getD_lt, Heap.set_ne, wrap_tdiv, tmod_nn, tdiv_nn, ↓reduceIte, eq_self, Nat.reduceEqDiff, Nat.reduceAdd, Nat.reduceSub, Nat.reduceMul, Nat.reduceLeDiff, Int.reduceNeg, Int.reduceToNat, Int.reduceLE, Int.reduceLT, Int.reduceEq, l2, l3, s1, s2]
  refine fin.same (hQ t _ hs' hv ?_ ?_ ?_)
  · rw [hc]; unfold szChtN sizeL; omega
  · rw [hr]; unfold szChtN sizeL; omega
  · exact ((m.base (h := h) (by repeat' first | exact Heap.le_refl _ | refine Heap.le_set (by assumption) ?_)).put hn3 n3).put hn2 n2
theorem laws_eqBoolS.c {a b : List Bool} {h : Heap} {Q : AV → Heap → Prop} (hla : a.length ≤ 9223372036854775807) (hlb : b.length ≤ 9223372036854775807) (hQ : Q (bA (decide (a = b))) h) : CALL Try.prog laws_eqBoolS.id [boolsI a, boolsI b] h Q := by
  refine CALL_by mixed laws_eqBoolS.tr (Nat.le_of_ble_eq_true rfl) ?_
  simp (disch := omega) only [S, SL, Need_of, wrap_in, getD_map, getD_lt, Heap.set_ne, wrap_tdiv, tmod_nn, tdiv_nn, ↓reduceIte, eq_self, Nat.reduceEqDiff, Nat.reduceAdd, Nat.reduceSub, Nat.reduceMul, Nat.reduceLeDiff, Int.reduceNeg, Int.reduceToNat, Int.reduceLE, Int.reduceLT, Int.reduceEq, laws_eqBoolS.g, boolsI]
  refine condK_if (fun h1 => ?_) (fun h1 => ?_)
  · simp (disch := omega) only [S, SL, Need_of, wrap_in, getD_map, getD_lt, Heap.set_ne, wrap_tdiv, tmod_nn, tdiv_nn, ↓reduceIte, eq_self, Nat.reduceEqDiff, Nat.reduceAdd, Nat.reduceSub, Nat.reduceMul, Nat.reduceLeDiff, Int.reduceNeg, Int.reduceToNat, Int.reduceLE, Int.reduceLT, Int.reduceEq]
    have h1' : a.length = b.length := by omega
    refine CK_loop (α := Nat) (fun i => [(0, .imm false (a.map fun x => [bA x])), (1, .imm false (b.map fun x => [bA x])), (5, .val (.int .i64 i))]) (fun _ => h) (fun i => i ≤ a.length ∧ a.take i = b.take i) (fun i => a.length - i) 0 ?_ (Heap.le_refl _) ⟨Nat.zero_le _, rfl⟩ ?_
    · simp only [S, SL, ↓reduceIte, eq_self, Nat.reduceEqDiff, Nat.reduceAdd, Nat.reduceSub, Nat.reduceMul, Nat.reduceLeDiff, Int.reduceNeg, Int.reduceToNat, Int.reduceLE, Int.reduceLT, Int.reduceEq]
    · rintro R i ⟨hi, hpre⟩ next
      simp (disch := omega) only [S, SL, Need_of, wrap_in, getD_map, getD_lt, Heap.set_ne, wrap_tdiv, tmod_nn, tdiv_nn, ↓reduceIte, eq_self, Nat.reduceEqDiff, Nat.reduceAdd, Nat.reduceSub, Nat.reduceMul, Nat.reduceLeDiff, Int.reduceNeg, Int.reduceToNat, Int.reduceLE, Int.reduceLT, Int.reduceEq, laws_eqBoolS.l0]
      refine condK_if (fun h2 => ?_) (fun h2 => ?_)
      · have ha : i < a.length := by omega
        have hb : i < b.length := by omega
        simp (disch := omega) only [S, SL, Need_of, wrap_in, getD_map, getD_lt, Heap.set_ne, wrap_tdiv, tmod_nn, tdiv_nn, ↓reduceIte, eq_self, Nat.reduceEqDiff, Nat.reduceAdd, Nat.reduceSub, Nat.reduceMul, Nat.reduceLeDiff, Int.reduceNeg, Int.reduceToNat, Int.reduceLE, Int.reduceLT, Int.reduceEq]
        refine condK_bool (fun h3 => ?_) (fun h3 => ?_)
        · simp (disch := omega) only [S, SL, Need_of, wrap_in, getD_map, getD_lt, Heap.set_ne, wrap_tdiv, tmod_nn, tdiv_nn, ↓reduceIte, eq_self, Nat.reduceEqDiff, Nat.reduceAdd, Nat.reduceSub, Nat.reduceMul, Nat.reduceLeDiff, Int.reduceNeg, Int.reduceToNat, Int.reduceLE, Int.reduceLT, Int.reduceEq]
          exact next (i + 1) _ _ ⟨by omega, take_step ha hb hpre (beq_iff_eq.1 h3)⟩ (by omega) (by simp only [S, SL, ↓reduceIte, eq_self, Nat.reduceEqDiff, Nat.reduceAdd, Nat.reduceSub, Nat.reduceMul, Nat.reduceLeDiff, Int.reduceNeg, Int.reduceToNat, Int.reduceLE, Int.reduceLT, Int.reduceEq]) (Heap.le_refl _)
        · simp (disch := omega) only [S, SL, Need_of, wrap_in, getD_map, getD_lt, Heap.set_ne, wrap_tdiv, tmod_nn, tdiv_nn, ↓reduceIte, eq_self, Nat.reduceEqDiff, Nat.reduceAdd, Nat.reduceSub, Nat.reduceMul, Nat.reduceLeDiff, Int.reduceNeg, Int.reduceToNat, Int.reduceLE, Int.reduceLT, Int.reduceEq]
          exact fin.same (Q_no hQ fun e => by subst e; simp at h3)
      · simp (disch := omega) only [S, SL, Need_of, wrap_in, getD_map, getD_lt, Heap.set_ne, wrap_tdiv, tmod_nn, tdiv_nn, ↓reduceIte, eq_self, Nat.reduceEqDiff, Nat.reduceAdd, Nat.reduceSub, Nat.reduceMul, Nat.reduceLeDiff, Int.reduceNeg, Int.reduceToNat, Int.reduceLE, Int.reduceLT, Int.reduceEq]
        obtain rfl : i = a.length := by omega
        rw [List.take_length, h1', List.take_length] at hpre
        exact fin.same (Q_yes hQ hpre)
  · simp (disch := omega) only [S, SL, Need_of, wrap_in, getD_map, getD_lt, Heap.set_ne, wrap_tdiv, tmod_nn, tdiv_nn, ↓reduceIte, eq_self, Nat.reduceEqDiff, Nat.reduceAdd, Nat.reduceSub, Nat.reduceMul, Nat.reduceLeDiff, Int.reduceNeg, Int.reduceToNat, Int.reduceLE, Int.reduceLT, Int.reduceEq]
    exact fin.same (Q_no hQ fun e => h1 (by rw [e]))
end Go.Proofs.Ytabbipdkbdojiaa
