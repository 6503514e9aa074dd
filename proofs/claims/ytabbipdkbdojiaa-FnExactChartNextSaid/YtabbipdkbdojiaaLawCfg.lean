/- What the laws' functions sz.., to.., eq.. come to over productions and bytes. No condition. -/
import Derived.Test.YtabbipdkbdojiaaCodeD
import Derived.Test.YtabbipdkbdojiaaMarkCfg
import Derived.Test.YtabbipdkbdojiaaAb18
namespace Go.Ab
open Go
/-- How much productions hold. -/
def szPrd (p : Prd) : Nat := p.body.length
def szCfgN (c : Cfg) : Nat := sizeL szPrd c.prods
theorem sum_ge {α : Type} {s : α → Nat} {l : List α} {a : α} (h : a ∈ l) : s a ≤ (l.map s).sum := by
  induction l with
  | nil => cases h
  | cons x l ih =>
    simp only [List.map_cons, List.sum_cons]
    rcases List.mem_cons.1 h with rfl | h
    · omega
    · have := ih h; omega
/-- Productions as they're read from arguments. -/
def PrdWf (p : Prd) : Prop := p.body.length ≤ 9223372036854775807
def CfgWf (c : Cfg) : Prop := c.prods.length ≤ 9223372036854775807 ∧ ∀ p ∈ c.prods, PrdWf p
theorem CfgWf.of_size {c : Cfg} (h : szCfgN c ≤ 9223372036854775807) : CfgWf c := by
  unfold szCfgN sizeL at h
  refine ⟨by omega, fun p hp => ?_⟩
  have : p.body.length ≤ (c.prods.map szPrd).sum := sum_ge (s := szPrd) hp
  unfold PrdWf; omega
/-- The cells of a part, of a production, in own memory. -/
def symT (s : Sym) : List Tree := [.leaf (.int .i64 s.head), .leaf (.int .i64 s.low), .leaf (.int .i64 s.high)]
def EPrd (p : Prd) (ts : List Tree) : Prop := ∃ t, ts = [.leaf (.int .i64 p.head), t] ∧ IsSyms t ∧ tV t = .imm false (p.body.map symA) ∧ count t = 3 * p.body.length
theorem symT_tA (s : Sym) : (symT s).map tA = symA s := rfl
theorem EPrd.len {p : Prd} {ts : List Tree} (h : EPrd p ts) : ts.length = 2 := by obtain ⟨t, rfl, _⟩ := h; rfl
theorem EPrd.view {p : Prd} {ts : List Tree} (h : EPrd p ts) : ts.map tV = prdA p := by obtain ⟨t, rfl, _, hv, _⟩ := h; simp [tV, prdA, hv]
theorem prds_parts {l : List Prd} {parts : List (List Tree)} (hp : Parts EPrd l parts) (b : Nat) (ty : TypeId) : IsPrds (.row b ty l.length 2 parts.flatten) ∧ count (.row b ty l.length 2 parts.flatten) = l.length + 3 * (l.map szPrd).sum := by
  have get : ∀ (i : Nat) (hi : i < l.length), ∃ ts, parts[i]? = some ts ∧ EPrd l[i] ts := fun i hi =>
    ⟨_, List.getElem?_eq_getElem (by rw [hp.len]; exact hi), hp.each i _ _ (List.getElem?_eq_getElem hi) (List.getElem?_eq_getElem _)⟩
  have hlen : ∀ ts ∈ parts, ts.length = 2 := fun ts hts => by
    obtain ⟨i, hi⟩ := List.getElem?_of_mem hts
    have hil := (List.getElem?_eq_some_iff.1 hi).1
    obtain ⟨us, h1, h2⟩ := get i (by rw [← hp.len]; exact hil)
    rw [hi] at h1; cases h1; exact EPrd.len h2
  have hfl : parts.flatten.length = l.length * 2 := by rw [parts_len hlen, hp.len]
  have row : ∀ (i : Nat) (hi : i < l.length), ∃ t, parts.flatten[i * 2]? = some (.leaf (.int .i64 l[i].head)) ∧ parts.flatten[i * 2 + 1]? = some t ∧ IsSyms t := fun i hi => by
    obtain ⟨ts, h1, t, rfl, h3, _⟩ := get i hi
    have g0 := parts_get hlen i 0 (by omega)
    have g1 := parts_get hlen i 1 (by omega)
    rw [h1] at g0 g1
    exact ⟨t, g0, g1, h3⟩
  constructor
  · refine .row b ty l.length parts.flatten hfl (fun i => (l.getD i default).head) (fun i => parts.flatten.getD (i * 2 + 1) .nil) (fun i hi => ?_) (fun i hi => ?_)
    · obtain ⟨t, h1, h2, h3⟩ := row i hi
      rw [h1, List.getD_eq_getElem?_getD, List.getElem?_eq_getElem hi]; rfl
    · obtain ⟨t, h1, h2, h3⟩ := row i hi
      rw [List.getD_eq_getElem?_getD, h2]; exact ⟨rfl, h3⟩
  · rw [count, countL_flat]
    have key : ∀ (l : List Prd) (ps : List (List Tree)), Parts EPrd l ps → (ps.map countL).sum = l.length + 3 * (l.map szPrd).sum := by
      intro l
      induction l with
      | nil => intro ps h; have : ps = [] := List.length_eq_zero_iff.1 h.len; subst this; rfl
      | cons p l ih =>
        intro ps h
        cases ps with
        | nil => have := h.len; simp at this
        | cons t ps =>
          have h0 := h.each 0 p t rfl rfl
          have := ih ps ⟨by have := h.len; simpa using this, fun i a ts ha hts => h.each (i + 1) a ts (by simpa using ha) (by simpa using hts)⟩
          obtain ⟨u, rfl, _, _, hc⟩ := h0
          simp only [List.map_cons, List.sum_cons, this, countL, count, hc, List.length_cons, szPrd]
          omega
    exact key l parts hp
end Go.Ab

namespace Go.Proofs.Ytabbipdkbdojiaa
open Go Go.Ab
set_option linter.unusedVariables false
set_option linter.unusedSimpArgs false

/-! ### equal -/
theorem laws_eqSym.c {a b : Sym} {h : Heap} {Q : AV → Heap → Prop} (hQ : Q (bA (decide (a = b))) h) : CALL Try.prog laws_eqSym.id [.agg (symA a), .agg (symA b)] h Q := by
  obtain ⟨a1, a2, a3⟩ := a
  obtain ⟨b1, b2, b3⟩ := b
  refine CALL_by mixed laws_eqSym.tr (Nat.le_of_ble_eq_true rfl) ?_
  simp (disch := omega) only [S, SL, Need_of, wrap_in, getD_map, getD_lt, Heap.set_ne, wrap_tdiv, tmod_nn, tdiv_nn, ↓reduceIte, eq_self, Nat.reduceEqDiff, Nat.reduceAdd, Nat.reduceSub, Nat.reduceMul, Nat.reduceLeDiff, Int.reduceNeg, Int.reduceToNat, Int.reduceLE, Int.reduceLT, Int.reduceEq, laws_eqSym.g, symA]
  refine allocK.in fun c1 hc1 => ?_
  simp (disch := omega) only [S, SL, Need_of, wrap_in, getD_map, getD_lt, Heap.set_ne, wrap_tdiv, tmod_nn, tdiv_nn, ↓reduceIte, eq_self, Nat.reduceEqDiff, Nat.reduceAdd, Nat.reduceSub, Nat.reduceMul, Nat.reduceLeDiff, Int.reduceNeg, Int.reduceToNat, Int.reduceLE, Int.reduceLT, Int.reduceEq]
  refine allocK.in fun c2 hc2 => ?_
  have ne := Heap.new_ne hc2
  have hn2 := Heap.new_none hc2
  simp (disch := omega) only [S, SL, Need_of, wrap_in, getD_map, getD_lt, Heap.set_ne, wrap_tdiv, tmod_nn, tdiv_nn, ↓reduceIte, eq_self, Nat.reduceEqDiff, Nat.reduceAdd, Nat.reduceSub, Nat.reduceMul, Nat.reduceLeDiff, Int.reduceNeg, Int.reduceToNat, Int.reduceLE, Int.reduceLT, Int.reduceEq]
  repeat' ((first | refine gdK_if ?_ ?_ | refine condK_if ?_ ?_ | refine gdK_bool ?_ ?_ | refine condK_bool ?_ ?_) <;> intro hc <;> simp (disch := omega) only [S, SL, Need_of, wrap_in, getD_map, getD_lt, Heap.set_ne, wrap_tdiv, tmod_nn, tdiv_nn, ↓reduceIte, eq_self, Nat.reduceEqDiff, Nat.reduceAdd, Nat.reduceSub, Nat.reduceMul, Nat.reduceLeDiff, Int.reduceNeg, Int.reduceToNat, Int.reduceLE, Int.reduceLT, Int.reduceEq, hc])
  all_goals refine fin.of (h' := h) (by repeat' first | exact Heap.le_refl _ | refine Heap.le_set (by assumption) ?_) ?_
  all_goals first
    | exact Q_yes hQ (by simp only [Sym.mk.injEq]; omega)
    | exact Q_no hQ (by simp only [Sym.mk.injEq]; omega)
theorem eqSymS.tr : trFun Try.prog 118 = some (eqSliceG 3 true laws_eqSym.id) := by kernel_rfl
theorem eqSymS.c {a b : List Sym} {h : Heap} {Q : AV → Heap → Prop} (hla : a.length ≤ 9223372036854775807) (hlb : b.length ≤ 9223372036854775807) (hQ : Q (bA (decide (a = b))) h) : CALL Try.prog 118 [.imm false (a.map symA), .imm false (b.map symA)] h Q :=
  eqSlice_c (val := fun s => .agg (symA s)) mixed eqSymS.tr symA_len (fun _ => rfl) (fun _ _ _ _ => laws_eqSym.c) hla hlb hQ
theorem laws_eqProd.c {a b : Prd} {h : Heap} {Q : AV → Heap → Prop} (ha : PrdWf a) (hb : PrdWf b) (hQ : Q (bA (decide (a = b))) h) : CALL Try.prog laws_eqProd.id [.agg (prdA a), .agg (prdA b)] h Q := by
  obtain ⟨a1, a2⟩ := a
  obtain ⟨b1, b2⟩ := b
  refine CALL_by mixed laws_eqProd.tr (Nat.le_of_ble_eq_true rfl) ?_
  simp (disch := omega) only [S, SL, Need_of, wrap_in, getD_map, getD_lt, Heap.set_ne, wrap_tdiv, tmod_nn, tdiv_nn, ↓reduceIte, eq_self, Nat.reduceEqDiff, Nat.reduceAdd, Nat.reduceSub, Nat.reduceMul, Nat.reduceLeDiff, Int.reduceNeg, Int.reduceToNat, Int.reduceLE, Int.reduceLT, Int.reduceEq, laws_eqProd.g, prdA]
  refine allocK.in fun c1 hb1 => ?_
  simp (disch := omega) only [S, SL, Need_of, wrap_in, getD_map, getD_lt, Heap.set_ne, wrap_tdiv, tmod_nn, tdiv_nn, ↓reduceIte, eq_self, Nat.reduceEqDiff, Nat.reduceAdd, Nat.reduceSub, Nat.reduceMul, Nat.reduceLeDiff, Int.reduceNeg, Int.reduceToNat, Int.reduceLE, Int.reduceLT, Int.reduceEq]
  refine allocK.in fun c2 hb2 => ?_
  have ne := Heap.new_ne hb2
  simp (disch := omega) only [S, SL, Need_of, wrap_in, getD_map, getD_lt, Heap.set_ne, wrap_tdiv, tmod_nn, tdiv_nn, ↓reduceIte, eq_self, Nat.reduceEqDiff, Nat.reduceAdd, Nat.reduceSub, Nat.reduceMul, Nat.reduceLeDiff, Int.reduceNeg, Int.reduceToNat, Int.reduceLE, Int.reduceLT, Int.reduceEq]
  refine condK_if (fun h1 => ?_) (fun h1 => ?_)
  · simp (disch := omega) only [S, SL, Need_of, wrap_in, getD_map, getD_lt, Heap.set_ne, wrap_tdiv, tmod_nn, tdiv_nn, ↓reduceIte, eq_self, Nat.reduceEqDiff, Nat.reduceAdd, Nat.reduceSub, Nat.reduceMul, Nat.reduceLeDiff, Int.reduceNeg, Int.reduceToNat, Int.reduceLE, Int.reduceLT, Int.reduceEq]
    refine callK.in (eqSymS.c ha hb ?_)
    simp (disch := omega) only [S, SL, Need_of, wrap_in, getD_map, getD_lt, Heap.set_ne, wrap_tdiv, tmod_nn, tdiv_nn, ↓reduceIte, eq_self, Nat.reduceEqDiff, Nat.reduceAdd, Nat.reduceSub, Nat.reduceMul, Nat.reduceLeDiff, Int.reduceNeg, Int.reduceToNat, Int.reduceLE, Int.reduceLT, Int.reduceEq]
    refine condK_if (fun h2 => ?_) (fun h2 => ?_)
    · simp (disch := omega) only [S, SL, Need_of, wrap_in, getD_map, getD_lt, Heap.set_ne, wrap_tdiv, tmod_nn, tdiv_nn, ↓reduceIte, eq_self, Nat.reduceEqDiff, Nat.reduceAdd, Nat.reduceSub, Nat.reduceMul, Nat.reduceLeDiff, Int.reduceNeg, Int.reduceToNat, Int.reduceLE, Int.reduceLT, Int.reduceEq]
      exact fin.of (Heap.le_trans (Heap.le_new hb1) (Heap.le_new hb2)) (Q_yes hQ (by rw [h1, h2]))
    · simp (disch := omega) only [S, SL, Need_of, wrap_in, getD_map, getD_lt, Heap.set_ne, wrap_tdiv, tmod_nn, tdiv_nn, ↓reduceIte, eq_self, Nat.reduceEqDiff, Nat.reduceAdd, Nat.reduceSub, Nat.reduceMul, Nat.reduceLeDiff, Int.reduceNeg, Int.reduceToNat, Int.reduceLE, Int.reduceLT, Int.reduceEq]
      exact fin.of (Heap.le_trans (Heap.le_new hb1) (Heap.le_new hb2)) (Q_no hQ fun e => h2 (by injection e))
  · simp (disch := omega) only [S, SL, Need_of, wrap_in, getD_map, getD_lt, Heap.set_ne, wrap_tdiv, tmod_nn, tdiv_nn, ↓reduceIte, eq_self, Nat.reduceEqDiff, Nat.reduceAdd, Nat.reduceSub, Nat.reduceMul, Nat.reduceLeDiff, Int.reduceNeg, Int.reduceToNat, Int.reduceLE, Int.reduceLT, Int.reduceEq]
    exact fin.of (Heap.le_trans (Heap.le_new hb1) (Heap.le_new hb2)) (Q_no hQ fun e => h1 (by injection e))
theorem eqProdS.tr : trFun Try.prog 61 = some (eqSliceG 2 true laws_eqProd.id) := by kernel_rfl
theorem eqProdS.c {a b : List Prd} {h : Heap} {Q : AV → Heap → Prop} (hla : a.length ≤ 9223372036854775807) (hlb : b.length ≤ 9223372036854775807) (ha : ∀ p ∈ a, PrdWf p) (hb : ∀ p ∈ b, PrdWf p) (hQ : Q (bA (decide (a = b))) h) : CALL Try.prog 61 [.imm false (a.map prdA), .imm false (b.map prdA)] h Q :=
  eqSlice_c (val := fun s => .agg (prdA s)) mixed eqProdS.tr prdA_len (fun _ => rfl) (fun x hx y hy => laws_eqProd.c (ha x hx) (hb y hy)) hla hlb hQ
theorem laws_eqCfg.c {a b : Cfg} {h : Heap} {Q : AV → Heap → Prop} (ha : CfgWf a) (hb : CfgWf b) (hQ : Q (bA (decide (a = b))) h) : CALL Try.prog laws_eqCfg.id [cfgA a, cfgA b] h Q := by
  obtain ⟨a1, a2⟩ := a
  obtain ⟨b1, b2⟩ := b
  refine CALL_by mixed laws_eqCfg.tr (Nat.le_of_ble_eq_true rfl) ?_
  simp (disch := omega) only [S, SL, Need_of, wrap_in, getD_map, getD_lt, Heap.set_ne, wrap_tdiv, tmod_nn, tdiv_nn, ↓reduceIte, eq_self, Nat.reduceEqDiff, Nat.reduceAdd, Nat.reduceSub, Nat.reduceMul, Nat.reduceLeDiff, Int.reduceNeg, Int.reduceToNat, Int.reduceLE, Int.reduceLT, Int.reduceEq, laws_eqCfg.g, cfgA, cfgL]
  refine allocK.in fun c1 hb1 => ?_
  simp (disch := omega) only [S, SL, Need_of, wrap_in, getD_map, getD_lt, Heap.set_ne, wrap_tdiv, tmod_nn, tdiv_nn, ↓reduceIte, eq_self, Nat.reduceEqDiff, Nat.reduceAdd, Nat.reduceSub, Nat.reduceMul, Nat.reduceLeDiff, Int.reduceNeg, Int.reduceToNat, Int.reduceLE, Int.reduceLT, Int.reduceEq]
  refine allocK.in fun c2 hb2 => ?_
  have ne := Heap.new_ne hb2
  simp (disch := omega) only [S, SL, Need_of, wrap_in, getD_map, getD_lt, Heap.set_ne, wrap_tdiv, tmod_nn, tdiv_nn, ↓reduceIte, eq_self, Nat.reduceEqDiff, Nat.reduceAdd, Nat.reduceSub, Nat.reduceMul, Nat.reduceLeDiff, Int.reduceNeg, Int.reduceToNat, Int.reduceLE, Int.reduceLT, Int.reduceEq]
  refine condK_if (fun h1 => ?_) (fun h1 => ?_)
  · simp (disch := omega) only [S, SL, Need_of, wrap_in, getD_map, getD_lt, Heap.set_ne, wrap_tdiv, tmod_nn, tdiv_nn, ↓reduceIte, eq_self, Nat.reduceEqDiff, Nat.reduceAdd, Nat.reduceSub, Nat.reduceMul, Nat.reduceLeDiff, Int.reduceNeg, Int.reduceToNat, Int.reduceLE, Int.reduceLT, Int.reduceEq]
    refine callK.in (eqProdS.c ha.1 hb.1 ha.2 hb.2 ?_)
    simp (disch := omega) only [S, SL, Need_of, wrap_in, getD_map, getD_lt, Heap.set_ne, wrap_tdiv, tmod_nn, tdiv_nn, ↓reduceIte, eq_self, Nat.reduceEqDiff, Nat.reduceAdd, Nat.reduceSub, Nat.reduceMul, Nat.reduceLeDiff, Int.reduceNeg, Int.reduceToNat, Int.reduceLE, Int.reduceLT, Int.reduceEq]
    refine condK_if (fun h2 => ?_) (fun h2 => ?_)
    · simp (disch := omega) only [S, SL, Need_of, wrap_in, getD_map, getD_lt, Heap.set_ne, wrap_tdiv, tmod_nn, tdiv_nn, ↓reduceIte, eq_self, Nat.reduceEqDiff, Nat.reduceAdd, Nat.reduceSub, Nat.reduceMul, Nat.reduceLeDiff, Int.reduceNeg, Int.reduceToNat, Int.reduceLE, Int.reduceLT, Int.reduceEq]
      exact fin.of (Heap.le_trans (Heap.le_new hb1) (Heap.le_new hb2)) (Q_yes hQ (by rw [h1, h2]))
    · simp (disch := omega) only [S, SL, Need_of, wrap_in, getD_map, getD_lt, Heap.set_ne, wrap_tdiv, tmod_nn, tdiv_nn, ↓reduceIte, eq_self, Nat.reduceEqDiff, Nat.reduceAdd, Nat.reduceSub, Nat.reduceMul, Nat.reduceLeDiff, Int.reduceNeg, Int.reduceToNat, Int.reduceLE, Int.reduceLT, Int.reduceEq]
      exact fin.of (Heap.le_trans (Heap.le_new hb1) (Heap.le_new hb2)) (Q_no hQ fun e => h2 (by injection e))
  · simp (disch := omega) only [S, SL, Need_of, wrap_in, getD_map, getD_lt, Heap.set_ne, wrap_tdiv, tmod_nn, tdiv_nn, ↓reduceIte, eq_self, Nat.reduceEqDiff, Nat.reduceAdd, Nat.reduceSub, Nat.reduceMul, Nat.reduceLeDiff, Int.reduceNeg, Int.reduceToNat, Int.reduceLE, Int.reduceLT, Int.reduceEq]
    exact fin.of (Heap.le_trans (Heap.le_new hb1) (Heap.le_new hb2)) (Q_no hQ fun e => h1 (by injection e))
theorem u8_inj {x y : UInt8} : ((x.toNat : Int) = (y.toNat : Int)) ↔ x = y := by
  rw [Int.ofNat_inj]; exact UInt8.toNat_inj
/-! ### how much -/
theorem szSymS.tr : trFun Try.prog 112 = some szLeafG := by kernel_rfl
theorem laws_szProd.c {p : Prd} (hw : PrdWf p) {left : Int} {h : Heap} {Q : AV → Heap → Prop} (h0 : 0 ≤ left) (h1 : left ≤ 4611686018427387904) (hQ : Q (iA (remn left (szPrd p))) h) : CALL Try.prog laws_szProd.id [.agg (prdA p), iA left] h Q := by
  refine CALL_by mixed laws_szProd.tr (Nat.le_of_ble_eq_true rfl) ?_
  simp (disch := omega) only [S, SL, Need_of, wrap_in, getD_map, getD_lt, Heap.set_ne, wrap_tdiv, tmod_nn, tdiv_nn, ↓reduceIte, eq_self, Nat.reduceEqDiff, Nat.reduceAdd, Nat.reduceSub, Nat.reduceMul, Nat.reduceLeDiff, Int.reduceNeg, Int.reduceToNat, Int.reduceLE, Int.reduceLT, Int.reduceEq, laws_szProd.g, prdA]
  refine allocK.in fun c1 hb1 => ?_
  simp (disch := omega) only [S, SL, Need_of, wrap_in, getD_map, getD_lt, Heap.set_ne, wrap_tdiv, tmod_nn, tdiv_nn, ↓reduceIte, eq_self, Nat.reduceEqDiff, Nat.reduceAdd, Nat.reduceSub, Nat.reduceMul, Nat.reduceLeDiff, Int.reduceNeg, Int.reduceToNat, Int.reduceLE, Int.reduceLT, Int.reduceEq]
  refine callK.in (szLeaf_c mixed szSymS.tr (by rw [List.length_map]; exact hw) h0 h1 ?_)
  simp (disch := omega) only [S, SL, Need_of, wrap_in, getD_map, getD_lt, Heap.set_ne, wrap_tdiv, tmod_nn, tdiv_nn, ↓reduceIte, eq_self, Nat.reduceEqDiff, Nat.reduceAdd, Nat.reduceSub, Nat.reduceMul, Nat.reduceLeDiff, Int.reduceNeg, Int.reduceToNat, Int.reduceLE, Int.reduceLT, Int.reduceEq]
  refine condK_if (fun h2 => ?_) (fun h2 => ?_)
  · simp (disch := omega) only [S, SL, Need_of, wrap_in, getD_map, getD_lt, Heap.set_ne, wrap_tdiv, tmod_nn, tdiv_nn, ↓reduceIte, eq_self, Nat.reduceEqDiff, Nat.reduceAdd, Nat.reduceSub, Nat.reduceMul, Nat.reduceLeDiff, Int.reduceNeg, Int.reduceToNat, Int.reduceLE, Int.reduceLT, Int.reduceEq]
    rw [remn_not (remn_neg (by simpa [szPrd] using h2))] at hQ
    exact fin.of (Heap.le_new hb1) hQ
  · simp (disch := omega) only [S, SL, Need_of, wrap_in, getD_map, getD_lt, Heap.set_ne, wrap_tdiv, tmod_nn, tdiv_nn, ↓reduceIte, eq_self, Nat.reduceEqDiff, Nat.reduceAdd, Nat.reduceSub, Nat.reduceMul, Nat.reduceLeDiff, Int.reduceNeg, Int.reduceToNat, Int.reduceLE, Int.reduceLT, Int.reduceEq]
    exact fin.of (Heap.le_new hb1) hQ
theorem szProdS.tr : trFun Try.prog 49 = some (szSliceG 2 true laws_szProd.id) := by kernel_rfl
theorem laws_szCfg.c {c : Cfg} (hw : CfgWf c) {left : Int} {h : Heap} {Q : AV → Heap → Prop} (h0 : 0 ≤ left) (h1 : left ≤ 4611686018427387904) (hQ : Q (iA (remn left (szCfgN c))) h) : CALL Try.prog laws_szCfg.id [cfgA c, iA left] h Q := by
  refine CALL_by mixed laws_szCfg.tr (Nat.le_of_ble_eq_true rfl) ?_
  simp (disch := omega) only [S, SL, Need_of, wrap_in, getD_map, getD_lt, Heap.set_ne, wrap_tdiv, tmod_nn, tdiv_nn, ↓reduceIte, eq_self, Nat.reduceEqDiff, Nat.reduceAdd, Nat.reduceSub, Nat.reduceMul, Nat.reduceLeDiff, Int.reduceNeg, Int.reduceToNat, Int.reduceLE, Int.reduceLT, Int.reduceEq, laws_szCfg.g, cfgA, cfgL]
  refine allocK.in fun c1 hb1 => ?_
  simp (disch := omega) only [S, SL, Need_of, wrap_in, getD_map, getD_lt, Heap.set_ne, wrap_tdiv, tmod_nn, tdiv_nn, ↓reduceIte, eq_self, Nat.reduceEqDiff, Nat.reduceAdd, Nat.reduceSub, Nat.reduceMul, Nat.reduceLeDiff, Int.reduceNeg, Int.reduceToNat, Int.reduceLE, Int.reduceLT, Int.reduceEq]
  refine callK.in (szSlice_c (val := fun s => .agg (prdA s)) (s := szPrd) mixed szProdS.tr prdA_len (fun _ => rfl) (fun x hx => laws_szProd.c (hw.2 x hx)) hw.1 h0 h1 ?_)
  simp (disch := omega) only [S, SL, Need_of, wrap_in, getD_map, getD_lt, Heap.set_ne, wrap_tdiv, tmod_nn, tdiv_nn, ↓reduceIte, eq_self, Nat.reduceEqDiff, Nat.reduceAdd, Nat.reduceSub, Nat.reduceMul, Nat.reduceLeDiff, Int.reduceNeg, Int.reduceToNat, Int.reduceLE, Int.reduceLT, Int.reduceEq]
  refine condK_if (fun h2 => ?_) (fun h2 => ?_)
  · simp (disch := omega) only [S, SL, Need_of, wrap_in, getD_map, getD_lt, Heap.set_ne, wrap_tdiv, tmod_nn, tdiv_nn, ↓reduceIte, eq_self, Nat.reduceEqDiff, Nat.reduceAdd, Nat.reduceSub, Nat.reduceMul, Nat.reduceLeDiff, Int.reduceNeg, Int.reduceToNat, Int.reduceLE, Int.reduceLT, Int.reduceEq]
    have h2' : remn left (szCfgN c) < 0 := h2
    rw [remn_not (remn_neg h2')] at hQ
    exact fin.of (Heap.le_new hb1) hQ
  · simp (disch := omega) only [S, SL, Need_of, wrap_in, getD_map, getD_lt, Heap.set_ne, wrap_tdiv, tmod_nn, tdiv_nn, ↓reduceIte, eq_self, Nat.reduceEqDiff, Nat.reduceAdd, Nat.reduceSub, Nat.reduceMul, Nat.reduceLeDiff, Int.reduceNeg, Int.reduceToNat, Int.reduceLE, Int.reduceLT, Int.reduceEq]
    exact fin.of (Heap.le_new hb1) hQ

/-! ### copied -/
theorem laws_toSym.c {s : Sym} {h : Heap} {Q : AV → Heap → Prop} (hQ : Q (.agg (symA s)) h) : CALL Try.prog laws_toSym.id [.agg (symA s)] h Q := by
  refine CALL_by mixed laws_toSym.tr (Nat.le_of_ble_eq_true rfl) ?_
  simp (disch := omega) only [S, SL, Need_of, wrap_in, getD_map, getD_lt, Heap.set_ne, wrap_tdiv, tmod_nn, tdiv_nn, ↓reduceIte, eq_self, Nat.reduceEqDiff, Nat.reduceAdd, Nat.reduceSub, Nat.reduceMul, Nat.reduceLeDiff, Int.reduceNeg, Int.reduceToNat, Int.reduceLE, Int.reduceLT, Int.reduceEq, laws_toSym.g, symA]
  refine allocK.in fun b1 hb1 => ?_
  simp (disch := omega) only [S, SL, Need_of, wrap_in, getD_map, getD_lt, Heap.set_ne, wrap_tdiv, tmod_nn, tdiv_nn, ↓reduceIte, eq_self, Nat.reduceEqDiff, Nat.reduceAdd, Nat.reduceSub, Nat.reduceMul, Nat.reduceLeDiff, Int.reduceNeg, Int.reduceToNat, Int.reduceLE, Int.reduceLT, Int.reduceEq]
  refine allocK.in fun b2 hb2 => ?_
  have ne2 := Heap.new_ne hb2
  have hn2 := Heap.new_none hb2
  simp (disch := omega) only [S, SL, Need_of, wrap_in, getD_map, getD_lt, Heap.set_ne, wrap_tdiv, tmod_nn, tdiv_nn, ↓reduceIte, eq_self, Nat.reduceEqDiff, Nat.reduceAdd, Nat.reduceSub, Nat.reduceMul, Nat.reduceLeDiff, Int.reduceNeg, Int.reduceToNat, Int.reduceLE, Int.reduceLT, Int.reduceEq]
  refine allocK.in fun b3 hb3 => ?_
  have ne3 := Heap.new_ne hb3
  have ne31 := Heap.new_ne (Heap.new_none hb3)
  have hn3 := Heap.new_none (Heap.new_none hb3)
  simp (disch := omega) only [S, SL, Need_of, wrap_in, getD_map, getD_lt, Heap.set_ne, wrap_tdiv, tmod_nn, tdiv_nn, ↓reduceIte, eq_self, Nat.reduceEqDiff, Nat.reduceAdd, Nat.reduceSub, Nat.reduceMul, Nat.reduceLeDiff, Int.reduceNeg, Int.reduceToNat, Int.reduceLE, Int.reduceLT, Int.reduceEq]
  exact fin.of (h' := h) (by repeat' first | exact Heap.le_refl _ | refine Heap.le_set (by assumption) ?_) hQ
theorem toSymS.tr : trFun Try.prog 113 = some (toSliceG 94 3 [.int .i64 0, .int .i64 0, .int .i64 0] true laws_toSym.id) := by kernel_rfl
def ESym (s : Sym) (ts : List Tree) : Prop := ts = symT s
theorem toSymS.c {l : List Sym} (hl : l.length ≤ 4294967296) {h : Heap} {Q : AV → Heap → Prop} (hQ : ∀ t h', IsSyms t → tV t = .imm false (l.map symA) → count t = 3 * l.length → Made h h' [t] → Q (tA t) h') : CALL Try.prog 113 [.imm false (l.map symA)] h Q := by
  refine toSlice_c (val := fun s => .agg (symA s)) (E := ESym) (rv := fun ts => .agg (ts.map tA)) (zs := [.leaf (.int .i64 0), .leaf (.int .i64 0), .leaf (.int .i64 0)]) mixed toSymS.tr symA_len (fun _ => rfl) (fun a ts h => ⟨by rw [h]; rfl, rfl⟩) rfl rfl ?_ (fun x hx h Q hf => laws_toSym.c (hf (symT x) h rfl ?_)) (fun a ts h => by rw [h]; rfl) hl fun b parts h' hp m => ?_
  · intro z hz
    have : z = .leaf (.int .i64 0) := by simpa using hz
    subst this; exact ⟨rfl, fun _ => trivial⟩
  · exact ⟨⟨trivial, trivial, trivial, trivial⟩, List.nodup_nil, fun b hb => by simp [symT, blocksL, blocks] at hb, Heap.le_refl _⟩
  · have hlen : ∀ ts ∈ parts, ts.length = 3 := fun ts hts => by
      obtain ⟨i, hi⟩ := List.getElem?_of_mem hts
      have hil := (List.getElem?_eq_some_iff.1 hi).1
      have hl' : l[i]? = some (l[i]'(by rw [← hp.len]; exact hil)) := by simp [← hp.len, hil]
      have := hp.each i _ ts hl' hi
      rw [this]; rfl
    have hfl : parts.flatten.length = l.length * 3 := by rw [parts_len hlen, hp.len]
    refine hQ _ h' (.row b _ _ _ hfl (fun j => (match parts.flatten[j]? with | some (.leaf (.int _ n)) => n | _ => 0)) fun j hj => ?_) (hp.view fun a ha ts h => ⟨by rw [h]; rfl, by rw [h]; rfl⟩) ?_ m
    · have hi : j / 3 < l.length := by omega
      have hj3 : j = (j / 3) * 3 + j % 3 := by omega
      have hget := parts_get hlen (j / 3) (j % 3) (by omega)
      rw [← hj3] at hget
      have hpi : parts[j / 3]? = some (symT l[j / 3]) := by
        rw [List.getElem?_eq_getElem (by rw [hp.len]; exact hi)]
        exact congrArg some (hp.each (j / 3) _ _ (List.getElem?_eq_getElem hi) (List.getElem?_eq_getElem _))
      rw [hpi] at hget
      simp only [Option.bind_some] at hget
      have hm : j % 3 = 0 ∨ j % 3 = 1 ∨ j % 3 = 2 := by omega
      rcases hm with hm | hm | hm <;> rw [hm] at hget <;> rw [hget] <;> rfl
    · rw [count, countL_flat]
      have key : ∀ (ps : List (List Tree)), (∀ ts ∈ ps, countL ts = 3) → (ps.map countL).sum = 3 * ps.length := by
        intro ps
        induction ps with
        | nil => intro _; rfl
        | cons t ps ih => intro h; rw [List.map_cons, List.sum_cons, ih fun ts hts => h ts (List.mem_cons_of_mem _ hts), h t (List.mem_cons_self ..), List.length_cons]; omega
      rw [← hp.len]
      refine key parts fun ts hts => ?_
      obtain ⟨i, hi⟩ := List.getElem?_of_mem hts
      have hil := (List.getElem?_eq_some_iff.1 hi).1
      have hl' : l[i]? = some (l[i]'(by rw [← hp.len]; exact hil)) := by simp [← hp.len, hil]
      have := hp.each i _ ts hl' hi
      rw [this]; rfl
theorem IsSyms.cell {t : Tree} (h : IsSyms t) : cellsOf? (tA t) = some [tA t] ∧ oneC (tA t) = true := by cases h <;> exact ⟨rfl, rfl⟩
theorem laws_toProd.c {p : Prd} (hp : p.body.length ≤ 4294967296) {h : Heap} {Q : AV → Heap → Prop} (hQ : ∀ ts h', EPrd p ts → Made h h' ts → Q (.agg (ts.map tA)) h') : CALL Try.prog laws_toProd.id [.agg (prdA p)] h Q := by
  refine CALL_by mixed laws_toProd.tr (Nat.le_of_ble_eq_true rfl) ?_
  simp (disch := omega) only [S, SL, Need_of, wrap_in, getD_map, getD_lt, Heap.set_ne, wrap_tdiv, tmod_nn, tdiv_nn, ↓reduceIte, eq_self, Nat.reduceEqDiff, Nat.reduceAdd, Nat.reduceSub, Nat.reduceMul, Nat.reduceLeDiff, Int.reduceNeg, Int.reduceToNat, Int.reduceLE, Int.reduceLT, Int.reduceEq, laws_toProd.g, prdA]
  refine allocK.in fun b1 hb1 => ?_
  simp (disch := omega) only [S, SL, Need_of, wrap_in, getD_map, getD_lt, Heap.set_ne, wrap_tdiv, tmod_nn, tdiv_nn, ↓reduceIte, eq_self, Nat.reduceEqDiff, Nat.reduceAdd, Nat.reduceSub, Nat.reduceMul, Nat.reduceLeDiff, Int.reduceNeg, Int.reduceToNat, Int.reduceLE, Int.reduceLT, Int.reduceEq]
  refine allocK.in fun b2 hb2 => ?_
  have ne2 := Heap.new_ne hb2
  have hn2 := Heap.new_none hb2
  simp (disch := omega) only [S, SL, Need_of, wrap_in, getD_map, getD_lt, Heap.set_ne, wrap_tdiv, tmod_nn, tdiv_nn, ↓reduceIte, eq_self, Nat.reduceEqDiff, Nat.reduceAdd, Nat.reduceSub, Nat.reduceMul, Nat.reduceLeDiff, Int.reduceNeg, Int.reduceToNat, Int.reduceLE, Int.reduceLT, Int.reduceEq]
  refine allocK.in fun b3 hb3 => ?_
  have ne3 := Heap.new_ne hb3
  have ne31 := Heap.new_ne (Heap.new_none hb3)
  have hn3 := Heap.new_none (Heap.new_none hb3)
  simp (disch := omega) only [S, SL, Need_of, wrap_in, getD_map, getD_lt, Heap.set_ne, wrap_tdiv, tmod_nn, tdiv_nn, ↓reduceIte, eq_self, Nat.reduceEqDiff, Nat.reduceAdd, Nat.reduceSub, Nat.reduceMul, Nat.reduceLeDiff, Int.reduceNeg, Int.reduceToNat, Int.reduceLE, Int.reduceLT, Int.reduceEq]
  refine callK.in (toSymS.c hp fun t h' hs hv hc m => ?_)
  obtain ⟨s1, s2⟩ := IsSyms.cell hs
  have l2 : h' b2 = some (.row 85 [iA 0, nilA]) := m.le b2 _ (by simp (disch := omega) only [S, SL, Need_of, wrap_in, getD_map, getD_lt, Heap.set_ne, wrap_tdiv, tmod_nn, tdiv_nn, ↓reduceIte, eq_self, Nat.reduceEqDiff, Nat.reduceAdd, Nat.reduceSub, Nat.reduceMul, Nat.reduceLeDiff, Int.reduceNeg, Int.reduceToNat, Int.reduceLE, Int.reduceLT, Int.reduceEq])
  have l3 : h' b3 = some (.row 85 [iA p.head, nilA]) := m.le b3 _ (by simp (disch := omega) only [S, SL, Need_of, wrap_in, getD_map, getD_lt, Heap.set_ne, wrap_tdiv, tmod_nn, tdiv_nn, ↓reduceIte, eq_self, Nat.reduceEqDiff, Nat.reduceAdd, Nat.reduceSub, Nat.reduceMul, Nat.reduceLeDiff, Int.reduceNeg, Int.reduceToNat, Int.reduceLE, Int.reduceLT, Int.reduceEq])
  have n2 := m.not (b := b2) (k := .row 85 [iA 0, nilA]) (by simp (disch := omega) only [S, SL, Need_of, wrap_in, getD_map, getD_lt, Heap.set_ne, wrap_tdiv, tmod_nn, tdiv_nn, ↓reduceIte, eq_self, Nat.reduceEqDiff, Nat.reduceAdd, Nat.reduceSub, Nat.reduceMul, Nat.reduceLeDiff, Int.reduceNeg, Int.reduceToNat, Int.reduceLE, Int.reduceLT, Int.reduceEq])
  have n3 := m.not (b := b3) (k := .row 85 [iA p.head, nilA]) (by simp (disch := omega) only [S, SL, Need_of, wrap_in, getD_map, getD_lt, Heap.set_ne, wrap_tdiv, tmod_nn, tdiv_nn, ↓reduceIte, eq_self, Nat.reduceEqDiff, Nat.reduceAdd, Nat.reduceSub, Nat.reduceMul, Nat.reduceLeDiff, Int.reduceNeg, Int.reduceToNat, Int.reduceLE, Int.reduceLT, Int.reduceEq])
  simp (disch := omega) only [S, SL, Need_of, wrap_in, getD_map, getD_lt, Heap.set_ne, wrap_tdiv, tmod_nn, tdiv_nn, ↓reduceIte, eq_self, Nat.reduceEqDiff, Nat.reduceAdd, Nat.reduceSub, Nat.reduceMul, Nat.reduceLeDiff, Int.reduceNeg, Int.reduceToNat, Int.reduceLE, Int.reduceLT, Int.reduceEq, l2, l3, s1, s2]
  refine fin.same (hQ [.leaf (.int .i64 p.head), t] _ ⟨t, rfl, hs, hv, hc⟩ (Made.leaf ?_))
  exact ((m.base (h := h) (by repeat' first | exact Heap.le_refl _ | refine Heap.le_set (by assumption) ?_)).put hn3 n3).put hn2 n2
theorem toProdS.tr : trFun Try.prog 55 = some (toSliceG 85 2 [.int .i64 0, .slice none 0 0] true laws_toProd.id) := by kernel_rfl
theorem toProdS.c {l : List Prd} (hl : l.length ≤ 4294967296) (hb : ∀ p ∈ l, p.body.length ≤ 4294967296) {h : Heap} {Q : AV → Heap → Prop} (hQ : ∀ t h', IsPrds t → tV t = .imm false (l.map prdA) → count t = l.length + 3 * (l.map szPrd).sum → Made h h' [t] → Q (tA t) h') : CALL Try.prog 55 [.imm false (l.map prdA)] h Q := by
  refine toSlice_c (val := fun s => .agg (prdA s)) (E := EPrd) (rv := fun ts => .agg (ts.map tA)) (zs := [.leaf (.int .i64 0), .nil]) mixed toProdS.tr prdA_len (fun _ => rfl) (fun a ts h => ⟨EPrd.len h, rfl⟩) rfl rfl ?_ (fun x hx h Q hf => laws_toProd.c (hb x hx) hf) (fun a ts h => by obtain ⟨t, rfl, hs, _⟩ := h; cases hs <;> rfl) hl fun b parts h' hp m => ?_
  · intro z hz
    have : z = .leaf (.int .i64 0) ∨ z = .nil := by simpa using hz
    rcases this with rfl | rfl <;> exact ⟨rfl, fun _ => trivial⟩
  · obtain ⟨h1, h2⟩ := prds_parts hp b 85
    exact hQ _ h' h1 (hp.view fun a ha ts h => ⟨EPrd.len h, EPrd.view h⟩) h2 m
/-- Productions copied, their own memory as a tree. -/
theorem laws_toCfg.c {c : Cfg} (hs : szCfgN c ≤ 4294967296) {h : Heap} {Q : AV → Heap → Prop} (hQ : ∀ t h', IsPrds t → tV t = .imm false (c.prods.map prdA) → count t ≤ 3 * szCfgN c → Made h h' [t] → Q (.agg [iA c.heads, tA t]) h') : CALL Try.prog laws_toCfg.id [cfgA c] h Q := by
  refine CALL_by mixed laws_toCfg.tr (Nat.le_of_ble_eq_true rfl) ?_
  simp (disch := omega) only [S, SL, Need_of, wrap_in, getD_map, getD_lt, Heap.set_ne, wrap_tdiv, tmod_nn, tdiv_nn, ↓reduceIte, eq_self, Nat.reduceEqDiff, Nat.reduceAdd, Nat.reduceSub, Nat.reduceMul, Nat.reduceLeDiff, Int.reduceNeg, Int.reduceToNat, Int.reduceLE, Int.reduceLT, Int.reduceEq, laws_toCfg.g, cfgA, cfgL]
  refine allocK.in fun b1 hb1 => ?_
  simp (disch := omega) only [S, SL, Need_of, wrap_in, getD_map, getD_lt, Heap.set_ne, wrap_tdiv, tmod_nn, tdiv_nn, ↓reduceIte, eq_self, Nat.reduceEqDiff, Nat.reduceAdd, Nat.reduceSub, Nat.reduceMul, Nat.reduceLeDiff, Int.reduceNeg, Int.reduceToNat, Int.reduceLE, Int.reduceLT, Int.reduceEq]
  refine allocK.in fun b2 hb2 => ?_
  have ne2 := Heap.new_ne hb2
  have hn2 := Heap.new_none hb2
  simp (disch := omega) only [S, SL, Need_of, wrap_in, getD_map, getD_lt, Heap.set_ne, wrap_tdiv, tmod_nn, tdiv_nn, ↓reduceIte, eq_self, Nat.reduceEqDiff, Nat.reduceAdd, Nat.reduceSub, Nat.reduceMul, Nat.reduceLeDiff, Int.reduceNeg, Int.reduceToNat, Int.reduceLE, Int.reduceLT, Int.reduceEq]
  refine allocK.in fun b3 hb3 => ?_
  have ne3 := Heap.new_ne hb3
  have ne31 := Heap.new_ne (Heap.new_none hb3)
  have hn3 := Heap.new_none (Heap.new_none hb3)
  simp (disch := omega) only [S, SL, Need_of, wrap_in, getD_map, getD_lt, Heap.set_ne, wrap_tdiv, tmod_nn, tdiv_nn, ↓reduceIte, eq_self, Nat.reduceEqDiff, Nat.reduceAdd, Nat.reduceSub, Nat.reduceMul, Nat.reduceLeDiff, Int.reduceNeg, Int.reduceToNat, Int.reduceLE, Int.reduceLT, Int.reduceEq]
  unfold szCfgN sizeL at hs
  refine callK.in (toProdS.c (by omega) (fun p hp => by have : p.body.length ≤ (c.prods.map szPrd).sum := sum_ge (s := szPrd) hp; omega) fun t h' hs' hv hc m => ?_)
  obtain ⟨s1, s2⟩ : cellsOf? (tA t) = some [tA t] ∧ oneC (tA t) = true := by cases hs' <;> exact ⟨rfl, rfl⟩
  have l2 : h' b2 = some (.row 33 [iA 0, nilA]) := m.le b2 _ (by simp (disch := omega) only [S, SL, Need_of, wrap_in, getD_map, getD_lt, Heap.set_ne, wrap_tdiv, tmod_nn, tdiv_nn, ↓reduceIte, eq_self, Nat.reduceEqDiff, Nat.reduceAdd, Nat.reduceSub, Nat.reduceMul, Nat.reduceLeDiff, Int.reduceNeg, Int.reduceToNat, Int.reduceLE, Int.reduceLT, Int.reduceEq])
  have l3 : h' b3 = some (.row 33 [iA c.heads, nilA]) := m.le b3 _ (by simp (disch := omega) only [S, SL, Need_of, wrap_in, getD_map, getD_lt, Heap.set_ne, wrap_tdiv, tmod_nn, tdiv_nn, ↓reduceIte, eq_self, Nat.reduceEqDiff, Nat.reduceAdd, Nat.reduceSub, Nat.reduceMul, Nat.reduceLeDiff, Int.reduceNeg, Int.reduceToNat, Int.reduceLE, Int.reduceLT, Int.reduceEq])
  have n2 := m.not (b := b2) (k := .row 33 [iA 0, nilA]) (by simp (disch := omega) only [S, SL, Need_of, wrap_in, getD_map, getD_lt, Heap.set_ne, wrap_tdiv, tmod_nn, tdiv_nn, ↓reduceIte, eq_self, Nat.reduceEqDiff, Nat.reduceAdd, Nat.reduceSub, Nat.reduceMul, Nat.reduceLeDiff, Int.reduceNeg, Int.reduceToNat, Int.reduceLE, Int.reduceLT, Int.reduceEq])
  have n3 := m.not (b := b3) (k := .row 33 [iA c.heads, nilA]) (by simp (disch := omega) only [S, SL, Need_of, wrap_in, getD_map, getD_lt, Heap.set_ne, wrap_tdiv, tmod_nn, tdiv_nn, ↓reduceIte, eq_self, Nat.reduceEqDiff, Nat.reduceAdd, Nat.reduceSub, Nat.reduceMul, Nat.reduceLeDiff, Int.reduceNeg, Int.reduceToNat, Int.reduceLE, Int.reduceLT, Int.reduceEq])
  simp (disch := omega) only [S, SL, Need_of, wrap_in, getD_map, getD_lt, Heap.set_ne, wrap_tdiv, tmod_nn, tdiv_nn, ↓reduceIte, eq_self, Nat.reduceEqDiff, Nat.reduceAdd, Nat.reduceSub, Nat.reduceMul, Nat.reduceLeDiff, Int.reduceNeg, Int.reduceToNat, Int.reduceLE, Int.reduceLT, Int.reduceEq, l2, l3, s1, s2]
  refine fin.same (hQ t _ hs' hv ?_ ?_)
  · rw [hc]; unfold szCfgN sizeL; omega
  · exact ((m.base (h := h) (by repeat' first | exact Heap.le_refl _ | refine Heap.le_set (by assumption) ?_)).put hn3 n3).put hn2 n2
/-- Productions copied, laid down for good. -/
theorem laws_toCfg.i {c : Cfg} (hs : szCfgN c ≤ 4294967296) {h : Heap} {Q : AV → Heap → Prop} (hQ : Q (cfgA c) h) : CALL Try.prog laws_toCfg.id [cfgA c] h Q := by
  refine CALL.lay (laws_toCfg.c hs (Q := fun r h' => ∃ t, r = .agg [iA c.heads, tA t] ∧ tV t = .imm false (c.prods.map prdA) ∧ Made h h' [t]) fun t h' _ hv _ m => ⟨t, rfl, hv, m⟩) ?_
  rintro r h' ⟨t, rfl, hv, m⟩
  have := (m.leaf (v := .int .i64 c.heads)).vwA
  simp only [List.map_cons, List.map_nil, tV, hv] at this
  exact ⟨h, cfgA c, m.le, this, hQ⟩
/-- Own bytes, laid down for good. -/
theorem lay_bytes {f : FuncId} {args : List AV} {bs : List UInt8} {ty : TypeId} {h : Heap} {Q : AV → Heap → Prop} (hc : ∀ {Q' : AV → Heap → Prop}, (∀ b, h b = none → Q' (.own b bs.length) (h.set b (.row ty (bs.map yA)))) → CALL Try.prog f args h Q') (hQ : Q (bytesI bs) h) : CALL Try.prog f args h Q := by
  refine CALL.lay (hc (Q' := fun r h' => ∃ b, h b = none ∧ r = .own b bs.length ∧ h' = h.set b (.row ty (bs.map yA))) fun b hb => ⟨b, hb, rfl, rfl⟩) ?_
  rintro r h' ⟨b, hb, rfl, rfl⟩
  exact ⟨h, bytesI bs, Heap.le_new hb, vw_bytes (e := ty) (by simp [Heap.minus, hb, Heap.set_same]), hQ⟩
end Go.Proofs.Ytabbipdkbdojiaa
