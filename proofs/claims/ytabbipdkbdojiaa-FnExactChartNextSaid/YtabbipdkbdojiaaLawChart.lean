/- What the laws' functions sz.., to.., eq.. come to over charts. No condition. -/
import Derived.Test.YtabbipdkbdojiaaCodeH
import Derived.Test.YtabbipdkbdojiaaLawCfg
import Derived.Test.YtabbipdkbdojiaaChart
namespace Go.Ab
open Go
/-- A slice copied element by element, laid down for good. -/
theorem toSlice_i {P : Program} {α : Type} {ty : TypeId} {sz : Nat} {zero : List Value} {ag : Bool} {f id : FuncId} {el : α → List AV} {val : α → AV} {T : α → List Tree} {rv : List Tree → AV} {zs : List Tree} (hm : P.follows .mixedOrders = true) (htr : trFun P id = some (toSliceG ty sz zero ag f)) (hel : ∀ a, (el a).length = sz) (hval : ∀ a, loadC sz ag (el a) 0 = val a)
    (hT : ∀ a, (T a).length = sz ∧ cellsOf? (rv (T a)) = some ((T a).map tA) ∧ ((T a).map tA).all oneC = true ∧ (T a).map tV = el a) (hflat : ∀ a, ∀ y ∈ T a, blocks y = [] ∧ ∀ h, y.at h) (hzs : zs.map tA = zero.map .val) (hzl : zs.length = sz) (hzb : ∀ z ∈ zs, blocks z = [] ∧ ∀ h, z.at h)
    {l : List α} {h : Heap} {Q : AV → Heap → Prop} (hf : ∀ x ∈ l, ∀ {h : Heap} {Q : AV → Heap → Prop}, Q (rv (T x)) h → CALL P f [val x] h Q) (hl : l.length ≤ 4294967296) (hQ : Q (.imm false (l.map el)) h) : CALL P id [.imm false (l.map el)] h Q := by
  refine lay_made (α := Nat × List (List Tree)) (fun a _ => .own a.1 l.length) (fun a ts => Parts (fun a ts => ts = T a) l a.2 ∧ ts = [.row a.1 ty l.length sz a.2.flatten]) (fun _ => .imm false (l.map el))
    (fun k => toSlice_c (E := fun a ts => ts = T a) (rv := rv) (zs := zs) hm htr hel hval (fun a ts h => by subst h; exact ⟨(hT a).1, (hT a).2.1⟩) hzs hzl hzb (fun x hx h Q hf' => hf x hx (hf' (T x) h rfl (by have := Made.flats (hflat x) (Made.none (h := h)); rwa [List.append_nil] at this))) (fun a ts h => by subst h; exact (hT a).2.2.1) hl fun b parts h' hp m => k (b, parts) _ h' ⟨hp, rfl⟩ m) ?_ (fun _ _ _ => hQ)
  rintro ⟨b, parts⟩ ts h' ⟨hp, rfl⟩ hat
  have hv := at_vw hat.1
  rw [hp.view (f := el) fun a ha ts h => by subst h; exact ⟨(hT a).1, (hT a).2.2.2⟩] at hv
  exact hv
/-- How much a chart holds. -/
def szChtN (c : Cht) : Nat := sizeL List.length c.sets
/-- Charts as they're read from arguments. -/
def ChartWf (c : Cht) : Prop := c.sets.length ≤ 9223372036854775807 ∧ ∀ s ∈ c.sets, s.length ≤ 9223372036854775807
theorem ChtFit.of_size {c : Cht} (h : szChtN c ≤ 4294967296) : ChtFit c := by
  unfold szChtN sizeL at h
  refine ⟨by omega, fun s hs => ?_⟩
  have : s.length ≤ (c.sets.map List.length).sum := sum_ge (s := List.length) hs
  omega
end Go.Ab
namespace Go.Proofs.Ytabbipdkbdojiaa
open Go Go.Ab
set_option linter.unusedVariables false
set_option linter.unusedSimpArgs false

/-! ### equal -/
theorem laws_eqItem.c {a b : Itm} {h : Heap} {Q : AV → Heap → Prop} (hQ : Q (bA (decide (a = b))) h) : CALL Try.prog laws_eqItem.id [.agg (itmA a), .agg (itmA b)] h Q := by
  obtain ⟨a1, a2, a3⟩ := a
  obtain ⟨b1, b2, b3⟩ := b
  refine CALL_by mixed laws_eqItem.tr (Nat.le_of_ble_eq_true rfl) ?_
  simp (disch := omega) only [S, SL, Need_of, wrap_in, getD_map, getD_lt, Heap.set_ne, wrap_tdiv, tmod_nn, tdiv_nn, ↓reduceIte, eq_self, Nat.reduceEqDiff, Nat.reduceAdd, Nat.reduceSub, Nat.reduceMul, Nat.reduceLeDiff, Int.reduceNeg, Int.reduceToNat, Int.reduceLE, Int.reduceLT, Int.reduceEq, laws_eqItem.g, itmA]
  refine allocK.in fun c1 hc1 => ?_
  simp (disch := omega) only [S, SL, Need_of, wrap_in, getD_map, getD_lt, Heap.set_ne, wrap_tdiv, tmod_nn, tdiv_nn, ↓reduceIte, eq_self, Nat.reduceEqDiff, Nat.reduceAdd, Nat.reduceSub, Nat.reduceMul, Nat.reduceLeDiff, Int.reduceNeg, Int.reduceToNat, Int.reduceLE, Int.reduceLT, Int.reduceEq]
  refine allocK.in fun c2 hc2 => ?_
  have ne := Heap.new_ne hc2
  have hn2 := Heap.new_none hc2
  simp (disch := omega) only [S, SL, Need_of, wrap_in, getD_map, getD_lt, Heap.set_ne, wrap_tdiv, tmod_nn, tdiv_nn, ↓reduceIte, eq_self, Nat.reduceEqDiff, Nat.reduceAdd, Nat.reduceSub, Nat.reduceMul, Nat.reduceLeDiff, Int.reduceNeg, Int.reduceToNat, Int.reduceLE, Int.reduceLT, Int.reduceEq]
  repeat' ((first | refine gdK_if ?_ ?_ | refine condK_if ?_ ?_ | refine gdK_bool ?_ ?_ | refine condK_bool ?_ ?_) <;> intro hc <;> simp (disch := omega) only [S, SL, Need_of, wrap_in, getD_map, getD_lt, Heap.set_ne, wrap_tdiv, tmod_nn, tdiv_nn, ↓reduceIte, eq_self, Nat.reduceEqDiff, Nat.reduceAdd, Nat.reduceSub, Nat.reduceMul, Nat.reduceLeDiff, Int.reduceNeg, Int.reduceToNat, Int.reduceLE, Int.reduceLT, Int.reduceEq, hc])
  all_goals refine fin.of (h' := h) (by repeat' first | exact Heap.le_refl _ | refine Heap.le_set (by assumption) ?_) ?_
  all_goals first
    | exact Q_yes hQ (by simp only [Itm.mk.injEq]; omega)
    | exact Q_no hQ (by simp only [Itm.mk.injEq]; omega)
theorem eqItemS.tr : trFun Try.prog 102 = some (eqSliceG 3 true laws_eqItem.id) := by kernel_rfl
theorem eqItemS.c {a b : List Itm} {h : Heap} {Q : AV → Heap → Prop} (hla : a.length ≤ 9223372036854775807) (hlb : b.length ≤ 9223372036854775807) (hQ : Q (bA (decide (a = b))) h) : CALL Try.prog 102 [.imm false (a.map itmA), .imm false (b.map itmA)] h Q :=
  eqSlice_c (val := fun s => .agg (itmA s)) mixed eqItemS.tr itmA_len (fun _ => rfl) (fun _ _ _ _ => laws_eqItem.c) hla hlb hQ
theorem eqItemSS.tr : trFun Try.prog 62 = some (eqSliceG 1 false 102) := by kernel_rfl
theorem eqItemSS.c {a b : List (List Itm)} {h : Heap} {Q : AV → Heap → Prop} (hla : a.length ≤ 9223372036854775807) (hlb : b.length ≤ 9223372036854775807) (ha : ∀ s ∈ a, s.length ≤ 9223372036854775807) (hb : ∀ s ∈ b, s.length ≤ 9223372036854775807) (hQ : Q (bA (decide (a = b))) h) : CALL Try.prog 62 [.imm false (a.map setA), .imm false (b.map setA)] h Q :=
  eqSlice_c (val := fun s => .imm false (s.map itmA)) mixed eqItemSS.tr setA_len (fun _ => rfl) (fun x hx y hy => eqItemS.c (ha x hx) (hb y hy)) hla hlb hQ
theorem laws_eqChart.c {a b : Cht} {h : Heap} {Q : AV → Heap → Prop} (ha : ChartWf a) (hb : ChartWf b) (hQ : Q (bA (decide (a = b))) h) : CALL Try.prog laws_eqChart.id [chartA a, chartA b] h Q := by
  obtain ⟨a1⟩ := a
  obtain ⟨b1⟩ := b
  refine CALL_by mixed laws_eqChart.tr (Nat.le_of_ble_eq_true rfl) ?_
  simp (disch := omega) only [S, SL, Need_of, wrap_in, getD_map, getD_lt, Heap.set_ne, wrap_tdiv, tmod_nn, tdiv_nn, ↓reduceIte, eq_self, Nat.reduceEqDiff, Nat.reduceAdd, Nat.reduceSub, Nat.reduceMul, Nat.reduceLeDiff, Int.reduceNeg, Int.reduceToNat, Int.reduceLE, Int.reduceLT, Int.reduceEq, laws_eqChart.g, chartA, chartL]
  refine allocK.in fun c1 hb1 => ?_
  simp (disch := omega) only [S, SL, Need_of, wrap_in, getD_map, getD_lt, Heap.set_ne, wrap_tdiv, tmod_nn, tdiv_nn, ↓reduceIte, eq_self, Nat.reduceEqDiff, Nat.reduceAdd, Nat.reduceSub, Nat.reduceMul, Nat.reduceLeDiff, Int.reduceNeg, Int.reduceToNat, Int.reduceLE, Int.reduceLT, Int.reduceEq]
  refine allocK.in fun c2 hb2 => ?_
  have ne := Heap.new_ne hb2
  simp (disch := omega) only [S, SL, Need_of, wrap_in, getD_map, getD_lt, Heap.set_ne, wrap_tdiv, tmod_nn, tdiv_nn, ↓reduceIte, eq_self, Nat.reduceEqDiff, Nat.reduceAdd, Nat.reduceSub, Nat.reduceMul, Nat.reduceLeDiff, Int.reduceNeg, Int.reduceToNat, Int.reduceLE, Int.reduceLT, Int.reduceEq]
  refine callK.in (eqItemSS.c ha.1 hb.1 ha.2 hb.2 ?_)
  simp (disch := omega) only [S, SL, Need_of, wrap_in, getD_map, getD_lt, Heap.set_ne, wrap_tdiv, tmod_nn, tdiv_nn, ↓reduceIte, eq_self, Nat.reduceEqDiff, Nat.reduceAdd, Nat.reduceSub, Nat.reduceMul, Nat.reduceLeDiff, Int.reduceNeg, Int.reduceToNat, Int.reduceLE, Int.reduceLT, Int.reduceEq]
  refine condK_if (fun h2 => ?_) (fun h2 => ?_)
  · simp (disch := omega) only [S, SL, Need_of, wrap_in, getD_map, getD_lt, Heap.set_ne, wrap_tdiv, tmod_nn, tdiv_nn, ↓reduceIte, eq_self, Nat.reduceEqDiff, Nat.reduceAdd, Nat.reduceSub, Nat.reduceMul, Nat.reduceLeDiff, Int.reduceNeg, Int.reduceToNat, Int.reduceLE, Int.reduceLT, Int.reduceEq]
    exact fin.of (Heap.le_trans (Heap.le_new hb1) (Heap.le_new hb2)) (Q_yes hQ (by rw [h2]))
  · simp (disch := omega) only [S, SL, Need_of, wrap_in, getD_map, getD_lt, Heap.set_ne, wrap_tdiv, tmod_nn, tdiv_nn, ↓reduceIte, eq_self, Nat.reduceEqDiff, Nat.reduceAdd, Nat.reduceSub, Nat.reduceMul, Nat.reduceLeDiff, Int.reduceNeg, Int.reduceToNat, Int.reduceLE, Int.reduceLT, Int.reduceEq]
    exact fin.of (Heap.le_trans (Heap.le_new hb1) (Heap.le_new hb2)) (Q_no hQ fun e => h2 (by injection e))

/-! ### how much -/
theorem szItemS.tr : trFun Try.prog 89 = some szLeafG := by kernel_rfl
theorem szItemSS.tr : trFun Try.prog 50 = some (szSliceG 1 false 89) := by kernel_rfl
theorem laws_szChart.c {c : Cht} (hw : ChartWf c) {left : Int} {h : Heap} {Q : AV → Heap → Prop} (h0 : 0 ≤ left) (h1 : left ≤ 4611686018427387904) (hQ : Q (iA (remn left (szChtN c))) h) : CALL Try.prog laws_szChart.id [chartA c, iA left] h Q := by
  refine CALL_by mixed laws_szChart.tr (Nat.le_of_ble_eq_true rfl) ?_
  simp (disch := omega) only [S, SL, Need_of, wrap_in, getD_map, getD_lt, Heap.set_ne, wrap_tdiv, tmod_nn, tdiv_nn, ↓reduceIte, eq_self, Nat.reduceEqDiff, Nat.reduceAdd, Nat.reduceSub, Nat.reduceMul, Nat.reduceLeDiff, Int.reduceNeg, Int.reduceToNat, Int.reduceLE, Int.reduceLT, Int.reduceEq, laws_szChart.g, chartA, chartL]
  refine allocK.in fun c1 hb1 => ?_
  simp (disch := omega) only [S, SL, Need_of, wrap_in, getD_map, getD_lt, Heap.set_ne, wrap_tdiv, tmod_nn, tdiv_nn, ↓reduceIte, eq_self, Nat.reduceEqDiff, Nat.reduceAdd, Nat.reduceSub, Nat.reduceMul, Nat.reduceLeDiff, Int.reduceNeg, Int.reduceToNat, Int.reduceLE, Int.reduceLT, Int.reduceEq]
  refine callK.in (szSlice_c (val := fun s => .imm false (s.map itmA)) (s := List.length) mixed szItemSS.tr setA_len (fun _ => rfl) (fun x hx _ _ _ g0 g1 gQ => szLeaf_c mixed szItemS.tr (by rw [List.length_map]; exact hw.2 x hx) g0 g1 (by rw [List.length_map]; exact gQ)) hw.1 h0 h1 ?_)
  simp (disch := omega) only [S, SL, Need_of, wrap_in, getD_map, getD_lt, Heap.set_ne, wrap_tdiv, tmod_nn, tdiv_nn, ↓reduceIte, eq_self, Nat.reduceEqDiff, Nat.reduceAdd, Nat.reduceSub, Nat.reduceMul, Nat.reduceLeDiff, Int.reduceNeg, Int.reduceToNat, Int.reduceLE, Int.reduceLT, Int.reduceEq]
  refine condK_if (fun h2 => ?_) (fun h2 => ?_)
  · simp (disch := omega) only [S, SL, Need_of, wrap_in, getD_map, getD_lt, Heap.set_ne, wrap_tdiv, tmod_nn, tdiv_nn, ↓reduceIte, eq_self, Nat.reduceEqDiff, Nat.reduceAdd, Nat.reduceSub, Nat.reduceMul, Nat.reduceLeDiff, Int.reduceNeg, Int.reduceToNat, Int.reduceLE, Int.reduceLT, Int.reduceEq]
    have h2' : remn left (szChtN c) < 0 := h2
    rw [remn_not (remn_neg h2')] at hQ
    exact fin.of (Heap.le_new hb1) hQ
  · simp (disch := omega) only [S, SL, Need_of, wrap_in, getD_map, getD_lt, Heap.set_ne, wrap_tdiv, tmod_nn, tdiv_nn, ↓reduceIte, eq_self, Nat.reduceEqDiff, Nat.reduceAdd, Nat.reduceSub, Nat.reduceMul, Nat.reduceLeDiff, Int.reduceNeg, Int.reduceToNat, Int.reduceLE, Int.reduceLT, Int.reduceEq]
    exact fin.of (Heap.le_new hb1) hQ

/-! ### copied -/
theorem laws_toItem.c {s : Itm} {h : Heap} {Q : AV → Heap → Prop} (hQ : Q (.agg (itmA s)) h) : CALL Try.prog laws_toItem.id [.agg (itmA s)] h Q := by
  refine CALL_by mixed laws_toItem.tr (Nat.le_of_ble_eq_true rfl) ?_
  simp (disch := omega) only [S, SL, Need_of, wrap_in, getD_map, getD_lt, Heap.set_ne, wrap_tdiv, tmod_nn, tdiv_nn, ↓reduceIte, eq_self, Nat.reduceEqDiff, Nat.reduceAdd, Nat.reduceSub, Nat.reduceMul, Nat.reduceLeDiff, Int.reduceNeg, Int.reduceToNat, Int.reduceLE, Int.reduceLT, Int.reduceEq, laws_toItem.g, itmA]
  refine allocK.in fun b1 hb1 => ?_
  simp (disch := omega) only [S, SL, Need_of, wrap_in, getD_map, getD_lt, Heap.set_ne, wrap_tdiv, tmod_nn, tdiv_nn, ↓reduceIte, eq_self, Nat.reduceEqDiff, Nat.reduceAdd, Nat.reduceSub, Nat.reduceMul, Nat.reduceLeDiff, Int.reduceNeg, Int.reduceToNat, Int.reduceLE, Int.reduceLT, Int.reduceEq]
  refine allocK.in fun b2 hb2 => ?_
  have ne2 := Heap.new_ne hb2
  have hn2 := Heap.new_none hb2
  simp (disch := omega) only [S, SL, Need_of, wrap_in, getD_map, getD_lt, Heap.set_ne, wrap_tdiv, tmod_nn, tdiv_nn, ↓reduceIte, eq_self, Nat.reduceEqDiff, Nat.reduceAdd, Nat.reduceSub, Nat.reduceMul, Nat.reduceLeDiff, Int.reduceNeg, Int.reduceToNat, Int.reduceLE, Int.reduceLT, Int.reduceEq]
  refine allocK.in fun b3 hb3 => ?_
  have ne3 := Heap.new_ne hb3
  have ne31 := Heap.new_ne (Heap.new_none hb3)
  have hn3 := Heap.new_none (Heap.new_none hb3)
  simp (disch := omega) only [S, SL, Need_of, wrap_in, getD_map, getD_lt, Heap.set_ne, wrap_tdiv, tmod_nn, tdiv_nn, ↓reduceIte, eq_self, Nat.reduceEqDiff, Nat.reduceAdd, Nat.reduceSub, Nat.reduceMul, Nat.reduceLeDiff, Int.reduceNeg, Int.reduceToNat, Int.reduceLE, Int.reduceLT, Int.reduceEq]
  exact fin.of (h' := h) (by repeat' first | exact Heap.le_refl _ | refine Heap.le_set (by assumption) ?_) hQ
theorem toItemS.tr : trFun Try.prog 95 = some (toSliceG 82 3 [.int .i64 0, .int .i64 0, .int .i64 0] true laws_toItem.id) := by kernel_rfl
theorem toItemS.i {l : List Itm} (hl : l.length ≤ 4294967296) {h : Heap} {Q : AV → Heap → Prop} (hQ : Q (.imm false (l.map itmA)) h) : CALL Try.prog 95 [.imm false (l.map itmA)] h Q :=
  toSlice_i (val := fun s => .agg (itmA s)) (T := itmT) (rv := fun ts => .agg (ts.map tA)) (zs := [.leaf (.int .i64 0), .leaf (.int .i64 0), .leaf (.int .i64 0)]) mixed toItemS.tr itmA_len (fun _ => rfl) (fun a => ⟨rfl, rfl, rfl, rfl⟩) (fun a => itmT_ok) rfl rfl (fun z hz => by
    have : z = .leaf (.int .i64 0) := by simpa using hz
    subst this; exact ⟨rfl, fun _ => trivial⟩) (fun x _ _ _ hq => laws_toItem.c hq) hl hQ
theorem toItemSS.tr : trFun Try.prog 56 = some (toSliceG 80 1 [.slice none 0 0] false 95) := by kernel_rfl
theorem toItemSS.i {l : List (List Itm)} (hl : l.length ≤ 4294967296) (hs : ∀ s ∈ l, s.length ≤ 4294967296) {h : Heap} {Q : AV → Heap → Prop} (hQ : Q (.imm false (l.map setA)) h) : CALL Try.prog 56 [.imm false (l.map setA)] h Q :=
  toSlice_i (val := fun s => .imm false (s.map itmA)) (T := fun s => [.imm (.imm false (s.map itmA))]) (rv := fun ts => (ts.map tA).getD 0 .junk) (zs := [.nil]) mixed toItemSS.tr setA_len (fun _ => rfl) (fun a => ⟨rfl, rfl, rfl, rfl⟩) (fun a y hy => by
    have : y = .imm (.imm false (a.map itmA)) := by simpa using hy
    subst this; exact ⟨rfl, fun _ => trivial⟩) rfl rfl (fun z hz => by
    have : z = .nil := by simpa using hz
    subst this; exact ⟨rfl, fun _ => trivial⟩) (fun x hx _ _ hq => toItemS.i (hs x hx) hq) hl hQ
theorem laws_toChart.i {c : Cht} (f : ChtFit c) {h : Heap} {Q : AV → Heap → Prop} (hQ : Q (chartA c) h) : CALL Try.prog laws_toChart.id [chartA c] h Q := by
  refine CALL_by mixed laws_toChart.tr (Nat.le_of_ble_eq_true rfl) ?_
  simp (disch := omega) only [S, SL, Need_of, wrap_in, getD_map, getD_lt, Heap.set_ne, wrap_tdiv, tmod_nn, tdiv_nn, ↓reduceIte, eq_self, Nat.reduceEqDiff, Nat.reduceAdd, Nat.reduceSub, Nat.reduceMul, Nat.reduceLeDiff, Int.reduceNeg, Int.reduceToNat, Int.reduceLE, Int.reduceLT, Int.reduceEq, laws_toChart.g, chartA, chartL]
  refine allocK.in fun b1 hb1 => ?_
  simp (disch := omega) only [S, SL, Need_of, wrap_in, getD_map, getD_lt, Heap.set_ne, wrap_tdiv, tmod_nn, tdiv_nn, ↓reduceIte, eq_self, Nat.reduceEqDiff, Nat.reduceAdd, Nat.reduceSub, Nat.reduceMul, Nat.reduceLeDiff, Int.reduceNeg, Int.reduceToNat, Int.reduceLE, Int.reduceLT, Int.reduceEq]
  refine allocK.in fun b2 hb2 => ?_
  have ne2 := Heap.new_ne hb2
  have hn2 := Heap.new_none hb2
  simp (disch := omega) only [S, SL, Need_of, wrap_in, getD_map, getD_lt, Heap.set_ne, wrap_tdiv, tmod_nn, tdiv_nn, ↓reduceIte, eq_self, Nat.reduceEqDiff, Nat.reduceAdd, Nat.reduceSub, Nat.reduceMul, Nat.reduceLeDiff, Int.reduceNeg, Int.reduceToNat, Int.reduceLE, Int.reduceLT, Int.reduceEq]
  refine allocK.in fun b3 hb3 => ?_
  have ne3 := Heap.new_ne hb3
  have ne31 := Heap.new_ne (Heap.new_none hb3)
  have hn3 := Heap.new_none (Heap.new_none hb3)
  simp (disch := omega) only [S, SL, Need_of, wrap_in, getD_map, getD_lt, Heap.set_ne, wrap_tdiv, tmod_nn, tdiv_nn, ↓reduceIte, eq_self, Nat.reduceEqDiff, Nat.reduceAdd, Nat.reduceSub, Nat.reduceMul, Nat.reduceLeDiff, Int.reduceNeg, Int.reduceToNat, Int.reduceLE, Int.reduceLT, Int.reduceEq]
  refine callK.in (toItemSS.i f.len f.sets ?_)
  simp (disch := omega) only [S, SL, Need_of, wrap_in, getD_map, getD_lt, Heap.set_ne, wrap_tdiv, tmod_nn, tdiv_nn, ↓reduceIte, eq_self, Nat.reduceEqDiff, Nat.reduceAdd, Nat.reduceSub, Nat.reduceMul, Nat.reduceLeDiff, Int.reduceNeg, Int.reduceToNat, Int.reduceLE, Int.reduceLT, Int.reduceEq]
  exact fin.of (h' := h) (by repeat' first | exact Heap.le_refl _ | refine Heap.le_set (by assumption) ?_) hQ
end Go.Proofs.Ytabbipdkbdojiaa
