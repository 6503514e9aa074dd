/- The abstract layer, part 17: the laws' functions that compare, copy and measure slices: each kind once, for whatever element. Plain lemmas over any program; no condition. -/
import Derived.Test.YtabbipdkbdojiaaAb16
namespace Go.Ab
open Go Go.RowKit
set_option linter.unusedVariables false
set_option linter.unusedSimpArgs false
variable {P : Program}

theorem Qyes {p : Prop} [Decidable p] {Q : AV → Heap → Prop} {h : Heap} (hQ : Q (.val (.bool (decide p))) h) (hp : p) : Q (.val (.bool true)) h := by rwa [decide_eq_true hp] at hQ
theorem Qno {p : Prop} [Decidable p] {Q : AV → Heap → Prop} {h : Heap} (hQ : Q (.val (.bool (decide p))) h) (hp : ¬ p) : Q (.val (.bool false)) h := by rwa [decide_eq_false hp] at hQ
theorem take_step {α : Type} {a b : List α} {i : Nat} (ha : i < a.length) (hb : i < b.length) (h : a.take i = b.take i) (e : a[i] = b[i]) : a.take (i + 1) = b.take (i + 1) := by
  rw [List.take_succ_eq_append_getElem ha, List.take_succ_eq_append_getElem hb, h, e]

/-! ### equal, element by element -/
def eqSliceL (sz : Nat) (ag : Bool) (f : FuncId) : IC :=
  .seq (.seq (.reg [⟨some 11, .mv (.t 5), none⟩,
    ⟨some 12, .mv (.t 0), none⟩,
    ⟨some 13, .len (.t 12) false, none⟩,
    ⟨some 14, .bin .lss (.t 11) (.t 13), none⟩]) <|
  .cond (.t 14) (.skip) (.exit 0)) <|
  .seq (.block 1 (.seq (.dreg (inOrder 10) [⟨some 17, .mv (.t 0), none⟩,
      ⟨some 18, .mv (.t 5), none⟩,
      ⟨some 19, .iadr sz (.t 17) (.t 18), none⟩,
      ⟨some 20, .load sz ag (.t 19), none⟩,
      ⟨some 21, .mv (.t 1), none⟩,
      ⟨some 22, .mv (.t 5), none⟩,
      ⟨some 23, .iadr sz (.t 21) (.t 22), none⟩,
      ⟨some 24, .load sz ag (.t 23), none⟩,
      ⟨some 25, .call f [(.t 20), (.t 24)], none⟩,
      ⟨some 26, .un .not (.t 25), none⟩]) <|
    .cond (.t 26) (.seq (.reg [⟨some 4, .mv (.c (.bool false)), none⟩]) <|
      .ret) (.skip))) <|
  .reg [⟨some 15, .mv (.t 5), none⟩,
    ⟨some 16, .bin .add (.t 15) (.c (.int .i64 1)), none⟩,
    ⟨some 5, .mv (.t 16), none⟩]
def eqSliceG (sz : Nat) (ag : Bool) (f : FuncId) : Fun := ⟨27, [(4, none)],
  .seq (.reg [⟨some 4, .mv (.c (.bool false)), none⟩]) <|
  .seq (.seq (.reg [⟨some 6, .mv (.t 0), none⟩,
    ⟨some 7, .len (.t 6) false, none⟩,
    ⟨some 8, .mv (.t 1), none⟩,
    ⟨some 9, .len (.t 8) false, none⟩,
    ⟨some 10, .bin .neq (.t 7) (.t 9), none⟩]) <|
  .cond (.t 10) (.seq (.reg [⟨some 4, .mv (.c (.bool false)), none⟩]) <|
    .ret) (.skip)) <|
  .seq (.seq (.reg [⟨some 5, .mv (.c (.int .i64 0)), none⟩]) <|
  .block 0 (.loop (eqSliceL sz ag f))) <|
  .seq (.reg [⟨some 4, .mv (.c (.bool true)), none⟩]) <|
  .ret⟩
theorem eqSlice_c {α : Type} [DecidableEq α] {sz : Nat} {ag : Bool} {f id : FuncId} {el : α → List AV} {val : α → AV} (hm : P.follows .mixedOrders = true) (htr : trFun P id = some (eqSliceG sz ag f)) (hel : ∀ a, (el a).length = sz) (hval : ∀ a, loadC sz ag (el a) 0 = val a)
    {a b : List α} {h : Heap} {Q : AV → Heap → Prop} (hf : ∀ x ∈ a, ∀ y ∈ b, ∀ {h : Heap} {Q : AV → Heap → Prop}, Q (.val (.bool (decide (x = y)))) h → CALL P f [val x, val y] h Q) (hla : a.length ≤ 9223372036854775807) (hlb : b.length ≤ 9223372036854775807) (hQ : Q (.val (.bool (decide (a = b)))) h) : CALL P id [.imm false (a.map el), .imm false (b.map el)] h Q := by
  refine CALL_by hm htr (Nat.le_of_ble_eq_true rfl) ?_
  simp (disch := omega) only [S, SL, Need_of, wrap_in, getD_map, getD_lt, Heap.set_ne, wrap_tdiv, tmod_nn, tdiv_nn, ↓reduceIte, eq_self, Nat.reduceEqDiff, Nat.reduceAdd, Nat.reduceSub, Nat.reduceMul, Nat.reduceLeDiff, Int.reduceNeg, Int.reduceToNat, Int.reduceLE, Int.reduceLT, Int.reduceEq, eqSliceG]
  refine condK_if (fun h1 => ?_) (fun h1 => ?_)
  · simp (disch := omega) only [S, SL, Need_of, wrap_in, getD_map, getD_lt, Heap.set_ne, wrap_tdiv, tmod_nn, tdiv_nn, ↓reduceIte, eq_self, Nat.reduceEqDiff, Nat.reduceAdd, Nat.reduceSub, Nat.reduceMul, Nat.reduceLeDiff, Int.reduceNeg, Int.reduceToNat, Int.reduceLE, Int.reduceLT, Int.reduceEq]
    have h1' : a.length = b.length := by omega
    refine CK_loop (α := Nat) (fun i => [(0, .imm false (a.map el)), (1, .imm false (b.map el)), (5, .val (.int .i64 i))]) (fun _ => h) (fun i => i ≤ a.length ∧ a.take i = b.take i) (fun i => a.length - i) 0 ?_ (Heap.le_refl _) ⟨Nat.zero_le _, rfl⟩ ?_
    · simp only [S, SL, ↓reduceIte, eq_self, Nat.reduceEqDiff, Nat.reduceAdd, Nat.reduceSub, Nat.reduceMul, Nat.reduceLeDiff, Int.reduceNeg, Int.reduceToNat, Int.reduceLE, Int.reduceLT, Int.reduceEq]
    · rintro R i ⟨hi, hpre⟩ next
      simp (disch := omega) only [S, SL, Need_of, wrap_in, getD_map, getD_lt, Heap.set_ne, wrap_tdiv, tmod_nn, tdiv_nn, ↓reduceIte, eq_self, Nat.reduceEqDiff, Nat.reduceAdd, Nat.reduceSub, Nat.reduceMul, Nat.reduceLeDiff, Int.reduceNeg, Int.reduceToNat, Int.reduceLE, Int.reduceLT, Int.reduceEq, eqSliceL]
      refine condK_if (fun h2 => ?_) (fun h2 => ?_)
      · have ha : i < a.length := by omega
        have hb : i < b.length := by omega
        simp (disch := omega) only [S, SL, Need_of, wrap_in, getD_map, getD_lt, Heap.set_ne, wrap_tdiv, tmod_nn, tdiv_nn, ↓reduceIte, eq_self, Nat.reduceEqDiff, Nat.reduceAdd, Nat.reduceSub, Nat.reduceMul, Nat.reduceLeDiff, Int.reduceNeg, Int.reduceToNat, Int.reduceLE, Int.reduceLT, Int.reduceEq, hel, hval]
        refine callK.in (hf a[i] (List.getElem_mem ha) b[i] (List.getElem_mem hb) ?_)
        simp (disch := omega) only [S, SL, Need_of, wrap_in, getD_map, getD_lt, Heap.set_ne, wrap_tdiv, tmod_nn, tdiv_nn, ↓reduceIte, eq_self, Nat.reduceEqDiff, Nat.reduceAdd, Nat.reduceSub, Nat.reduceMul, Nat.reduceLeDiff, Int.reduceNeg, Int.reduceToNat, Int.reduceLE, Int.reduceLT, Int.reduceEq]
        refine condK_if (fun h3 => ?_) (fun h3 => ?_)
        · simp (disch := omega) only [S, SL, Need_of, wrap_in, getD_map, getD_lt, Heap.set_ne, wrap_tdiv, tmod_nn, tdiv_nn, ↓reduceIte, eq_self, Nat.reduceEqDiff, Nat.reduceAdd, Nat.reduceSub, Nat.reduceMul, Nat.reduceLeDiff, Int.reduceNeg, Int.reduceToNat, Int.reduceLE, Int.reduceLT, Int.reduceEq]
          exact next (i + 1) _ _ ⟨by omega, take_step ha hb hpre h3⟩ (by omega) (by simp only [S, SL, ↓reduceIte, eq_self, Nat.reduceEqDiff, Nat.reduceAdd, Nat.reduceSub, Nat.reduceMul, Nat.reduceLeDiff, Int.reduceNeg, Int.reduceToNat, Int.reduceLE, Int.reduceLT, Int.reduceEq]) (Heap.le_refl _)
        · simp (disch := omega) only [S, SL, Need_of, wrap_in, getD_map, getD_lt, Heap.set_ne, wrap_tdiv, tmod_nn, tdiv_nn, ↓reduceIte, eq_self, Nat.reduceEqDiff, Nat.reduceAdd, Nat.reduceSub, Nat.reduceMul, Nat.reduceLeDiff, Int.reduceNeg, Int.reduceToNat, Int.reduceLE, Int.reduceLT, Int.reduceEq]
          exact fin.same (Qno hQ fun e => h3 (by simp only [e]))
      · simp (disch := omega) only [S, SL, Need_of, wrap_in, getD_map, getD_lt, Heap.set_ne, wrap_tdiv, tmod_nn, tdiv_nn, ↓reduceIte, eq_self, Nat.reduceEqDiff, Nat.reduceAdd, Nat.reduceSub, Nat.reduceMul, Nat.reduceLeDiff, Int.reduceNeg, Int.reduceToNat, Int.reduceLE, Int.reduceLT, Int.reduceEq]
        obtain rfl : i = a.length := by omega
        rw [List.take_length, h1', List.take_length] at hpre
        exact fin.same (Qyes hQ hpre)
  · simp (disch := omega) only [S, SL, Need_of, wrap_in, getD_map, getD_lt, Heap.set_ne, wrap_tdiv, tmod_nn, tdiv_nn, ↓reduceIte, eq_self, Nat.reduceEqDiff, Nat.reduceAdd, Nat.reduceSub, Nat.reduceMul, Nat.reduceLeDiff, Int.reduceNeg, Int.reduceToNat, Int.reduceLE, Int.reduceLT, Int.reduceEq]
    exact fin.same (Qno hQ fun e => h1 (by rw [e]))

def eqLeafL : IC :=
  .seq (.seq (.reg [⟨some 11, .mv (.t 5), none⟩,
    ⟨some 12, .mv (.t 0), none⟩,
    ⟨some 13, .len (.t 12) false, none⟩,
    ⟨some 14, .bin .lss (.t 11) (.t 13), none⟩]) <|
  .cond (.t 14) (.skip) (.exit 0)) <|
  .seq (.block 1 (.seq (.dreg (inOrder 9) [⟨some 17, .mv (.t 0), none⟩,
      ⟨some 18, .mv (.t 5), none⟩,
      ⟨some 19, .iadr 1 (.t 17) (.t 18), none⟩,
      ⟨some 20, .load 1 false (.t 19), none⟩,
      ⟨some 21, .mv (.t 1), none⟩,
      ⟨some 22, .mv (.t 5), none⟩,
      ⟨some 23, .iadr 1 (.t 21) (.t 22), none⟩,
      ⟨some 24, .load 1 false (.t 23), none⟩,
      ⟨some 25, .bin .neq (.t 20) (.t 24), none⟩]) <|
    .cond (.t 25) (.seq (.reg [⟨some 4, .mv (.c (.bool false)), none⟩]) <|
      .ret) (.skip))) <|
  .reg [⟨some 15, .mv (.t 5), none⟩,
    ⟨some 16, .bin .add (.t 15) (.c (.int .i64 1)), none⟩,
    ⟨some 5, .mv (.t 16), none⟩]
def eqLeafG : Fun := ⟨26, [(4, none)],
  .seq (.reg [⟨some 4, .mv (.c (.bool false)), none⟩]) <|
  .seq (.seq (.reg [⟨some 6, .mv (.t 0), none⟩,
    ⟨some 7, .len (.t 6) false, none⟩,
    ⟨some 8, .mv (.t 1), none⟩,
    ⟨some 9, .len (.t 8) false, none⟩,
    ⟨some 10, .bin .neq (.t 7) (.t 9), none⟩]) <|
  .cond (.t 10) (.seq (.reg [⟨some 4, .mv (.c (.bool false)), none⟩]) <|
    .ret) (.skip)) <|
  .seq (.seq (.reg [⟨some 5, .mv (.c (.int .i64 0)), none⟩]) <|
  .block 0 (.loop eqLeafL)) <|
  .seq (.reg [⟨some 4, .mv (.c (.bool true)), none⟩]) <|
  .ret⟩
/-- Of cells that '!=' compares as the values behind them. -/
theorem eqLeaf_c {α : Type} [DecidableEq α] {id : FuncId} {el : α → AV} (hm : P.follows .mixedOrders = true) (htr : trFun P id = some eqLeafG) (hcmp : ∀ (x y : α) (e : Nat → AV) (h : Heap) (t : Tl), binK P .neq (el x) (el y) e h t = on P t e h (.val (.bool (!decide (x = y)))))
    {a b : List α} {h : Heap} {Q : AV → Heap → Prop} (hla : a.length ≤ 9223372036854775807) (hlb : b.length ≤ 9223372036854775807) (hQ : Q (.val (.bool (decide (a = b)))) h) : CALL P id [.imm false (a.map fun x => [el x]), .imm false (b.map fun x => [el x])] h Q := by
  refine CALL_by hm htr (Nat.le_of_ble_eq_true rfl) ?_
  simp (disch := omega) only [S, SL, Need_of, wrap_in, getD_map, getD_lt, Heap.set_ne, wrap_tdiv, tmod_nn, tdiv_nn, ↓reduceIte, eq_self, Nat.reduceEqDiff, Nat.reduceAdd, Nat.reduceSub, Nat.reduceMul, Nat.reduceLeDiff, Int.reduceNeg, Int.reduceToNat, Int.reduceLE, Int.reduceLT, Int.reduceEq, eqLeafG]
  refine condK_if (fun h1 => ?_) (fun h1 => ?_)
  · simp (disch := omega) only [S, SL, Need_of, wrap_in, getD_map, getD_lt, Heap.set_ne, wrap_tdiv, tmod_nn, tdiv_nn, ↓reduceIte, eq_self, Nat.reduceEqDiff, Nat.reduceAdd, Nat.reduceSub, Nat.reduceMul, Nat.reduceLeDiff, Int.reduceNeg, Int.reduceToNat, Int.reduceLE, Int.reduceLT, Int.reduceEq]
    have h1' : a.length = b.length := by omega
    refine CK_loop (α := Nat) (fun i => [(0, .imm false (a.map fun x => [el x])), (1, .imm false (b.map fun x => [el x])), (5, .val (.int .i64 i))]) (fun _ => h) (fun i => i ≤ a.length ∧ a.take i = b.take i) (fun i => a.length - i) 0 ?_ (Heap.le_refl _) ⟨Nat.zero_le _, rfl⟩ ?_
    · simp only [S, SL, ↓reduceIte, eq_self, Nat.reduceEqDiff, Nat.reduceAdd, Nat.reduceSub, Nat.reduceMul, Nat.reduceLeDiff, Int.reduceNeg, Int.reduceToNat, Int.reduceLE, Int.reduceLT, Int.reduceEq]
    · rintro R i ⟨hi, hpre⟩ next
      simp (disch := omega) only [S, SL, Need_of, wrap_in, getD_map, getD_lt, Heap.set_ne, wrap_tdiv, tmod_nn, tdiv_nn, ↓reduceIte, eq_self, Nat.reduceEqDiff, Nat.reduceAdd, Nat.reduceSub, Nat.reduceMul, Nat.reduceLeDiff, Int.reduceNeg, Int.reduceToNat, Int.reduceLE, Int.reduceLT, Int.reduceEq, eqLeafL]
      refine condK_if (fun h2 => ?_) (fun h2 => ?_)
      · have ha : i < a.length := by omega
        have hb : i < b.length := by omega
        simp (disch := omega) only [S, SL, Need_of, wrap_in, getD_map, getD_lt, Heap.set_ne, wrap_tdiv, tmod_nn, tdiv_nn, ↓reduceIte, eq_self, Nat.reduceEqDiff, Nat.reduceAdd, Nat.reduceSub, Nat.reduceMul, Nat.reduceLeDiff, Int.reduceNeg, Int.reduceToNat, Int.reduceLE, Int.reduceLT, Int.reduceEq, hcmp]
        refine condK_if (fun h3 => ?_) (fun h3 => ?_)
        · simp (disch := omega) only [S, SL, Need_of, wrap_in, getD_map, getD_lt, Heap.set_ne, wrap_tdiv, tmod_nn, tdiv_nn, ↓reduceIte, eq_self, Nat.reduceEqDiff, Nat.reduceAdd, Nat.reduceSub, Nat.reduceMul, Nat.reduceLeDiff, Int.reduceNeg, Int.reduceToNat, Int.reduceLE, Int.reduceLT, Int.reduceEq]
          exact next (i + 1) _ _ ⟨by omega, take_step ha hb hpre h3⟩ (by omega) (by simp only [S, SL, ↓reduceIte, eq_self, Nat.reduceEqDiff, Nat.reduceAdd, Nat.reduceSub, Nat.reduceMul, Nat.reduceLeDiff, Int.reduceNeg, Int.reduceToNat, Int.reduceLE, Int.reduceLT, Int.reduceEq]) (Heap.le_refl _)
        · simp (disch := omega) only [S, SL, Need_of, wrap_in, getD_map, getD_lt, Heap.set_ne, wrap_tdiv, tmod_nn, tdiv_nn, ↓reduceIte, eq_self, Nat.reduceEqDiff, Nat.reduceAdd, Nat.reduceSub, Nat.reduceMul, Nat.reduceLeDiff, Int.reduceNeg, Int.reduceToNat, Int.reduceLE, Int.reduceLT, Int.reduceEq]
          exact fin.same (Qno hQ fun e => h3 (by simp only [e]))
      · simp (disch := omega) only [S, SL, Need_of, wrap_in, getD_map, getD_lt, Heap.set_ne, wrap_tdiv, tmod_nn, tdiv_nn, ↓reduceIte, eq_self, Nat.reduceEqDiff, Nat.reduceAdd, Nat.reduceSub, Nat.reduceMul, Nat.reduceLeDiff, Int.reduceNeg, Int.reduceToNat, Int.reduceLE, Int.reduceLT, Int.reduceEq]
        obtain rfl : i = a.length := by omega
        rw [List.take_length, h1', List.take_length] at hpre
        exact fin.same (Qyes hQ hpre)
  · simp (disch := omega) only [S, SL, Need_of, wrap_in, getD_map, getD_lt, Heap.set_ne, wrap_tdiv, tmod_nn, tdiv_nn, ↓reduceIte, eq_self, Nat.reduceEqDiff, Nat.reduceAdd, Nat.reduceSub, Nat.reduceMul, Nat.reduceLeDiff, Int.reduceNeg, Int.reduceToNat, Int.reduceLE, Int.reduceLT, Int.reduceEq]
    exact fin.same (Qno hQ fun e => h1 (by rw [e]))

/-! ### how many elements in all -/
def szSliceL (sz : Nat) (ag : Bool) (f : FuncId) : IC :=
  .seq (.seq (.reg [⟨some 12, .mv (.t 5), none⟩,
    ⟨some 13, .mv (.t 0), none⟩,
    ⟨some 14, .len (.t 13) false, none⟩,
    ⟨some 15, .bin .lss (.t 12) (.t 14), none⟩]) <|
  .cond (.t 15) (.skip) (.exit 0)) <|
  .seq (.block 1 (.seq (.reg [⟨some 18, .mv (.t 0), none⟩,
      ⟨some 19, .mv (.t 5), none⟩,
      ⟨some 20, .iadr sz (.t 18) (.t 19), none⟩,
      ⟨some 21, .load sz ag (.t 20), none⟩,
      ⟨some 22, .mv (.t 1), none⟩,
      ⟨some 23, .call f [(.t 21), (.t 22)], none⟩,
      ⟨some 1, .mv (.t 23), none⟩]) <|
    .seq (.reg [⟨some 24, .mv (.t 1), none⟩,
      ⟨some 25, .bin .lss (.t 24) (.c (.int .i64 0)), none⟩]) <|
    .cond (.t 25) (.seq (.reg [⟨some 4, .mv (.c (.int .i64 (-1))), none⟩]) <|
      .ret) (.skip))) <|
  .reg [⟨some 16, .mv (.t 5), none⟩,
    ⟨some 17, .bin .add (.t 16) (.c (.int .i64 1)), none⟩,
    ⟨some 5, .mv (.t 17), none⟩]
def szSliceG (sz : Nat) (ag : Bool) (f : FuncId) : Fun := ⟨27, [(4, none)],
  .seq (.reg [⟨some 4, .mv (.c (.int .i64 0)), none⟩]) <|
  .seq (.reg [⟨some 6, .mv (.t 1), none⟩,
    ⟨some 7, .mv (.t 0), none⟩,
    ⟨some 8, .len (.t 7) false, none⟩,
    ⟨some 9, .bin .sub (.t 6) (.t 8), none⟩,
    ⟨some 1, .mv (.t 9), none⟩]) <|
  .seq (.seq (.reg [⟨some 10, .mv (.t 1), none⟩,
    ⟨some 11, .bin .lss (.t 10) (.c (.int .i64 0)), none⟩]) <|
  .cond (.t 11) (.seq (.reg [⟨some 4, .mv (.c (.int .i64 (-1))), none⟩]) <|
    .ret) (.skip)) <|
  .seq (.seq (.reg [⟨some 5, .mv (.c (.int .i64 0)), none⟩]) <|
  .block 0 (.loop (szSliceL sz ag f))) <|
  .seq (.reg [⟨some 26, .mv (.t 1), none⟩,
    ⟨some 4, .mv (.t 26), none⟩]) <|
  .ret⟩
/-- What is left: -1 if it isn't enough. -/
def remn (left : Int) (s : Nat) : Int := if (s : Int) ≤ left then left - s else -1
theorem remn_neg {left : Int} {s : Nat} (h : remn left s < 0) : left < s := by unfold remn at h; split at h <;> omega
theorem remn_pos {left : Int} {s : Nat} (h : ¬ remn left s < 0) : (s : Int) ≤ left ∧ remn left s = left - s := by
  unfold remn at h ⊢
  split at h
  · rename_i hs; exact ⟨hs, if_pos hs⟩
  · omega
theorem remn_more {left : Int} {s t : Nat} (h : (s : Int) ≤ left) : remn (left - s) t = remn left (s + t) := by unfold remn; split <;> split <;> omega
theorem remn_not {left : Int} {s : Nat} (h : left < s) : remn left s = -1 := by unfold remn; split <;> omega
def sizeL {α : Type} (s : α → Nat) (l : List α) : Nat := l.length + (l.map s).sum
theorem sum_take {α : Type} {s : α → Nat} {l : List α} {i : Nat} (hi : i < l.length) : ((l.take (i + 1)).map s).sum = ((l.take i).map s).sum + s l[i] := by
  rw [List.take_succ_eq_append_getElem hi]; simp only [List.map_append, List.map_cons, List.map_nil, List.sum_append, List.sum_cons, List.sum_nil, Nat.add_zero]
theorem sum_take_le {α : Type} {s : α → Nat} {l : List α} : ∀ (i : Nat), ((l.take i).map s).sum ≤ (l.map s).sum := by
  induction l with
  | nil => intro i; simp
  | cons x l ih => intro i; cases i with
    | zero => simp
    | succ i => simp only [List.take_succ_cons, List.map_cons, List.sum_cons]; have := ih i; omega
theorem szSlice_c {α : Type} {sz : Nat} {ag : Bool} {f id : FuncId} {el : α → List AV} {val : α → AV} {s : α → Nat} (hm : P.follows .mixedOrders = true) (htr : trFun P id = some (szSliceG sz ag f)) (hel : ∀ a, (el a).length = sz) (hval : ∀ a, loadC sz ag (el a) 0 = val a)
    {a : List α} {left : Int} {h : Heap} {Q : AV → Heap → Prop} (hf : ∀ x ∈ a, ∀ {left : Int} {h : Heap} {Q : AV → Heap → Prop}, 0 ≤ left → left ≤ 4611686018427387904 → Q (.val (.int .i64 (remn left (s x)))) h → CALL P f [val x, .val (.int .i64 left)] h Q)
    (hla : a.length ≤ 9223372036854775807) (h0 : 0 ≤ left) (h1 : left ≤ 4611686018427387904) (hQ : Q (.val (.int .i64 (remn left (sizeL s a)))) h) : CALL P id [.imm false (a.map el), .val (.int .i64 left)] h Q := by
  refine CALL_by hm htr (Nat.le_of_ble_eq_true rfl) ?_
  simp (disch := omega) only [S, SL, Need_of, wrap_in, getD_map, getD_lt, Heap.set_ne, wrap_tdiv, tmod_nn, tdiv_nn, ↓reduceIte, eq_self, Nat.reduceEqDiff, Nat.reduceAdd, Nat.reduceSub, Nat.reduceMul, Nat.reduceLeDiff, Int.reduceNeg, Int.reduceToNat, Int.reduceLE, Int.reduceLT, Int.reduceEq, szSliceG]
  refine condK_if (fun h2 => ?_) (fun h2 => ?_)
  · simp (disch := omega) only [S, SL, Need_of, wrap_in, getD_map, getD_lt, Heap.set_ne, wrap_tdiv, tmod_nn, tdiv_nn, ↓reduceIte, eq_self, Nat.reduceEqDiff, Nat.reduceAdd, Nat.reduceSub, Nat.reduceMul, Nat.reduceLeDiff, Int.reduceNeg, Int.reduceToNat, Int.reduceLE, Int.reduceLT, Int.reduceEq]
    rw [remn_not (by unfold sizeL; omega)] at hQ
    exact fin.same hQ
  · simp (disch := omega) only [S, SL, Need_of, wrap_in, getD_map, getD_lt, Heap.set_ne, wrap_tdiv, tmod_nn, tdiv_nn, ↓reduceIte, eq_self, Nat.reduceEqDiff, Nat.reduceAdd, Nat.reduceSub, Nat.reduceMul, Nat.reduceLeDiff, Int.reduceNeg, Int.reduceToNat, Int.reduceLE, Int.reduceLT, Int.reduceEq]
    refine CK_loop (α := Nat) (fun i => [(0, .imm false (a.map el)), (1, .val (.int .i64 (left - a.length - ((a.take i).map s).sum))), (5, .val (.int .i64 i))]) (fun _ => h) (fun i => i ≤ a.length ∧ (a.length : Int) + ((a.take i).map s).sum ≤ left) (fun i => a.length - i) 0 ?_ (Heap.le_refl _) ⟨Nat.zero_le _, by simp; omega⟩ ?_
    · simp only [S, SL, ↓reduceIte, eq_self, Nat.reduceEqDiff, Nat.reduceAdd, Nat.reduceSub, Nat.reduceMul, Nat.reduceLeDiff, Int.reduceNeg, Int.reduceToNat, Int.reduceLE, Int.reduceLT, Int.reduceEq, List.sum_nil, Int.sub_zero]
    · rintro R i ⟨hi, hpre⟩ next
      simp (disch := omega) only [S, SL, Need_of, wrap_in, getD_map, getD_lt, Heap.set_ne, wrap_tdiv, tmod_nn, tdiv_nn, ↓reduceIte, eq_self, Nat.reduceEqDiff, Nat.reduceAdd, Nat.reduceSub, Nat.reduceMul, Nat.reduceLeDiff, Int.reduceNeg, Int.reduceToNat, Int.reduceLE, Int.reduceLT, Int.reduceEq, szSliceL]
      refine condK_if (fun h3 => ?_) (fun h3 => ?_)
      · have ha : i < a.length := by omega
        simp (disch := omega) only [S, SL, Need_of, wrap_in, getD_map, getD_lt, Heap.set_ne, wrap_tdiv, tmod_nn, tdiv_nn, ↓reduceIte, eq_self, Nat.reduceEqDiff, Nat.reduceAdd, Nat.reduceSub, Nat.reduceMul, Nat.reduceLeDiff, Int.reduceNeg, Int.reduceToNat, Int.reduceLE, Int.reduceLT, Int.reduceEq, hel, hval]
        refine callK.in (hf a[i] (List.getElem_mem ha) (by omega) (by omega) ?_)
        simp (disch := omega) only [S, SL, Need_of, wrap_in, getD_map, getD_lt, Heap.set_ne, wrap_tdiv, tmod_nn, tdiv_nn, ↓reduceIte, eq_self, Nat.reduceEqDiff, Nat.reduceAdd, Nat.reduceSub, Nat.reduceMul, Nat.reduceLeDiff, Int.reduceNeg, Int.reduceToNat, Int.reduceLE, Int.reduceLT, Int.reduceEq]
        have hst := sum_take (s := s) ha
        have hsl := sum_take_le (s := s) (l := a) (i + 1)
        refine condK_if (fun h4 => ?_) (fun h4 => ?_)
        · simp (disch := omega) only [S, SL, Need_of, wrap_in, getD_map, getD_lt, Heap.set_ne, wrap_tdiv, tmod_nn, tdiv_nn, ↓reduceIte, eq_self, Nat.reduceEqDiff, Nat.reduceAdd, Nat.reduceSub, Nat.reduceMul, Nat.reduceLeDiff, Int.reduceNeg, Int.reduceToNat, Int.reduceLE, Int.reduceLT, Int.reduceEq]
          have := remn_neg h4
          rw [remn_not (by unfold sizeL; omega)] at hQ
          exact fin.same hQ
        · simp (disch := omega) only [S, SL, Need_of, wrap_in, getD_map, getD_lt, Heap.set_ne, wrap_tdiv, tmod_nn, tdiv_nn, ↓reduceIte, eq_self, Nat.reduceEqDiff, Nat.reduceAdd, Nat.reduceSub, Nat.reduceMul, Nat.reduceLeDiff, Int.reduceNeg, Int.reduceToNat, Int.reduceLE, Int.reduceLT, Int.reduceEq]
          obtain ⟨h5, h6⟩ := remn_pos h4
          exact next (i + 1) _ _ ⟨by omega, by omega⟩ (by omega) (by
            have : left - a.length - ((a.take i).map s).sum - s a[i] = left - a.length - ((a.take (i + 1)).map s).sum := by omega
            simp only [S, SL, ↓reduceIte, eq_self, Nat.reduceEqDiff, Nat.reduceAdd, Nat.reduceSub, Nat.reduceMul, Nat.reduceLeDiff, Int.reduceNeg, Int.reduceToNat, Int.reduceLE, Int.reduceLT, Int.reduceEq, h6, this]) (Heap.le_refl _)
      · simp (disch := omega) only [S, SL, Need_of, wrap_in, getD_map, getD_lt, Heap.set_ne, wrap_tdiv, tmod_nn, tdiv_nn, ↓reduceIte, eq_self, Nat.reduceEqDiff, Nat.reduceAdd, Nat.reduceSub, Nat.reduceMul, Nat.reduceLeDiff, Int.reduceNeg, Int.reduceToNat, Int.reduceLE, Int.reduceLT, Int.reduceEq]
        obtain rfl : i = a.length := by omega
        rw [List.take_length] at hpre ⊢
        refine fin.same ?_
        have : remn left (sizeL s a) = left - a.length - (a.map s).sum := by unfold remn sizeL; rw [if_pos (by omega)]; omega
        rw [this] at hQ
        exact hQ

def szLeafG : Fun := ⟨12, [(4, none)],
  .seq (.reg [⟨some 4, .mv (.c (.int .i64 0)), none⟩]) <|
  .seq (.reg [⟨some 5, .mv (.t 1), none⟩,
    ⟨some 6, .mv (.t 0), none⟩,
    ⟨some 7, .len (.t 6) false, none⟩,
    ⟨some 8, .bin .sub (.t 5) (.t 7), none⟩,
    ⟨some 1, .mv (.t 8), none⟩]) <|
  .seq (.seq (.reg [⟨some 9, .mv (.t 1), none⟩,
    ⟨some 10, .bin .lss (.t 9) (.c (.int .i64 0)), none⟩]) <|
  .cond (.t 10) (.seq (.reg [⟨some 4, .mv (.c (.int .i64 (-1))), none⟩]) <|
    .ret) (.skip)) <|
  .seq (.reg [⟨some 11, .mv (.t 1), none⟩,
    ⟨some 4, .mv (.t 11), none⟩]) <|
  .ret⟩
theorem szLeaf_c {id : FuncId} (hm : P.follows .mixedOrders = true) (htr : trFun P id = some szLeafG) {els : List (List AV)} {left : Int} {h : Heap} {Q : AV → Heap → Prop}
    (hla : els.length ≤ 9223372036854775807) (h0 : 0 ≤ left) (h1 : left ≤ 4611686018427387904) (hQ : Q (.val (.int .i64 (remn left els.length))) h) : CALL P id [.imm false els, .val (.int .i64 left)] h Q := by
  refine CALL_by hm htr (Nat.le_of_ble_eq_true rfl) ?_
  simp (disch := omega) only [S, SL, Need_of, wrap_in, getD_map, getD_lt, Heap.set_ne, wrap_tdiv, tmod_nn, tdiv_nn, ↓reduceIte, eq_self, Nat.reduceEqDiff, Nat.reduceAdd, Nat.reduceSub, Nat.reduceMul, Nat.reduceLeDiff, Int.reduceNeg, Int.reduceToNat, Int.reduceLE, Int.reduceLT, Int.reduceEq, szLeafG]
  refine condK_if (fun h2 => ?_) (fun h2 => ?_)
  · simp (disch := omega) only [S, SL, Need_of, wrap_in, getD_map, getD_lt, Heap.set_ne, wrap_tdiv, tmod_nn, tdiv_nn, ↓reduceIte, eq_self, Nat.reduceEqDiff, Nat.reduceAdd, Nat.reduceSub, Nat.reduceMul, Nat.reduceLeDiff, Int.reduceNeg, Int.reduceToNat, Int.reduceLE, Int.reduceLT, Int.reduceEq]
    rw [remn_not (by omega)] at hQ
    exact fin.same hQ
  · simp (disch := omega) only [S, SL, Need_of, wrap_in, getD_map, getD_lt, Heap.set_ne, wrap_tdiv, tmod_nn, tdiv_nn, ↓reduceIte, eq_self, Nat.reduceEqDiff, Nat.reduceAdd, Nat.reduceSub, Nat.reduceMul, Nat.reduceLeDiff, Int.reduceNeg, Int.reduceToNat, Int.reduceLE, Int.reduceLT, Int.reduceEq]
    have : remn left els.length = left - els.length := by unfold remn; rw [if_pos (by omega)]
    rw [this] at hQ
    exact fin.same hQ
end Go.Ab
