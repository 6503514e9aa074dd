/- Charts, plainly: items, their order, what an item waits for, charts in form. Definitions and plain lemmas; no condition. -/
import Derived.Test.YtabbipdkbdojiaaTrimP
import Derived.Test.YtabbipdkbdojiaaAb20
namespace Go.Ab
open Go
set_option linter.unusedVariables false
set_option linter.unusedSimpArgs false

structure Itm where
  prod : Int
  dot : Int
  frm : Int
deriving Inhabited, DecidableEq
structure Cht where
  sets : List (List Itm)
deriving Inhabited, DecidableEq
def itmA (x : Itm) : List AV := [iA x.prod, iA x.dot, iA x.frm]
def itmT (x : Itm) : List Tree := [.leaf (.int .i64 x.prod), .leaf (.int .i64 x.dot), .leaf (.int .i64 x.frm)]
def setA (s : List Itm) : List AV := [.imm false (s.map itmA)]
def chartL (c : Cht) : List AV := [.imm false (c.sets.map setA)]
def chartA (c : Cht) : AV := .agg (chartL c)
theorem itmA_len (x : Itm) : (itmA x).length = 3 := rfl
theorem setA_len (s : List Itm) : (setA s).length = 1 := rfl
theorem itmT_ok {x : Itm} : ∀ y ∈ itmT x, blocks y = [] ∧ ∀ h, y.at h := flat_ok (vs := [.int .i64 x.prod, .int .i64 x.dot, .int .i64 x.frm])
/-- Items in order. -/
def ltI (x y : Itm) : Prop := x.prod < y.prod ∨ (x.prod = y.prod ∧ (x.dot < y.dot ∨ (x.dot = y.dot ∧ x.frm < y.frm)))
instance (x y : Itm) : Decidable (ltI x y) := by unfold ltI; infer_instance
def bodyV (t : Cfg) (x : Itm) : List Sym := (t.prods.getD x.prod.toNat default).body
def headV (t : Cfg) (x : Itm) : Int := (t.prods.getD x.prod.toNat default).head
/-- What an item waits for. -/
def nextV (t : Cfg) (x : Itm) : Option Sym := (bodyV t x)[x.dot.toNat]?
/-- An item that may stand at a place. -/
def ItemIn (t : Cfg) (at_ : Nat) (x : Itm) : Prop := (0 ≤ x.prod ∧ x.prod ≤ (t.prods.length : Int) - 1) ∧ (0 ≤ x.dot ∧ x.dot ≤ (bodyV t x).length) ∧ 0 ≤ x.frm ∧ x.frm ≤ at_
structure SetIn (t : Cfg) (at_ : Nat) (s : List Itm) (k : Nat) (hk : k < s.length) : Prop where
  item : ItemIn t at_ s[k]
  step : 0 < k → ltI s[k - 1] s[k]
structure ChartIn (t : Cfg) (c : Cht) : Prop where
  len : 1 ≤ c.sets.length ∧ c.sets.length ≤ 81
  sets : ∀ i (hi : i < c.sets.length) k (hk : k < c.sets[i].length), SetIn t i c.sets[i] k hk
noncomputable instance (t : Cfg) (c : Cht) : Decidable (ChartIn t c) := Classical.propDecidable _
def lastV (c : Cht) : List Itm := c.sets.getD (c.sets.length - 1) []
/-- A production of head 0 is done, since the beginning. -/
def endI (t : Cfg) (x : Itm) : Prop := nextV t x = none ∧ headV t x = 0 ∧ x.frm = 0
def EndsV (t : Cfg) (c : Cht) : Prop := ∃ x ∈ lastV c, endI t x
noncomputable instance (t : Cfg) (c : Cht) : Decidable (EndsV t c) := Classical.propDecidable _
/-- A byte that an item waits for. -/
def waitsB (t : Cfg) (x : Itm) (b : Nat) : Prop := ∃ s, nextV t x = some s ∧ s.head < 0 ∧ s.low ≤ b ∧ (b : Int) ≤ s.high
open Classical in
noncomputable def expectV (t : Cfg) (c : Cht) : List Bool := (List.range 256).map fun b => decide (c.sets.length ≠ 81 ∧ ∃ x ∈ lastV c, waitsB t x b)
theorem ItemIn.prod_lt {t : Cfg} {a : Nat} {x : Itm} (h : ItemIn t a x) : x.prod.toNat < t.prods.length := by have := h.1; omega
theorem ItemIn.body {t : Cfg} {a : Nat} {x : Itm} (h : ItemIn t a x) : bodyV t x = (t.prods[x.prod.toNat]'h.prod_lt).body := by
  unfold bodyV; rw [List.getD_eq_getElem?_getD, List.getElem?_eq_getElem h.prod_lt]; rfl
theorem ItemIn.head {t : Cfg} {a : Nat} {x : Itm} (h : ItemIn t a x) : headV t x = (t.prods[x.prod.toNat]'h.prod_lt).head := by
  unfold headV; rw [List.getD_eq_getElem?_getD, List.getElem?_eq_getElem h.prod_lt]; rfl
theorem nextV_none {t : Cfg} {a : Nat} {x : Itm} (h : ItemIn t a x) : nextV t x = none ↔ x.dot = (bodyV t x).length := by
  unfold nextV; rw [List.getElem?_eq_none_iff]; have := h.2.1; omega
theorem nextV_some {t : Cfg} {a : Nat} {x : Itm} (h : ItemIn t a x) (hd : x.dot ≠ (bodyV t x).length) : ∃ hl : x.dot.toNat < (bodyV t x).length, nextV t x = some (bodyV t x)[x.dot.toNat] := by
  have := h.2.1
  have hl : x.dot.toNat < (bodyV t x).length := by omega
  exact ⟨hl, List.getElem?_eq_getElem hl⟩
theorem nextV_ok {t : Cfg} {a : Nat} {x : Itm} {s : Sym} (ok : CfgOk t) (h : ItemIn t a x) (hs : nextV t x = some s) : SymOk t.heads s := by
  have hm : s ∈ bodyV t x := List.mem_of_getElem? hs
  rw [h.body] at hm
  exact (ok.mem (List.getElem_mem h.prod_lt)).2.2.2 s hm
theorem last_eq {c : Cht} (h : 1 ≤ c.sets.length) : lastV c = c.sets[c.sets.length - 1]'(by omega) := by
  unfold lastV; rw [List.getD_eq_getElem?_getD, List.getElem?_eq_getElem (by omega)]; rfl
theorem ChartIn.last {t : Cfg} {c : Cht} (h : ChartIn t c) {x : Itm} (hx : x ∈ lastV c) : ItemIn t (c.sets.length - 1) x := by
  rw [last_eq h.len.1] at hx
  obtain ⟨k, hk⟩ := List.getElem?_of_mem hx
  obtain ⟨h1, h2⟩ := List.getElem?_eq_some_iff.1 hk
  have := (h.sets _ (by have := h.len; omega) k h1).item
  rwa [h2] at this
end Go.Ab
