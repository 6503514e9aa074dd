/- The data of the program, plainly, and how they stand in memory that doesn't change. Definitions and plain lemmas; no condition. -/
import Derived.Test.YtabbipdkbdojiaaAb14
namespace Go.Ab
open Go

abbrev iA (n : Int) : AV := .val (.int .i64 n)
abbrev bA (b : Bool) : AV := .val (.bool b)
abbrev yA (b : UInt8) : AV := .val (.int .u8 b.toNat)
abbrev sA (s : ByteArray) : AV := .val (.string s)
abbrev nilA : AV := .val (.slice none 0 0)

structure Sym where
  head : Int
  low : Int
  high : Int
deriving Inhabited, DecidableEq
structure Prd where
  head : Int
  body : List Sym
deriving Inhabited, DecidableEq
structure Cfg where
  heads : Int
  prods : List Prd
deriving Inhabited, DecidableEq

def symA (s : Sym) : List AV := [iA s.head, iA s.low, iA s.high]
def prdA (p : Prd) : List AV := [iA p.head, .imm false (p.body.map symA)]
def cfgL (c : Cfg) : List AV := [iA c.heads, .imm false (c.prods.map prdA)]
def cfgA (c : Cfg) : AV := .agg (cfgL c)
theorem symA_len (s : Sym) : (symA s).length = 3 := rfl
theorem prdA_len (p : Prd) : (prdA p).length = 2 := rfl

theorem Q_yes {p : Prop} [Decidable p] {Q : AV → Heap → Prop} {h : Heap} (hQ : Q (bA (decide p)) h) (hp : p) : Q (bA true) h := by rwa [decide_eq_true hp] at hQ
theorem Q_no {p : Prop} [Decidable p] {Q : AV → Heap → Prop} {h : Heap} (hQ : Q (bA (decide p)) h) (hp : ¬ p) : Q (bA false) h := by rwa [decide_eq_false hp] at hQ
/-! ### productions in form -/
def SymOk (heads : Int) (s : Sym) : Prop := (0 ≤ s.head ∧ s.head ≤ heads - 1 ∧ s.low = 0 ∧ s.high = 0) ∨ (s.head = -1 ∧ 0 ≤ s.low ∧ s.low ≤ s.high ∧ s.high ≤ 255)
instance (heads : Int) (s : Sym) : Decidable (SymOk heads s) := by unfold SymOk; infer_instance
structure PrdOk (c : Cfg) (k : Nat) (hk : k < c.prods.length) : Prop where
  head : 0 ≤ c.prods[k].head ∧ c.prods[k].head ≤ c.heads - 1
  step : 0 < k → c.prods[k - 1].head ≤ c.prods[k].head
  len : c.prods[k].body.length ≤ 160
  body : ∀ (j : Nat) (hj : j < c.prods[k].body.length), SymOk c.heads c.prods[k].body[j]
structure CfgOk (c : Cfg) : Prop where
  heads : 1 ≤ c.heads ∧ c.heads ≤ 200
  len : c.prods.length ≤ 400
  prods : ∀ k (hk : k < c.prods.length), PrdOk c k hk
noncomputable instance (c : Cfg) : Decidable (CfgOk c) := Classical.propDecidable _

end Go.Ab
