/- Productions that are trimmed, plainly: shortest lengths, use, and what is left. Definitions and plain lemmas; no condition. -/
import Derived.Test.YtabbipdkbdojiaaData
namespace Go.Ab
open Go
set_option linter.unusedVariables false
set_option linter.unusedSimpArgs false

/-! ### again and again, until nothing changes -/
def iterN {α : Type} (f : α → α) : Nat → α → α
  | 0, x => x
  | n + 1, x => f (iterN f n x)
theorem iterN_fix {α : Type} {f : α → α} {x : α} {n : Nat} (h : f (iterN f n x) = iterN f n x) : ∀ k, iterN f (n + k) x = iterN f n x
  | 0 => rfl
  | k + 1 => by rw [← Nat.add_assoc, iterN, iterN_fix h k, h]
open Classical in
noncomputable def fixOf {α : Type} (f : α → α) (x : α) : α := if h : ∃ n, f (iterN f n x) = iterN f n x then iterN f h.choose x else x
theorem fixOf_eq {α : Type} {f : α → α} {x : α} {n : Nat} (h : f (iterN f n x) = iterN f n x) : fixOf f x = iterN f n x := by
  have hex : ∃ n, f (iterN f n x) = iterN f n x := ⟨n, h⟩
  rw [fixOf, dif_pos hex]
  have h2 := hex.choose_spec
  generalize hex.choose = m at h2
  rcases Nat.le_total m n with hle | hle
  · obtain ⟨k, rfl⟩ := Nat.exists_eq_add_of_le hle
    exact (iterN_fix h2 k).symm
  · obtain ⟨k, rfl⟩ := Nat.exists_eq_add_of_le hle
    exact iterN_fix h k
/-- What each round keeps holds of the end. -/
theorem fixOf_inv {α : Type} {f : α → α} {x : α} {p : α → Prop} (h0 : p x) (hs : ∀ y, p y → p (f y)) : p (fixOf f x) := by
  have : ∀ n, p (iterN f n x) := by
    intro n
    induction n with
    | zero => exact h0
    | succ n ih => exact hs _ ih
  unfold fixOf; split
  · exact this _
  · exact h0

/-! ### lengths -/
/-- The length of parts from here on, behind n. -/
def sumV (least : List Int) : List Sym → Int → Int
  | [], n => n
  | s :: r, n => if s.head < 0 then sumV least r (n + 1) else if least.getD s.head.toNat (-1) < 0 then -1 else sumV least r (min (n + least.getD s.head.toNat (-1)) 9999)
def lenOf (least : List Int) (body : List Sym) : Int := sumV least body 0
def relax (out : List Int) (p : Prd) : List Int := if 0 ≤ lenOf out p.body ∧ (out.getD p.head.toNat (-1) < 0 ∨ lenOf out p.body < out.getD p.head.toNat (-1)) then out.set p.head.toNat (lenOf out p.body) else out
noncomputable def leastV (c : Cfg) : List Int := fixOf (fun out => c.prods.foldl relax out) (List.replicate c.heads.toNat (-1))
theorem sumV_range {least : List Int} : ∀ (body : List Sym) (n : Int), 0 ≤ n → -1 ≤ sumV least body n ∧ sumV least body n ≤ max n 9999 + body.length
  | [], n, h => by simp only [sumV, List.length_nil]; omega
  | s :: r, n, h => by
    simp only [sumV, List.length_cons]
    split
    · have := sumV_range (least := least) r (n + 1) (by omega); omega
    · split
      · omega
      · have := sumV_range (least := least) r (min (n + least.getD s.head.toNat (-1)) 9999) (by omega); omega
theorem lenOf_range (least : List Int) (body : List Sym) : -1 ≤ lenOf least body ∧ lenOf least body ≤ 9999 + body.length := by
  have := sumV_range (least := least) body 0 (by omega); unfold lenOf; omega
/-- Lengths as they come. -/
def LeastOk (heads : Int) (l : List Int) : Prop := l.length = heads.toNat ∧ ∀ x ∈ l, -1 ≤ x ∧ x ≤ 20000
theorem relax_ok {heads : Int} {l : List Int} {p : Prd} (h : LeastOk heads l) (hp : p.body.length ≤ 160) : LeastOk heads (relax l p) := by
  unfold relax; split
  · have := lenOf_range l p.body
    refine ⟨by rw [List.length_set]; exact h.1, fun x hx => ?_⟩
    rcases List.mem_or_eq_of_mem_set hx with hx | rfl
    · exact h.2 x hx
    · omega
  · exact h
theorem foldl_inv {α β : Type} {f : β → α → β} {p : β → Prop} {q : α → Prop} (hs : ∀ b a, p b → q a → p (f b a)) : ∀ (l : List α) (b : β), (∀ a ∈ l, q a) → p b → p (l.foldl f b)
  | [], b, _, hb => hb
  | a :: l, b, hl, hb => foldl_inv hs l (f b a) (fun x hx => hl x (List.mem_cons_of_mem a hx)) (hs b a hb (hl a (List.mem_cons_self ..)))
theorem CfgOk.mem {c : Cfg} (ok : CfgOk c) {p : Prd} (hp : p ∈ c.prods) : 0 ≤ p.head ∧ p.head ≤ c.heads - 1 ∧ p.body.length ≤ 160 ∧ ∀ s ∈ p.body, SymOk c.heads s := by
  obtain ⟨k, hk⟩ := List.getElem?_of_mem hp
  obtain ⟨h1, h2⟩ := List.getElem?_eq_some_iff.1 hk
  have q := ok.prods k h1
  have q1 := q.head; have q2 := q.len; have q3 := q.body
  rw [h2] at q1 q2
  refine ⟨q1.1, q1.2, q2, fun s hs => ?_⟩
  obtain ⟨j, hj⟩ := List.getElem?_of_mem hs
  obtain ⟨g1, g2⟩ := List.getElem?_eq_some_iff.1 hj
  have := q3 j (by rw [h2]; exact g1)
  simp only [h2, g2] at this; exact this
theorem leastV_ok {c : Cfg} (ok : CfgOk c) : LeastOk c.heads (leastV c) := by
  refine fixOf_inv (p := LeastOk c.heads) ⟨by simp, fun x hx => by rw [List.eq_of_mem_replicate hx]; omega⟩ fun y hy => ?_
  exact foldl_inv (p := LeastOk c.heads) (q := fun p : Prd => p.body.length ≤ 160) (fun b a hb ha => relax_ok hb ha) c.prods y (fun p hp => (ok.mem hp).2.2.1) hy
/-- How much there is still to gain. -/
def gain (l : List Int) : Nat := (l.map fun x => if x < 0 then 30000 else x.toNat).sum
theorem sum_set_lt {α : Type} {s : α → Nat} : ∀ (l : List α) (i : Nat) (x : α) (hi : i < l.length), s x < s l[i] → ((l.set i x).map s).sum < (l.map s).sum
  | y :: l, 0, x, hi, h => by simp only [List.set_cons_zero, List.map_cons, List.sum_cons]; simp at h; omega
  | y :: l, i + 1, x, hi, h => by
    have := sum_set_lt l i x (by simpa using hi) (by simpa using h)
    simp only [List.set_cons_succ, List.map_cons, List.sum_cons]; omega
theorem relax_gain {l : List Int} {p : Prd} (h0 : 0 ≤ p.head) (hl : p.head.toNat < l.length) (hb : p.body.length ≤ 160) (hc : 0 ≤ lenOf l p.body ∧ (l.getD p.head.toNat (-1) < 0 ∨ lenOf l p.body < l.getD p.head.toNat (-1))) : gain (l.set p.head.toNat (lenOf l p.body)) < gain l := by
  have := lenOf_range l p.body
  refine sum_set_lt l _ _ hl ?_
  have e : l.getD p.head.toNat (-1) = l[p.head.toNat] := by simp [List.getD_eq_getElem?_getD, hl]
  rw [e] at hc
  (repeat' split) <;> omega

theorem relax_yes {l : List Int} {p : Prd} (hc : 0 ≤ lenOf l p.body ∧ (l.getD p.head.toNat (-1) < 0 ∨ lenOf l p.body < l.getD p.head.toNat (-1))) : relax l p = l.set p.head.toNat (lenOf l p.body) := if_pos hc
theorem relax_no {l : List Int} {p : Prd} (hc : ¬ (0 ≤ lenOf l p.body ∧ (l.getD p.head.toNat (-1) < 0 ∨ lenOf l p.body < l.getD p.head.toNat (-1)))) : relax l p = l := if_neg hc
theorem foldl_take {α β : Type} {f : β → α → β} {l : List α} {k : Nat} {b : β} (hk : k < l.length) : (l.take (k + 1)).foldl f b = f ((l.take k).foldl f b) l[k] := by
  rw [List.take_succ_eq_append_getElem hk, List.foldl_append]; rfl
theorem CfgOk.prod {c : Cfg} (ok : CfgOk c) {k : Nat} (hk : k < c.prods.length) : 0 ≤ c.prods[k].head ∧ c.prods[k].head ≤ c.heads - 1 ∧ c.prods[k].body.length ≤ 160 ∧ ∀ s ∈ c.prods[k].body, SymOk c.heads s := ok.mem (List.getElem_mem hk)
/-! ### use -/
def markS (used : List Bool) (s : Sym) : List Bool := if 0 ≤ s.head then used.set s.head.toNat true else used
def useP (least : List Int) (used : List Bool) (p : Prd) : List Bool := if used.getD p.head.toNat false = true ∧ 0 ≤ lenOf least p.body then p.body.foldl markS used else used
noncomputable def usedV (c : Cfg) (least : List Int) : List Bool := fixOf (fun u => c.prods.foldl (useP least) u) ((List.replicate c.heads.toNat false).set 0 true)
theorem markS_len {u : List Bool} {s : Sym} : (markS u s).length = u.length := by unfold markS; split <;> simp
theorem foldl_markS_len : ∀ (b : List Sym) (u : List Bool), (b.foldl markS u).length = u.length
  | [], u => rfl
  | s :: b, u => by rw [List.foldl_cons, foldl_markS_len b, markS_len]
theorem useP_len {least : List Int} {u : List Bool} {p : Prd} : (useP least u p).length = u.length := by unfold useP; split; exact foldl_markS_len _ _; rfl
theorem foldl_useP_len {least : List Int} : ∀ (b : List Prd) (u : List Bool), (b.foldl (useP least) u).length = u.length
  | [], u => rfl
  | s :: b, u => by rw [List.foldl_cons, foldl_useP_len b, useP_len]
theorem usedV_len {c : Cfg} {least : List Int} : (usedV c least).length = c.heads.toNat :=
  fixOf_inv (p := fun u : List Bool => u.length = c.heads.toNat) (by simp) fun y hy => by rw [foldl_useP_len]; exact hy
theorem useP_yes {least : List Int} {u : List Bool} {p : Prd} (h : u.getD p.head.toNat false = true ∧ 0 ≤ lenOf least p.body) : useP least u p = p.body.foldl markS u := if_pos h
theorem useP_no {least : List Int} {u : List Bool} {p : Prd} (h : ¬ (u.getD p.head.toNat false = true ∧ 0 ≤ lenOf least p.body)) : useP least u p = u := if_neg h
theorem markS_neg {u : List Bool} {s : Sym} (h : ¬ 0 ≤ s.head) : markS u s = u := if_neg h
theorem markS_set {u : List Bool} {s : Sym} (h : 0 ≤ s.head) : markS u s = u.set s.head.toNat true := if_pos h
theorem markS_same {u : List Bool} {s : Sym} (h : 0 ≤ s.head) (hi : s.head.toNat < u.length) (hu : u[s.head.toNat] = true) : markS u s = u := by
  rw [markS, if_pos h]
  apply List.ext_getElem?
  intro j
  by_cases hj : s.head.toNat = j
  · subst hj; rw [List.getElem?_set_self hi, List.getElem?_eq_getElem hi, hu]
  · rw [List.getElem?_set_ne hj]
/-- How many aren't used. -/
def idle (u : List Bool) : Nat := (u.map fun b => if b then 0 else 1).sum
theorem idle_lt {u : List Bool} {i : Nat} (hi : i < u.length) (h : u[i] = false) : idle (u.set i true) < idle u := sum_set_lt u i true hi (by simp [h])
noncomputable def keepV (c : Cfg) (p : Prd) : Bool := (usedV c (leastV c)).getD p.head.toNat false && decide (0 ≤ lenOf (leastV c) p.body)
noncomputable def trimV (c : Cfg) : Cfg := ⟨c.heads, c.prods.filter (keepV c)⟩

/-! ### what is trimmed is in form -/
theorem CfgOk.le {c : Cfg} (ok : CfgOk c) : ∀ (j i : Nat) (hj : j < c.prods.length) (hi : i ≤ j), (c.prods[i]'(by omega)).head ≤ c.prods[j].head
  | 0, i, hj, hi => by have : i = 0 := by omega
                       subst this; exact Int.le_refl _
  | j + 1, i, hj, hi => by
    by_cases h : i = j + 1
    · subst h; exact Int.le_refl _
    · have h1 := ok.le j i (by omega) (by omega)
      have h2 := (ok.prods (j + 1) hj).step (by omega)
      simp only [Nat.add_sub_cancel] at h2
      omega
theorem CfgOk.pairwise {c : Cfg} (ok : CfgOk c) : c.prods.Pairwise fun p q => p.head ≤ q.head := by
  rw [List.pairwise_iff_getElem]
  intro i j hi hj hij
  exact ok.le j i hj (by omega)
theorem CfgOk.of {c : Cfg} (h1 : 1 ≤ c.heads ∧ c.heads ≤ 200) (h2 : c.prods.length ≤ 400) (h3 : c.prods.Pairwise fun p q => p.head ≤ q.head)
    (h4 : ∀ p ∈ c.prods, 0 ≤ p.head ∧ p.head ≤ c.heads - 1 ∧ p.body.length ≤ 160 ∧ ∀ s ∈ p.body, SymOk c.heads s) : CfgOk c := by
  refine ⟨h1, h2, fun k hk => ?_⟩
  obtain ⟨a, b, d, e⟩ := h4 _ (List.getElem_mem hk)
  refine ⟨⟨a, b⟩, fun h0 => ?_, d, fun j hj => e _ (List.getElem_mem hj)⟩
  exact (List.pairwise_iff_getElem.1 h3) (k - 1) k (by omega) hk (by omega)
theorem trimV_ok {c : Cfg} (ok : CfgOk c) : CfgOk (trimV c) := by
  refine CfgOk.of ok.heads (Nat.le_trans (List.length_filter_le _ _) ok.len) (ok.pairwise.filter _) fun p hp => ?_
  exact ok.mem (List.mem_filter.1 hp).1
end Go.Ab
