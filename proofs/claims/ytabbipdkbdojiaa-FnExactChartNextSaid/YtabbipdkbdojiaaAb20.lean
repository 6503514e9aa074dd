/- The abstract layer, part 20: an own slice as a tree whose elements are told one by one. Plain lemmas over any program; no condition. -/
import Derived.Test.YtabbipdkbdojiaaAb19
namespace Go.Ab
open Go Go.RowKit
set_option linter.unusedVariables false
set_option linter.unusedSimpArgs false
variable {P : Program}

theorem SlT.not_leaf {ty : TypeId} {sz n : Nat} {t : Tree} {c : List Tree} (s : SlT ty sz t n c) : ∀ v, t ≠ .leaf v := by cases s <;> intro v e <;> cases e
/-- An own slice whose elements stand for l, each as E says. -/
def RowsT {α : Type} (ty : TypeId) (sz : Nat) (E : α → List Tree → Prop) (l : List α) (t : Tree) : Prop := ∃ parts : List (List Tree), SlT ty sz t l.length parts.flatten ∧ Parts E l parts
section
variable {α : Type} {ty : TypeId} {sz : Nat} {E : α → List Tree → Prop} {l : List α} {t : Tree}
theorem RowsT.nil : RowsT ty sz E ([] : List α) .nil := ⟨[], .nil, .nil⟩
theorem RowsT.row0 (b : Nat) : RowsT ty sz E ([] : List α) (.row b ty 0 sz []) := ⟨[], .row b 0 [] (by simp), .nil⟩
theorem RowsT.sl (r : RowsT ty sz E l t) : ∃ cells, SlT ty sz t l.length cells := by obtain ⟨parts, s, _⟩ := r; exact ⟨_, s⟩
theorem RowsT.cell (r : RowsT ty sz E l t) : cellsOf? (tA t) = some [tA t] ∧ oneC (tA t) = true := by obtain ⟨_, s, _⟩ := r; exact s.cell
theorem RowsT.not_leaf (r : RowsT ty sz E l t) : ∀ v, t ≠ .leaf v := by obtain ⟨_, s, _⟩ := r; exact s.not_leaf
theorem RowsT.lenK {e : Nat → AV} {h : Heap} {tl : Tl} (r : RowsT ty sz E l t) : lenK P (tA t) false e h tl = on P tl e h (.val (.int .i64 l.length)) := by obtain ⟨_, s, _⟩ := r; exact s.lenK
theorem RowsT.view (r : RowsT ty sz E l t) {f : α → List AV} (hE : ∀ a ∈ l, ∀ ts, E a ts → ts.length = sz ∧ ts.map tV = f a) : tV t = .imm false (l.map f) := by
  obtain ⟨parts, s, p⟩ := r
  generalize hn : l.length = n at s
  generalize hc : parts.flatten = cs at s
  cases s with
  | nil => have : l = [] := List.length_eq_zero_iff.1 hn; subst this; rfl
  | row b n cells hl =>
    subst hn; subst hc
    have := @Parts.view α E l parts sz f p hE b ty
    exact this
/-- An append of one element: where the walk stands. -/
theorem RowsT.app1 {e : Nat → AV} {h : Heap} {tl : Tl} {new : List AV} (r : RowsT ty sz E l t) (hat : t.at h) (hb : l.length + 1 ≤ 4294967296) (hone : new.all oneC = true)
    (K : ∀ b cells, SlT ty sz t l.length cells → b ∈ tops t ∨ h b = none → on P tl e (h.set b (.row ty (cells.map tA ++ new))) (.own b (l.length + 1))) : appN P ty sz 1 (tA t) new e h tl := by
  obtain ⟨parts, s, p⟩ := r
  exact s.app hat (by omega) hb hone fun b hb => K b _ s hb
theorem SlT.uniq {n n' : Nat} {c c' : List Tree} (s : SlT ty sz t n c) (s' : SlT ty sz t n' c') : c = c' := by cases s <;> cases s' <;> rfl
theorem RowsT.snoc (r : RowsT ty sz E l t) {cells ts : List Tree} (s : SlT ty sz t l.length cells) {a : α} (h : E a ts) (hl : ts.length = sz) (b : Nat) : RowsT ty sz E (l ++ [a]) (.row b ty (l.length + 1) sz (cells ++ ts)) := by
  obtain ⟨parts, s', p⟩ := r
  have := s.uniq s'; subst this
  refine ⟨parts ++ [ts], ?_, p.snoc h⟩
  rw [List.flatten_append, List.flatten_cons, List.flatten_nil, List.append_nil, List.length_append, List.length_singleton]
  exact s.grown (k := 1) (by omega)
/-- An append of one element to a slice that a slot holds: after it. -/
theorem RowsT.push {h0 h h1 : Heap} {b : Nat} {ts fs : List Tree} {a : α} {cells : List Tree} (r : RowsT ty sz E l t) (m : Made h0 h (t :: ts ++ fs)) (s : SlT ty sz t l.length cells) (hE : E a ts) (hl : ts.length = sz) (hb : b ∈ tops t ∨ h1 b = none) (hf : Fr h h1 []) :
    ∃ t', tA t' = .own b (l.length + 1) ∧ RowsT ty sz E (l ++ [a]) t' ∧ Made h0 (h1.set b (.row ty (cells.map tA ++ ts.map tA))) (t' :: fs) := by
  refine ⟨.row b ty (l.length + 1) sz (cells ++ ts), rfl, r.snoc s hE hl b, ?_⟩
  rw [← List.map_append]
  exact (Made.grown m s (k := 1) (by omega) hb hf).1
/-- An append of one element to a box's field: after it. -/
theorem RowsT.pushIn {h0 h h1 : Heap} {b bp : Nat} {pt : TypeId} {pre post ts fs : List Tree} {a : α} {cells : List Tree} (r : RowsT ty sz E l t) (m : Made h0 h (.box bp pt (pre ++ t :: post) :: ts ++ fs)) (s : SlT ty sz t l.length cells) (hE : E a ts) (hl : ts.length = sz) (hb : b ∈ tops t ∨ h1 b = none) (hf : Fr h h1 []) :
    ∃ t', tA t' = .own b (l.length + 1) ∧ RowsT ty sz E (l ++ [a]) t' ∧ ∀ k, k = Blk.row pt (pre.map tA ++ AV.own b (l.length + 1) :: post.map tA) → Made h0 ((h1.set b (.row ty (cells.map tA ++ ts.map tA))).set bp k) (.box bp pt (pre ++ t' :: post) :: fs) := by
  refine ⟨.row b ty (l.length + 1) sz (cells ++ ts), rfl, r.snoc s hE hl b, fun k hk => ?_⟩
  subst hk
  have := Made.grownIn m s (k := 1) (by omega) hb hf
  simpa only [List.map_append, List.map_cons, tA] using this
end
/-! ### elements of plain values -/
/-- Cells of plain values. -/
def flatE {α : Type} (f : α → List Value) (a : α) (ts : List Tree) : Prop := ts = (f a).map Tree.leaf
theorem flat_blocks : ∀ (vs : List Value), blocksL (vs.map Tree.leaf) = []
  | [] => rfl
  | v :: vs => by simp [blocksL, blocks, flat_blocks vs]
theorem flat_tA (vs : List Value) : (vs.map Tree.leaf).map tA = vs.map AV.val := by simp [tA]
theorem flat_tV (vs : List Value) : (vs.map Tree.leaf).map tV = vs.map AV.val := by simp [tV]
theorem flat_count (vs : List Value) : countL (vs.map Tree.leaf) = vs.length := by
  induction vs with
  | nil => rfl
  | cons v vs ih => simp [countL, count, ih]; omega
theorem flat_ok {vs : List Value} : ∀ x ∈ vs.map Tree.leaf, blocks x = [] ∧ ∀ h, x.at h := fun x hx => by
  obtain ⟨v, -, rfl⟩ := List.mem_map.1 hx; exact ⟨rfl, fun _ => trivial⟩
theorem Made.flat {h0 h : Heap} {vs : List Value} {ts : List Tree} (m : Made h0 h ts) : Made h0 h (vs.map Tree.leaf ++ ts) := Made.flats flat_ok m
theorem Parts.flat_eq {α : Type} {f : α → List Value} : ∀ {l : List α} {parts : List (List Tree)}, Parts (flatE f) l parts → parts = l.map fun a => (f a).map Tree.leaf
  | [], parts, p => List.length_eq_zero_iff.1 p.len
  | a :: l, [], p => by have := p.len; simp at this
  | a :: l, ts :: parts, p => by
    have h0 : ts = (f a).map Tree.leaf := p.each 0 a ts rfl rfl
    have := Parts.flat_eq (l := l) (parts := parts) ⟨by have := p.len; simpa using this, fun i x us hx hu => p.each (i + 1) x us (by simpa using hx) (by simpa using hu)⟩
    rw [List.map_cons, ← this, h0]
theorem flat_nodes {α : Type} {f : α → List Value} {l : List α} : (l.map fun a => (f a).map Tree.leaf).flatten = (l.flatMap f).map Tree.leaf := by
  induction l with
  | nil => rfl
  | cons a l ih => simp [ih]
/-- The cells of an own slice of plain values. -/
theorem RowsT.flatCells {α : Type} {ty : TypeId} {sz : Nat} {f : α → List Value} {l : List α} {t : Tree} (r : RowsT ty sz (flatE f) l t) : SlT ty sz t l.length ((l.flatMap f).map Tree.leaf) := by
  obtain ⟨parts, s, p⟩ := r
  rwa [p.flat_eq, flat_nodes] at s
theorem RowsT.ofFlat {α : Type} {ty : TypeId} {sz : Nat} {f : α → List Value} {l : List α} {t : Tree} (s : SlT ty sz t l.length ((l.flatMap f).map Tree.leaf)) : RowsT ty sz (flatE f) l t := by
  refine ⟨l.map fun a => (f a).map Tree.leaf, by rwa [flat_nodes], by simp, fun i a ts ha hts => ?_⟩
  rw [List.getElem?_map, ha] at hts
  exact (Option.some.inj hts).symm
theorem RowsT.flatView {α : Type} {ty : TypeId} {sz : Nat} {f : α → List Value} {l : List α} {t : Tree} (r : RowsT ty sz (flatE f) l t) (hf : ∀ a, (f a).length = sz) : tV t = .imm false (l.map fun a => (f a).map AV.val) :=
  r.view fun a _ ts h => by rw [show ts = _ from h]; exact ⟨by rw [List.length_map]; exact hf a, flat_tV _⟩
end Go.Ab
