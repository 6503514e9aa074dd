/- The abstract layer, part 0: abstract values, how they read in memory, and that reading is kept while memory grows. Plain lemmas over any program; no condition. -/
import Derived.WalkKit
import Derived.Laws.MakeOwn
import Derived.Laws.Append
import Derived.Laws.Rows
import Derived.Laws.StructEq
import Derived.Laws.Strings
import Derived.Laws.Concat
import Derived.Orders
import Derived.Below
namespace Go.Ab
open Go Go.RowKit

/-- An abstract value: 'junk' says nothing; 'imm' is a slice whose cells never change again ('true': its capacity is its length), 'ptr' leads to such cells; 'own' is a slice from the head of an own row, 'adr' a place in an own row, 'mp' an own map. -/
inductive AV where
  | junk
  | val (v : Value)
  | agg (xs : List AV)
  | tup (xs : List AV)
  | imm (tight : Bool) (els : List (List AV))
  | ptr (cells : List AV)
  | own (b n : Nat)
  | adr (b o : Nat)
  | fn (f : FuncId) (caps : List AV)
  | mp (b : Nat)
  | sub (b o n : Nat)
instance : Inhabited AV := ⟨.junk⟩

variable (P : Program)

inductive V (F : Nat → Prop) (w : World) : AV → Value → Prop where
  | junk (v : Value) : V F w .junk v
  | val (v : Value) : V F w (.val v) v
  | agg (xs : List AV) (vs : Array Value) (hl : vs.size = xs.length) (h : ∀ (i : Nat) (x : AV), xs[i]? = some x → V F w x (vs.getD i undef)) : V F w (.agg xs) (.agg vs)
  | tup (xs : List AV) (vs : Array Value) (hl : vs.size = xs.length) (h : ∀ (i : Nat) (x : AV), xs[i]? = some x → V F w x (vs.getD i undef)) : V F w (.tup xs) (.tuple vs)
  | immE (t : Bool) (a : Option Addr) (cap : Nat) (ht : t = true → cap = 0) : V F w (.imm t []) (.slice a 0 cap)
  | imm (t : Bool) (els : List (List AV)) (b o cap sz : Nat) (c : Nat → Nat → Value) (hcap : els.length ≤ cap) (ht : t = true → cap = els.length) (hF : F b)
      (hs : ∀ (i : Nat) (e : List AV), els[i]? = some e → e.length = sz)
      (hc : ∀ (i : Nat) (e : List AV) (j : Nat) (x : AV), els[i]? = some e → e[j]? = some x → w.cell? ⟨b, o + (i * sz + j), none⟩ = some (c i j))
      (hv : ∀ (i : Nat) (e : List AV) (j : Nat) (x : AV), els[i]? = some e → e[j]? = some x → V F w x (c i j)) : V F w (.imm t els) (.slice (some ⟨b, o, none⟩) els.length cap)
  | ptr (cells : List AV) (b o : Nat) (c : Nat → Value) (hF : F b)
      (hc : ∀ (j : Nat) (x : AV), cells[j]? = some x → w.cell? ⟨b, o + j, none⟩ = some (c j))
      (hv : ∀ (j : Nat) (x : AV), cells[j]? = some x → V F w x (c j)) : V F w (.ptr cells) (.pointer (some ⟨b, o, none⟩))
  | own (b n cap : Nat) (e : TypeId) (hn : n ≤ cap) (hs : w.shape? b = some (e, cap * P.cellsOf e)) : V F w (.own b n) (.slice (some ⟨b, 0, none⟩) n cap)
  | adr (b o : Nat) : V F w (.adr b o) (.pointer (some ⟨b, o, none⟩))
  | fn (f : FuncId) (caps : List AV) (vs : Array Value) (hl : vs.size = caps.length) (h : ∀ (i : Nat) (x : AV), caps[i]? = some x → V F w x (vs.getD i undef)) : V F w (.fn f caps) (.func (.func f) #[] vs)
  | mp (b : Nat) : V F w (.mp b) (.map (some b))
  | sub (b o n cap : Nat) (ad : Option Addr) (ha : 0 < n → ad = some ⟨b, o, none⟩) : V F w (.sub b o n) (.slice ad n cap)

variable {P}

theorem V.mono {F F' : Nat → Prop} {w w' : World} (hF : ∀ b, F b → F' b) (hc : ∀ b o, F b → w'.cell? ⟨b, o, none⟩ = w.cell? ⟨b, o, none⟩)
    (hs : ∀ b s, w.shape? b = some s → w'.shape? b = some s) {x : AV} {v : Value} (h : V P F w x v) : V P F' w' x v := by
  induction h with
  | junk v => exact .junk v
  | val v => exact .val v
  | agg xs vs hl _ ih => exact .agg xs vs hl ih
  | tup xs vs hl _ ih => exact .tup xs vs hl ih
  | immE t a cap ht => exact .immE t a cap ht
  | imm t els b o cap sz c hcap ht hFb hsz hcc _ ih =>
    exact .imm t els b o cap sz c hcap ht (hF b hFb) hsz (fun i e j x he hx => by rw [hc b _ hFb]; exact hcc i e j x he hx) ih
  | ptr cells b o c hFb hcc _ ih => exact .ptr cells b o c (hF b hFb) (fun j x hx => by rw [hc b _ hFb]; exact hcc j x hx) ih
  | own b n cap e hn hsh => exact .own b n cap e hn (hs b _ hsh)
  | adr b o => exact .adr b o
  | fn f caps vs hl _ ih => exact .fn f caps vs hl ih
  | mp b => exact .mp b
  | sub b o n cap ad ha => exact .sub b o n cap ad ha

/-- An own block: a row of an element type, or a map in the order of its making. -/
inductive Blk where
  | row (e : TypeId) (cells : List AV)
  | map (ents : List (List Int × AV))
abbrev Heap := Nat → Option Blk
def Heap.set (h : Heap) (b : Nat) (k : Blk) : Heap := fun i => if i = b then some k else h i
def Heap.del (h : Heap) (b : Nat) : Heap := fun i => if i = b then none else h i
theorem Heap.set_same (h : Heap) (b : Nat) (k : Blk) : h.set b k b = some k := if_pos rfl
theorem Heap.set_ne (h : Heap) {b i : Nat} (k : Blk) (hn : i ≠ b) : h.set b k i = h i := if_neg hn
theorem Heap.set_none {h : Heap} {b i : Nat} {k : Blk} : h.set b k i = none ↔ i ≠ b ∧ h i = none := by
  unfold Heap.set; split <;> simp_all
theorem Heap.set_set (h : Heap) (b : Nat) (k l : Blk) : (h.set b k).set b l = h.set b l := by
  funext i; unfold Heap.set; split <;> simp_all
theorem Heap.set_comm (h : Heap) {b c : Nat} (k l : Blk) (hn : b ≠ c) : (h.set b k).set c l = (h.set c l).set b k := by
  funext i; unfold Heap.set; (repeat' split) <;> simp_all
/-- The empty own memory. -/
def Heap.none : Heap := fun _ => Option.none
/-- Some blocks forgotten. -/
def Heap.le (h h' : Heap) : Prop := ∀ b k, h b = some k → h' b = some k
theorem Heap.le_refl (h : Heap) : h.le h := fun _ _ h => h
theorem Heap.le_trans {h h' h'' : Heap} (a : h.le h') (b : h'.le h'') : h.le h'' := fun i k hk => b i k (a i k hk)
theorem Heap.le_set {h h' : Heap} {b : Nat} {k : Blk} (hb : h b = .none) (hl : h.le h') : h.le (h'.set b k) := fun i l hi => by
  rw [Heap.set_ne _ _ (fun e => by rw [e, hb] at hi; cases hi)]; exact hl i l hi
theorem Heap.none_le (h : Heap) : Heap.none.le h := fun _ _ hk => by cases hk
theorem Heap.set_le {h h' : Heap} {b : Nat} {k : Blk} (hb : h' b = some k) (hl : h.le h') : (h.set b k).le h' := fun i l hi => by
  unfold Heap.set at hi; split at hi
  · cases hi; simp_all
  · exact hl i l hi

def BlkRel (P : Program) (F : Nat → Prop) (w : World) (b : Nat) : Blk → Prop
  | .row e xs => ∃ arr : Array Value, w.heap[b]? = some (.cells arr e (0, 0)) ∧ xs.length ≤ arr.size ∧ ∀ (j : Nat) (x : AV), xs[j]? = some x → V P F w x (arr.getD j undef)
  | .map ents => ∃ (es : Array MapEntry) (clock : Nat), w.heap[b]? = some (.map es clock) ∧ es.size = ents.length ∧ (∀ (j : Nat) (e : MapEntry), es[j]? = some e → e.born < clock) ∧
      (∀ (i j : Nat) (e e' : MapEntry), es[i]? = some e → es[j]? = some e' → i < j → e.born < e'.born) ∧ ∀ (j : Nat) k x, ents[j]? = some (k, x) → ∃ e : MapEntry, es[j]? = some e ∧ e.key = .agg (k.map (Value.int .i64)).toArray ∧ V P F w x e.val

theorem BlkRel.mono {F F' : Nat → Prop} {w w' : World} {b : Nat} (hF : ∀ b, F b → F' b) (hc : ∀ b o, F b → w'.cell? ⟨b, o, none⟩ = w.cell? ⟨b, o, none⟩)
    (hs : ∀ b s, w.shape? b = some s → w'.shape? b = some s) (hb : w'.heap[b]? = w.heap[b]?) {k : Blk} (h : BlkRel P F w b k) : BlkRel P F' w' b k := by
  cases k with
  | row e xs =>
    obtain ⟨arr, h1, h2, h3⟩ := h
    exact ⟨arr, hb.trans h1, h2, fun j x hx => (h3 j x hx).mono hF hc hs⟩
  | map ents =>
    obtain ⟨es, clock, h1, h2, h3, h4, h5⟩ := h
    exact ⟨es, clock, hb.trans h1, h2, h3, h4, fun j k x hx => by obtain ⟨e, a, b, c⟩ := h5 j k x hx; exact ⟨e, a, b, c.mono hF hc hs⟩⟩

def HeapRel (P : Program) (F : Nat → Prop) (w : World) (h : Heap) : Prop := ∀ b k, h b = some k → ¬ F b ∧ BlkRel P F w b k

theorem HeapRel.le {F : Nat → Prop} {w : World} {h h' : Heap} (hr : HeapRel P F w h') (hl : h.le h') : HeapRel P F w h := fun b k hk => hr b k (hl b k hk)
theorem HeapRel.free {F : Nat → Prop} {w : World} {h : Heap} (hr : HeapRel P F w h) {b : Nat} (hF : F b) : h b = none := by
  cases hb : h b with
  | none => rfl
  | some k => exact absurd hF (hr b k hb).1
theorem HeapRel.lt {F : Nat → Prop} {w : World} {h : Heap} (hr : HeapRel P F w h) {b : Nat} {k : Blk} (hb : h b = some k) : b < w.heap.size := by
  have := (hr b k hb).2
  cases k with
  | row e xs => obtain ⟨arr, h1, _⟩ := this; exact (Array.getElem?_eq_some_iff.1 h1).1
  | map ents => obtain ⟨es, clock, h1, _⟩ := this; exact (Array.getElem?_eq_some_iff.1 h1).1

/-- One stretch of running: from own memory h (immutable blocks F) in world w to h' (F') in w'. -/
structure Step (F : Nat → Prop) (h : Heap) (w : World) (F' : Nat → Prop) (h' : Heap) (w' : World) : Prop where
  os : w'.os = w.os
  tape : w'.tape = w.tape
  output : w'.output = w.output
  size : w.heap.size ≤ w'.heap.size
  sub : ∀ b, F b → F' b
  keep : ∀ b, b < w.heap.size → h b = none → w'.heap[b]? = w.heap[b]?
  newF : ∀ b, F' b → F b ∨ h b ≠ none ∨ w.heap.size ≤ b
  newH : ∀ b, h' b ≠ none → h b ≠ none ∨ w.heap.size ≤ b
  shape : ∀ b s, w.shape? b = some s → w'.shape? b = some s

theorem Step.refl (F : Nat → Prop) (h : Heap) (w : World) : Step F h w F h w :=
  ⟨rfl, rfl, rfl, Nat.le_refl _, fun _ h => h, fun _ _ _ => rfl, fun _ h => .inl h, fun _ h => .inl h, fun _ _ h => h⟩

theorem Step.trans {F F1 F2 : Nat → Prop} {h h1 h2 : Heap} {w w1 w2 : World} (a : Step F h w F1 h1 w1) (b : Step F1 h1 w1 F2 h2 w2) : Step F h w F2 h2 w2 where
  os := b.os.trans a.os
  tape := b.tape.trans a.tape
  output := b.output.trans a.output
  size := Nat.le_trans a.size b.size
  sub := fun i hi => b.sub i (a.sub i hi)
  keep := fun i hi hn => by
    have h1n : h1 i = none := by
      cases hh : h1 i with
      | none => rfl
      | some k => rcases a.newH i (by simp [hh]) with h' | h' <;> first | exact absurd hn h' | omega
    exact (b.keep i (Nat.lt_of_lt_of_le hi a.size) h1n).trans (a.keep i hi hn)
  newF := fun i hi => by
    rcases b.newF i hi with h' | h' | h'
    · exact a.newF i h'
    · rcases a.newH i h' with h'' | h''
      · exact .inr (.inl h'')
      · exact .inr (.inr h'')
    · exact .inr (.inr (Nat.le_trans a.size h'))
  newH := fun i hi => by
    rcases b.newH i hi with h' | h'
    · exact a.newH i h'
    · exact .inr (Nat.le_trans a.size h')
  shape := fun i s hs => b.shape i s (a.shape i s hs)

theorem Step.weaken {F F' : Nat → Prop} {h h' h'' : Heap} {w w' : World} (a : Step F h w F' h' w') (hl : h''.le h') : Step F h w F' h'' w' :=
  { a with newH := fun b hb => a.newH b (fun hn => hb (by cases hx : h'' b with | none => rfl | some k => rw [hl b k hx] at hn; cases hn)) }

theorem Step.cell {F F' : Nat → Prop} {h h' : Heap} {w w' : World} (a : Step F h w F' h' w') (hr : HeapRel P F w h) (hd : ∀ b, F b → b < w.heap.size) (b o : Nat) (hF : F b) :
    w'.cell? ⟨b, o, none⟩ = w.cell? ⟨b, o, none⟩ := World.cell?_of_block (w := w) (a.keep b (hd b hF) (hr.free hF))

theorem V.step {F F' : Nat → Prop} {h h' : Heap} {w w' : World} {x : AV} {v : Value} (hx : V P F w x v) (a : Step F h w F' h' w') (hr : HeapRel P F w h) (hd : ∀ b, F b → b < w.heap.size) : V P F' w' x v :=
  hx.mono a.sub (fun b o hF => a.cell hr hd b o hF) a.shape

structure St where
  env : Nat → AV
  h : Heap
def St.put (s : St) (d : Nat) (x : AV) : St := { s with env := fun i => if i = d then x else s.env i }
def St.put' (s : St) (d : Option Nat) (x : AV) : St := match d with | some d => s.put d x | none => s
def St.heap (s : St) (h : Heap) : St := { s with h := h }

structure Rel (P : Program) (F : Nat → Prop) (n : Nat) (s : St) (a : Act) (w : World) : Prop where
  tmps : a.tmps.size = n
  env : ∀ i, V P F w (s.env i) (a.tmps.getD i undef)
  heap : HeapRel P F w s.h
  dom : ∀ b, F b → b < w.heap.size
  defers : a.defers = []

theorem Rel.put {F : Nat → Prop} {n : Nat} {s : St} {a : Act} {w : World} (hr : Rel P F n s a w) {d : Nat} (hd : d < n) {x : AV} {v : Value} (hx : V P F w x v) : Rel P F n (s.put d x) (a.put (some d) v) w where
  tmps := by simp [Act.put, hr.tmps]
  env := fun i => by
    simp only [St.put, Act.put]
    by_cases h : i = d
    · subst h; rw [if_pos rfl, Array.getD_eq_getD_getElem?, Array.getElem?_setIfInBounds]; simp [hr.tmps, hd]; exact hx
    · rw [if_neg h, Array.getD_eq_getD_getElem?, Array.getElem?_setIfInBounds, if_neg (fun e => h e.symm), ← Array.getD_eq_getD_getElem?]; exact hr.env i
  heap := hr.heap
  dom := hr.dom
  defers := hr.defers

def okD (n : Nat) : Option Nat → Bool
  | some d => d < n
  | none => true
theorem Rel.put' {F : Nat → Prop} {n : Nat} {s : St} {a : Act} {w : World} (hr : Rel P F n s a w) {d : Option Nat} (hd : okD n d = true) {x : AV} {v : Value} (hx : V P F w x v) : Rel P F n (s.put' d x) (a.put d v) w := by
  cases d with
  | none => exact hr
  | some d => exact hr.put (by simpa [okD] using hd) hx

/-- The world has gone on: what holds of the slots goes with it. -/
theorem Rel.step {F F' : Nat → Prop} {n : Nat} {s : St} {h' : Heap} {a : Act} {w w' : World} (hr : Rel P F n s a w) (st : Step F s.h w F' h' w') (hh : HeapRel P F' w' h') (hd : ∀ b, F' b → b < w'.heap.size) : Rel P F' n (s.heap h') a w' where
  tmps := hr.tmps
  env := fun i => (hr.env i).step st hr.heap hr.dom
  heap := hh
  dom := hd
  defers := hr.defers

inductive Opd where
  | t (i : Nat)
  | c (v : Value)
  | f (f : FuncId)
def St.ev (s : St) : Opd → AV
  | .t i => s.env i
  | .c v => .val v
  | .f f => .fn f []
def trOpd : Operand → Option Opd
  | .tmp t => some (.t t)
  | .const v => some (.c v)
  | .func f => some (.f f)
  | .global _ => none
theorem V_ev {F : Nat → Prop} {n : Nat} {s : St} {a : Act} {w : World} (hr : Rel P F n s a w) {x : Operand} {y : Opd} (h : trOpd x = some y) : V P F w (s.ev y) (a.eval x) := by
  cases x with
  | tmp t => simp only [trOpd, Option.some.injEq] at h; subst h; exact hr.env t
  | const v => simp only [trOpd, Option.some.injEq] at h; subst h; exact .val v
  | func f => simp only [trOpd, Option.some.injEq] at h; subst h; exact .fn f [] #[] rfl (fun i x hx => by simp at hx)
  | global g => simp [trOpd] at h

end Go.Ab
