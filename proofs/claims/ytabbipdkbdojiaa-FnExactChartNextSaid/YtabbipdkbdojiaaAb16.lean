/- The abstract layer, part 16: own memory in the form of a tree, and the marks that a law writes into it. Plain lemmas over any program; no condition. -/
import Derived.Test.YtabbipdkbdojiaaAb15
namespace Go.Ab
open Go Go.RowKit
set_option linter.unusedVariables false
set_option linter.unusedSimpArgs false

/-- A cell's worth of own memory: a plain value, a nil slice, or a slice from the head of an own row. -/
inductive Tree where
  | leaf (v : Value)
  | nil
  | row (b : Nat) (ty : TypeId) (n sz : Nat) (cells : List Tree)
  | imm (x : AV)
  | box (b : Nat) (ty : TypeId) (cells : List Tree)
instance : Inhabited Tree := ⟨.nil⟩
def tA : Tree → AV
  | .leaf v => .val v
  | .nil => .val (.slice none 0 0)
  | .row b _ n _ _ => .own b n
  | .imm x => x
  | .box b _ _ => .adr b 0

mutual
/-- The tree stands in this memory. -/
def Tree.at (h : Heap) : Tree → Prop
  | .leaf _ => True
  | .nil => True
  | .row b ty n sz cells => h b = some (.row ty (cells.map tA)) ∧ cells.length = n * sz ∧ Tree.atL h cells
  | .imm _ => True
  | .box b ty cells => h b = some (.row ty (cells.map tA)) ∧ Tree.atL h cells
def Tree.atL (h : Heap) : List Tree → Prop
  | [] => True
  | c :: cs => c.at h ∧ Tree.atL h cs
end
mutual
def blocks : Tree → List Nat
  | .leaf _ => []
  | .nil => []
  | .row b _ _ _ cells => b :: blocksL cells
  | .imm _ => []
  | .box b _ cells => b :: blocksL cells
def blocksL : List Tree → List Nat
  | [] => []
  | c :: cs => blocks c ++ blocksL cs
end
mutual
/-- How many plain values. -/
def count : Tree → Nat
  | .leaf _ => 1
  | .nil => 0
  | .row _ _ _ _ cells => countL cells
  | .imm _ => 0
  | .box _ _ cells => countL cells
def countL : List Tree → Nat
  | [] => 0
  | c :: cs => count c + countL cs
end

theorem atL_get {h : Heap} : ∀ {cs : List Tree}, Tree.atL h cs → ∀ (i : Nat) (hi : i < cs.length), (cs[i]).at h
  | c :: cs, hc, 0, _ => hc.1
  | c :: cs, hc, i + 1, hi => atL_get hc.2 i (by simpa using hi)
theorem atL_mk {h : Heap} : ∀ {cs : List Tree}, (∀ (i : Nat) (hi : i < cs.length), (cs[i]).at h) → Tree.atL h cs
  | [], _ => trivial
  | c :: cs, hc => ⟨hc 0 (by simp), atL_mk fun i hi => hc (i + 1) (by simpa using hi)⟩
theorem blocksL_mem : ∀ {cs : List Tree} {b : Nat}, b ∈ blocksL cs ↔ ∃ (i : Nat) (hi : i < cs.length), b ∈ blocks cs[i]
  | [], b => by simp [blocksL]
  | c :: cs, b => by
    simp only [blocksL, List.mem_append, blocksL_mem (cs := cs)]
    constructor
    · rintro (h | ⟨i, hi, h⟩)
      · exact ⟨0, by simp, h⟩
      · exact ⟨i + 1, by simpa using hi, h⟩
    · rintro ⟨i, hi, h⟩
      cases i with
      | zero => exact .inl h
      | succ i => exact .inr ⟨i, by simpa using hi, h⟩
theorem blocksL_append : ∀ (xs ys : List Tree), blocksL (xs ++ ys) = blocksL xs ++ blocksL ys
  | [], ys => rfl
  | x :: xs, ys => by simp [blocksL, blocksL_append xs ys]
theorem countL_append : ∀ (xs ys : List Tree), countL (xs ++ ys) = countL xs + countL ys
  | [], ys => by simp [countL]
  | x :: xs, ys => by simp [countL, countL_append xs ys]; omega
theorem countL_take {cs : List Tree} {j : Nat} (hj : j < cs.length) : countL (cs.take (j + 1)) = countL (cs.take j) + count cs[j] := by
  rw [List.take_succ_eq_append_getElem hj, countL_append]; simp [countL]
theorem countL_le : ∀ (cs : List Tree) (j : Nat), countL (cs.take j) ≤ countL cs
  | [], j => by simp
  | c :: cs, 0 => by simp [countL]
  | c :: cs, j + 1 => by simp [countL]; have := countL_le cs j; omega

mutual
theorem at_frame {h h' : Heap} : ∀ {t : Tree}, (∀ b ∈ blocks t, h' b = h b) → t.at h → t.at h'
  | .leaf _, _, _ => trivial
  | .nil, _, _ => trivial
  | .row b ty n sz cells, hb, ht => ⟨by rw [hb b (by simp [blocks])]; exact ht.1, ht.2.1, atL_frame (fun c hc => hb c (by simp [blocks, hc])) ht.2.2⟩
  | .imm _, _, _ => trivial
  | .box b ty cells, hb, ht => ⟨by rw [hb b (by simp [blocks])]; exact ht.1, atL_frame (fun c hc => hb c (by simp [blocks, hc])) ht.2⟩
theorem atL_frame {h h' : Heap} : ∀ {cs : List Tree}, (∀ b ∈ blocksL cs, h' b = h b) → Tree.atL h cs → Tree.atL h' cs
  | [], _, _ => trivial
  | c :: cs, hb, hc => ⟨at_frame (fun b hm => hb b (by simp [blocksL, hm])) hc.1, atL_frame (fun b hm => hb b (by simp [blocksL, hm])) hc.2⟩
end
mutual
theorem at_some {h : Heap} : ∀ {t : Tree}, t.at h → ∀ b ∈ blocks t, h b ≠ none
  | .leaf _, _, b, hb => by simp [blocks] at hb
  | .nil, _, b, hb => by simp [blocks] at hb
  | .row b' ty n sz cells, ht, b, hb => by
    simp only [blocks, List.mem_cons] at hb
    rcases hb with rfl | hb
    · rw [ht.1]; simp
    · exact atL_some ht.2.2 b hb
  | .imm _, _, b, hb => by simp [blocks] at hb
  | .box b' ty cells, ht, b, hb => by
    simp only [blocks, List.mem_cons] at hb
    rcases hb with rfl | hb
    · rw [ht.1]; simp
    · exact atL_some ht.2 b hb
theorem atL_some {h : Heap} : ∀ {cs : List Tree}, Tree.atL h cs → ∀ b ∈ blocksL cs, h b ≠ none
  | [], _, b, hb => by simp [blocksL] at hb
  | c :: cs, hc, b, hb => by
    simp only [blocksL, List.mem_append] at hb
    rcases hb with hb | hb
    · exact at_some hc.1 b hb
    · exact atL_some hc.2 b hb
end
theorem at_le {h h' : Heap} (hl : h.le h') {t : Tree} (ht : t.at h) : t.at h' := at_frame (fun b hb => by
  cases hk : h b with
  | none => exact absurd hk (at_some ht b hb)
  | some k => rw [hl b k hk]) ht

/-! ### seen as memory that doesn't change -/
def chunk {α : Type} (sz : Nat) (n : Nat) (l : List α) : List (List α) := (List.range n).map fun i => (l.drop (i * sz)).take sz
mutual
def tV : Tree → AV
  | .leaf v => .val v
  | .nil => .imm false []
  | .row _ _ n sz cells => .imm false (chunk sz n (tVL cells))
  | .imm x => x
  | .box _ _ cells => .ptr (tVL cells)
def tVL : List Tree → List AV
  | [] => []
  | c :: cs => tV c :: tVL cs
end
theorem tVL_map : ∀ (cs : List Tree), tVL cs = cs.map tV
  | [] => rfl
  | c :: cs => by simp [tVL, tVL_map cs]
theorem chunk_get {α : Type} {sz n : Nat} {l : List α} (hl : l.length = n * sz) {i : Nat} {e : List α} (he : (chunk sz n l)[i]? = some e) : i < n ∧ e.length = sz ∧ ∀ (j : Nat) (x : α), e[j]? = some x → l[i * sz + j]? = some x := by
  simp only [chunk, List.getElem?_map] at he
  cases hr : (List.range n)[i]? with
  | none => simp [hr] at he
  | some k =>
    have hi : i < n := by have := (List.getElem?_eq_some_iff.1 hr).1; simpa using this
    rw [List.getElem?_range hi] at hr; cases hr
    rw [List.getElem?_range hi] at he
    simp at he; subst he
    have hle : i * sz + sz ≤ n * sz := by rw [← Nat.succ_mul]; exact Nat.mul_le_mul_right _ hi
    refine ⟨hi, by simp; omega, fun j x hx => ?_⟩
    rw [List.getElem?_take] at hx
    split at hx
    · rwa [List.getElem?_drop] at hx
    · cases hx
theorem chunk_len {α : Type} {sz n : Nat} {l : List α} : (chunk sz n l).length = n := by simp [chunk]
mutual
theorem at_vw {h : Heap} : ∀ {t : Tree}, t.at h → Vw h (tA t) (tV t)
  | .leaf v, _ => .refl _
  | .nil, _ => .nil false
  | .row b ty n sz cells, ht => by
    have key : ∀ (i : Nat) (l : List AV) (j : Nat) (x : AV), (chunk sz n (tVL cells))[i]? = some l → l[j]? = some x → ∃ c, cells[i * sz + j]? = some c ∧ x = tV c ∧ Vw h (tA c) x := fun i l j x hl hx => by
      have h1 := chunk_get (by rw [tVL_map, List.length_map]; exact ht.2.1) hl
      have h2 := h1.2.2 j x hx
      rw [tVL_map, List.getElem?_map] at h2
      cases hc : cells[i * sz + j]? with
      | none => simp [hc] at h2
      | some c =>
        simp [hc] at h2; subst h2
        exact ⟨c, rfl, rfl, atL_vw ht.2.2 _ c hc⟩
    have := Vw.own (h := h) b ty (cells.map tA) (chunk sz n (tVL cells)) sz (fun i j => tA (cells.getD (i * sz + j) .nil)) ht.1
      (fun i l hl => (chunk_get (by rw [tVL_map, List.length_map]; exact ht.2.1) hl).2.1)
      (fun i l j x hl hx => by obtain ⟨c, h1, h2, h3⟩ := key i l j x hl hx; simp [h1, List.getD_eq_getElem?_getD])
      (fun i l j x hl hx => by obtain ⟨c, h1, h2, h3⟩ := key i l j x hl hx; simp [h1, List.getD_eq_getElem?_getD]; exact h3)
    rw [chunk_len] at this
    exact this
  | .imm x, _ => .refl x
  | .box b ty cells, ht => by
    refine Vw.adr (h := h) b 0 ty (cells.map tA) (tVL cells) (fun i => tA (cells.getD i .nil)) ht.1 (fun i y hy => ?_) (fun i y hy => ?_)
    all_goals
      rw [tVL_map, List.getElem?_map] at hy
      cases hc : cells[i]? with
      | none => simp [hc] at hy
      | some c =>
        simp [hc] at hy; subst hy
        first
          | (simp [hc, List.getD_eq_getElem?_getD]; done)
          | (simp [hc, List.getD_eq_getElem?_getD]; exact atL_vw ht.2 i c hc)
theorem atL_vw {h : Heap} : ∀ {cs : List Tree}, Tree.atL h cs → ∀ (i : Nat) (c : Tree), cs[i]? = some c → Vw h (tA c) (tV c)
  | [], _, i, c, hc => by simp at hc
  | c' :: cs, ha, 0, c, hc => by simp at hc; subst hc; exact at_vw ha.1
  | c' :: cs, ha, i + 1, c, hc => atL_vw ha.2 i c (by simpa using hc)
end

/-! ### marks -/
def decB (k : Nat) : List UInt8 := if h : k = 0 then [] else decB (k / 10) ++ [UInt8.ofNat (48 + k % 10)]
decreasing_by omega
/-- The text that stands for a number: an m, and its decimals. -/
def textB (k : Int) : ByteArray := if k ≤ 0 then ⟨#[109, 48]⟩ else ⟨(109 :: decB k.toNat).toArray⟩
def markV (v : Value) (k : Int) : Value := match v with
  | .int .u8 _ => .int .u8 (IntKind.u8.wrap k)
  | .int kd _ => .int kd k
  | .bool _ => .bool (decide (k.tmod 3 = 0))
  | .string _ => .string (textB k)
  | v => v
mutual
def brand (k : Int) : Tree → Tree
  | .leaf v => .leaf (markV v k)
  | .nil => .nil
  | .row b ty n sz cells => .row b ty n sz (brandL k cells)
  | .imm x => .imm x
  | .box b ty cells => .box b ty (brandL k cells)
def brandL (k : Int) : List Tree → List Tree
  | [] => []
  | c :: cs => brand k c :: brandL (k + count c) cs
end
/-- The first j cells marked. -/
def markTo (k : Int) : Nat → List Tree → List Tree
  | 0, cs => cs
  | _ + 1, [] => []
  | j + 1, c :: cs => brand k c :: markTo (k + count c) j cs
theorem markV_markV (v : Value) (k : Int) : markV (markV v k) k = markV v k := by
  unfold markV; (repeat' split) <;> simp_all
mutual
theorem tA_mark (k : Int) : ∀ t, tA (brand k t) = tA t ∨ ∃ v, t = .leaf v
  | .leaf v => .inr ⟨v, rfl⟩
  | .nil => .inl rfl
  | .row _ _ _ _ _ => .inl rfl
  | .imm _ => .inl rfl
  | .box _ _ _ => .inl rfl
end
mutual
theorem blocks_brand (k : Int) : ∀ t, blocks (brand k t) = blocks t
  | .leaf v => rfl
  | .nil => rfl
  | .row b ty n sz cells => by simp [brand, blocks, blocksL_brandL k cells]
  | .imm x => rfl
  | .box b ty cells => by simp [brand, blocks, blocksL_brandL k cells]
theorem blocksL_brandL (k : Int) : ∀ cs, blocksL (brandL k cs) = blocksL cs
  | [] => rfl
  | c :: cs => by simp [brandL, blocksL, blocks_brand k c, blocksL_brandL (k + count c) cs]
end
mutual
theorem count_mark (k : Int) : ∀ t, count (brand k t) = count t
  | .leaf v => rfl
  | .nil => rfl
  | .row b ty n sz cells => by simp [brand, count, countL_markL k cells]
  | .imm x => rfl
  | .box b ty cells => by simp [brand, count, countL_markL k cells]
theorem countL_markL (k : Int) : ∀ cs, countL (brandL k cs) = countL cs
  | [] => rfl
  | c :: cs => by simp [brandL, countL, count_mark k c, countL_markL (k + count c) cs]
end
mutual
theorem mark_mark (k : Int) : ∀ t, brand k (brand k t) = brand k t
  | .leaf v => by simp [brand, markV_markV]
  | .nil => rfl
  | .row b ty n sz cells => by simp [brand, markL_markL k cells]
  | .imm x => rfl
  | .box b ty cells => by simp [brand, markL_markL k cells]
theorem markL_markL (k : Int) : ∀ cs, brandL k (brandL k cs) = brandL k cs
  | [] => rfl
  | c :: cs => by simp [brandL, mark_mark k c, count_mark, markL_markL (k + count c) cs]
end
theorem markTo_len (k : Int) : ∀ j cs, (markTo k j cs).length = cs.length
  | 0, cs => rfl
  | j + 1, [] => rfl
  | j + 1, c :: cs => by simp [markTo, markTo_len (k + count c) j cs]
theorem markTo_all (k : Int) : ∀ cs, markTo k cs.length cs = brandL k cs
  | [] => rfl
  | c :: cs => by simp [markTo, brandL, markTo_all (k + count c) cs]
theorem blocksL_markTo (k : Int) : ∀ j cs, blocksL (markTo k j cs) = blocksL cs
  | 0, cs => rfl
  | j + 1, [] => rfl
  | j + 1, c :: cs => by simp [markTo, blocksL, blocks_brand, blocksL_markTo (k + count c) j cs]
theorem markTo_get (k : Int) : ∀ (j : Nat) (cs : List Tree) (i : Nat), j ≤ i → (markTo k j cs)[i]? = cs[i]?
  | 0, cs, i, _ => rfl
  | j + 1, [], i, _ => rfl
  | j + 1, c :: cs, 0, h => by omega
  | j + 1, c :: cs, i + 1, h => by simp [markTo]; exact markTo_get (k + count c) j cs i (by omega)
theorem markTo_succ (k : Int) : ∀ (j : Nat) (cs : List Tree) (c : Tree), cs[j]? = some c → markTo k (j + 1) cs = (markTo k j cs).set j (brand (k + countL (cs.take j)) c)
  | 0, c' :: cs, c, h => by simp at h; subst h; simp [markTo, countL]
  | 0, [], c, h => by simp at h
  | j + 1, [], c, h => by simp at h
  | j + 1, c' :: cs, c, h => by
    have := markTo_succ (k + count c') j cs c (by simpa using h)
    rw [markTo, this, markTo, List.set_cons_succ, List.take_succ_cons, countL]
    congr 3
    omega
theorem set_same_get {α : Type} : ∀ (l : List α) (j : Nat) (x : α), l[j]? = some x → l.set j x = l
  | [], j, x, h => by simp at h
  | y :: l, 0, x, h => by simp at h; subst h; rfl
  | y :: l, j + 1, x, h => by rw [List.set_cons_succ, set_same_get l j x (by simpa using h)]
/-- The cells as they stand, after one more brand. -/
theorem mark_cell {k kk : Int} {j : Nat} {cs : List Tree} {v u : Value} (hj : cs[j]? = some (.leaf v)) (hk : kk = k + countL (cs.take j)) (hu : u = markV v kk) : ((markTo k j cs).map tA).set j (.val u) = (markTo k (j + 1) cs).map tA := by
  subst hk; subst hu
  rw [markTo_succ k j cs _ hj, List.map_set]; rfl
theorem mark_load {k : Int} {j : Nat} {cs : List Tree} {t : Tree} (hj : cs[j]? = some t) : ((markTo k j cs).map tA).getD j .junk = tA t := by
  rw [List.getD_eq_getElem?_getD, List.getElem?_map, markTo_get k j cs j (Nat.le_refl _), hj]; rfl
theorem mark_leaf {h : Heap} {b : Nat} {ty : TypeId} {n sz : Nat} {k : Int} {j : Nat} {cs : List Tree} {v : Value} (ha : (Tree.row b ty n sz (markTo k j cs)).at h) (hb : b ∉ blocksL cs) (hj : cs[j]? = some (.leaf v)) :
    (Tree.row b ty n sz (markTo k (j + 1) cs)).at (h.set b (.row ty ((markTo k (j + 1) cs).map tA))) := by
  obtain ⟨h1, h2, h3⟩ := ha
  refine ⟨Heap.set_same _ _ _, by rw [markTo_len] at h2 ⊢; exact h2, ?_⟩
  refine atL_frame (h := h) (fun c hc => ?_) ?_
  · rw [blocksL_markTo] at hc
    exact Heap.set_ne _ _ (fun e => hb (e ▸ hc))
  · rw [markTo_succ k j cs _ hj]
    refine atL_mk fun i hi => ?_
    by_cases hij : i = j
    · subst hij; simp [brand, Tree.at]
    · rw [List.getElem_set_ne (fun e => hij e.symm)]; exact atL_get h3 i _
theorem nodup_apart : ∀ {cs : List Tree}, (blocksL cs).Nodup → ∀ (i j : Nat) (hi : i < cs.length) (hj : j < cs.length), i ≠ j → ∀ b, b ∈ blocks cs[i] → b ∉ blocks cs[j]
  | [], _, i, j, hi, _, _, _, _ => by simp at hi
  | c :: cs, hn, i, j, hi, hj, hij, b, hb => by
    simp only [blocksL, List.nodup_append] at hn
    obtain ⟨n1, n2, n3⟩ := hn
    cases i with
    | zero =>
      cases j with
      | zero => exact absurd rfl hij
      | succ j => exact fun hm => n3 b hb b (blocksL_mem.2 ⟨j, by simpa using hj, by simpa using hm⟩) rfl
    | succ i =>
      cases j with
      | zero => exact fun hm => n3 b hm b (blocksL_mem.2 ⟨i, by simpa using hi, by simpa using hb⟩) rfl
      | succ j => exact nodup_apart n2 i j (by simpa using hi) (by simpa using hj) (by omega) b (by simpa using hb)
theorem mark_sub {h h' : Heap} {b : Nat} {ty : TypeId} {n sz : Nat} {k : Int} {j : Nat} {cs : List Tree} {t : Tree} (ha : (Tree.row b ty n sz (markTo k j cs)).at h) (hb : b ∉ blocksL cs) (hn : (blocksL cs).Nodup) (hj : cs[j]? = some t)
    (hl : ∀ v, t ≠ .leaf v) (ht : (brand (k + countL (cs.take j)) t).at h') (hf : ∀ b, b ∉ blocks t → h' b = h b) : (Tree.row b ty n sz (markTo k (j + 1) cs)).at h' := by
  obtain ⟨h1, h2, h3⟩ := ha
  have hjl := (List.getElem?_eq_some_iff.1 hj).1
  have hjt : cs[j] = t := (List.getElem?_eq_some_iff.1 hj).2
  have hbt : b ∉ blocks t := fun hm => hb (blocksL_mem.2 ⟨j, hjl, by rw [hjt]; exact hm⟩)
  have hcells : (markTo k (j + 1) cs).map tA = (markTo k j cs).map tA := by
    rw [markTo_succ k j cs _ hj, List.map_set]
    refine set_same_get _ _ _ ?_
    rw [List.getElem?_map, markTo_get k j cs j (Nat.le_refl _), hj]
    rcases tA_mark (k + countL (cs.take j)) t with e | ⟨v, e⟩
    · simp [e]
    · exact absurd e (hl v)
  refine ⟨by rw [hf b hbt, hcells]; exact h1, by rw [markTo_len] at h2 ⊢; exact h2, ?_⟩
  rw [markTo_succ k j cs _ hj]
  have h3' := h3
  refine atL_mk fun i hi => ?_
  by_cases hij : i = j
  · subst hij; rw [List.getElem_set_self]; exact ht
  · rw [List.getElem_set_ne (fun e => hij e.symm)]
    have hi' : i < (markTo k j cs).length := by simpa using hi
    refine at_frame (fun c hc => hf c fun hm => ?_) (atL_get h3 i hi')
    have hnd : (blocksL (markTo k j cs)).Nodup := by rw [blocksL_markTo]; exact hn
    refine nodup_apart hnd i j hi' (by rw [markTo_len]; exact hjl) hij c hc ?_
    have : (markTo k j cs)[j]? = some t := by rw [markTo_get k j cs j (Nat.le_refl _), hj]
    rw [(List.getElem?_eq_some_iff.1 this).2]; exact hm
theorem at_of_get {h : Heap} {cs : List Tree} {j : Nat} {t : Tree} (ha : Tree.atL h cs) (hj : cs[j]? = some t) : t.at h := by
  obtain ⟨h1, h2⟩ := List.getElem?_eq_some_iff.1 hj
  rw [← h2]; exact atL_get ha j h1
theorem nodup_sub : ∀ {cs : List Tree}, (blocksL cs).Nodup → ∀ {j : Nat} {t : Tree}, cs[j]? = some t → (blocks t).Nodup
  | [], _, j, t, h => by simp at h
  | c :: cs, hn, 0, t, h => by simp only [blocksL, List.nodup_append] at hn; simp at h; subst h; exact hn.1
  | c :: cs, hn, j + 1, t, h => by simp only [blocksL, List.nodup_append] at hn; exact nodup_sub hn.2.1 (by simpa using h)
theorem blocks_sub {cs : List Tree} {j : Nat} {t : Tree} (h : cs[j]? = some t) {b : Nat} (hb : b ∈ blocks t) : b ∈ blocksL cs := by
  obtain ⟨h1, h2⟩ := List.getElem?_eq_some_iff.1 h
  exact blocksL_mem.2 ⟨j, h1, by rw [h2]; exact hb⟩
theorem brandL_len (k : Int) (cs : List Tree) : (brandL k cs).length = cs.length := by rw [← markTo_all, markTo_len]
theorem brandL_get : ∀ (k : Int) (cs : List Tree) (j : Nat) (t : Tree), cs[j]? = some t → (brandL k cs)[j]? = some (brand (k + countL (cs.take j)) t)
  | k, [], j, t, h => by simp at h
  | k, c :: cs, 0, t, h => by simp at h; subst h; simp [brandL, countL]
  | k, c :: cs, j + 1, t, h => by
    have := brandL_get (k + count c) cs j t (by simpa using h)
    rw [brandL, List.getElem?_cons_succ, this, List.take_succ_cons, countL]
    congr 2; omega
/-- What stands marked. -/
def Held (k : Int) (t : Tree) : Prop := brand k t = t
theorem held_mark (k : Int) (t : Tree) : Held k (brand k t) := mark_mark k t
theorem heldL_get {k : Int} : ∀ {cs : List Tree}, brandL k cs = cs → ∀ (j : Nat) (t : Tree), cs[j]? = some t → Held (k + countL (cs.take j)) t
  | [], _, j, t, h => by simp at h
  | c :: cs, hm, 0, t, h => by simp at h; subst h; simp [countL]; exact (List.cons.inj hm).1
  | c :: cs, hm, j + 1, t, h => by
    have := heldL_get (List.cons.inj hm).2 j t (by simpa using h)
    rw [List.take_succ_cons, countL]
    have e : k + ((count c + countL (cs.take j) : Nat) : Int) = k + count c + countL (cs.take j) := by omega
    rw [e]; exact this
end Go.Ab
