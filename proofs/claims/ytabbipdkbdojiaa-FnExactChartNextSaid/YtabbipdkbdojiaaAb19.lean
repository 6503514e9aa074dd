/- The abstract layer, part 19: own memory as a row of trees, kept while a function runs: boxes, fields, appends. Plain lemmas over any program; no condition. -/
import Derived.Test.YtabbipdkbdojiaaAb18
namespace Go.Ab
open Go Go.RowKit
set_option linter.unusedVariables false
set_option linter.unusedSimpArgs false
variable {P : Program}

theorem blocksL_perm {xs ys : List Tree} (hp : xs.Perm ys) : (blocksL xs).Perm (blocksL ys) := by
  induction hp with
  | nil => exact .refl _
  | cons x _ ih => exact ih.append_left _
  | swap x y l =>
    simp only [blocksL, ← List.append_assoc]
    exact List.perm_append_comm.append_right _
  | trans _ _ a b => exact a.trans b
theorem atL_of_mem {h : Heap} : ∀ {ts : List Tree}, (∀ t ∈ ts, t.at h) → Tree.atL h ts
  | [], _ => trivial
  | t :: ts, hx => ⟨hx t (by simp), atL_of_mem fun s hs => hx s (by simp [hs])⟩
theorem atL_mem {h : Heap} : ∀ {ts : List Tree}, Tree.atL h ts → ∀ t ∈ ts, t.at h
  | [], _, t, ht => by cases ht
  | s :: ts, hx, t, ht => by
    rcases List.mem_cons.1 ht with rfl | ht
    · exact hx.1
    · exact atL_mem hx.2 t ht
theorem atL_perm {h : Heap} {xs ys : List Tree} (hp : xs.Perm ys) (hx : Tree.atL h xs) : Tree.atL h ys := atL_of_mem fun t ht => atL_mem hx t (hp.mem_iff.2 ht)
theorem Made.perm {h0 h : Heap} {xs ys : List Tree} (hp : xs.Perm ys) (m : Made h0 h xs) : Made h0 h ys :=
  ⟨atL_perm hp m.at_, (blocksL_perm hp).nodup_iff.1 m.nodup, fun b hb => m.fresh b ((blocksL_perm hp).mem_iff.2 hb), m.le⟩
theorem Made.swap {h0 h : Heap} {x y : Tree} {ts : List Tree} (m : Made h0 h (x :: y :: ts)) : Made h0 h (y :: x :: ts) := m.perm (.swap y x ts)
theorem Made.rot {h0 h : Heap} {x : Tree} {ts : List Tree} (m : Made h0 h (x :: ts)) : Made h0 h (ts ++ [x]) := m.perm (List.perm_append_comm (l₁ := [x]) (l₂ := ts))
theorem Made.comm {h0 h : Heap} {xs ys : List Tree} (m : Made h0 h (xs ++ ys)) : Made h0 h (ys ++ xs) := m.perm List.perm_append_comm
/-- The third comes first. -/
theorem Made.third {h0 h : Heap} {x y z : Tree} {ts : List Tree} (m : Made h0 h (x :: y :: z :: ts)) : Made h0 h (z :: x :: y :: ts) :=
  m.perm (List.perm_append_comm (l₁ := [x, y]) (l₂ := [z]) |>.append_right ts)
theorem Made.fourth {h0 h : Heap} {x y z u : Tree} {ts : List Tree} (m : Made h0 h (x :: y :: z :: u :: ts)) : Made h0 h (u :: x :: y :: z :: ts) :=
  m.perm (List.perm_append_comm (l₁ := [x, y, z]) (l₂ := [u]) |>.append_right ts)
theorem Made.forget {h0 h : Heap} {x : Tree} {ts : List Tree} (m : Made h0 h (x :: ts)) : Made h0 h ts :=
  ⟨m.at_.2, by have := m.nodup; rw [blocksL] at this; exact (List.nodup_append.1 this).2.1, fun b hb => m.fresh b (by rw [blocksL]; exact List.mem_append.2 (.inr hb)), m.le⟩
theorem Made.forgets {h0 h : Heap} {ts : List Tree} : ∀ {xs : List Tree}, Made h0 h (xs ++ ts) → Made h0 h ts
  | [], m => m
  | x :: xs, m => Made.forgets (xs := xs) m.forget
theorem Made.immI {h0 h : Heap} {x : AV} {ts : List Tree} (m : Made h0 h ts) : Made h0 h (.imm x :: ts) := ⟨⟨trivial, m.at_⟩, m.nodup, m.fresh, m.le⟩
theorem Made.leafI {h0 h : Heap} {v : Value} {ts : List Tree} (m : Made h0 h ts) : Made h0 h (.leaf v :: ts) := m.leaf
theorem Made.nilI {h0 h : Heap} {ts : List Tree} (m : Made h0 h ts) : Made h0 h (.nil :: ts) := ⟨⟨trivial, m.at_⟩, m.nodup, m.fresh, m.le⟩
theorem Made.flats {h0 h : Heap} {ts : List Tree} : ∀ {xs : List Tree}, (∀ x ∈ xs, blocks x = [] ∧ ∀ h, x.at h) → Made h0 h ts → Made h0 h (xs ++ ts)
  | [], _, m => m
  | x :: xs, hx, m => by
    have m' := Made.flats (xs := xs) (fun y hy => hx y (by simp [hy])) m
    obtain ⟨h1, h2⟩ := hx x (by simp)
    refine ⟨⟨h2 h, m'.at_⟩, ?_, fun b hb => m'.fresh b ?_, m'.le⟩
    · rw [List.cons_append, blocksL, h1]; exact m'.nodup
    · rw [List.cons_append, blocksL, h1] at hb; exact hb

/-- But for these blocks what stands in h stands in h'. -/
def Fr (h h' : Heap) (bs : List Nat) : Prop := ∀ b, b ∉ bs → h b ≠ .none → h' b = h b
theorem Fr.refl {h : Heap} {bs : List Nat} : Fr h h bs := fun _ _ _ => rfl
theorem Fr.new {h h' : Heap} {bs : List Nat} {b : Nat} {k : Blk} (f : Fr h h' bs) (hb : h b = .none) : Fr h (h'.set b k) bs := fun c hc hn =>
  (Heap.set_ne _ _ (fun e => hn (by rw [e]; exact hb))).trans (f c hc hn)
theorem Fr.mem {h h' : Heap} {bs : List Nat} {b : Nat} {k : Blk} (f : Fr h h' bs) (hb : b ∈ bs) : Fr h (h'.set b k) bs := fun c hc hn =>
  (Heap.set_ne _ _ (fun e => hc (by rw [e]; exact hb))).trans (f c hc hn)
theorem Fr.none {h h' : Heap} {bs : List Nat} (f : Fr h h' bs) {b : Nat} (hb : h' b = .none) (hn : b ∉ bs) : h b = .none := by
  cases hh : h b with
  | none => rfl
  | some k => have := f b hn (by simp [hh]); rw [hb, hh] at this; cases this
theorem Fr.le {h h' : Heap} (f : Fr h h' []) : h.le h' := fun b k hk => by rw [f b (by simp) (by simp [hk]), hk]
theorem Fr.of_le {h h' : Heap} {bs : List Nat} (hl : h.le h') : Fr h h' bs := fun b _ hn => by
  cases hh : h b with
  | none => exact absurd hh hn
  | some k => rw [hl b k hh]

/-- Some trees in the place of others. -/
theorem Made.upd {h0 h h' : Heap} {ts ts' ys : List Tree} (m : Made h0 h (ts ++ ys)) (hat : Tree.atL h' ts') (hnd : (blocksL ts').Nodup) (hsub : ∀ b ∈ blocksL ts', b ∈ blocksL ts ∨ h b = .none) (hf : Fr h h' (blocksL ts)) : Made h0 h' (ts' ++ ys) := by
  have hn := m.nodup
  rw [blocksL_append] at hn
  obtain ⟨n1, n2, n3⟩ := List.nodup_append.1 hn
  have hy : Tree.atL h ys := atL_right m.at_
  refine ⟨atL_append hat (atL_frame (h := h) (fun b hb => hf b (fun hm => n3 b hm b hb rfl) (atL_some hy b hb)) hy), ?_, fun b hb => ?_, fun b k hk => ?_⟩
  · rw [blocksL_append]
    refine List.nodup_append.2 ⟨hnd, n2, fun b hb c hc e => ?_⟩
    subst e
    rcases hsub b hb with h1 | h1
    · exact n3 b h1 b hc rfl
    · exact atL_some hy b hc h1
  · rw [blocksL_append] at hb
    rcases List.mem_append.1 hb with hb | hb
    · rcases hsub b hb with h1 | h1
      · exact m.fresh b (by rw [blocksL_append]; exact List.mem_append.2 (.inl h1))
      · exact Heap.le_none m.le h1
    · exact m.fresh b (by rw [blocksL_append]; exact List.mem_append.2 (.inr hb))
  · rw [hf b (fun hm => ?_) (by rw [m.le b k hk]; simp), m.le b k hk]
    have := m.fresh b (by rw [blocksL_append]; exact List.mem_append.2 (.inl hm))
    rw [this] at hk; cases hk
/-- What isn't named may change as it likes. -/
theorem Made.grow {h0 h h' : Heap} {ts : List Tree} (m : Made h0 h ts) (hf : Fr h h' []) : Made h0 h' ts := Made.upd (ts := []) (ts' := []) m trivial List.nodup_nil (fun b hb => by simp [blocksL] at hb) hf

/-! ### boxes -/
theorem Made.box {h0 h : Heap} {b : Nat} {ty : TypeId} {cs ts : List Tree} (m : Made h0 h (cs ++ ts)) (hb : h b = .none) : Made h0 (h.set b (.row ty (cs.map tA))) (.box b ty cs :: ts) := by
  have hc : Tree.atL h cs := atL_left m.at_
  have hn := m.nodup; rw [blocksL_append] at hn
  have hbc : b ∉ blocksL cs := fun hm => atL_some hc b hm hb
  refine Made.upd (ts := cs) (ts' := [.box b ty cs]) m ⟨⟨Heap.set_same _ _ _, atL_frame (fun c h' => Heap.set_ne _ _ (fun e => hbc (by rw [← e]; exact h'))) hc⟩, trivial⟩ ?_ (fun c h' => ?_) (Fr.refl.new hb)
  · simp only [blocksL, blocks, List.append_nil]; exact List.nodup_cons.2 ⟨hbc, (List.nodup_append.1 hn).1⟩
  · simp only [blocksL, blocks, List.append_nil, List.mem_cons] at h'
    rcases h' with rfl | h'
    · exact .inr hb
    · exact .inl h'
theorem Made.rowI {h0 h : Heap} {b : Nat} {ty : TypeId} {n sz : Nat} {cs ts : List Tree} (m : Made h0 h (cs ++ ts)) (hl : cs.length = n * sz) (hb : h b = .none) : Made h0 (h.set b (.row ty (cs.map tA))) (.row b ty n sz cs :: ts) := by
  have hc : Tree.atL h cs := atL_left m.at_
  have hn := m.nodup; rw [blocksL_append] at hn
  have hbc : b ∉ blocksL cs := fun hm => atL_some hc b hm hb
  refine Made.upd (ts := cs) (ts' := [.row b ty n sz cs]) m ⟨⟨Heap.set_same _ _ _, hl, atL_frame (fun c h' => Heap.set_ne _ _ (fun e => hbc (by rw [← e]; exact h'))) hc⟩, trivial⟩ ?_ (fun c h' => ?_) (Fr.refl.new hb)
  · simp only [blocksL, blocks, List.append_nil]; exact List.nodup_cons.2 ⟨hbc, (List.nodup_append.1 hn).1⟩
  · simp only [blocksL, blocks, List.append_nil, List.mem_cons] at h'
    rcases h' with rfl | h'
    · exact .inr hb
    · exact .inl h'
theorem Made.here {h0 h : Heap} {b : Nat} {ty : TypeId} {cs ts : List Tree} (m : Made h0 h (.box b ty cs :: ts)) : h b = some (.row ty (cs.map tA)) := m.at_.1.1
theorem Made.rowHere {h0 h : Heap} {b : Nat} {ty : TypeId} {n sz : Nat} {cs ts : List Tree} (m : Made h0 h (.row b ty n sz cs :: ts)) : h b = some (.row ty (cs.map tA)) := m.at_.1.1
theorem Made.open {h0 h : Heap} {b : Nat} {ty : TypeId} {cs ts : List Tree} (m : Made h0 h (.box b ty cs :: ts)) : Made h0 h (cs ++ ts) ∧ b ∉ blocksL (cs ++ ts) := by
  have hn := m.nodup
  simp only [blocksL, blocks, List.cons_append] at hn
  obtain ⟨n1, n2⟩ := List.nodup_cons.1 hn
  refine ⟨⟨atL_append m.at_.1.2 m.at_.2, by rw [blocksL_append]; exact n2, fun c hc => m.fresh c ?_, m.le⟩, by rw [blocksL_append]; exact n1⟩
  rw [blocksL_append] at hc
  simp only [blocksL, blocks, List.cons_append, List.mem_cons]; exact .inr hc
theorem Made.openRow {h0 h : Heap} {b : Nat} {ty : TypeId} {n sz : Nat} {cs ts : List Tree} (m : Made h0 h (.row b ty n sz cs :: ts)) : Made h0 h (cs ++ ts) ∧ b ∉ blocksL (cs ++ ts) := by
  have hn := m.nodup
  simp only [blocksL, blocks, List.cons_append] at hn
  obtain ⟨n1, n2⟩ := List.nodup_cons.1 hn
  refine ⟨⟨atL_append m.at_.1.2.2 m.at_.2, by rw [blocksL_append]; exact n2, fun c hc => m.fresh c ?_, m.le⟩, by rw [blocksL_append]; exact n1⟩
  rw [blocksL_append] at hc
  simp only [blocksL, blocks, List.cons_append, List.mem_cons]; exact .inr hc
/-- A box is written. -/
theorem Made.close {h0 h h' : Heap} {b : Nat} {ty : TypeId} {cs ts : List Tree} (m : Made h0 h (cs ++ ts)) (h0b : h0 b = .none) (hb : b ∉ blocksL (cs ++ ts)) (hf : Fr h h' [b]) (hh : h' b = some (.row ty (cs.map tA))) : Made h0 h' (.box b ty cs :: ts) := by
  have hn := m.nodup
  refine ⟨⟨⟨hh, atL_frame (h := h) (fun c hc => hf c (fun e => hb ?_) (atL_some (atL_left m.at_) c hc)) (atL_left m.at_)⟩, atL_frame (h := h) (fun c hc => hf c (fun e => hb ?_) (atL_some (atL_right m.at_) c hc)) (atL_right m.at_)⟩, ?_, fun c hc => ?_, fun c k hk => ?_⟩
  · simp at e; subst e; rw [blocksL_append]; exact List.mem_append.2 (.inl hc)
  · simp at e; subst e; rw [blocksL_append]; exact List.mem_append.2 (.inr hc)
  · rw [blocksL_append] at hn hb
    simp only [blocksL, blocks, List.cons_append]; exact List.nodup_cons.2 ⟨hb, hn⟩
  · simp only [blocksL, blocks, List.cons_append, List.mem_cons] at hc
    rcases hc with rfl | hc
    · exact h0b
    · exact m.fresh c (by rw [blocksL_append]; exact hc)
  · rw [hf c (by simp; intro e; subst e; rw [h0b] at hk; cases hk) (by rw [m.le c k hk]; simp), m.le c k hk]
theorem Made.freshBox {h0 h : Heap} {b : Nat} {ty : TypeId} {cs ts : List Tree} (m : Made h0 h (.box b ty cs :: ts)) : h0 b = .none := m.fresh b (by simp [blocksL, blocks])
/-- A box's cells are others now: none of them came from elsewhere. -/
theorem Made.put1 {h0 h : Heap} {b : Nat} {ty : TypeId} {cs cs' ts : List Tree} (m : Made h0 h (.box b ty cs :: ts)) (hm : Made h0 h (cs ++ ts) → Made h0 h (cs' ++ ts)) (hs : ∀ c ∈ blocksL cs', c ∈ blocksL cs) : Made h0 (h.set b (.row ty (cs'.map tA))) (.box b ty cs' :: ts) := by
  obtain ⟨o1, o2⟩ := m.open
  refine Made.close (hm o1) m.freshBox (fun hc => o2 ?_) (Fr.refl.mem (by simp)) (Heap.set_same _ _ _)
  rw [blocksL_append] at hc ⊢
  rcases List.mem_append.1 hc with hc | hc
  · exact List.mem_append.2 (.inl (hs b hc))
  · exact List.mem_append.2 (.inr hc)
/-- A box of plain cells. -/
theorem Made.putFlat {h0 h h' : Heap} {b : Nat} {ty : TypeId} {cs cs' ts : List Tree} (m : Made h0 h (.box b ty cs :: ts)) (hx : ∀ x ∈ cs', blocks x = [] ∧ ∀ h, x.at h) (hf : Fr h h' [b]) (hh : h' b = some (.row ty (cs'.map tA))) : Made h0 h' (.box b ty cs' :: ts) := by
  obtain ⟨o1, o2⟩ := m.open
  have m' := Made.flats hx o1.forgets
  refine Made.close m' m.freshBox (fun hc => o2 ?_) hf hh
  rw [blocksL_append] at hc ⊢
  rcases List.mem_append.1 hc with hc | hc
  · rw [blocksL_flat_nil fun x hx' => (hx x hx').1] at hc; cases hc
  · exact List.mem_append.2 (.inr hc)

/-! ### appends -/
/-- A slice's tree: its rows' type, an element's size, how many elements, their cells. -/
inductive SlT (ty : TypeId) (sz : Nat) : Tree → Nat → List Tree → Prop where
  | nil : SlT ty sz .nil 0 []
  | row (b n : Nat) (cells : List Tree) (hl : cells.length = n * sz) : SlT ty sz (.row b ty n sz cells) n cells
def tops : Tree → List Nat
  | .row b _ _ _ _ => [b]
  | _ => []
theorem tops_blocks {t : Tree} {b : Nat} (h : b ∈ tops t) : b ∈ blocks t := by cases t <;> simp [tops] at h; subst h; simp [blocks]
theorem SlT.len {ty : TypeId} {sz n : Nat} {t : Tree} {cells : List Tree} (h : SlT ty sz t n cells) : cells.length = n * sz := by cases h <;> simp_all
theorem SlT.cell {ty : TypeId} {sz n : Nat} {t : Tree} {cells : List Tree} (h : SlT ty sz t n cells) : cellsOf? (tA t) = some [tA t] ∧ oneC (tA t) = true := by cases h <;> exact ⟨rfl, rfl⟩
theorem SlT.blocks {ty : TypeId} {sz n : Nat} {t : Tree} {cells : List Tree} (h : SlT ty sz t n cells) : blocksL cells = (blocks t).drop (tops t).length := by cases h <;> rfl
section
variable {e : Nat → AV} {h : Heap} {tl : Tl} {ty : TypeId} {sz n k : Nat} {t : Tree} {cells : List Tree} {new : List AV}
theorem SlT.lenK (s : SlT ty sz t n cells) : lenK P (tA t) false e h tl = on P tl e h (.val (.int .i64 n)) := by cases s <;> rfl
/-- An append to a slice's tree. -/
theorem SlT.app (s : SlT ty sz t n cells) (hat : t.at h) (hk : 0 < k) (hb : n + k ≤ 4294967296) (hone : new.all oneC = true)
    (K : ∀ b, b ∈ tops t ∨ h b = .none → on P tl e (h.set b (.row ty (cells.map tA ++ new))) (.own b (n + k))) : appN P ty sz k (tA t) new e h tl := by
  cases s with
  | nil =>
    rw [tA, appN_nil hk]
    refine Need.in (by omega) (rowK.in fun b hb' => ?_)
    have := K b (.inr hb')
    rwa [Nat.zero_add] at this
  | row b n cells hl =>
    have h1 := hat.1
    rw [tA, appN_own, h1, appO_row]
    refine Need.in rfl (Need.in (by simp; omega) (Need.in hb (Need.in hone fun b' hb' => ?_)))
    rw [List.take_of_length_le (by simp; omega)]
    exact K b' (hb'.imp (fun e => by simp [tops, e]) id)
end
/-- After an append: the tree as it stands now; the new cells have moved in. -/
theorem Made.grown {h0 h h1 : Heap} {b : Nat} {ty : TypeId} {sz n k : Nat} {t : Tree} {cells cs ts : List Tree} (m : Made h0 h (t :: cs ++ ts)) (s : SlT ty sz t n cells) (hl : cs.length = k * sz) (hb : b ∈ tops t ∨ h1 b = .none) (hf : Fr h h1 []) :
    Made h0 (h1.set b (.row ty ((cells ++ cs).map tA))) (.row b ty (n + k) sz (cells ++ cs) :: ts) ∧ ∀ c, c ∈ blocksL (.row b ty (n + k) sz (cells ++ cs) :: ts) → c ∈ blocksL (t :: cs ++ ts) ∨ h1 c = .none := by
  have hat := m.at_
  have hn := m.nodup
  rw [List.cons_append, blocksL, blocksL_append, ← List.append_assoc] at hn
  obtain ⟨n12, n3, n4⟩ := List.nodup_append.1 hn
  obtain ⟨n1, n2, n5⟩ := List.nodup_append.1 n12
  have hac : Tree.atL h cells := by cases s with | nil => trivial | row b n cells hl => exact hat.1.2.2
  have hcb : ∀ c ∈ blocksL cells, c ∈ blocks t := fun c hc => by rw [s.blocks] at hc; exact List.mem_of_mem_drop hc
  have hcs : Tree.atL h cs := atL_left hat.2
  have hcn : (blocksL cells).Nodup := by rw [s.blocks]; exact n1.sublist (List.drop_sublist _ _)
  have hb1 : ∀ c, h c ≠ .none → c ∉ blocks t → b ≠ c := fun c hc hn' e => by
    subst e
    rcases hb with hb | hb
    · exact hn' (tops_blocks hb)
    · rw [hf b (by simp) hc] at hb; exact hc hb
  have hbcells : b ∉ blocksL cells := fun hm => by
    rcases hb with hb | hb
    · cases s with
      | nil => simp [tops] at hb
      | row b' n cells hl => simp [tops] at hb; subst hb; simp only [blocks, List.nodup_cons] at n1; exact n1.1 hm
    · have := atL_some hac b hm; rw [hf b (by simp) this] at hb; exact this hb
  have hbcs : b ∉ blocksL cs := fun hm => hb1 b (atL_some hcs b hm) (fun ht => n5 b ht b hm rfl) rfl
  have hbs : b ∈ blocksL (t :: cs) ∨ h b = .none := by
    rcases hb with hb | hb
    · exact .inl (by rw [blocksL]; exact List.mem_append.2 (.inl (tops_blocks hb)))
    · exact .inr (hf.none hb (by simp))
  refine ⟨Made.upd (ts := t :: cs) (ts' := [.row b ty (n + k) sz (cells ++ cs)]) m ⟨⟨Heap.set_same _ _ _, by rw [List.length_append, s.len, hl, Nat.add_mul], ?_⟩, trivial⟩ ?_ (fun c hc => ?_) ?_, fun c hc => ?_⟩
  · refine atL_append (atL_frame (h := h) (fun c hc => ?_) hac) (atL_frame (h := h) (fun c hc => ?_) hcs)
    · rw [Heap.set_ne _ _ (fun e => hbcells (by rw [← e]; exact hc))]; exact hf c (by simp) (atL_some hac c hc)
    · rw [Heap.set_ne _ _ (fun e => hbcs (by rw [← e]; exact hc))]; exact hf c (by simp) (atL_some hcs c hc)
  · simp only [blocksL, blocks, List.append_nil, blocksL_append]
    refine List.nodup_cons.2 ⟨fun hm => ?_, List.nodup_append.2 ⟨hcn, n2, fun c hc d hd e => n5 c (hcb c hc) d hd e⟩⟩
    rcases List.mem_append.1 hm with hm | hm
    · exact hbcells hm
    · exact hbcs hm
  · simp only [blocksL, blocks, List.append_nil, blocksL_append, List.mem_cons] at hc
    rcases hc with rfl | hc
    · exact hbs
    · rcases List.mem_append.1 hc with hc | hc
      · exact .inl (by rw [blocksL]; exact List.mem_append.2 (.inl (hcb c hc)))
      · exact .inl (by rw [blocksL]; exact List.mem_append.2 (.inr hc))
  · rcases hb with hb | hb
    · refine Fr.mem ?_ (by rw [blocksL]; exact List.mem_append.2 (.inl (tops_blocks hb)))
      exact fun c hc hn' => hf c (by simp) hn'
    · exact Fr.new (fun c hc hn' => hf c (by simp) hn') (hf.none hb (by simp))
  · rw [List.cons_append, blocksL, blocksL_append]
    simp only [blocksL, blocks, blocksL_append, List.cons_append, List.mem_cons, List.mem_append] at hc ⊢
    rcases hc with rfl | (hc | hc) | hc
    · rcases hb with hb | hb
      · exact .inl (.inl (tops_blocks hb))
      · exact .inr hb
    · exact .inl (.inl (hcb c hc))
    · exact .inl (.inr (.inl hc))
    · exact .inl (.inr (.inr hc))
theorem SlT.grown {ty : TypeId} {sz n k b : Nat} {t : Tree} {cells cs : List Tree} (s : SlT ty sz t n cells) (hl : cs.length = k * sz) : SlT ty sz (.row b ty (n + k) sz (cells ++ cs)) (n + k) (cells ++ cs) :=
  .row b (n + k) _ (by rw [List.length_append, s.len, hl, Nat.add_mul])
/-- 'x.f = append(x.f, ..)' where x is a box. -/
theorem Made.grownIn {h0 h h1 : Heap} {b bp : Nat} {ty pt : TypeId} {sz n k : Nat} {t : Tree} {cells cs ts pre post : List Tree} (m : Made h0 h (.box bp pt (pre ++ t :: post) :: cs ++ ts)) (s : SlT ty sz t n cells) (hl : cs.length = k * sz) (hb : b ∈ tops t ∨ h1 b = .none) (hf : Fr h h1 []) :
    Made h0 ((h1.set b (.row ty ((cells ++ cs).map tA))).set bp (.row pt ((pre ++ .row b ty (n + k) sz (cells ++ cs) :: post).map tA))) (.box bp pt (pre ++ .row b ty (n + k) sz (cells ++ cs) :: post) :: ts) := by
  obtain ⟨o1, o2⟩ := Made.open (ts := cs ++ ts) m
  have p1 : (pre ++ t :: post ++ (cs ++ ts)).Perm (t :: cs ++ (pre ++ post ++ ts)) := by
    refine (List.perm_middle.append_right _).trans ?_
    simp only [List.cons_append]
    refine List.Perm.cons t ?_
    rw [← List.append_assoc, ← List.append_assoc]
    exact (List.perm_append_comm.append_right ts)
  have hbp1 : h1 bp ≠ .none := by rw [hf bp (by simp) (by rw [m.here]; simp), m.here]; simp
  obtain ⟨m2, hsub⟩ := Made.grown (o1.perm p1) s hl hb hf
  have p2 : (Tree.row b ty (n + k) sz (cells ++ cs) :: (pre ++ post ++ ts)).Perm (pre ++ .row b ty (n + k) sz (cells ++ cs) :: post ++ ts) := by
    refine List.Perm.trans ?_ (List.perm_middle.append_right ts).symm
    simp only [List.cons_append]; exact .refl _
  refine Made.close (m2.perm p2) m.freshBox (fun hc => ?_) (Fr.refl.mem (by simp)) (Heap.set_same _ _ _)
  have := hsub bp ((blocksL_perm p2).mem_iff.2 hc)
  rcases this with hh | hh
  · exact o2 ((blocksL_perm p1).mem_iff.2 hh)
  · exact hbp1 hh
/-- The same, its box standing elsewhere in the row. -/
theorem Made.at0 {h0 h : Heap} {t : Tree} {ts : List Tree} (m : Made h0 h (t :: ts)) : t.at h := m.at_.1
theorem Made.ne {h0 h : Heap} {b b' : Nat} {ty ty' : TypeId} {cs cs' ts : List Tree} (m : Made h0 h (.box b ty cs :: ts)) (hm : .box b' ty' cs' ∈ ts) : b ≠ b' := fun e => by
  have hn := m.nodup
  simp only [blocksL, blocks, List.cons_append] at hn
  refine (List.nodup_cons.1 hn).1 (List.mem_append.2 (.inr (blocksL_mem.2 ?_)))
  obtain ⟨i, hi⟩ := List.getElem?_of_mem hm
  obtain ⟨h1, h2⟩ := List.getElem?_eq_some_iff.1 hi
  exact ⟨i, h1, by rw [h2, e]; simp [blocks]⟩
theorem Made.not_new {h0 h : Heap} {b b' : Nat} {ty : TypeId} {cs ts : List Tree} (m : Made h0 h (.box b ty cs :: ts)) (hb : h b' = .none) : b' ≠ b := fun e => by rw [e, m.here] at hb; cases hb
theorem Heap.set_self {h : Heap} {b : Nat} {k : Blk} (hb : h b = some k) : h.set b k = h := funext fun i => by
  unfold Heap.set; split
  · rename_i e; rw [e, hb]
  · rfl
theorem Made.boxE {h0 h : Heap} {b : Nat} {ty : TypeId} {cs ts : List Tree} {cells : List AV} (hb : h b = .none) (hc : cs.map tA = cells) (m : Made h0 h (cs ++ ts)) : Made h0 (h.set b (.row ty cells)) (.box b ty cs :: ts) := by
  subst hc; exact m.box hb
theorem Made.rowE {h0 h : Heap} {b : Nat} {ty : TypeId} {n sz : Nat} {cs ts : List Tree} {cells : List AV} (hb : h b = .none) (hc : cs.map tA = cells) (hl : cs.length = n * sz) (m : Made h0 h (cs ++ ts)) : Made h0 (h.set b (.row ty cells)) (.row b ty n sz cs :: ts) := by
  subst hc; exact m.rowI hl hb
/-- Plain cells put in behind the first tree. -/
theorem Made.flats1 {h0 h : Heap} {x : Tree} {ts xs : List Tree} (hx : ∀ x ∈ xs, blocks x = [] ∧ ∀ h, x.at h) (m : Made h0 h (x :: ts)) : Made h0 h (x :: xs ++ ts) :=
  (Made.flats hx m).perm List.perm_middle
theorem Made.top_ne {h0 h h1 : Heap} {b bg : Nat} {ty : TypeId} {t : Tree} {cs ts : List Tree} (m : Made h0 h (.box b ty cs :: ts)) (ht : t ∈ cs) (hb : bg ∈ tops t ∨ h1 bg = .none) (hf : Fr h h1 []) : bg ≠ b := fun e => by
  subst e
  rcases hb with hb | hb
  · have := m.open.2
    refine this ?_
    rw [blocksL_append]
    obtain ⟨i, hi⟩ := List.getElem?_of_mem ht
    obtain ⟨h1, h2⟩ := List.getElem?_eq_some_iff.1 hi
    exact List.mem_append.2 (.inl (blocksL_mem.2 ⟨i, h1, by rw [h2]; exact tops_blocks hb⟩))
  · have := hf bg (by simp) (by rw [m.here]; simp)
    rw [hb, m.here] at this; cases this
end Go.Ab
