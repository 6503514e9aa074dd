/- The abstract layer, part 15: own memory lent to a call, and laid down for good; arguments as a statement's form reads them. Plain lemmas over any program; no condition. -/
import Derived.Test.YtabbipdkbdojiaaAb14
import Derived.ChangeArms
import Derived.DataReads
import Derived.WideShapes
namespace Go.Ab
open Go Go.RowKit
set_option linter.unusedVariables false
set_option linter.unusedSimpArgs false
variable {P : Program}

/-- A value of own memory h, seen as one that doesn't change. -/
inductive Vw (h : Heap) : AV → AV → Prop where
  | refl (x : AV) : Vw h x x
  | nil (t : Bool) : Vw h (.val (.slice none 0 0)) (.imm t [])
  | own (b : Nat) (e : TypeId) (cells : List AV) (els : List (List AV)) (sz : Nat) (c : Nat → Nat → AV) (hb : h b = some (.row e cells)) (hsz : ∀ (i : Nat) (l : List AV), els[i]? = some l → l.length = sz)
      (hc : ∀ (i : Nat) (l : List AV) (j : Nat) (x : AV), els[i]? = some l → l[j]? = some x → cells[i * sz + j]? = some (c i j))
      (hv : ∀ (i : Nat) (l : List AV) (j : Nat) (x : AV), els[i]? = some l → l[j]? = some x → Vw h (c i j) x) : Vw h (.own b els.length) (.imm false els)
  | imm (t : Bool) (els els' : List (List AV)) (hl : els.length = els'.length) (hsz : ∀ (i : Nat) (l l' : List AV), els[i]? = some l → els'[i]? = some l' → l.length = l'.length)
      (hv : ∀ (i : Nat) (l l' : List AV) (j : Nat) (x x' : AV), els[i]? = some l → els'[i]? = some l' → l[j]? = some x → l'[j]? = some x' → Vw h x x') : Vw h (.imm t els) (.imm false els')
  | agg (xs ys : List AV) (hl : xs.length = ys.length) (hv : ∀ (i : Nat) (x y : AV), xs[i]? = some x → ys[i]? = some y → Vw h x y) : Vw h (.agg xs) (.agg ys)
  | tup (xs ys : List AV) (hl : xs.length = ys.length) (hv : ∀ (i : Nat) (x y : AV), xs[i]? = some x → ys[i]? = some y → Vw h x y) : Vw h (.tup xs) (.tup ys)
  | adr (b o : Nat) (e : TypeId) (cells ys : List AV) (c : Nat → AV) (hb : h b = some (.row e cells)) (hc : ∀ (i : Nat) (y : AV), ys[i]? = some y → cells[o + i]? = some (c i)) (hv : ∀ (i : Nat) (y : AV), ys[i]? = some y → Vw h (c i) y) : Vw h (.adr b o) (.ptr ys)

theorem Vw.mono {h h' : Heap} (hl : h.le h') {x y : AV} (hv : Vw h x y) : Vw h' x y := by
  induction hv with
  | refl x => exact .refl x
  | nil t => exact .nil t
  | own b e cells els sz c hb hsz hc hv ih => exact .own b e cells els sz c (hl _ _ hb) hsz hc ih
  | imm t els els' hl' hsz hv ih => exact .imm t els els' hl' hsz ih
  | agg xs ys hl' hv ih => exact .agg xs ys hl' ih
  | tup xs ys hl' hv ih => exact .tup xs ys hl' ih
  | adr b o e cells ys c hb hc hv ih => exact .adr b o e cells ys c (hl _ _ hb) hc ih

/-- A row of the heap, of which nothing is left open. -/
theorem row_cell {F : Nat → Prop} {w : World} {h : Heap} (hr : HeapRel P F w h) {b : Nat} {e : TypeId} {cells : List AV} (hb : h b = some (.row e cells)) : ∃ c : Nat → Value, ∀ (j : Nat) (x : AV), cells[j]? = some x → w.cell? ⟨b, j, none⟩ = some (c j) ∧ V P F w x (c j) := by
  obtain ⟨_, arr, harr, hl, hv⟩ := hr b _ hb
  refine ⟨fun j => arr.getD j undef, fun j x hx => ⟨?_, hv j x hx⟩⟩
  have hj : j < arr.size := Nat.lt_of_lt_of_le (List.getElem?_eq_some_iff.1 hx).1 hl
  have : (⟨b, j, none⟩ : Addr).spot.isSome = false := rfl
  simp only [World.cell?, harr, this, Bool.false_eq_true, if_false]
  rw [Array.getD_eq_getD_getElem?, Array.getElem?_eq_getElem hj]; rfl

theorem V_of_Vw {F F' : Nat → Prop} {w : World} {h : Heap} (hr : HeapRel P F w h) (hF : ∀ b, F b → F' b) (hF' : ∀ b, h b ≠ none → F' b) {x y : AV} (hx : Vw h x y) : ∀ {v : Value}, V P F w x v → V P F' w y v := by
  have grow : ∀ {x : AV} {v : Value}, V P F w x v → V P F' w x v := fun h => h.mono hF (fun _ _ _ => rfl) (fun _ _ h => h)
  induction hx with
  | refl x => exact grow
  | nil t => intro v hv; cases hv; exact .immE t none 0 fun _ => rfl
  | own b e cells els sz c hb hsz hc hv ih =>
    intro v h0
    obtain ⟨u, hu⟩ := row_cell hr hb
    cases h0 with
    | own _ n cap e' hn hs =>
      refine .imm false els b 0 cap sz (fun i j => u (i * sz + j)) hn (fun h => by cases h) (hF' b (by rw [hb]; simp)) hsz (fun i l j x hl hx => ?_) (fun i l j x hl hx => ?_)
      · rw [Nat.zero_add]; exact (hu _ _ (hc i l j x hl hx)).1
      · exact ih i l j x hl hx (hu _ _ (hc i l j x hl hx)).2
  | imm t els els' hl hsz hv ih =>
    intro v h0
    cases h0 with
    | immE _ a cap ht =>
      have : els' = [] := List.length_eq_zero_iff.1 (by simpa using hl.symm)
      subst this; exact .immE false a cap fun h => by cases h
    | imm _ _ b o cap sz c hcap ht hFb hs hc hcv =>
      have get : ∀ (i : Nat) (l' : List AV), els'[i]? = some l' → ∃ l, els[i]? = some l := fun i l' h => by
        have := (List.getElem?_eq_some_iff.1 h).1
        exact ⟨els[i], by simp [show i < els.length by omega]⟩
      have cell : ∀ (i : Nat) (l l' : List AV) (j : Nat) (x' : AV), els[i]? = some l → els'[i]? = some l' → l'[j]? = some x' → ∃ x, l[j]? = some x := fun i l l' j x' h1 h2 h3 => by
        have := (List.getElem?_eq_some_iff.1 h3).1
        have := hsz i l l' h1 h2
        exact ⟨l[j], by simp [show j < l.length by omega]⟩
      rw [hl] at hcap ⊢
      refine .imm false els' b o cap sz c hcap (fun h => by cases h) (hF b hFb) (fun i l' hi => ?_) (fun i l' j x' hi hx => ?_) (fun i l' j x' hi hx => ?_)
      · obtain ⟨l, h1⟩ := get i l' hi
        rw [← hsz i l l' h1 hi]; exact hs i l h1
      · obtain ⟨l, h1⟩ := get i l' hi
        obtain ⟨x, h2⟩ := cell i l l' j x' h1 hi hx
        exact hc i l j x h1 h2
      · obtain ⟨l, h1⟩ := get i l' hi
        obtain ⟨x, h2⟩ := cell i l l' j x' h1 hi hx
        exact ih i l l' j x x' h1 hi h2 hx (hcv i l j x h1 h2)
  | agg xs ys hl hv ih =>
    intro v h0
    cases h0 with
    | agg _ vs hs hc =>
      refine .agg ys vs (by omega) fun i y hy => ?_
      have := (List.getElem?_eq_some_iff.1 hy).1
      have hx : xs[i]? = some xs[i] := by simp [show i < xs.length by omega]
      exact ih i xs[i] y hx hy (hc i _ hx)
  | tup xs ys hl hv ih =>
    intro v h0
    cases h0 with
    | tup _ vs hs hc =>
      refine .tup ys vs (by omega) fun i y hy => ?_
      have := (List.getElem?_eq_some_iff.1 hy).1
      have hx : xs[i]? = some xs[i] := by simp [show i < xs.length by omega]
      exact ih i xs[i] y hx hy (hc i _ hx)
  | adr b o e cells ys c hb hc hv ih =>
    intro v h0
    obtain ⟨u, hu⟩ := row_cell hr hb
    cases h0 with
    | adr _ _ => exact .ptr ys b o (fun i => u (o + i)) (hF' b (by rw [hb]; simp)) (fun i y hy => (hu _ _ (hc i y hy)).1) (fun i y hy => ih i y hy (hu _ _ (hc i y hy)).2)

/-- Nothing of it leads to memory that is not its own. -/
def solid : AV → Bool
  | .junk => true
  | .val _ => true
  | .agg xs => solidL xs
  | .tup xs => solidL xs
  | .own _ _ => true
  | .adr _ _ => true
  | .fn _ xs => solidL xs
  | .mp _ => true
  | .sub _ _ _ => true
  | .imm _ els => els.isEmpty
  | .ptr _ => false
where solidL : List AV → Bool
  | [] => true
  | x :: xs => solid x && solidL xs
theorem solidL_get : ∀ {xs : List AV}, solid.solidL xs = true → ∀ (i : Nat) (x : AV), xs[i]? = some x → solid x = true
  | [], _, i, x, hx => by simp at hx
  | y :: ys, h, i, x, hx => by
    simp only [solid.solidL, Bool.and_eq_true] at h
    cases i with
    | zero => simp at hx; subst hx; exact h.1
    | succ i => exact solidL_get h.2 i x (by simpa using hx)
theorem V_solid {F F' : Nat → Prop} {w : World} {x : AV} {v : Value} (hx : V P F w x v) (hs : solid x = true) : V P F' w x v := by
  induction hx with
  | junk v => exact .junk v
  | val v => exact .val v
  | agg xs vs hl _ ih => exact .agg xs vs hl fun i x hx => ih i x hx (solidL_get (by simpa [solid] using hs) i x hx)
  | tup xs vs hl _ ih => exact .tup xs vs hl fun i x hx => ih i x hx (solidL_get (by simpa [solid] using hs) i x hx)
  | immE t a cap ht => exact .immE t a cap ht
  | imm t els b o cap sz c hcap ht hFb hsz hcc _ ih =>
    have : els = [] := by simpa [solid] using hs
    subst this; exact .immE t _ cap fun h => by simpa using ht h
  | ptr cells b o c hFb hcc _ ih => simp [solid] at hs
  | own b n cap e hn hsh => exact .own b n cap e hn hsh
  | adr b o => exact .adr b o
  | fn f caps vs hl _ ih => exact .fn f caps vs hl fun i x hx => ih i x hx (solidL_get (by simpa [solid] using hs) i x hx)
  | mp b => exact .mp b
  | sub b o n cap ad ha => exact .sub b o n cap ad ha
def Blk.solid : Blk → Prop
  | .row _ cells => ∀ x ∈ cells, Ab.solid x = true
  | .map ents => ∀ p ∈ ents, Ab.solid p.2 = true
theorem BlkRel.solid {F F' : Nat → Prop} {w : World} {b : Nat} {k : Blk} (h : BlkRel P F w b k) (hs : k.solid) : BlkRel P F' w b k := by
  cases k with
  | row e xs =>
    obtain ⟨arr, h1, h2, h3⟩ := h
    exact ⟨arr, h1, h2, fun j x hx => V_solid (h3 j x hx) (hs x (List.mem_of_getElem? hx))⟩
  | map ents =>
    obtain ⟨es, clock, h1, h2, h3, h4, h5⟩ := h
    exact ⟨es, clock, h1, h2, h3, h4, fun j k x hx => by
      obtain ⟨e, a, b, c⟩ := h5 j k x hx
      exact ⟨e, a, b, V_solid c (hs (k, x) (List.mem_of_getElem? hx))⟩⟩

/-- All of h may be read during a call, and stands behind it as it stood. -/
theorem CALL.lend {f : FuncId} {args ys : List AV} {h : Heap} {Q Q' : AV → Heap → Prop} (hl : args.length = ys.length) (hv : ∀ (i : Nat) (x y : AV), args[i]? = some x → ys[i]? = some y → Vw h x y)
    (hc : CALL P f ys Heap.none Q') (hq : ∀ r h', Q' r h' → solid r = true ∧ (∀ b k, h' b = some k → k.solid) ∧ ((∀ b, h' b ≠ none → h b = none) → Q r (h'.or h))) : CALL P f args h Q := by
  intro F w vs hh hdom hvl hvs
  have hle : ∀ b, h b ≠ none → b < w.heap.size := fun b hb => by
    cases hk : h b with
    | none => exact absurd hk hb
    | some k => exact hh.lt hk
  refine Calls.mono (hc (fun b => F b ∨ h b ≠ none) w vs (fun b k hk => by cases hk) (fun b hb => hb.elim (hdom b) (hle b)) (by omega) (fun i y hy => ?_)) ?_
  · have := (List.getElem?_eq_some_iff.1 hy).1
    have hx : args[i]? = some args[i] := by simp [show i < args.length by omega]
    exact V_of_Vw hh (fun b hb => .inl hb) (fun b hb => .inr hb) (hv i _ y hx hy) (hvs i _ hx)
  · rintro e w' ⟨F', r, v, h', he, hr, hqr, st, hh', hdom'⟩
    obtain ⟨s1, s2, s3⟩ := hq r h' hqr
    have fresh : ∀ b, h' b ≠ none → w.heap.size ≤ b := fun b hb => (st.newH b hb).elim (fun e => absurd rfl e) id
    have keep : ∀ b, b < w.heap.size → w'.heap[b]? = w.heap[b]? := fun b hb => st.keep b hb rfl
    refine ⟨F, r, v, h'.or h, he, V_solid hr s1, s3 (fun b hb => ?_), ?_, ?_, fun b hb => Nat.lt_of_lt_of_le (hdom b hb) st.size⟩
    · cases hk : h b with
      | none => rfl
      | some k => have := hle b (by rw [hk]; simp); have := fresh b hb; omega
    · refine ⟨st.os, st.tape, st.output, st.size, fun b h => h, fun b hb hn => keep b hb, fun b hb => .inl hb, fun b hb => ?_, st.shape⟩
      by_cases hk : h' b = none
      · left; intro e; simp [Heap.or, hk, e] at hb
      · exact .inr (fresh b hk)
    · intro b k hk
      cases hb : h' b with
      | some k' =>
        have : k' = k := by simpa [Heap.or, hb] using hk
        subst this
        exact ⟨fun hF => by have := hdom b hF; have := fresh b (by rw [hb]; simp); omega, (hh' b _ hb).2.solid (s2 b _ hb)⟩
      | none =>
        have hk' : h b = some k := by simpa [Heap.or, hb] using hk
        refine ⟨(hh b k hk').1, (hh b k hk').2.mono (fun _ h => h) (fun c o hF => ?_) st.shape (keep b (hh.lt hk'))⟩
        exact World.cell?_of_block (w := w) (keep c (hdom c hF))

theorem Heap.none_or (h : Heap) : Heap.none.or h = h := by funext b; rfl
/-- Own memory lent to a call that makes none. -/
theorem CALL.lendV {f : FuncId} {args ys : List AV} {h : Heap} {Q : AV → Heap → Prop} {r : AV} (hl : args.length = ys.length) (hv : ∀ (i : Nat) (x y : AV), args[i]? = some x → ys[i]? = some y → Vw h x y)
    (hc : ∀ {Q' : AV → Heap → Prop}, Q' r Heap.none → CALL P f ys Heap.none Q') (hs : solid r = true) (hq : Q r h) : CALL P f args h Q :=
  CALL.lend hl hv (hc (Q' := fun r' h' => r' = r ∧ h' = Heap.none) ⟨rfl, rfl⟩) fun r' h' hq' => by
    obtain ⟨rfl, rfl⟩ := hq'
    exact ⟨hs, ⟨fun b k hb => by simp [Heap.none] at hb, fun _ => by rw [Heap.none_or]; exact hq⟩⟩
theorem vw_one {h : Heap} {x y : AV} (hv : Vw h x y) : ∀ (i : Nat) (x' y' : AV), [x][i]? = some x' → [y][i]? = some y' → Vw h x' y' := by
  intro i x' y' h1 h2
  cases i with
  | zero => simp at h1 h2; subst h1; subst h2; exact hv
  | succ i => simp at h1
theorem vw_two {h : Heap} {x y x2 y2 : AV} (hv : Vw h x y) (hv2 : Vw h x2 y2) : ∀ (i : Nat) (x' y' : AV), [x, x2][i]? = some x' → [y, y2][i]? = some y' → Vw h x' y' := by
  intro i x' y' h1 h2
  match i with
  | 0 => simp at h1 h2; subst h1; subst h2; exact hv
  | 1 => simp at h1 h2; subst h1; subst h2; exact hv2
  | i + 2 => simp at h1
theorem vw_three {h : Heap} {x y x2 y2 x3 y3 : AV} (hv : Vw h x y) (hv2 : Vw h x2 y2) (hv3 : Vw h x3 y3) : ∀ (i : Nat) (x' y' : AV), [x, x2, x3][i]? = some x' → [y, y2, y3][i]? = some y' → Vw h x' y' := by
  intro i x' y' h1 h2
  match i with
  | 0 => simp at h1 h2; subst h1; subst h2; exact hv
  | 1 => simp at h1 h2; subst h1; subst h2; exact hv2
  | 2 => simp at h1 h2; subst h1; subst h2; exact hv3
  | i + 3 => simp at h1
/-- The memory of h' that hk doesn't name. -/
def Heap.minus (h' hk : Heap) : Heap := fun b => match hk b with | .none => h' b | .some _ => .none
theorem Heap.minus_le (h' hk : Heap) : (h'.minus hk).le h' := fun b k h => by
  unfold Heap.minus at h; split at h
  · exact h
  · cases h
/-- What a call made is laid down for good. -/
theorem CALL.lay {f : FuncId} {args : List AV} {h : Heap} {Q Q' : AV → Heap → Prop} (hc : CALL P f args h Q') (hq : ∀ r h', Q' r h' → ∃ hk y, hk.le h' ∧ Vw (h'.minus hk) r y ∧ Q y hk) : CALL P f args h Q := by
  intro F w vs hh hdom hvl hvs
  refine Calls.mono (hc F w vs hh hdom hvl hvs) ?_
  rintro e w' ⟨F', r, v, h', he, hr, hqr, st, hh', hdom'⟩
  obtain ⟨hk, y, h1, h2, h3⟩ := hq r h' hqr
  have hm : HeapRel P F' w' (h'.minus hk) := hh'.le (Heap.minus_le h' hk)
  refine ⟨fun b => F' b ∨ h'.minus hk b ≠ none, y, v, hk, he, V_of_Vw hm (fun b hb => .inl hb) (fun b hb => .inr hb) h2 hr, h3, ?_, ?_, fun b hb => ?_⟩
  · refine ⟨st.os, st.tape, st.output, st.size, fun b hb => .inl (st.sub b hb), st.keep, fun b hb => ?_, fun b hb => st.newH b fun e => ?_, st.shape⟩
    · rcases hb with hb | hb
      · exact st.newF b hb
      · exact .inr (st.newH b fun e => hb (by
          unfold Heap.minus; split
          · exact e
          · rfl))
    · cases hb' : hk b with
      | none => exact hb hb'
      | some k => rw [h1 b k hb'] at e; cases e
  · intro b k hb
    refine ⟨fun hF => ?_, ?_⟩
    · rcases hF with hF | hF
      · exact (hh' b k (h1 b k hb)).1 hF
      · exact hF (by unfold Heap.minus; rw [hb])
    · exact (hh' b k (h1 b k hb)).2.mono (fun _ h => .inl h) (fun _ _ _ => rfl) (fun _ _ h => h) rfl
  · rcases hb with hb | hb
    · exact hdom' b hb
    · cases hm' : h'.minus hk b with
      | none => exact absurd hm' hb
      | some k => exact hm.lt hm'

/-! ### arguments -/
variable {H : Type} {enc : TypeId × Value → H} {w : World}
def VL (P : Program) (F : Nat → Prop) (w : World) (xs : List AV) (cs : List Value) : Prop := cs.length = xs.length ∧ ∀ (i : Nat) (x : AV), xs[i]? = some x → V P F w x (cs.getD i undef)
/-- What is read as of this type stands for a value a of the kind that f shows. -/
def Reads {α : Type} (enc : TypeId × Value → H) (P : Program) (w : World) (n : Nat) (t : TypeId) (f : α → List AV) (wf : α → Prop) : Prop :=
  ∀ cs x, DataW.trod enc P w 0 (fun _ => true) true n t cs = some x → ∃ a, wf a ∧ VL P (fun b => b < w.heap.size) w (f a) cs

theorem VL_one {F : Nat → Prop} {x : AV} {v : Value} (h : V P F w x v) : VL P F w [x] [v] := ⟨rfl, fun i y hy => by
  cases i with
  | zero => simp at hy; subst hy; exact h
  | succ i => simp at hy⟩
theorem VL_append {F : Nat → Prop} {xs ys : List AV} {cs ds : List Value} (h : VL P F w xs cs) (h' : VL P F w ys ds) : VL P F w (xs ++ ys) (cs ++ ds) := by
  refine ⟨by simp [h.1, h'.1], fun i x hx => ?_⟩
  by_cases hi : i < xs.length
  · rw [List.getElem?_append_left hi] at hx
    have := h.2 i x hx
    rw [List.getD_eq_getElem?_getD, List.getElem?_append_left (by have := h.1; omega), ← List.getD_eq_getElem?_getD]; exact this
  · rw [List.getElem?_append_right (by omega)] at hx
    have := h'.2 _ x hx
    rw [List.getD_eq_getElem?_getD, List.getElem?_append_right (by have := h.1; omega), ← List.getD_eq_getElem?_getD, h.1]; exact this
theorem reads_int {t : TypeId} {k : IntKind} (ht : P.underlying t = some (.int k)) (n : Nat) : Reads enc P w n t (fun m : Int => [.val (.int k m)]) (fun m => (Lit.int k m).wf = true) := fun cs x h => by
  obtain ⟨m, rfl, rfl, hw⟩ := DataW.trod_int ht h
  exact ⟨m, hw, VL_one (.val _)⟩
theorem reads_bool {t : TypeId} (ht : P.underlying t = some .bool) (n : Nat) : Reads enc P w n t (fun b : Bool => [.val (.bool b)]) (fun _ => True) := fun cs x h => by
  obtain ⟨b, rfl, rfl⟩ := DataW.trod_bool ht h
  exact ⟨b, trivial, VL_one (.val _)⟩
theorem reads_string {t : TypeId} (ht : P.underlying t = some .string) (n : Nat) : Reads enc P w n t (fun s : ByteArray => [.val (.string s)]) (fun s => s.size ≤ 9223372036854775807) := fun cs x h => by
  obtain ⟨s, rfl, rfl, hs⟩ := DataW.trod_string ht h
  exact ⟨s, by simpa [maxLen] using hs, VL_one (.val _)⟩
theorem reads_map {α β : Type} {n : Nat} {t : TypeId} {f : α → List AV} {wf : α → Prop} (h : Reads enc P w n t f wf) {g : β → List AV} {wg : β → Prop} (φ : α → β) (hφ : ∀ a, wf a → g (φ a) = f a ∧ wg (φ a)) : Reads enc P w n t g wg := fun cs x hx => by
  obtain ⟨a, ha, hv⟩ := h cs x hx
  exact ⟨φ a, (hφ a ha).2, by rw [(hφ a ha).1]; exact hv⟩

theorem spot_none {b o : Nat} {sp : Option Nat} {v : Value} (h : w.cell? ⟨b, o, sp⟩ = some v) : sp = none := by
  cases sp with
  | none => rfl
  | some k => simp only [World.cell?] at h; split at h <;> simp at h
theorem cell_lt {a : Addr} {v : Value} (h : w.cell? a = some v) : a.block < w.heap.size := by
  simp only [World.cell?] at h
  split at h
  · rename_i hh; exact (Array.getElem?_eq_some_iff.1 hh).1
  · cases h

theorem reads_slice {α : Type} {n : Nat} {t e : TypeId} {f : α → List AV} {wf : α → Prop} (ht : P.underlying t = some (.slice e)) (hpos : 0 < P.cellsOf e) (hf : ∀ a, (f a).length = P.cellsOf e) (he : ∀ m, m < n → Reads enc P w m e f wf) :
    Reads enc P w n t (fun l : List α => [.imm false (l.map f)]) (fun l => l.length ≤ 9223372036854775807 ∧ ∀ a ∈ l, wf a) := fun cs x h => by
  rcases DataW.trod_slice ht h with ⟨rfl, rfl⟩ | ⟨a, len, cap, elems, rest, m, rfl, rfl, rfl, hb, hl, hm, hlen, hel, hsp, hns⟩
  · exact ⟨[], ⟨by simp, fun a ha => by cases ha⟩, VL_one (.immE false none 0 fun h => by cases h)⟩
  have each : ∀ i, i < len → ∃ cs y a', w.cells? 0 (a.add (i * P.cellsOf e)) (P.cellsOf e) = some cs ∧ elems[i]? = some y ∧ wf a' ∧ VL P (fun b => b < w.heap.size) w (f a') cs := fun i hi => by
    have h1 := hel i hi
    rw [List.getElem?_eq_getElem (by omega)] at h1
    obtain ⟨cs, h2, h3⟩ := Option.bind_eq_some_iff.1 h1
    obtain ⟨a', h4, h5⟩ := he m (Nat.lt_succ_self m) cs _ h3
    exact ⟨cs, _, a', h2, List.getElem?_eq_getElem (by omega), h4, h5⟩
  have : ∃ l : List α, l.length = len ∧ ∀ i (hi : i < len) a', l[i]? = some a' → ∃ cs, w.cells? 0 (a.add (i * P.cellsOf e)) (P.cellsOf e) = some cs ∧ wf a' ∧ VL P (fun b => b < w.heap.size) w (f a') cs := by
    have key : ∀ k, k ≤ len → ∃ l : List α, l.length = k ∧ ∀ i (hi : i < k) a', l[i]? = some a' → ∃ cs, w.cells? 0 (a.add (i * P.cellsOf e)) (P.cellsOf e) = some cs ∧ wf a' ∧ VL P (fun b => b < w.heap.size) w (f a') cs := by
      intro k
      induction k with
      | zero => exact fun _ => ⟨[], rfl, fun i hi => by omega⟩
      | succ k ih =>
        intro hk
        obtain ⟨l, h1, h2⟩ := ih (by omega)
        obtain ⟨cs, y, a', g1, g2, g3, g4⟩ := each k (by omega)
        refine ⟨l ++ [a'], by simp [h1], fun i hi b hb => ?_⟩
        by_cases hik : i < k
        · rw [List.getElem?_append_left (by omega)] at hb; exact h2 i hik b hb
        · obtain rfl : i = k := by omega
          rw [List.getElem?_append_right (by omega), h1, Nat.sub_self] at hb
          simp at hb; subst hb
          exact ⟨cs, g1, g3, g4⟩
    exact key len (Nat.le_refl _)
  obtain ⟨l, hll, hle⟩ := this
  refine ⟨l, ⟨by rw [hll]; simp only [maxLen] at hm; omega, fun b hb => ?_⟩, VL_one ?_⟩
  · obtain ⟨i, hi⟩ := List.getElem?_of_mem hb
    have := (List.getElem?_eq_some_iff.1 hi).1
    obtain ⟨_, _, h, _⟩ := hle i (by omega) b hi
    exact h
  · by_cases h0 : len = 0
    · have : l = [] := List.length_eq_zero_iff.1 (by omega)
      subst this; subst h0
      exact .immE false _ cap fun h => by cases h
    · obtain ⟨b, o, sp⟩ := a
      have hcell : ∀ i j, i < len → j < P.cellsOf e → ∀ a', l[i]? = some a' → ∃ v x, (f a')[j]? = some x ∧ w.cell? ((⟨b, o, sp⟩ : Addr).add (i * P.cellsOf e + j)) = some v ∧ V P (fun b => b < w.heap.size) w x v := fun i j hi hj a' ha => by
        obtain ⟨cs, g1, g2, g3⟩ := hle i hi a' ha
        obtain ⟨_, q2, q3⟩ := World.cells?_some g1
        have := q3 j hj
        have hjl : j < (f a').length := by rw [hf]; exact hj
        refine ⟨cs.getD j undef, (f a')[j], by simp [hjl], ?_, g3.2 j _ (by simp [hjl])⟩
        have e1 : (Addr.add ⟨b, o, sp⟩ (i * P.cellsOf e)).add j = (⟨b, o, sp⟩ : Addr).add (i * P.cellsOf e + j) := Addr.add_add _ _ _
        rw [← e1, this, List.getD_eq_getElem?_getD, List.getElem?_eq_getElem (by omega)]; rfl
      have h00 := hcell 0 0 (by omega) hpos (l[0]'(by omega)) (by simp)
      obtain ⟨v0, x0, _, hv0, _⟩ := h00
      rw [Nat.zero_mul, Nat.zero_add] at hv0
      have hsp0 : sp = none := spot_none (b := b) (o := o) (by simpa [Addr.add] using hv0)
      subst hsp0
      have hblk : b < w.heap.size := by have := cell_lt hv0; simpa [Addr.add] using this
      have := V.imm (P := P) (F := fun b => b < w.heap.size) (w := w) false (l.map f) b o cap (P.cellsOf e) (fun i j => (w.cell? ⟨b, o + (i * P.cellsOf e + j), none⟩).getD undef) (by simp; omega) (fun h => by cases h) hblk
        (fun i l' hl' => by rw [List.getElem?_map] at hl'; cases hli : l[i]? <;> simp [hli] at hl'; subst hl'; exact hf _)
        (fun i l' j x hl' hx => by
          rw [List.getElem?_map] at hl'
          cases hli : l[i]? with
          | none => simp [hli] at hl'
          | some a' =>
            simp [hli] at hl'; subst hl'
            have hj := (List.getElem?_eq_some_iff.1 hx).1
            have hi := (List.getElem?_eq_some_iff.1 hli).1
            obtain ⟨v, x', g1, g2, g3⟩ := hcell i j (by omega) (by rw [hf] at hj; exact hj) a' hli
            rw [Addr.add_lit] at g2; rw [g2]; rfl)
        (fun i l' j x hl' hx => by
          rw [List.getElem?_map] at hl'
          cases hli : l[i]? with
          | none => simp [hli] at hl'
          | some a' =>
            simp [hli] at hl'; subst hl'
            have hj := (List.getElem?_eq_some_iff.1 hx).1
            have hi := (List.getElem?_eq_some_iff.1 hli).1
            obtain ⟨v, x', g1, g2, g3⟩ := hcell i j (by omega) (by rw [hf] at hj; exact hj) a' hli
            rw [Addr.add_lit] at g2; rw [g2]
            rw [hx] at g1; cases g1; exact g3)
      rw [List.length_map, hll] at this
      exact this

/-- The fields of a struct, one behind the other. -/
def FR {α : Type} (enc : TypeId × Value → H) (P : Program) (w : World) (n : Nat) (fs : List Field) (off tot : Nat) (f : α → List AV) (wf : α → Prop) : Prop :=
  ∀ m, m < n → ∀ cs : List Value, cs.length = tot → (∀ (i : Nat) (g : Field), fs[i]? = some g → ∃ x, DataW.trod enc P w 0 (fun _ => true) true m g.type ((cs.drop g.offset).take (P.cellsOf g.type)) = some x) → ∃ a, wf a ∧ VL P (fun b => b < w.heap.size) w (f a) (cs.drop off)
theorem fields_nil {n tot : Nat} : FR enc P w n [] tot tot (fun _ : Unit => []) (fun _ => True) := fun m hm cs hl _ => ⟨(), trivial, by simp [hl], fun i x hx => by simp at hx⟩
theorem fields_cons {α β : Type} {n off tot sz : Nat} {g : Field} {fs : List Field} {f : α → List AV} {wf : α → Prop} {f' : β → List AV} {wf' : β → Prop} (ho : g.offset = off) (hsz : P.cellsOf g.type = sz) (h1 : ∀ m, m < n → Reads enc P w m g.type f wf) (h2 : FR enc P w n fs (off + sz) tot f' wf') :
    FR enc P w n (g :: fs) off tot (fun a : α × β => f a.1 ++ f' a.2) (fun a => wf a.1 ∧ wf' a.2) := fun m hm cs hl hx => by
  obtain ⟨x, hx0⟩ := hx 0 g rfl
  obtain ⟨a, ha, hva⟩ := h1 m hm _ _ hx0
  obtain ⟨b, hb, hvb⟩ := h2 m hm cs hl fun i g' hg' => hx (i + 1) g' (by simpa using hg')
  refine ⟨(a, b), ⟨ha, hb⟩, ?_⟩
  have : cs.drop off = (cs.drop off).take sz ++ cs.drop (off + sz) := by
    rw [← List.drop_drop, List.take_append_drop]
  rw [this]
  rw [ho, hsz] at hva
  exact VL_append hva hvb
theorem reads_struct {α : Type} {n tot : Nat} {t : TypeId} {fs : List Field} {f : α → List AV} {wf : α → Prop} (ht : P.underlying t = some (.struct fs.toArray)) (hc : P.cellsOf t = tot) (h : FR enc P w n fs 0 tot f wf) : Reads enc P w n t f wf := fun cs x hx => by
  subst hc
  obtain ⟨xs, m, rfl, _, hl, hxs, he⟩ := DataW.trod_struct ht hx
  have := h m (Nat.lt_succ_self m) cs hl fun i g hg => by
    have hi : i < fs.length := (List.getElem?_eq_some_iff.1 hg).1
    have := he i g (by simpa using hg)
    have hxl : xs.length = fs.length := by simpa using hxs
    exact ⟨xs[i], by rw [this]; simp [show i < xs.length by omega]⟩
  simpa using this

/-- An argument of a struct type. -/
theorem arg_struct {α : Type} {t : TypeId} {fs : Array Field} {f : α → List AV} {wf : α → Prop} {v : Value} {d : DataW H} {ps : List MemPlace} {b : Nat} (ht : P.underlying t = some (.struct fs)) (hval : Value.okWide P w .any b t v) (hd : DataW.Trod enc P w 0 (fun _ => true) true t v d ps)
    (hr : ∀ n, Reads enc P w n t f wf) : ∃ a, wf a ∧ V P (fun b => b < w.heap.size) w (.agg (f a)) v := by
  obtain ⟨n, hn⟩ := hd
  obtain ⟨a, ha, hv⟩ := hr n _ _ hn
  unfold Value.okWide at hval
  rw [ht] at hval
  obtain ⟨cs, rfl, _, _⟩ := hval
  simp only [Value.cells] at hv
  exact ⟨a, ha, .agg _ cs (by simpa using hv.1) fun i x hx => by have := hv.2 i x hx; simpa [Array.getD_eq_getD_getElem?, List.getD_eq_getElem?_getD] using this⟩
/-- An argument of one cell. -/
theorem arg_cell {α : Type} {t : TypeId} {f : α → AV} {wf : α → Prop} {v : Value} {d : DataW H} {ps : List MemPlace} (hone : v.cells = #[v]) (hd : DataW.Trod enc P w 0 (fun _ => true) true t v d ps)
    (hr : ∀ n, Reads enc P w n t (fun a => [f a]) wf) : ∃ a, wf a ∧ V P (fun b => b < w.heap.size) w (f a) v := by
  obtain ⟨n, hn⟩ := hd
  obtain ⟨a, ha, hv⟩ := hr n _ _ hn
  rw [hone] at hv
  exact ⟨a, ha, by simpa using hv.2 0 (f a) rfl⟩

/-- Arguments one by one. -/
theorem vw1 {F : Nat → Prop} {x : AV} {v : Value} (h : V P F w x v) : ∀ (i : Nat) (y : AV), [x][i]? = some y → V P F w y (#[v].getD i undef) := fun i y hy => by
  match i with
  | 0 => simp at hy; subst hy; exact h
  | i + 1 => simp at hy
theorem vw2 {F : Nat → Prop} {x x' : AV} {v v' : Value} (h : V P F w x v) (h' : V P F w x' v') : ∀ (i : Nat) (y : AV), [x, x'][i]? = some y → V P F w y (#[v, v'].getD i undef) := fun i y hy => by
  match i with
  | 0 => simp at hy; subst hy; exact h
  | 1 => simp at hy; subst hy; exact h'
  | i + 2 => simp at hy
theorem vw3 {F : Nat → Prop} {x x' x'' : AV} {v v' v'' : Value} (h : V P F w x v) (h' : V P F w x' v') (h'' : V P F w x'' v'') : ∀ (i : Nat) (y : AV), [x, x', x''][i]? = some y → V P F w y (#[v, v', v''].getD i undef) := fun i y hy => by
  match i with
  | 0 => simp at hy; subst hy; exact h
  | 1 => simp at hy; subst hy; exact h'
  | 2 => simp at hy; subst hy; exact h''
  | i + 3 => simp at hy
/-- A law that answers true over such arguments: what the form asks. -/
theorem CALL.below {f : FuncId} {args : List AV} {R : AV → Prop} (hc : CALL P f args Heap.none fun r _ => R r) {vs : Array Value} (hl : vs.size = args.length) (hv : ∀ (i : Nat) (x : AV), args[i]? = some x → V P (fun b => b < w.heap.size) w x (vs.getD i undef)) :
    Calls P f vs w fun e w' => ∃ r v, R r ∧ e = .returned v ∧ V P (fun _ => True) w' r v ∧ Below w.heap.size w w' := by
  refine Calls.mono (hc (fun b => b < w.heap.size) w vs (fun b k hk => by cases hk) (fun b hb => hb) hl hv) ?_
  rintro e w' ⟨F', r, v, h', he, hr, hqr, st, hh', hdom'⟩
  exact ⟨r, v, hqr, he, hr.mono (fun _ _ => trivial) (fun _ _ _ => rfl) (fun _ _ h => h), ⟨st.os, st.tape, st.output, st.size, fun b hb => st.keep b hb rfl⟩⟩

end Go.Ab
