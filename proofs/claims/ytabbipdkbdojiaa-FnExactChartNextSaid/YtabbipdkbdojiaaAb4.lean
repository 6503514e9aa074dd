/- The abstract layer, part 4: operations that make or write memory, over abstract values, are what the loaded program's operations do. Plain lemmas over any program; no condition. -/
import Derived.Test.YtabbipdkbdojiaaAb3
namespace Go.Ab
open Go Go.RowKit
set_option linter.unusedVariables false
variable {P : Program} {F : Nat → Prop} {n : Nat} {s : St} {a : Act} {w : World} {o : Oper} {K : AV → Heap → Prop} {Q : Exit → Act → World → Prop}

/-! ### writing -/
theorem length_splice : ∀ (cs l : List AV) (o : Nat), (splice l o cs).length = l.length
  | [], l, o => rfl
  | c :: cs, l, o => by rw [splice, length_splice cs]; simp
theorem splice_get : ∀ (cs l : List AV) (o : Nat), o + cs.length ≤ l.length → ∀ j x, (splice l o cs)[j]? = some x → (o ≤ j ∧ j < o + cs.length ∧ cs[j - o]? = some x) ∨ ((j < o ∨ o + cs.length ≤ j) ∧ l[j]? = some x)
  | [], l, o, _, j, x, h => by right; exact ⟨by simp; omega, h⟩
  | c :: cs, l, o, hl, j, x, h => by
    simp only [List.length_cons] at hl ⊢
    rw [splice] at h
    rcases splice_get cs (l.set o c) (o + 1) (by simp; omega) j x h with ⟨h1, h2, h3⟩ | ⟨h1, h2⟩
    · left
      refine ⟨by omega, by omega, ?_⟩
      obtain ⟨k, rfl⟩ : ∃ k, j = o + 1 + k := ⟨j - (o + 1), by omega⟩
      rw [show o + 1 + k - o = k + 1 by omega, List.getElem?_cons_succ]
      rwa [show o + 1 + k - (o + 1) = k by omega] at h3
    · by_cases hj : j = o
      · subst hj
        left
        refine ⟨by omega, by omega, ?_⟩
        rw [List.getElem?_set_self (by omega)] at h2
        simpa using h2
      · right
        refine ⟨by omega, ?_⟩
        rwa [List.getElem?_set_ne (fun e => hj e.symm)] at h2

theorem shape_setRow (w : World) (g : Nat) (cur new : Array Value) (e : TypeId) (fz : Nat × Nat) (hg : w.heap[g]? = some (.cells cur e fz)) (hs : new.size = cur.size) (b : Nat) (x : TypeId × Nat) (h : w.shape? b = some x) : (w.setRow g new).shape? b = some x := by
  by_cases hb : b = g
  · subst hb
    simp only [World.shape?, hg] at h
    simp only [World.shape?, setRow_heap w b cur new e fz hg, hs]; exact h
  · simp only [World.shape?, setRow_other w g b _ hb]; exact h

theorem step_setRow (hr : HeapRel P F w s.h) {b : Nat} {e : TypeId} {xs ys : List AV} {cur new : Array Value} (hb : s.h b = some (.row e xs)) (hg : w.heap[b]? = some (.cells cur e (0, 0))) (hs : new.size = cur.size) (k : Blk) :
    Step F s.h w F (s.h.set b k) (w.setRow b new) where
  os := rfl
  tape := rfl
  output := rfl
  size := by simp
  sub := fun _ h => h
  keep := fun i hi hn => setRow_other w b i _ (fun e' => by subst e'; rw [hb] at hn; cases hn)
  newF := fun _ h => .inl h
  newH := fun i hi => by
    by_cases h : i = b
    · subst h; left; rw [hb]; simp
    · rw [Heap.set_ne _ _ h] at hi; exact .inl hi
  shape := fun i x h => shape_setRow w b cur new e (0, 0) hg hs i x h

theorem heap_setRow (hr : HeapRel P F w s.h) {b : Nat} {e : TypeId} {xs ys : List AV} {cur new : Array Value} (hb : s.h b = some (.row e xs)) (hg : w.heap[b]? = some (.cells cur e (0, 0))) (hs : new.size = cur.size) (hl : ys.length ≤ new.size)
    (hx : ∀ (j : Nat) (x : AV), ys[j]? = some x → V P F w x (new.getD j undef)) : HeapRel P F (w.setRow b new) (s.h.set b (.row e ys)) := by
  have hFb := (hr b _ hb).1
  have mono : ∀ {x : AV} {v : Value}, V P F w x v → V P F (w.setRow b new) x v := fun h =>
    h.mono (fun _ h => h) (fun c o hF => World.cell?_of_block (w := w) (setRow_other w b c _ (fun e' => hFb (e' ▸ hF)))) (fun i x h => shape_setRow w b cur new e (0, 0) hg hs i x h)
  intro c k hk
  by_cases hc : c = b
  · subst hc
    rw [Heap.set_same] at hk; cases hk
    exact ⟨hFb, new, setRow_heap w c cur new e (0, 0) hg, hl, fun j x hj => mono (hx j x hj)⟩
  · rw [Heap.set_ne _ _ hc] at hk
    obtain ⟨h1, h2⟩ := hr c k hk
    exact ⟨h1, h2.mono (fun _ h => h) (fun d o hF => World.cell?_of_block (w := w) (setRow_other w b d _ (fun e' => hFb (e' ▸ hF)))) (fun i x h => shape_setRow w b cur new e (0, 0) hg hs i x h) (setRow_other w b c _ hc)⟩

theorem spliced (arr : Array Value) (o : Nat) (vs : List Value) (h : o + vs.length ≤ arr.size) (j : Nat) :
    (arr.toList.take o ++ vs ++ arr.toList.drop (o + vs.length)).toArray.getD j undef = if o ≤ j ∧ j < o + vs.length then vs.getD (j - o) undef else arr.getD j undef := by
  simp only [Array.getD_eq_getD_getElem?, List.getElem?_toArray, List.getD_eq_getElem?_getD]
  by_cases h1 : j < o
  · rw [if_neg (by omega), List.append_assoc, List.getElem?_append_left (by simp; omega), List.getElem?_take_of_lt h1]; simp
  · by_cases h2 : j < o + vs.length
    · rw [if_pos (by omega), List.getElem?_append_left (by simp; omega), List.getElem?_append_right (by simp; omega)]
      congr 2
      simp; omega
    · rw [if_neg (by omega), List.getElem?_append_right (by simp; omega), List.getElem?_drop]
      simp only [List.length_append, List.length_take, Array.length_toList, Array.getElem?_toList]
      congr 2; omega

theorem sound_store {t : TypeId} {x v : Operand} {x' v' : Opd} {i : TypeInfo} (hop : o.op = .store t x v) (h0 : P.info? t = some i) (hx : trOpd x = some x') (hv0 : trOpd v = some v') (hd : okD n o.dst = true) (hr : Rel P F n s a w)
    (hX : X P (.store i.size x' v') s K) : o.wp P a w (Aft P F n s w o.dst K) Q := by
  have hv := V_ev hr hx
  have hw := V_ev hr hv0
  simp only [X] at hX
  split at hX
  · rename_i b off cs h1 h2
    rw [h1] at hv
    split at hX
    · rename_i e cells hb
      obtain ⟨hcs, hone, hle, hK⟩ := hX
      generalize hav : a.eval x = u at hv
      generalize hav' : a.eval v = u' at hw
      cases hv
      obtain ⟨hFb, arr, harr, hl, hcv⟩ := hr.heap b _ hb
      obtain ⟨hsz, hcell⟩ := cells_of hw h2
      have hone' : ∀ z ∈ u'.cells.toList, z.oneCell' = true := by
        intro z hz
        obtain ⟨j, hj, rfl⟩ := List.getElem_of_mem hz
        have hj' : j < cs.length := by simpa [hsz] using hj
        have := hcell j cs[j] (by simp [hj'])
        have ho := (List.all_eq_true.1 hone) cs[j] (List.getElem_mem hj')
        have := one_of this ho
        simpa [Array.getD_eq_getD_getElem?, hsz, hj'] using this
      have hst := run_storeCells_at P b off e u'.cells.toList 0 arr w harr (by simp; omega) hone'
      simp only [Nat.add_zero] at hst
      have hlen : u'.cells.toList.length = cs.length := by simp [hsz]
      have hsz' : ((arr.toList.take off ++ u'.cells.toList ++ arr.toList.drop (off + u'.cells.toList.length)).toArray).size = arr.size := by
        simp only [List.size_toArray, List.length_append, List.length_take, List.length_drop, Array.length_toList]
        have : u'.cells.size = cs.length := hsz
        omega
      refine sound_skip hd hr (w' := w.setRow b (arr.toList.take off ++ u'.cells.toList ++ arr.toList.drop (off + u'.cells.toList.length)).toArray) ?_ (step_setRow (xs := cells) (ys := []) hr.heap hb harr hsz' _) (heap_setRow hr.heap hb harr hsz' (by rw [length_splice, hsz']; exact hl) fun j y hy => ?_) hK
      · simp [execOp, hop, hav, hav', Instr.storeAt, Instr.sureAddr, storeVar, sizeOf, typeInfo, h0, hsz, hcs, hst]
      · rw [spliced _ _ _ (by rw [hlen]; omega), hlen]
        rcases splice_get cs cells off (by omega) j y hy with ⟨a1, a2, a3⟩ | ⟨a1, a2⟩
        · rw [if_pos ⟨a1, a2⟩]
          have := hcell _ y a3
          simpa [List.getD_eq_getElem?_getD, Array.getD_eq_getD_getElem?] using this
        · rw [if_neg (by omega)]; exact hcv j y a2
    · exact hX.elim
  · exact hX.elim

/-! ### new variables -/
theorem zeroV {t : TypeId} {i : TypeInfo} {z : List Value} (h : trZero P t = some (i, z)) : ∃ zv, P.info? t = some i ∧ i.zero = some zv ∧ z = zv.cells.toList := by
  unfold trZero at h
  split at h
  · rename_i i' hi
    split at h
    · rename_i zv hz; simp at h; obtain ⟨rfl, rfl⟩ := h; exact ⟨zv, hi, hz, rfl⟩
    · cases h
  · cases h

theorem sound_alloc {t : TypeId} {p : TypeInfo × List Value} (hop : o.op = .alloc t) (h0 : trZero P t = some p) (hd : okD n o.dst = true) (hr : Rel P F n s a w) (hX : X P (.alloc t p.2) s K) : o.wp P a w (Aft P F n s w o.dst K) Q := by
  obtain ⟨zv, hi, hz, hp⟩ := zeroV (i := p.1) (z := p.2) h0
  simp only [X] at hX
  refine sound_to hd hr (v := .pointer (some ⟨w.heap.size, 0, none⟩)) (w' := w.alloc (.cells zv.cells t)) ?_ (step_new hr.heap hr.dom _ _) (heap_new hr.heap hr.dom t zv.cells (p.2.map .val) (by simp [hp]) fun j x hx => ?_) (.adr _ _) (hX _ (fresh hr.heap))
  · simp [execOp, hop, Instr.alloc, zeroValue, typeInfo, hi, hz, newVar, newRow]
  · rw [List.getElem?_map, hp] at hx
    cases hj : zv.cells.toList[j]? with
    | none => simp [hj] at hx
    | some c =>
      simp [hj] at hx; subst hx
      have : zv.cells.getD j undef = c := by simp at hj; simp [Array.getD_eq_getD_getElem?, hj]
      rw [this]; exact .val c

theorem sound_box {t : TypeId} {x : Operand} {x' : Opd} (hop : o.op = .box t x) (hx : trOpd x = some x') (hd : okD n o.dst = true) (hr : Rel P F n s a w) (hX : X P (.box t x') s K) : o.wp P a w (Aft P F n s w o.dst K) Q := by
  have hv := V_ev hr hx
  simp only [X] at hX
  split at hX
  · rename_i cs h1
    generalize hav : a.eval x = v at hv
    obtain ⟨hsz, hc⟩ := cells_of hv h1
    refine sound_to hd hr (v := .pointer (some ⟨w.heap.size, 0, none⟩)) (w' := w.alloc (.cells v.cells t)) ?_ (step_new hr.heap hr.dom _ _) (heap_new hr.heap hr.dom t v.cells cs (by omega) hc) (.adr _ _) (hX _ (fresh hr.heap))
    simp [execOp, hop, hav, Instr.box, newVar, newRow]
  · exact hX.elim

/-! ### literals -/
theorem fold_set (cs : List Value) : ∀ (arr : Array Value) (off k : Nat), off + k + cs.length ≤ arr.size →
    (cs.zipIdx k).foldl (fun acc (p : Value × Nat) => acc.setIfInBounds (off + p.2) p.1) arr = (arr.toList.take (off + k) ++ cs ++ arr.toList.drop (off + k + cs.length)).toArray := by
  induction cs with
  | nil => intro arr off k h; simp
  | cons c cs ih =>
    intro arr off k h
    simp only [List.length_cons] at h
    simp only [List.zipIdx_cons, List.foldl_cons]
    rw [ih (arr.setIfInBounds (off + k) c) off (k + 1) (by simp; omega)]
    apply Array.ext'
    simp only [Array.toList_setIfInBounds]
    have hk : off + k < arr.toList.length := by simp; omega
    rw [show off + (k + 1) = (off + k) + 1 by omega, List.take_succ_eq_append_getElem (by simp; omega), List.getElem_set_self, List.take_set_of_le (Nat.le_refl _), List.drop_set_of_lt (by omega)]
    simp only [List.append_assoc, List.cons_append, List.nil_append, List.length_cons]
    rw [show off + k + 1 + cs.length = off + k + (cs.length + 1) by omega]

theorem fill_ok {place : Nat → Option (Nat × Nat)} (hr : ∀ (j : Nat), True) : ∀ (parts : List (Nat × Value)) (aparts : List (Nat × Nat × AV)) (cur : Array Value) (xs res : List AV),
    parts.length = aparts.length → (∀ (i : Nat) (p : Nat × Value) (q : Nat × Nat × AV), parts[i]? = some p → aparts[i]? = some q → place p.1 = some (q.1, q.2.1) ∧ V P F w q.2.2 p.2) →
    cur.size = xs.length → (∀ (j : Nat) (x : AV), xs[j]? = some x → V P F w x (cur.getD j undef)) → fillA xs aparts = some res →
    ∃ arr, Instr.fill place cur parts = some arr ∧ arr.size = res.length ∧ ∀ (j : Nat) (x : AV), res[j]? = some x → V P F w x (arr.getD j undef)
  | [], [], cur, xs, res, _, _, hsz, hx, h => by
    simp only [fillA, Option.some.injEq] at h; subst h
    exact ⟨cur, rfl, hsz, hx⟩
  | [], _ :: _, _, _, _, h, _, _, _, _ => by simp at h
  | _ :: _, [], _, _, _, h, _, _, _, _ => by simp at h
  | (i, v) :: parts, (off, k, y) :: aparts, cur, xs, res, hl, hp, hsz, hx, h => by
    obtain ⟨h1, h2⟩ := hp 0 (i, v) (off, k, y) rfl rfl
    simp only at h1 h2
    simp only [fillA] at h
    split at h
    · rename_i cs hcs
      split at h
      · rename_i hle
        obtain ⟨hvs, hvc⟩ := cells_of h2 hcs
        have hlist : v.cells.toList.length = cs.length := by simp [hvs]
        have hf := fold_set v.cells.toList cur off 0 (by rw [hlist]; omega)
        have hf' : v.cells.zipIdx.foldl (fun acc (p : Value × Nat) => acc.setIfInBounds (off + p.2) p.1) cur = (cur.toList.take off ++ v.cells.toList ++ cur.toList.drop (off + v.cells.toList.length)).toArray := by
          rw [← Array.foldl_toList, Array.toList_zipIdx]; simpa using hf
        obtain ⟨arr, a1, a2, a3⟩ := fill_ok hr parts aparts (cur.toList.take off ++ v.cells.toList ++ cur.toList.drop (off + v.cells.toList.length)).toArray (splice xs off cs) res (by simpa using hl)
          (fun i p q a b => hp (i + 1) p q (by simpa using a) (by simpa using b)) (by
            rw [length_splice]
            simp only [List.size_toArray, List.length_append, List.length_take, List.length_drop, Array.length_toList]
            omega) (fun j x hj => by
              rw [spliced _ _ _ (by rw [hlist]; omega), hlist]
              rcases splice_get cs xs off (by omega) j x hj with ⟨b1, b2, b3⟩ | ⟨b1, b2⟩
              · rw [if_pos ⟨b1, b2⟩]
                have := hvc _ x b3
                simpa [List.getD_eq_getElem?_getD, Array.getD_eq_getD_getElem?] using this
              · rw [if_neg (by omega)]; exact hx j x b2) h
        refine ⟨arr, ?_, a2, a3⟩
        simp only [Instr.fill, h1]
        rw [if_neg (by simp; omega)]
        simp only [hf']
        exact a1
      · cases h
    · cases h

end Go.Ab
