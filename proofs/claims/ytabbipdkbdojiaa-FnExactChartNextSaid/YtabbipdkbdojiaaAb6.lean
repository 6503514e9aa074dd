/- The abstract layer, part 6: what slices hold, appends, cuts and calls. Plain lemmas over any program; no condition. -/
import Derived.Test.YtabbipdkbdojiaaAb5
namespace Go.Ab
open Go Go.RowKit
set_option linter.unusedVariables false
set_option linter.unusedSimpArgs false
variable {P : Program} {F : Nat → Prop} {n : Nat} {s : St} {a : Act} {w : World} {o : Oper} {K : AV → Heap → Prop} {Q : Exit → Act → World → Prop}

theorem src_real {h : Heap} (hr : HeapRel P F w h) {y : AV} {v : Value} (hv : V P F w y v) {sz : Nat} (hsz : 0 < sz) {K : Nat → List AV → Prop} (hs : src h sz y K) :
    ∃ (m : Nat) (cells : List AV) (ad : Option Addr) (cap : Nat) (news : List Value), K m cells ∧ v = .slice ad m cap ∧ cells.length = m * sz ∧ news.length = m * sz ∧ (ad = none → m = 0) ∧
      (∀ a0, ad = some a0 → ∀ (j : Nat) (u : Value), news[j]? = some u → w.cell? (a0.add j) = some u) ∧ ∀ (j : Nat) (x : AV), cells[j]? = some x → V P F w x (news.getD j undef) := by
  unfold src at hs
  split at hs
  · rename_i t els
    obtain ⟨hl, hK⟩ := hs
    cases hv with
    | immE t a' cap ht => exact ⟨0, [], a', cap, [], by simpa using hK, rfl, by simp, by simp, fun _ => rfl, fun _ _ j u hu => by simp at hu, fun j x hx => by simp at hx⟩
    | imm t _ b off cap sz' c hcap ht hF hss hc hcv =>
      refine ⟨els.length, els.flatten, some ⟨b, off, none⟩, cap, (List.range (els.length * sz)).map fun k => c (k / sz) (k % sz), hK, rfl, length_flat hl, by simp, (fun h => by cases h), fun a0 ha j u hu => ?_, fun j x hx => ?_⟩
      · cases ha
        rw [List.getElem?_map] at hu
        have hj : j < els.length * sz := by
          rcases Nat.lt_or_ge j (els.length * sz) with h | h
          · exact h
          · rw [List.getElem?_eq_none (by simpa using h)] at hu; simp at hu
        rw [List.getElem?_range hj] at hu
        simp at hu; subst hu
        obtain ⟨e, e1, e2⟩ := get_flat hsz hl j (els.flatten.getD j .junk) (by rw [List.getD_eq_getElem?_getD, List.getElem?_eq_getElem (by rw [length_flat hl]; exact hj)]; simp)
        have hs' : sz' = sz := (hss _ _ e1).symm.trans (hl e (List.mem_of_getElem? e1))
        have := hc _ _ _ _ e1 e2
        rw [hs', Nat.div_add_mod' j sz] at this
        rw [Addr.add_lit]; exact this
      · obtain ⟨e, e1, e2⟩ := get_flat hsz hl j x hx
        have hj : j < els.length * sz := by rw [← length_flat hl]; exact (List.getElem?_eq_some_iff.1 hx).1
        have := hcv _ _ _ _ e1 e2
        simpa [List.getD_eq_getElem?_getD, List.getElem?_map, List.getElem?_range hj] using this
  · rename_i b m
    split at hs
    · rename_i e cells hb
      obtain ⟨hle, hK⟩ := hs
      obtain ⟨hFb, arr, harr, hl, hcv⟩ := hr b _ hb
      cases hv with
      | own _ _ cap e' hn hsh =>
        refine ⟨m, cells.take (m * sz), some ⟨b, 0, none⟩, cap, arr.toList.take (m * sz), hK, rfl, by simp; omega, by simp; omega, (fun h => by cases h), fun a0 ha j u hu => ?_, fun j x hx => ?_⟩
        · cases ha
          rw [Addr.add_lit, Nat.zero_add, cell_of_row w b j arr e _ harr]
          rw [List.getElem?_take] at hu
          split at hu
          · simpa using hu
          · cases hu
        · rw [List.getElem?_take] at hx
          split at hx
          · rename_i hj
            have := hcv j x hx
            simpa [List.getD_eq_getElem?_getD, List.getElem?_take, hj, Array.getD_eq_getD_getElem?] using this
          · cases hx
    · exact hs.elim
  · rename_i cap
    cases hv
    exact ⟨0, [], none, cap, [], hs, rfl, by simp, by simp, fun _ => rfl, fun _ h => by (cases h), fun j x hx => by simp at hx⟩
  · exact hs.elim

theorem run_append_zero (w : World) (t ty e : TypeId) (i : TypeInfo) (ht : P.underlying t = some (.slice e)) (hi : P.info? e = some i) (base ad : Option Addr) (l cap c : Nat) (h : l ≤ cap) :
    (Builtin.append_ #[t, t] ty #[.slice base l cap, .slice ad 0 c]).run P w = .ok (.slice base l cap) w := by
  cases ad <;> cases base <;> simp [Builtin.append_, run_underlying ht, sizeOf, typeInfo, hi, Builtin.lenOf, h, Builtin.firstCells, loadCells, loadCellsFrom, storeCells]

theorem step_dom {h h' : Heap} (hd : ∀ b, h' b ≠ none → h b ≠ none) : Step F h w F h' w :=
  ⟨rfl, rfl, rfl, Nat.le_refl _, fun _ h => h, fun _ _ _ => rfl, fun _ h => .inl h, fun b hb => .inl (hd b hb), fun _ _ h => h⟩

theorem drew_cell (w : World) (x : Addr) : w.drew.cell? x = w.cell? x := rfl
theorem V.drew {x : AV} {v : Value} (h : V P F w x v) : V P F w.drew x v := h.mono (w := w) (w' := w.drew) (fun _ h => h) (fun _ _ _ => rfl) (fun _ _ h => h)
theorem HeapRel.drew {h : Heap} (hr : HeapRel P F w h) : HeapRel P F w.drew h := fun b k hk => ⟨(hr b k hk).1, (hr b k hk).2.mono (w := w) (w' := w.drew) (fun _ h => h) (fun _ _ _ => rfl) (fun _ _ h => h) rfl⟩
theorem Step.drew (F : Nat → Prop) (h : Heap) (w : World) : Step F h w F h w.drew := ⟨rfl, rfl, rfl, Nat.le_refl _, fun _ h => h, fun _ _ _ => rfl, fun _ h => .inl h, fun _ h => .inl h, fun _ _ h => h⟩

theorem heap_new' {h : Heap} (hr : HeapRel P F w h) (hdom : ∀ b, F b → b < w.heap.size) (e : TypeId) (arr : Array Value) (xs : List AV) (hl : xs.length ≤ arr.size)
    (hx : ∀ (j : Nat) (x : AV), xs[j]? = some x → V P F w x (arr.getD j undef)) : HeapRel P F (w.drew.alloc (.cells arr e)) (h.set w.heap.size (.row e xs)) :=
  heap_new (s := ⟨fun _ => .junk, h⟩) (w := w.drew) hr.drew hdom e arr xs hl fun j x hj => (hx j x hj).drew

theorem step_new' {h : Heap} (hr : HeapRel P F w h) (hdom : ∀ b, F b → b < w.heap.size) (k : Blk) (ob : Obj) : Step F h w F (h.set w.heap.size k) (w.drew.alloc ob) :=
  (Step.drew F h w).trans (step_new (s := ⟨fun _ => .junk, h⟩) (w := w.drew) hr.drew hdom k ob)

theorem shape_new' (w : World) (arr : Array Value) (e : TypeId) : (w.drew.alloc (.cells arr e)).shape? w.heap.size = some (e, arr.size) := shape_new w.drew arr e

theorem sound_app {t e : TypeId} {x y : Operand} {x' y' : Opd} {i : TypeInfo} (hop : o.op = .call { callee := .builtin .append, args := #[x, y], argTypes := #[t, t] })
    (h0 : P.underlying t = some (.slice e)) (h1 : P.info? e = some i) (h2 : 0 < i.size) (h3 : i.bytes ≤ 16384) (h4 : (i.zero.map (·.cells.size)) = some i.size) (hx : trOpd x = some x') (hy : trOpd y = some y')
    (hd : okD n o.dst = true) (hr : Rel P F n s a w) (hX : X P (.app e i.size x' y') s K) : o.wp P a w (Aft P F n s w o.dst K) Q := by
  obtain ⟨z, hz, hzs⟩ : ∃ z, i.zero = some z ∧ z.cells.size = i.size := by
    cases hz : i.zero with
    | none => simp [hz] at h4
    | some z => exact ⟨z, rfl, by simpa [hz] using h4⟩
  have hcell : P.cellsOf e = i.size := by simp [Program.cellsOf, h1]
  have hv := V_ev hr hx
  have hv' := V_ev hr hy
  simp only [X] at hX
  obtain ⟨m, new, ad, c, news, hK, hav', hnl, hnsl, hnil, hcells, hnv⟩ := src_real hr.heap hv' h2 hX
  have hexec : (execOp a.eval o).run P w = ((Builtin.append_ #[t, t] o.type #[a.eval x, a.eval y]).run P w).andThen fun v w' => .ok (.value v) w' := by
    simp [execOp, hop, resolve, invoke, builtin]
  rw [hav'] at hexec
  generalize hav : a.eval x = v at hv
  rw [hav] at hexec
  have hmul : ∀ k, k ≤ 4294967296 → k * i.bytes ≤ 140737488355328 := fun k hk => Nat.le_trans (Nat.mul_le_mul hk h3) (by decide)
  unfold px_app at hK
  split at hK
  · rename_i hev
    rw [hev] at hv
    cases hv
    obtain ⟨hK0, hK1⟩ := hK
    by_cases hm : m = 0
    · subst hm
      have hrun := run_append_zero (P := P) w t o.type e i h0 h1 none ad 0 0 c (Nat.le_refl _)
      rw [hrun] at hexec
      exact sound_val hd hr hexec (.val _) (hK0 rfl)
    · obtain ⟨hm1, hK2⟩ := hK1 (by omega)
      obtain ⟨a0, rfl⟩ : ∃ a0, ad = some a0 := by cases ad with | none => exact absurd (hnil rfl) hm | some a0 => exact ⟨a0, rfl⟩
      have hrun := run_append_nil (P := P) w t o.type e i z h0 h1 hz a0 m c news hnsl (hcells a0 rfl) (by omega) (by omega) (by have := hmul m hm1; omega)
      rw [hrun] at hexec
      have hge := grownCap_ge w m 0 e
      have hsz : (news.toArray ++ Builtin.zeroCells z.cells (grownCap w m 0 e - m)).size = grownCap w m 0 e * i.size := by
        simp only [Array.size_append, List.size_toArray, size_zeroCells, hzs, hnsl, ← Nat.add_mul]; congr 1; omega
      refine sound_to hd hr hexec (step_new' hr.heap hr.dom (.row e new) _) (heap_new' hr.heap hr.dom e _ new (by rw [hsz, hnl]; exact Nat.mul_le_mul_right _ hge) fun j x hj => ?_) (.own _ _ _ e hge ?_) (hK2 _ (fresh hr.heap))
      · have hj' : j < news.length := by have := (List.getElem?_eq_some_iff.1 hj).1; omega
        have := hnv j x hj
        have e1 : (news.toArray ++ Builtin.zeroCells z.cells (grownCap w m 0 e - m)).getD j undef = news.getD j undef := by
          simp [Array.getD_eq_getD_getElem?, List.getD_eq_getElem?_getD, Array.getElem?_append_left (show j < news.toArray.size by simpa using hj')]
        rwa [e1]
      · rw [shape_new', hsz, hcell]
  · rename_i b k hev
    rw [hev] at hv
    split at hK
    · rename_i e' cells hb
      obtain ⟨rfl, hle, hbd, hone, hK⟩ := hK
      obtain ⟨hFb, arr, harr, hl, hcv⟩ := hr.heap b _ hb
      cases hv with
      | own _ _ cap e2 hn hsh =>
        have hse : e2 = e' ∧ cap * i.size = arr.size := by
          simp only [World.shape?, harr, Option.some.injEq, Prod.mk.injEq] at hsh
          obtain ⟨rfl, h⟩ := hsh
          exact ⟨rfl, by rw [h, hcell]⟩
        obtain ⟨rfl, hcs⟩ := hse
        by_cases hm : m = 0
        · subst hm
          have hrun := run_append_zero (P := P) w t o.type e2 i h0 h1 (some ⟨b, 0, none⟩) ad k cap c hn
          rw [hrun] at hexec
          refine sound_to hd hr hexec (step_dom fun j hj => ?_) (fun j kk hk => ?_) (.own b k cap e2 hn hsh) (by simpa using hK b (.inl rfl))
          · by_cases h : j = b
            · subst h; rw [hb]; simp
            · rw [Heap.set_ne _ _ h] at hj; exact hj
          · by_cases h : j = b
            · subst h
              rw [Heap.set_same] at hk; cases hk
              have : new = [] := List.eq_nil_of_length_eq_zero (by omega)
              subst this
              refine ⟨hFb, arr, harr, by simp; omega, fun j x hj => hcv j x ?_⟩
              rw [List.append_nil, List.getElem?_take] at hj
              split at hj
              · exact hj
              · cases hj
            · rw [Heap.set_ne _ _ h] at hk; exact hr.heap j kk hk
        · obtain ⟨a0, rfl⟩ : ∃ a0, ad = some a0 := by cases ad with | none => exact absurd (hnil rfl) hm | some a0 => exact ⟨a0, rfl⟩
          by_cases hroom : k + m ≤ cap
          · have hfit : k * i.size + news.length ≤ arr.size := by rw [hnsl, ← hcs, ← Nat.add_mul]; exact Nat.mul_le_mul_right _ hroom
            have hone' : ∀ u ∈ news, u.oneCell' = true := by
              intro u hu
              obtain ⟨j, hj, rfl⟩ := List.getElem_of_mem hu
              have hj' : j < new.length := by omega
              have := hnv j new[j] (by simp [hj'])
              have := one_of this (hone _ (List.getElem_mem hj'))
              simpa [List.getD_eq_getElem?_getD, hj] using this
            have hrun := run_append_room (P := P) w t o.type e2 i h0 h1 b k cap arr harr a0 m c news hnsl (hcells a0 rfl) hone' hroom hfit
            rw [hrun] at hexec
            have hsz : ((arr.toList.take (k * i.size) ++ news ++ arr.toList.drop (k * i.size + news.length)).toArray).size = arr.size := by
              simp only [List.size_toArray, List.length_append, List.length_take, List.length_drop, Array.length_toList]; omega
            have hlen : (cells.take (k * i.size) ++ new).length = k * i.size + m * i.size := by
              rw [List.length_append, List.length_take, hnl]; omega
            refine sound_to hd hr hexec (step_setRow (ys := []) hr.heap hb harr hsz _) (heap_setRow hr.heap hb harr hsz (by rw [hsz, hlen, ← Nat.add_mul, ← hcs]; exact Nat.mul_le_mul_right _ hroom) fun j x hj => ?_) (.own b _ cap e2 hroom (shape_setRow w b arr _ e2 (0, 0) harr hsz b _ hsh)) (hK b (.inl rfl))
            rw [spliced _ _ _ hfit]
            by_cases hjk : j < k * i.size
            · rw [if_neg (by omega)]
              rw [List.getElem?_append_left (by simp; omega), List.getElem?_take_of_lt hjk] at hj
              exact hcv j x hj
            · rw [List.getElem?_append_right (by simp; omega)] at hj
              have hmin : (cells.take (k * i.size)).length = k * i.size := by simp; omega
              rw [hmin] at hj
              have := (List.getElem?_eq_some_iff.1 hj).1
              rw [if_pos (by omega)]
              exact hnv _ x hj
          · have holds : ∀ (j : Nat) (u : Value), (arr.toList.take (k * i.size))[j]? = some u → w.cell? ((⟨b, 0, none⟩ : Addr).add j) = some u := by
              intro j u hu
              rw [Addr.add_lit, Nat.zero_add, cell_of_row w b j arr e2 _ harr]
              rw [List.getElem?_take] at hu
              split at hu
              · simpa using hu
              · cases hu
            have hol : (arr.toList.take (k * i.size)).length = k * i.size := by
              simp only [List.length_take, Array.length_toList]; omega
            have hrun := run_append_grow (P := P) w t o.type e2 i z h0 h1 hz ⟨b, 0, none⟩ k cap (arr.toList.take (k * i.size)) hol holds a0 m c news hnsl (hcells a0 rfl) (by omega) (by omega) (growslice_fits (by omega) (hmul _ hbd))
            rw [hrun] at hexec
            have hge := grownCap_ge w (k + m) cap e2
            have hsz : ((arr.toList.take (k * i.size)).toArray ++ news.toArray ++ Builtin.zeroCells z.cells (grownCap w (k + m) cap e2 - (k + m))).size = grownCap w (k + m) cap e2 * i.size := by
              simp only [Array.size_append, List.size_toArray, size_zeroCells, hzs, hnsl, hol, ← Nat.add_mul]; congr 1; omega
            have hlen : (cells.take (k * i.size) ++ new).length = k * i.size + m * i.size := by
              rw [List.length_append, List.length_take, hnl]; omega
            refine sound_to hd hr hexec (step_new' hr.heap hr.dom (.row e2 (cells.take (k * i.size) ++ new)) _) (heap_new' hr.heap hr.dom e2 _ _ (by rw [hsz, hlen, ← Nat.add_mul]; exact Nat.mul_le_mul_right _ hge) fun j x hj => ?_) (.own _ _ _ e2 hge ?_) (hK _ (.inr (fresh hr.heap)))
            · by_cases hjk : j < k * i.size
              · rw [List.getElem?_append_left (by simp; omega), List.getElem?_take_of_lt hjk] at hj
                have e1 : ((arr.toList.take (k * i.size)).toArray ++ news.toArray ++ Builtin.zeroCells z.cells (grownCap w (k + m) cap e2 - (k + m))).getD j undef = arr.getD j undef := by
                  rw [Array.getD_eq_getD_getElem?, Array.append_assoc, Array.getElem?_append_left (by simp only [List.size_toArray]; omega)]
                  simp [List.getElem?_take_of_lt hjk, Array.getD_eq_getD_getElem?]
                rw [e1]; exact hcv j x hj
              · have hmin : (cells.take (k * i.size)).length = k * i.size := by simp; omega
                rw [List.getElem?_append_right (by omega), hmin] at hj
                have hj3 := (List.getElem?_eq_some_iff.1 hj).1
                have e1 : ((arr.toList.take (k * i.size)).toArray ++ news.toArray ++ Builtin.zeroCells z.cells (grownCap w (k + m) cap e2 - (k + m))).getD j undef = news.getD (j - k * i.size) undef := by
                  rw [Array.getD_eq_getD_getElem?, Array.getElem?_append_left (by simp only [Array.size_append, List.size_toArray]; omega), Array.getElem?_append_right (by simp only [List.size_toArray]; omega)]
                  simp only [List.size_toArray, hol, List.getElem?_toArray, List.getD_eq_getElem?_getD]
                rw [e1]; exact hnv _ x hj
            · rw [shape_new', hsz, hcell]
    · exact hK.elim
  · rename_i els hev
    rw [hev] at hv
    obtain ⟨hm, hls, hbd, hK⟩ := hK
    obtain ⟨a0, rfl⟩ : ∃ a0, ad = some a0 := by cases ad with | none => exact absurd (hnil rfl) (by omega) | some a0 => exact ⟨a0, rfl⟩
    have hsrc : src s.h i.size (.imm true els) fun m' c' => m' = els.length ∧ c' = els.flatten := ⟨hls, rfl, rfl⟩
    obtain ⟨m', cells, ad', cap, olds, ⟨rfl, rfl⟩, hvv, hol1, hol, hnil', hcells', holv⟩ := src_real hr.heap hv h2 hsrc
    have hcap : cap = els.length := by
      cases hv with
      | immE _ a' cap' ht => cases hvv; simpa using ht rfl
      | imm _ _ b off cap' sz c hcap ht => cases hvv; exact ht rfl
    subst hvv hcap
    have hge := grownCap_ge w (els.length + m) els.length e
    cases ad' with
    | none =>
      have h0' := hnil' rfl
      have hel : els = [] := List.eq_nil_of_length_eq_zero h0'
      subst hel
      have hrun := run_append_nil (P := P) w t o.type e i z h0 h1 hz a0 m c news hnsl (hcells a0 rfl) (by omega) (by omega) (by have := hmul m (by simpa using hbd); omega)
      simp only [List.length_nil] at hexec
      rw [hrun] at hexec
      have hge := grownCap_ge w m 0 e
      have hsz : (news.toArray ++ Builtin.zeroCells z.cells (grownCap w m 0 e - m)).size = grownCap w m 0 e * i.size := by
        simp only [Array.size_append, List.size_toArray, size_zeroCells, hzs, hnsl, ← Nat.add_mul]; congr 1; omega
      have hK' := hK _ (fresh hr.heap)
      simp only [List.length_nil, Nat.zero_add, List.flatten_nil, List.nil_append] at hK'
      refine sound_to hd hr hexec (step_new' hr.heap hr.dom (.row e new) _) (heap_new' hr.heap hr.dom e _ new (by rw [hsz, hnl]; exact Nat.mul_le_mul_right _ hge) fun j x hj => ?_) (.own _ _ _ e hge ?_) hK'
      · have hj' : j < news.length := by have := (List.getElem?_eq_some_iff.1 hj).1; omega
        have := hnv j x hj
        have e1 : (news.toArray ++ Builtin.zeroCells z.cells (grownCap w m 0 e - m)).getD j undef = news.getD j undef := by
          simp [Array.getD_eq_getD_getElem?, List.getD_eq_getElem?_getD, Array.getElem?_append_left (show j < news.toArray.size by simpa using hj')]
        rwa [e1]
      · rw [shape_new', hsz, hcell]
    | some b0 =>
      have hrun := run_append_grow (P := P) w t o.type e i z h0 h1 hz b0 els.length els.length olds hol (hcells' b0 rfl) a0 m c news hnsl (hcells a0 rfl) (by omega) (by omega) (growslice_fits (by omega) (hmul _ hbd))
      rw [hrun] at hexec
      have hsz : (olds.toArray ++ news.toArray ++ Builtin.zeroCells z.cells (grownCap w (els.length + m) els.length e - (els.length + m))).size = grownCap w (els.length + m) els.length e * i.size := by
        simp only [Array.size_append, List.size_toArray, size_zeroCells, hzs, hnsl, hol, ← Nat.add_mul]; congr 1; omega
      have hlen : (els.flatten ++ new).length = els.length * i.size + m * i.size := by
        rw [List.length_append, hnl, hol1]
      refine sound_to hd hr hexec (step_new' hr.heap hr.dom (.row e (els.flatten ++ new)) _) (heap_new' hr.heap hr.dom e _ _ (by rw [hsz, hlen, ← Nat.add_mul]; exact Nat.mul_le_mul_right _ hge) fun j x hj => ?_) (.own _ _ _ e hge ?_) (hK _ (fresh hr.heap))
      · by_cases hjk : j < els.length * i.size
        · rw [List.getElem?_append_left (by omega)] at hj
          have e1 : (olds.toArray ++ news.toArray ++ Builtin.zeroCells z.cells (grownCap w (els.length + m) els.length e - (els.length + m))).getD j undef = olds.getD j undef := by
            rw [Array.getD_eq_getD_getElem?, Array.append_assoc, Array.getElem?_append_left (by simp only [List.size_toArray]; omega)]
            simp [List.getD_eq_getElem?_getD]
          rw [e1]; exact holv j x hj
        · rw [List.getElem?_append_right (by omega), hol1] at hj
          have hj3 := (List.getElem?_eq_some_iff.1 hj).1
          have e1 : (olds.toArray ++ news.toArray ++ Builtin.zeroCells z.cells (grownCap w (els.length + m) els.length e - (els.length + m))).getD j undef = news.getD (j - els.length * i.size) undef := by
            rw [Array.getD_eq_getD_getElem?, Array.getElem?_append_left (by simp only [Array.size_append, List.size_toArray]; omega), Array.getElem?_append_right (by simp only [List.size_toArray]; omega)]
            simp only [List.size_toArray, hol, List.getElem?_toArray, List.getD_eq_getElem?_getD]
          rw [e1]; exact hnv _ x hj
      · rw [shape_new', hsz, hcell]
  · exact hK.elim

end Go.Ab
