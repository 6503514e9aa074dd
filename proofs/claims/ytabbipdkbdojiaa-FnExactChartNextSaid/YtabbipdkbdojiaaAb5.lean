/- The abstract layer, part 5: literals, slices, appends and calls over abstract values are what the loaded program's operations do. Plain lemmas over any program; no condition. -/
import Derived.Test.YtabbipdkbdojiaaAb4
namespace Go.Ab
open Go Go.RowKit
set_option linter.unusedVariables false
set_option linter.unusedSimpArgs false
variable {P : Program} {F : Nat → Prop} {n : Nat} {s : St} {a : Act} {w : World} {o : Oper} {K : AV → Heap → Prop} {Q : Exit → Act → World → Prop}

theorem mapM_get {α β : Type} {f : α → Option β} : ∀ {xs : List α} {ys : List β}, xs.mapM f = some ys → ys.length = xs.length ∧ ∀ (i : Nat) (x : α), xs[i]? = some x → ∃ y, ys[i]? = some y ∧ f x = some y
  | [], ys, h => by simp at h; subst h; exact ⟨rfl, fun i x hx => by simp at hx⟩
  | x :: xs, ys, h => by
    simp only [List.mapM_cons] at h
    cases hx : f x with
    | none => simp [hx] at h
    | some y =>
      cases hxs : xs.mapM f with
      | none => simp [hx, hxs] at h
      | some ys' =>
        simp [hx, hxs] at h; subst h
        obtain ⟨h1, h2⟩ := mapM_get hxs
        refine ⟨by simp [h1], fun i z hz => ?_⟩
        cases i with
        | zero => simp at hz; subst hz; exact ⟨y, rfl, hx⟩
        | succ i => simp at hz; obtain ⟨y', a, b⟩ := h2 i z (by simpa using hz); exact ⟨y', by simpa using a, b⟩

theorem V_parts (hr : Rel P F n s a w) {ps : Array (Nat × Operand)} {qs : List (Nat × Opd)} (h : trParts ps = some qs) : qs.length = ps.size ∧ ∀ (i : Nat) (p : Nat × Operand), ps[i]? = some p → ∃ q, qs[i]? = some q ∧ q.1 = p.1 ∧ V P F w (s.ev q.2) (a.eval p.2) := by
  obtain ⟨h1, h2⟩ := mapM_get h
  refine ⟨by simpa using h1, fun i p hp => ?_⟩
  obtain ⟨q, hq, hf⟩ := h2 i p (by simpa using hp)
  cases hx : trOpd p.2 with
  | none => simp [hx] at hf
  | some y => simp [hx] at hf; subst hf; exact ⟨_, hq, rfl, V_ev hr hx⟩

theorem zeros_V (z : List Value) (arr : Array Value) (h : arr.toList = z) (j : Nat) (x : AV) (hx : (z.map AV.val)[j]? = some x) : V P F w x (arr.getD j undef) := by
  subst h
  rw [List.getElem?_map] at hx
  cases hj : arr.toList[j]? with
  | none => simp [hj] at hx
  | some c =>
    simp [hj] at hx; subst hx
    have : arr.getD j undef = c := by simp at hj; simp [Array.getD_eq_getD_getElem?, hj]
    rw [this]; exact .val c

theorem sound_build {t : TypeId} {parts : Array (Nat × Operand)} {fs : Array Field} {i : TypeInfo} {z : List Value} {ps : List (Nat × Opd)} {qs : List (Nat × Nat × Opd)} (hop : o.op = .build t parts)
    (h0 : P.underlying t = some (.struct fs)) (h1 : trZero P t = some (i, z)) (h2 : trParts parts = some ps)
    (h3 : ps.mapM (fun p => (fs[p.1]?).bind fun f => (P.info? f.type).map fun i => (f.offset, i.size, p.2)) = some qs) (h4 : fs.all (fun f => (P.info? f.type).isSome) = true)
    (hd : okD n o.dst = true) (hr : Rel P F n s a w) (hX : X P (.build z qs) s K) : o.wp P a w (Aft P F n s w o.dst K) Q := by
  obtain ⟨zv, hi, hz, hp⟩ := zeroV h1
  simp only [X] at hX
  split at hX
  case h_2 => exact hX.elim
  rename_i cs hcs
  -- the places of the fields
  have hpl : ∃ pl : Array (Nat × Nat), (fs.mapM fun f => Prod.mk f.offset <$> sizeOf f.type : Sem (Array (Nat × Nat))).run P w = .ok pl w ∧ ∀ (j : Nat) (f : Field) (i' : TypeInfo), fs[j]? = some f → P.info? f.type = some i' → pl[j]? = some (f.offset, i'.size) := by
    have key : ∀ (l : List Field), (∀ f ∈ l, (P.info? f.type).isSome = true) → ∃ pl : List (Nat × Nat), (l.mapM fun f => Prod.mk f.offset <$> sizeOf f.type : Sem (List (Nat × Nat))).run P w = .ok pl w ∧ ∀ (j : Nat) (f : Field) (i' : TypeInfo), l[j]? = some f → P.info? f.type = some i' → pl[j]? = some (f.offset, i'.size) := by
      intro l
      induction l with
      | nil => intro _; exact ⟨[], by simp, fun j f i' h => by simp at h⟩
      | cons f l ih =>
        intro hl
        obtain ⟨pl, e1, e2⟩ := ih (fun g hg => hl g (by simp [hg]))
        obtain ⟨i', hi'⟩ := Option.isSome_iff_exists.1 (hl f (by simp))
        refine ⟨(f.offset, i'.size) :: pl, ?_, fun j g i'' hg hi'' => ?_⟩
        · rw [List.mapM_cons]
          have e0 : (Prod.mk f.offset <$> sizeOf f.type : Sem (Nat × Nat)).run P w = .ok (f.offset, i'.size) w := by simp [sizeOf, typeInfo, hi']
          simp only [Sem.run_bind, e0, Result.andThen_ok, e1, Sem.run_pure]
        · cases j with
          | zero => simp at hg; subst hg; rw [hi'] at hi''; cases hi''; rfl
          | succ j => simp at hg; simpa using e2 j g i'' hg hi''
    obtain ⟨pl, e1, e2⟩ := key fs.toList (fun f hf => by simpa using (Array.all_eq_true_iff_forall_mem.1 h4) f (by simpa using hf))
    refine ⟨pl.toArray, ?_, fun j f i' hf hi' => by simpa using e2 j f i' (by simpa using hf) hi'⟩
    rw [Array.mapM_eq_mapM_toList]
    simp [e1]
  obtain ⟨pl, hplr, hplv⟩ := hpl
  obtain ⟨hl1, hl2⟩ := V_parts hr h2
  obtain ⟨hm1, hm2⟩ := mapM_get h3
  obtain ⟨arr, hf, hsz, hv⟩ := fill_ok (P := P) (F := F) (w := w) (place := (pl[·]?)) (fun _ => trivial) (parts.map fun p => (p.1, a.eval p.2)).toList (qs.map fun p => (p.1, p.2.1, s.ev p.2.2)) zv.cells (z.map .val) cs
    (by simp; omega) (fun j p q hp hq => by
      simp only [Array.toList_map, List.getElem?_map] at hp hq
      cases hp' : parts.toList[j]? with
      | none => simp [hp'] at hp
      | some p0 =>
        simp only [hp', Option.map_some, Option.some.injEq] at hp; subst hp
        obtain ⟨q0, a1, a2, a3⟩ := hl2 j p0 (by simpa using hp')
        obtain ⟨q1, b1, b2⟩ := hm2 j q0 a1
        simp only [b1, Option.map_some, Option.some.injEq] at hq; subst hq
        cases hfs : fs[q0.1]? with
        | none => simp [hfs] at b2
        | some f =>
          cases hfi : P.info? f.type with
          | none => simp [hfs, hfi] at b2
          | some i' =>
            simp [hfs, hfi] at b2; subst b2
            simp only
            rw [← a2]
            exact ⟨hplv _ f i' hfs hfi, a3⟩) (by simp [hp]) (fun j x hx => zeros_V z zv.cells hp.symm j x hx) hcs
  refine sound_val hd hr (v := .agg arr) ?_ (.agg _ _ hsz hv) hX
  have hf' : Instr.fill (fun x => pl[x]?) zv.cells (List.map (fun p => (p.1, a.eval p.2)) parts.toList) = some arr := by simpa using hf
  simp [execOp, hop, Instr.build, zeroValue, typeInfo, hi, hz, run_underlying h0, hplr, hf']

theorem flat_rep (z : List AV) : ∀ (len : Nat), ((List.replicate len z).flatten).length = len * z.length := by
  intro len; induction len with
  | zero => simp
  | succ k ih => simp [List.replicate_succ, ih, Nat.add_mul, Nat.add_comm]

theorem flat_get {sz : Nat} : ∀ {els : List (List AV)} (hs : ∀ e ∈ els, e.length = sz) (i : Nat) (e : List AV) (j : Nat) (x : AV), els[i]? = some e → e[j]? = some x → els.flatten[i * sz + j]? = some x
  | [], _, i, e, j, x, h, _ => by simp at h
  | e0 :: els, hs, i, e, j, x, h, hx => by
    have h0 := hs e0 (by simp)
    cases i with
    | zero =>
      simp at h; subst h
      have hj : j < e0.length := (List.getElem?_eq_some_iff.1 hx).1
      rw [List.flatten_cons, Nat.zero_mul, Nat.zero_add, List.getElem?_append_left hj]; exact hx
    | succ i =>
      simp at h
      rw [List.flatten_cons, List.getElem?_append_right (by rw [h0, Nat.add_mul]; omega), h0, show (i + 1) * sz + j - sz = i * sz + j by rw [Nat.add_mul]; omega]
      exact flat_get (fun e he => hs e (by simp [he])) i e j x h hx
theorem get_flat {sz : Nat} (hz : 0 < sz) : ∀ {els : List (List AV)} (hs : ∀ e ∈ els, e.length = sz) (k : Nat) (x : AV), els.flatten[k]? = some x → ∃ e, els[k / sz]? = some e ∧ e[k % sz]? = some x
  | [], _, k, x, h => by simp at h
  | e0 :: els, hs, k, x, h => by
    have h0 := hs e0 (by simp)
    rw [List.flatten_cons] at h
    by_cases hk : k < sz
    · rw [List.getElem?_append_left (by omega)] at h
      exact ⟨e0, by rw [Nat.div_eq_of_lt hk]; rfl, by rw [Nat.mod_eq_of_lt hk]; exact h⟩
    · rw [List.getElem?_append_right (by omega), h0] at h
      obtain ⟨e, a1, a2⟩ := get_flat hz (fun e he => hs e (by simp [he])) (k - sz) x h
      obtain ⟨d, rfl⟩ : ∃ d, k = d + sz := ⟨k - sz, by omega⟩
      rw [Nat.add_sub_cancel] at a1 a2
      refine ⟨e, ?_, ?_⟩
      · rw [Nat.add_div_right _ hz]; simpa using a1
      · rw [Nat.add_mod_right]; exact a2
theorem length_flat {sz : Nat} : ∀ {els : List (List AV)} (hs : ∀ e ∈ els, e.length = sz), els.flatten.length = els.length * sz
  | [], _ => by simp
  | e0 :: els, hs => by
    rw [List.flatten_cons, List.length_append, hs e0 (by simp), length_flat (fun e he => hs e (by simp [he])), List.length_cons, Nat.add_mul]; omega

/-- A row of one zero value after the other. -/
theorem zeros_row (z : List Value) (hz : 0 < z.length) (arr : Array Value) (h : arr.toList = z) (len : Nat) (j : Nat) (x : AV) (hx : ((List.replicate len (z.map AV.val)).flatten)[j]? = some x) :
    V P F w x (((Array.range (len * z.length)).map (arr[· % arr.size]!)).getD j undef) := by
  have hs : ∀ e ∈ List.replicate len (z.map AV.val), e.length = z.length := fun e he => by rw [(List.mem_replicate.1 he).2]; simp
  obtain ⟨e, a1, a2⟩ := get_flat (sz := z.length) hz hs j x hx
  have ha := (List.getElem?_eq_some_iff.1 a1)
  obtain ⟨hlt, he⟩ := ha
  simp at he; subst he
  have hj : j < len * z.length := by
    have : j / z.length < len := by simpa using hlt
    exact (Nat.div_lt_iff_lt_mul hz).1 this
  have hsz : arr.size = z.length := by rw [← h]; simp
  have hV := zeros_V (P := P) (F := F) (w := w) z arr h _ x a2
  have hmod : j % z.length < arr.size := by rw [hsz]; exact Nat.mod_lt _ hz
  have e1 : ((Array.range (len * z.length)).map (arr[· % arr.size]!)).getD j undef = arr.getD (j % z.length) undef := by
    simp [Array.getD_eq_getD_getElem?, hj, hsz, hmod, Nat.mod_lt _ hz]
  rw [e1]; exact hV

theorem shape_new (w : World) (arr : Array Value) (e : TypeId) : (w.alloc (.cells arr e)).shape? w.heap.size = some (e, arr.size) := by
  simp only [World.shape?, heap_alloc_new w _]

theorem sound_bslice {t e : TypeId} {len : Nat} {parts : Array (Nat × Operand)} {i : TypeInfo} {z : List Value} {ps : List (Nat × Opd)} (hop : o.op = .buildSlice t len parts)
    (h0 : P.underlying t = some (.slice e)) (h1 : trZero P e = some (i, z)) (h2 : trParts parts = some ps) (h3 : len * i.size ≤ 2 ^ 24) (h4 : z.length = i.size) (h5 : 0 < i.size)
    (hd : okD n o.dst = true) (hr : Rel P F n s a w) (hX : X P (.bslice e len i.size z ps) s K) : o.wp P a w (Aft P F n s w o.dst K) Q := by
  obtain ⟨zv, hi, hz, hp⟩ := zeroV h1
  simp only [X] at hX
  split at hX
  case h_2 => exact hX.elim
  rename_i cs hcs
  obtain ⟨hl1, hl2⟩ := V_parts hr h2
  have hzs : zv.cells.size = i.size := by rw [← h4, hp]; simp
  obtain ⟨arr, hf, hsz, hv⟩ := fill_ok (P := P) (F := F) (w := w) (place := fun j => some (j * i.size, i.size)) (fun _ => trivial) (parts.map fun p => (p.1, a.eval p.2)).toList (ps.map fun p => (p.1 * i.size, i.size, s.ev p.2))
    ((Array.range (len * i.size)).map (zv.cells[· % zv.cells.size]!)) ((List.replicate len (z.map AV.val)).flatten) cs
    (by simp; omega) (fun j p q hp hq => by
      simp only [Array.toList_map, List.getElem?_map] at hp hq
      cases hp' : parts.toList[j]? with
      | none => simp [hp'] at hp
      | some p0 =>
        simp only [hp', Option.map_some, Option.some.injEq] at hp; subst hp
        obtain ⟨q0, a1, a2, a3⟩ := hl2 j p0 (by simpa using hp')
        simp only [a1, Option.map_some, Option.some.injEq] at hq; subst hq
        simp only
        rw [← a2]
        exact ⟨rfl, a3⟩) (by simp [flat_rep, h4]) (fun j x hx => by rw [← h4]; exact zeros_row z (by omega) zv.cells hp.symm len j x hx) hcs
  have hcl : cs.length = len * i.size := by
    have key : ∀ (ps : List (Nat × Nat × AV)) (xs res : List AV), fillA xs ps = some res → res.length = xs.length := by
      intro ps
      induction ps with
      | nil => intro xs res h; simp [fillA] at h; rw [h]
      | cons p ps ih =>
        obtain ⟨o', k, x⟩ := p
        intro xs res h
        simp only [fillA] at h
        split at h
        · split at h
          · rw [ih _ _ h, length_splice]
          · cases h
        · cases h
    rw [key _ _ _ hcs, flat_rep]; simp [h4]
  refine sound_to hd hr (v := .slice (some ⟨w.heap.size, 0, none⟩) len len) (w' := w.alloc (.cells arr e)) ?_ (step_new hr.heap hr.dom _ _) (heap_new hr.heap hr.dom e arr cs (by omega) hv) (.own _ len len e (Nat.le_refl _) ?_) (hX _ (fresh hr.heap))
  · have hf' : Instr.fill (fun j => some (j * i.size, i.size)) ((Array.range (len * i.size)).map (zv.cells[· % zv.cells.size]!)) (List.map (fun p => (p.1, a.eval p.2)) parts.toList) = some arr := by simpa using hf
    have hbig : ¬ (2 ^ 24 < len * i.size) := by omega
    by_cases hlen : len * i.size = 0
    · have : len = 0 := by rcases Nat.mul_eq_zero.1 hlen with h | h <;> omega
      subst this
      have hf2 : Instr.fill (fun j => some (j * i.size, i.size)) #[] (List.map (fun p => (p.1, a.eval p.2)) parts.toList) = some arr := by
        rw [← hf']; congr 1; simp [Array.range_zero']
      simp [execOp, hop, Instr.buildSlice, run_underlying h0, sizeOf, typeInfo, hi, newRow, Array.range_zero', hf2]
    · simp [execOp, hop, Instr.buildSlice, run_underlying h0, sizeOf, typeInfo, hi, hbig, hlen, zeroValue, hz, newRow, hf']
  · rw [shape_new, hsz, hcl]; simp [Program.cellsOf, hi]

theorem sound_mks {t e : TypeId} {x y : Operand} {x' y' : Opd} {i : TypeInfo} {z : List Value} (hop : o.op = .makeSlice t x y) (h0 : P.underlying t = some (.slice e)) (h1 : trZero P e = some (i, z)) (h4 : z.length = i.size) (h5 : 0 < i.size) (h6 : i.bytes ≤ 16384)
    (hx : trOpd x = some x') (hy : trOpd y = some y') (hd : okD n o.dst = true) (hr : Rel P F n s a w) (hX : X P (.mks e i.size z x' y') s K) : o.wp P a w (Aft P F n s w o.dst K) Q := by
  obtain ⟨zv, hi, hz, hp⟩ := zeroV h1
  have hv := V_ev hr hx
  have hv' := V_ev hr hy
  simp only [X] at hX
  split at hX
  · rename_i k m k' m' e1 e2
    rw [e1] at hv; rw [e2] at hv'
    obtain ⟨rfl, m0, m1, hK⟩ := hX
    generalize hav : a.eval x = v at hv
    generalize hav' : a.eval y = v' at hv'
    cases hv; cases hv'
    have hzs : zv.cells.size = i.size := by rw [← h4, hp]; simp
    have hb : (i.bytes : Int) * m ≤ 281474976710656 := by
      have h1 : (i.bytes : Int) * m ≤ 16384 * 4294967296 := Int.mul_le_mul (by omega) m1 m0 (by omega)
      omega
    have hrun := run_make (P := P) w t e i zv h0 hi hz k k' m m m0 (Int.le_refl _) hb (by omega)
    refine sound_to hd hr (v := .slice (some ⟨w.heap.size, 0, none⟩) m.toNat m.toNat) (w' := w.alloc (.cells (madeCells zv.cells (m.toNat * i.size)) e)) ?_ (step_new hr.heap hr.dom _ _)
      (heap_new hr.heap hr.dom e _ ((List.replicate m.toNat (z.map AV.val)).flatten) (by simp [flat_rep, size_madeCells, h4]) fun j x hx => by
        have := zeros_row (P := P) (F := F) (w := w) z (by omega) zv.cells hp.symm m.toNat j x hx
        simpa [madeCells, h4] using this) (.own _ _ _ e (Nat.le_refl _) ?_) (hK _ (fresh hr.heap))
    · simp [execOp, hop, hav, hav', hrun]
    · rw [shape_new, size_madeCells]; simp [Program.cellsOf, hi]
  · exact hX.elim

end Go.Ab
