/- The abstract layer, part 3: further operations over abstract values are what the loaded program's operations do. Plain lemmas over any program; no condition. -/
import Derived.Test.YtabbipdkbdojiaaAb2
namespace Go.Ab
open Go Go.RowKit
set_option linter.unusedVariables false
variable {P : Program} {F : Nat → Prop} {n : Nat} {s : St} {a : Act} {w : World} {o : Oper} {K : AV → Heap → Prop} {Q : Exit → Act → World → Prop}

theorem sound_mv {x : Operand} {x' : Opd} (hop : o.op = .move x ∨ o.op = .assign x) (hx : trOpd x = some x') (hd : okD n o.dst = true) (hr : Rel P F n s a w) (hX : X P (.mv x') s K) : o.wp P a w (Aft P F n s w o.dst K) Q := by
  refine sound_val hd hr ?_ (V_ev hr hx) hX
  rcases hop with hop | hop <;> simp [execOp, hop]

theorem sound_pick {c x y : Operand} {c' x' y' : Opd} (hop : o.op = .pick c x y) (hc : trOpd c = some c') (hx : trOpd x = some x') (hy : trOpd y = some y') (hd : okD n o.dst = true) (hr : Rel P F n s a w) (hX : X P (.pick c' x' y') s K) : o.wp P a w (Aft P F n s w o.dst K) Q := by
  have hv := V_ev hr hc
  simp only [X] at hX
  split at hX
  · rename_i t hev
    rw [hev] at hv
    generalize hav : a.eval c = v at hv
    cases hv
    cases t with
    | true => exact sound_val hd hr (v := a.eval x) (by simp [execOp, hop, hav, asBool]) (V_ev hr hx) (hX.1 rfl)
    | false => exact sound_val hd hr (v := a.eval y) (by simp [execOp, hop, hav, asBool]) (V_ev hr hy) (hX.2 rfl)
  · exact hX.elim

theorem dec_eq (p q : Int) : (p == q) = decide (p = q) := by by_cases h : p = q <;> simp [h]
theorem dec_ne (p q : Int) : (p != q) = !decide (p = q) := by simp [bne, dec_eq]
theorem run_ibin {op : BinOp} {t : TypeId} {k : IntKind} {p q : Int} {K : AV → Prop} (h : ibin op k p q K) : ∃ v, (binOp op t (.int k p) (.int k q)).run P w = .ok v w ∧ K (.val v) := by
  cases op <;> simp only [ibin] at h
  case eql => exact ⟨.bool (p == q), by simp [go_sem], by rw [dec_eq]; exact h⟩
  case neq => exact ⟨.bool (p != q), by simp [go_sem], by rw [dec_ne]; exact h⟩
  all_goals first
    | exact h.elim
    | exact ⟨_, by simp [go_sem, Op.intArith], h⟩
    | exact ⟨_, by simp [go_sem, Op.intDiv, h.1], h.2⟩
    | exact ⟨_, by simp [go_sem], by simpa using h⟩
theorem dec_str (p q : ByteArray) : (p.toList == q.toList) = decide (p = q) := by
  have e : p = q ↔ p.toList = q.toList := ⟨fun h => by rw [h], fun h => by
    rw [ByteArray.toList_eq, ByteArray.toList_eq] at h
    cases p; cases q; simpa using h⟩
  by_cases h : p = q
  · subst h; simp
  · have h' : ¬ p.toList = q.toList := fun h' => h (e.2 h')
    simp [h, h']
theorem run_sbin {op : BinOp} {t : TypeId} {p q : ByteArray} {K : AV → Prop} (h : sbin op p q K) : ∃ v, (binOp op t (.string p) (.string q)).run P w = .ok v w ∧ K (.val v) := by
  cases op <;> simp only [sbin] at h
  case eql => exact ⟨.bool (p.toList == q.toList), by simp [go_sem], by rw [dec_str]; exact h⟩
  case neq => exact ⟨.bool (!(p.toList == q.toList)), by simp [go_sem], by rw [dec_str]; exact h⟩
  case add => exact ⟨_, by simp [go_sem, run_string_add_sum w p q h.1], h.2⟩
  case gtr => exact ⟨.bool (!Op.bytesLess p.toList q.toList && !(p.toList == q.toList)), by simp [binOp, Op.stringOp], by rw [dec_str]; exact h⟩
  all_goals first
    | exact h.elim
    | exact ⟨_, by simp [go_sem], h⟩
theorem run_bbin {op : BinOp} {t : TypeId} {p q : Bool} {K : AV → Prop} (ht : P.underlying t = some .bool) (h : bbin op p q K) : ∃ v, (binOp op t (.bool p) (.bool q)).run P w = .ok v w ∧ K (.val v) := by
  have e := run_equalIn_bool' (P := P) w 9999 t p q ht
  cases op <;> simp only [bbin] at h
  case eql => exact ⟨.bool (p == q), by simp [binOp, Op.equal, Op.maxDepth, e], h⟩
  case neq => exact ⟨.bool (!(p == q)), by simp [binOp, Op.equal, Op.maxDepth, e], h⟩
  all_goals exact h.elim

theorem sound_bbin {op : BinOp} {t ty : TypeId} {x y : Operand} {x' y' : Opd} (hop : o.op = .binOp op t x y ty) (ht : P.underlying t = some .bool)
    (hx : trOpd x = some x') (hy : trOpd y = some y') (hd : okD n o.dst = true) (hr : Rel P F n s a w) (hX : X P (.bbin op x' y') s K) : o.wp P a w (Aft P F n s w o.dst K) Q := by
  have hv := V_ev hr hx
  have hv' := V_ev hr hy
  simp only [X] at hX
  split at hX
  · rename_i p q h1 h2
    rw [h1] at hv; rw [h2] at hv'
    generalize hav : a.eval x = v at hv
    generalize hav' : a.eval y = v' at hv'
    cases hv; cases hv'
    obtain ⟨v, hrun, hK⟩ := run_bbin (P := P) (w := w) ht hX
    exact sound_val hd hr (v := v) (by simp [execOp, hop, hav, hav', hrun, eqGuard_at_bool]) (.val v) hK
  · exact hX.elim

theorem sound_bin {op : BinOp} {t ty : TypeId} {x y : Operand} {x' y' : Opd} (hop : o.op = .binOp op t x y ty)
    (hx : trOpd x = some x') (hy : trOpd y = some y') (hd : okD n o.dst = true) (hr : Rel P F n s a w) (hX : X P (.bin op x' y') s K) : o.wp P a w (Aft P F n s w o.dst K) Q := by
  have hv := V_ev hr hx
  have hv' := V_ev hr hy
  simp only [X] at hX
  unfold px_bin at hX
  split at hX
  · rename_i k p k' q h1 h2
    rw [h1] at hv; rw [h2] at hv'
    generalize hav : a.eval x = v at hv
    generalize hav' : a.eval y = v' at hv'
    cases hv; cases hv'
    split at hX
    · obtain ⟨h0, hK⟩ := hX
      exact sound_val hd hr (v := .int k (k.wrap (p * 2 ^ min q.toNat k.bits))) (by simp [execOp, hop, hav, hav', eqGuard_at_int, binOp, Op.shift, show ¬ q < 0 by omega]) (.val _) hK
    · obtain ⟨h0, hK⟩ := hX
      exact sound_val hd hr (v := .int k (p.fdiv (2 ^ min q.toNat k.bits))) (by simp [execOp, hop, hav, hav', eqGuard_at_int, binOp, Op.shift, show ¬ q < 0 by omega]) (.val _) hK
    · obtain ⟨rfl, hX⟩ := hX
      obtain ⟨v, hrun, hK⟩ := run_ibin (P := P) (w := w) (t := t) hX
      exact sound_val hd hr (v := v) (by simp [execOp, hop, hav, hav', hrun, eqGuard_at_int]) (.val v) hK
  · rename_i p q h1 h2
    rw [h1] at hv; rw [h2] at hv'
    generalize hav : a.eval x = v at hv
    generalize hav' : a.eval y = v' at hv'
    cases hv; cases hv'
    obtain ⟨v, hrun, hK⟩ := run_sbin (P := P) (w := w) (t := t) hX
    exact sound_val hd hr (v := v) (by simp [execOp, hop, hav, hav', hrun, eqGuard_at_string]) (.val v) hK
  · exact hX.elim

theorem ints_V {x : AV} {v : Value} {l : List Int} (hv : V P F w x v) (h : ints? x = some l) : ∃ vs : Array Value, v = .agg vs ∧ vs.size = l.length ∧ ∀ (j : Nat), j < l.length → vs[j]? = some (.int .i64 (l.getD j 0)) := by
  unfold ints? at h
  split at h
  · rename_i xs
    cases hv with
    | agg _ vs hl hvs =>
      have key : ∀ (xs : List AV) (l : List Int), xs.mapM intOf? = some l → xs.length = l.length ∧ ∀ (j : Nat), j < l.length → xs[j]? = some (.val (.int .i64 (l.getD j 0))) := by
        intro xs
        induction xs with
        | nil => intro l h; simp at h; subst h; exact ⟨rfl, fun j hj => by simp at hj⟩
        | cons x xs ih =>
          intro l h
          simp only [List.mapM_cons] at h
          cases hx : intOf? x with
          | none => simp [hx] at h
          | some m =>
            cases hxs : xs.mapM intOf? with
            | none => simp [hx, hxs] at h
            | some l' =>
              simp [hx, hxs] at h; subst h
              obtain ⟨e1, e2⟩ := ih l' hxs
              refine ⟨by simp [e1], fun j hj => ?_⟩
              cases j with
              | zero =>
                unfold intOf? at hx
                split at hx
                · cases hx; rfl
                · cases hx
              | succ j => simpa using e2 j (by simpa using hj)
      obtain ⟨e1, e2⟩ := key xs l h
      refine ⟨vs, rfl, by omega, fun j hj => ?_⟩
      have hk := e2 j hj
      have := hvs j _ hk
      have hlt : j < vs.size := by omega
      rw [Array.getD_eq_getD_getElem?, Array.getElem?_eq_getElem hlt] at this
      simp only [Option.getD_some] at this
      rw [Array.getElem?_eq_getElem hlt]
      generalize vs[j] = u at this
      cases this; rfl
  · cases h

theorem run_eqs {t : TypeId} (h : isInts P t = true) (xs ys : Array Value) (a b : List Int) (ha : a.length = nFields P t) (hb : b.length = nFields P t)
    (hx : ∀ (j : Nat), j < a.length → xs[j]? = some (.int .i64 (a.getD j 0))) (hy : ∀ (j : Nat), j < b.length → ys[j]? = some (.int .i64 (b.getD j 0))) :
    (Op.equalIn 10000 t (.agg xs) (.agg ys)).run P w = .ok (decide (a = b)) w ∧ P.eqGuardType P.depth t = false := by
  unfold isInts at h
  simp only [Bool.and_eq_true, Bool.not_eq_true'] at h
  obtain ⟨⟨h1, h2⟩, h3⟩ := h
  refine ⟨?_, h3⟩
  cases hu : P.underlying t with
  | none => simp [hu] at h1
  | some d =>
    rw [hu] at h1
    simp only [Option.any_some] at h1
    split at h1
    case h_2 => cases h1
    rename_i fs
    have hfs : P.fieldsOf t = fs := by simp [Program.fieldsOf, hu]
    have hn : nFields P t = fs.size := by simp [nFields, hu]
    rw [run_equalIn_struct w 9999 t xs ys (by rw [hfs]; exact hu) h2, hfs]
    have key : ∀ (l : List Field) (k : Nat), (∀ (j : Nat) (f : Field), l[j]? = some f → f.offset = k + j ∧ (f.name != "_") = true ∧ ∃ kd, P.underlying f.type = some (.int kd)) → k + l.length = a.length → k + l.length = b.length →
        (Op.eqFields 9999 xs ys l).run P w = .ok (decide (a.drop k = b.drop k)) w := by
      intro l
      induction l with
      | nil => intro k _ h1 h2; simp at h1 h2; rw [List.drop_of_length_le (by omega), List.drop_of_length_le (by omega)]; simp [Op.eqFields]
      | cons f l ih =>
        intro k hf h1 h2
        simp only [List.length_cons] at h1 h2
        obtain ⟨f1, f2, kd, f3⟩ := hf 0 f rfl
        simp only [Nat.add_zero] at f1
        have f2' : f.name ≠ "_" := by simpa using f2
        have e1 := hx k (by omega)
        have e2 := hy k (by omega)
        have ih' := ih (k + 1) (fun j g hg => by have := hf (j + 1) g (by simpa using hg); rw [this.1]; exact ⟨by omega, this.2⟩) (by omega) (by omega)
        have hpart : ∀ (cs : Array Value) (kk : IntKind) (m : Int), cs[k]? = some (.int kk m) → (part f.type cs f.offset).run P w = .ok (.int kk m) w := by
          intro cs kk m hc
          simp [part, isAgg, run_underlying f3, f1, hc]
        have e : (Op.equalIn 9999 f.type (.int .i64 (a.getD k 0)) (.int .i64 (b.getD k 0))).run P w = .ok (a.getD k 0 == b.getD k 0) w := run_equalIn_int w 9998 f.type .i64 kd _ _ f3
        simp only [Op.eqFields, if_pos f2', Sem.run_bind, hpart xs _ _ e1, hpart ys _ _ e2, Result.andThen_ok, e]
        have d1 : a.drop k = a.getD k 0 :: a.drop (k + 1) := by rw [List.drop_eq_getElem_cons (by omega)]; simp [List.getD, List.getElem?_eq_getElem (show k < a.length by omega)]
        have d2 : b.drop k = b.getD k 0 :: b.drop (k + 1) := by rw [List.drop_eq_getElem_cons (by omega)]; simp [List.getD, List.getElem?_eq_getElem (show k < b.length by omega)]
        rw [d1, d2]
        by_cases he : a.getD k 0 = b.getD k 0
        · have hb : (a.getD k 0 == b.getD k 0) = true := beq_iff_eq.2 he
          rw [hb, he]
          simp only [Bool.not_true, Bool.false_eq_true, if_false, ih', List.cons.injEq, true_and]
        · have : (a.getD k 0 == b.getD k 0) = false := beq_eq_false_iff_ne.2 he
          rw [this]
          have hne : ¬ (a.getD k 0 :: a.drop (k + 1) = b.getD k 0 :: b.drop (k + 1)) := fun e => he (List.cons.inj e).1
          rw [decide_eq_false hne]
          simp only [Bool.not_false, if_true, Sem.run_pure]
    have := key fs.toList 0 (fun j f hf => by
      have hlt : j < fs.size := by
        have := (List.getElem?_eq_some_iff.1 hf).1; simpa using this
      have hj := List.all_eq_true.1 h1 j (by simpa using hlt)
      have hf' : fs[j]? = some f := by simpa using hf
      rw [hf'] at hj
      simp only [Option.any_some, Bool.and_eq_true] at hj
      obtain ⟨⟨g1, g2⟩, g3⟩ := hj
      refine ⟨by simpa using g1, g2, ?_⟩
      split at g3
      · rename_i kd hkd; exact ⟨kd, hkd⟩
      · cases g3) (by simp; omega) (by simp; omega)
    simpa using this

theorem sound_eqs {neg : Bool} {t ty : TypeId} {x y : Operand} {x' y' : Opd} (hop : o.op = .binOp (if neg then .neq else .eql) t x y ty) (ht : isInts P t = true)
    (hx : trOpd x = some x') (hy : trOpd y = some y') (hd : okD n o.dst = true) (hr : Rel P F n s a w) (hX : X P (.eqs (nFields P t) neg x' y') s K) : o.wp P a w (Aft P F n s w o.dst K) Q := by
  have hv := V_ev hr hx
  have hv' := V_ev hr hy
  simp only [X] at hX
  split at hX
  · rename_i p q h1 h2
    obtain ⟨hp, hq, hK⟩ := hX
    obtain ⟨vs, e1, _, e2⟩ := ints_V hv h1
    obtain ⟨us, e3, _, e4⟩ := ints_V hv' h2
    obtain ⟨hrun, hg⟩ := run_eqs (w := w) ht vs us p q hp hq e2 e4
    refine sound_val hd hr (v := .bool (if neg then !decide (p = q) else decide (p = q))) ?_ (.val _) hK
    cases neg <;> simp [execOp, hop, e1, e3, run_eqGuard_agg w _ t x y vs us hg, run_eql_struct, run_neq_struct, hrun]
  · exact hX.elim

theorem sound_un {op : UnOp} {t : TypeId} {x : Operand} {x' : Opd} (hop : o.op = .unOp op t x) (hx : trOpd x = some x') (hd : okD n o.dst = true) (hr : Rel P F n s a w) (hX : X P (.un op x') s K) : o.wp P a w (Aft P F n s w o.dst K) Q := by
  have hv := V_ev hr hx
  simp only [X] at hX
  unfold px_un at hX
  split at hX
  · rename_i b h1
    rw [h1] at hv
    generalize hav : a.eval x = v at hv
    cases hv
    exact sound_val hd hr (v := .bool !b) (by simp [execOp, hop, hav, Op.unary]) (.val _) hX
  · rename_i k m h1
    rw [h1] at hv
    generalize hav : a.eval x = v at hv
    cases hv
    exact sound_val hd hr (v := .int k (k.wrap (0 - m))) (by simp [execOp, hop, hav, Op.unary, Op.intArith]) (.val _) hX
  · exact hX.elim

theorem sound_cvt {st dt : TypeId} {x : Operand} {x' : Opd} {k k0 : IntKind} (hop : o.op = .convert st dt x) (h0 : P.underlying st = some (.int k0)) (h1 : P.underlying dt = some (.int k)) (hx : trOpd x = some x') (hd : okD n o.dst = true) (hr : Rel P F n s a w)
    (hX : X P (.cvt k x') s K) : o.wp P a w (Aft P F n s w o.dst K) Q := by
  have hv := V_ev hr hx
  simp only [X] at hX
  split at hX
  · rename_i k' m h2
    rw [h2] at hv
    generalize hav : a.eval x = v at hv
    cases hv
    exact sound_val hd hr (v := .int k (k.wrap m)) (by simp [execOp, hop, hav, convert, run_underlying h0, run_underlying h1, Conv.intToInt]) (.val _) hX
  · exact hX.elim

theorem sound_fadr {t : TypeId} {x : Operand} {x' : Opd} {f : Nat} {fs : Array Field} {g : Field} {i : TypeInfo} (hop : o.op = .fieldAddr t x f) (h0 : P.underlying t = some (.struct fs)) (h1 : fs[f]? = some g) (h2 : P.info? g.type = some i) (h3 : i.size ≠ 0)
    (hx : trOpd x = some x') (hd : okD n o.dst = true) (hr : Rel P F n s a w) (hX : X P (.fadr g.offset x') s K) : o.wp P a w (Aft P F n s w o.dst K) Q := by
  have hv := V_ev hr hx
  simp only [X] at hX
  have hrun : ∀ b off, a.eval x = .pointer (some ⟨b, off, none⟩) → (execOp a.eval o).run P w = .ok (.value (.pointer (some ⟨b, off + g.offset, none⟩))) w := by
    intro b off hav
    simp [execOp, hop, hav, Instr.fieldAt, run_underlying h0, h1, Instr.sureAddr, fieldPlace, sizeOf, typeInfo, h2, h3, Addr.add_lit]
  split at hX
  · rename_i cells hev
    rw [hev] at hv
    generalize hav : a.eval x = v at hv
    cases hv with
    | ptr _ b off c hF hc hcv =>
      refine sound_val hd hr (hrun b off hav) (.ptr _ b _ (fun j => c (g.offset + j)) hF (fun j x hx => ?_) (fun j x hx => ?_)) hX
      · rw [List.getElem?_drop] at hx; rw [Nat.add_assoc]; exact hc _ x hx
      · rw [List.getElem?_drop] at hx; exact hcv _ x hx
  · rename_i b off hev
    rw [hev] at hv
    generalize hav : a.eval x = v at hv
    cases hv
    exact sound_val hd hr (hrun b off hav) (.adr _ _) hX
  · exact hX.elim

theorem extract_map (vs : Array Value) (off k : Nat) (h : off + k ≤ vs.size) : vs.extract off (off + k) = ((List.range k).map fun j => vs.getD (off + j) undef).toArray := by
  apply Array.ext
  · simp; omega
  · intro i h1 h2
    have : off + i < vs.size := by simp at h1; omega
    simp [this]
theorem sound_field {t : TypeId} {x : Operand} {x' : Opd} {f k : Nat} {ag : Bool} {fs : Array Field} {g : Field} (hop : o.op = .field t x f) (h0 : P.underlying t = some (.struct fs)) (h1 : fs[f]? = some g) (h2 : trAg P g.type = some (k, ag))
    (hx : trOpd x = some x') (hd : okD n o.dst = true) (hr : Rel P F n s a w) (hX : X P (.field g.offset k ag x') s K) : o.wp P a w (Aft P F n s w o.dst K) Q := by
  have hv := V_ev hr hx
  simp only [X] at hX
  split at hX
  · rename_i xs hev
    rw [hev] at hv
    obtain ⟨hk, hK⟩ := hX
    generalize hav : a.eval x = v at hv
    cases hv with
    | agg _ vs hl hvs =>
      have hag1 : ag = false → k = 1 := fun h => by subst h; exact (trAg_one (w := w) h2).1
      have hV := V_loadC (P := P) (F := F) (w := w) (ag := ag) hk hag1 (fun j => vs.getD (g.offset + j) undef) (fun j x hx => hvs _ x hx)
      refine sound_val hd hr ?_ hV hK
      cases ag with
      | true =>
        obtain ⟨i, d, hi, hsz, hu, hag⟩ := trAg_agg (w := w) h2
        simp only [execOp, hop, hav, Instr.field, part, Sem.run_bind, run_underlying h0, Result.andThen_ok, h1, asAgg, Sem.run_pure, hag, sizeOf, typeInfo, if_true, run_program, hi, hsz]
        rw [extract_map vs _ _ (by omega)]
      | false =>
        have hk1 := hag1 rfl; subst hk1
        obtain ⟨_, hag⟩ := trAg_one (w := w) h2
        have hlt : g.offset < vs.size := by omega
        simp [execOp, hop, hav, Instr.field, part, run_underlying h0, h1, asAgg, hag, hlt]
  · exact hX.elim

theorem run_indexAt {t e : TypeId} {j : TypeInfo} (h0 : P.underlying t = some (.slice e)) (h1 : P.info? e = some j) (b off len cap : Nat) (k : IntKind) (i : Int) (h2 : 0 ≤ i) (h3 : i < len) :
    (Instr.indexAt t (.slice (some ⟨b, off, none⟩) len cap) (.int k i)).run P w = .ok (.pointer (some ⟨b, off + i.toNat * j.size, none⟩)) w := by
  simp [Instr.indexAt, asIntOf, run_underlying h0, h2, h3, sizeOf, typeInfo, h1, Addr.add_lit]

theorem sound_iadr {t e : TypeId} {x ix : Operand} {x' i' : Opd} {j : TypeInfo} (hop : o.op = .indexAddr t x ix) (h0 : P.underlying t = some (.slice e)) (h1 : P.info? e = some j)
    (hx : trOpd x = some x') (hi : trOpd ix = some i') (hd : okD n o.dst = true) (hr : Rel P F n s a w) (hX : X P (.iadr j.size x' i') s K) : o.wp P a w (Aft P F n s w o.dst K) Q := by
  have hv := V_ev hr hx
  have hv' := V_ev hr hi
  simp only [X] at hX
  split at hX
  · rename_i t' els k i h2 h3
    rw [h2] at hv; rw [h3] at hv'
    obtain ⟨i0, i1, hsz, hK⟩ := hX
    generalize hav : a.eval x = v at hv
    generalize hav' : a.eval ix = v' at hv'
    cases hv' with
    | val _ =>
    cases hv with
    | immE t a' cap ht => simp at i1; omega
    | imm t _ b off cap sz c hcap ht hF hs hc hcv =>
      have hlt : i.toNat < els.length := by omega
      have he : els[i.toNat]? = some (els.getD i.toNat []) := by simp [List.getD, hlt]
      have hsz' : sz = j.size := (hs _ _ he).symm.trans hsz
      refine sound_val hd hr (v := .pointer (some ⟨b, off + i.toNat * j.size, none⟩)) ?_ (.ptr _ b _ (c i.toNat) hF (fun jj x hxx => ?_) (fun jj x hxx => hcv _ _ jj x he hxx)) hK
      · simp [execOp, hop, hav, hav', run_indexAt h0 h1 b off els.length cap k i i0 i1]
      · have := hc _ _ jj x he hxx
        rw [hsz'] at this; rw [Nat.add_assoc]; exact this
  · rename_i b m k i h2 h3
    rw [h2] at hv; rw [h3] at hv'
    obtain ⟨i0, i1, hK⟩ := hX
    generalize hav : a.eval x = v at hv
    generalize hav' : a.eval ix = v' at hv'
    cases hv' with
    | val _ =>
    cases hv with
    | own _ _ cap e' hn hs =>
      refine sound_val hd hr (v := .pointer (some ⟨b, 0 + i.toNat * j.size, none⟩)) ?_ ?_ hK
      · simp only [execOp, hop, hav, hav', Sem.run_bind, run_indexAt h0 h1 b 0 m cap k i i0 i1, Result.andThen_ok]; rfl
      · rw [Nat.zero_add]; exact .adr _ _
  · exact hX.elim

theorem sound_iadrA {t e : TypeId} {x ix : Operand} {x' i' : Opd} {j : TypeInfo} {len : Nat} (hop : o.op = .indexAddr t x ix) (h0 : P.underlying t = some (.array len e)) (h1 : P.info? e = some j)
    (hx : trOpd x = some x') (hi : trOpd ix = some i') (hd : okD n o.dst = true) (hr : Rel P F n s a w) (hX : X P (.iadrA len j.size x' i') s K) : o.wp P a w (Aft P F n s w o.dst K) Q := by
  have hv := V_ev hr hx
  have hv' := V_ev hr hi
  simp only [X] at hX
  split at hX
  · rename_i b off k i h2 h3
    rw [h2] at hv; rw [h3] at hv'
    obtain ⟨i0, i1, hK⟩ := hX
    generalize hav : a.eval x = v at hv
    generalize hav' : a.eval ix = v' at hv'
    cases hv'; cases hv
    refine sound_val hd hr (v := .pointer (some ⟨b, off + i.toNat * j.size, none⟩)) ?_ (.adr _ _) hK
    simp [execOp, hop, hav, hav', Instr.indexAt, asIntOf, run_underlying h0, Instr.sureAddr, i0, i1, sizeOf, typeInfo, h1, Addr.add_lit]
  · exact hX.elim

theorem sound_idx {t : TypeId} {x ix : Operand} {x' i' : Opd} (hop : o.op = .index t x ix) (h0 : P.underlying t = some .string)
    (hx : trOpd x = some x') (hi : trOpd ix = some i') (hd : okD n o.dst = true) (hr : Rel P F n s a w) (hX : X P (.idx x' i') s K) : o.wp P a w (Aft P F n s w o.dst K) Q := by
  have hv := V_ev hr hx
  have hv' := V_ev hr hi
  simp only [X] at hX
  split at hX
  · rename_i u k i h2 h3
    rw [h2] at hv; rw [h3] at hv'
    obtain ⟨i0, i1, hK⟩ := hX
    generalize hav : a.eval x = v at hv
    generalize hav' : a.eval ix = v' at hv'
    cases hv'; cases hv
    refine sound_val hd hr (v := .int .u8 (u.data.toList.getD i.toNat 0).toNat) ?_ (.val _) hK
    have hlt : i.toNat < u.size := by omega
    have hlt' : i.toNat < u.data.toList.length := by simpa using hlt
    have e1 : u[i.toNat]? = some (u.data.toList.getD i.toNat 0) := by
      rw [ByteArray.getElem?_lt' u _ hlt]; simp only [List.getD, List.getElem?_eq_getElem hlt', Option.getD_some]; rfl
    simp [execOp, hop, hav, hav', Instr.index, asIntOf, run_underlying h0, i0, e1]
  · exact hX.elim

theorem sound_len {t : TypeId} {x : Operand} {x' : Opd} {td : TypeDesc} (hop : o.op = .call { callee := .builtin .len, args := #[x], argTypes := #[t] }) (h0 : P.underlying t = some td) (htd : (∃ e, td = .slice e) ∨ td = .string)
    (hx : trOpd x = some x') (hd : okD n o.dst = true) (hr : Rel P F n s a w) (hX : X P (.len x' (td matches .string)) s K) : o.wp P a w (Aft P F n s w o.dst K) Q := by
  have hv := V_ev hr hx
  have slc : ∀ ad m cap, (∃ e, td = .slice e) → a.eval x = .slice ad m cap → (execOp a.eval o).run P w = .ok (.value (.int .i64 m)) w := by
    rintro ad m cap ⟨e, rfl⟩ hav
    simp [execOp, hop, resolve, invoke, builtin, Builtin.len_, run_underlying h0, hav, goInt]
  simp only [X] at hX
  generalize hav : a.eval x = v at hv
  split at hX
  · rename_i t' els hev htd'
    rw [hev] at hv
    have hs : ∃ e, td = .slice e := by rcases htd with h | rfl; exact h; simp at htd'
    cases hv with
    | immE t' a' cap ht => exact sound_val hd hr (slc _ _ _ hs hav) (.val _) hX
    | imm t' _ b off cap sz c hcap ht hF hsz hc hcv => exact sound_val hd hr (slc _ _ _ hs hav) (.val _) hX
  · rename_i b m hev htd'
    rw [hev] at hv
    have hs : ∃ e, td = .slice e := by rcases htd with h | rfl; exact h; simp at htd'
    cases hv
    exact sound_val hd hr (slc _ _ _ hs hav) (.val _) hX
  · rename_i a' m cap hev htd'
    rw [hev] at hv
    have hs : ∃ e, td = .slice e := by rcases htd with h | rfl; exact h; simp at htd'
    cases hv
    exact sound_val hd hr (slc _ _ _ hs hav) (.val _) hX
  · rename_i u hev htd'
    rw [hev] at hv
    have hs : td = .string := by rcases htd with ⟨e, rfl⟩ | rfl; simp at htd'; rfl
    cases hv
    subst hs
    exact sound_val hd hr (v := .int .i64 u.size) (by simp [execOp, hop, resolve, invoke, builtin, Builtin.len_, run_underlying h0, hav, goInt]) (.val _) hX
  · exact hX.elim

theorem sound_mm {isMax : Bool} {tys : Array TypeId} {x y : Operand} {x' y' : Opd} (hop : o.op = .call { callee := .builtin (if isMax then .max else .min), args := #[x, y], argTypes := tys })
    (hx : trOpd x = some x') (hy : trOpd y = some y') (hd : okD n o.dst = true) (hr : Rel P F n s a w) (hX : X P (.mm isMax x' y') s K) : o.wp P a w (Aft P F n s w o.dst K) Q := by
  have hv := V_ev hr hx
  have hv' := V_ev hr hy
  simp only [X] at hX
  split at hX
  · rename_i k p k' q h1 h2
    rw [h1] at hv; rw [h2] at hv'
    generalize hav : a.eval x = v at hv
    generalize hav' : a.eval y = v' at hv'
    cases hv; cases hv'
    refine sound_val hd hr (v := .int k (if isMax then (if p < q then q else p) else (if q < p then q else p))) ?_ (.val _) hX
    cases isMax <;> simp [execOp, hop, resolve, invoke, builtin, Builtin.min_, Builtin.max_, Builtin.min2, Builtin.max2, hav, hav']
  · exact hX.elim

theorem sound_ext {x : Operand} {x' : Opd} {i : Nat} (hop : o.op = .extract x i) (hx : trOpd x = some x') (hd : okD n o.dst = true) (hr : Rel P F n s a w) (hX : X P (.ext i x') s K) : o.wp P a w (Aft P F n s w o.dst K) Q := by
  have hv := V_ev hr hx
  simp only [X] at hX
  split at hX
  · rename_i xs h1
    rw [h1] at hv
    obtain ⟨hi, hK⟩ := hX
    generalize hav : a.eval x = v at hv
    cases hv with
    | tup _ vs hl hvs =>
      have hlt : i < vs.size := by omega
      have := hvs i (xs.getD i .junk) (by simp [List.getD, hi])
      refine sound_val hd hr (v := vs.getD i undef) ?_ this hK
      simp [execOp, hop, hav, Instr.extract, hlt]
  · exact hX.elim

theorem sound_nilc {x : Operand} {x' : Opd} (hop : o.op = .nilCheck x) (hx : trOpd x = some x') (hd : okD n o.dst = true) (hr : Rel P F n s a w) (hX : X P (.nilc x') s K) : o.wp P a w (Aft P F n s w o.dst K) Q := by
  have hv := V_ev hr hx
  simp only [X] at hX
  split at hX
  · rename_i cells h1
    rw [h1] at hv
    refine sound_val hd hr (v := a.eval x) ?_ hv hX
    generalize hav : a.eval x = v at hv
    cases hv
    simp [execOp, hop, hav]
  · rename_i b off h1
    rw [h1] at hv
    refine sound_val hd hr (v := a.eval x) ?_ hv hX
    generalize hav : a.eval x = v at hv
    cases hv
    simp [execOp, hop, hav]
  · exact hX.elim

/-- Several operands at once. -/
theorem V_evs (hr : Rel P F n s a w) : ∀ {xs : List Operand} {ys : List Opd}, xs.mapM trOpd = some ys → ys.length = xs.length ∧ ∀ (i : Nat) (y : AV), (ys.map s.ev)[i]? = some y → V P F w y ((xs.map a.eval).getD i undef)
  | [], ys, h => by simp at h; subst h; exact ⟨rfl, fun i y hy => by simp at hy⟩
  | x :: xs, ys, h => by
    simp only [List.mapM_cons] at h
    cases hx : trOpd x with
    | none => simp [hx] at h
    | some y =>
      cases hxs : xs.mapM trOpd with
      | none => simp [hx, hxs] at h
      | some ys' =>
        simp [hx, hxs] at h; subst h
        obtain ⟨h1, h2⟩ := V_evs hr hxs
        refine ⟨by simp [h1], fun i z hz => ?_⟩
        cases i with
        | zero => simp at hz; subst hz; simpa using V_ev hr hx
        | succ i => simp at hz; have := h2 i z (by simpa using hz); simpa using this

theorem sound_mkf {f : FuncId} {first caps : Array Operand} {caps' : List Opd} (hop : o.op = .makeFunc (.func f) first caps) (h0 : first.size = 0) (hx : trOpds caps = some caps') (hd : okD n o.dst = true) (hr : Rel P F n s a w)
    (hX : X P (.mkf f caps') s K) : o.wp P a w (Aft P F n s w o.dst K) Q := by
  obtain ⟨h1, h2⟩ := V_evs hr (xs := caps.toList) hx
  obtain rfl : first = #[] := Array.eq_empty_of_size_eq_zero h0
  refine sound_val hd hr (v := .func (.func f) #[] (caps.map a.eval)) (by simp [execOp, hop, Instr.makeFunc]) (.fn f _ _ (by simp at h1 ⊢; omega) fun i x hx => ?_) hX
  have := h2 i x hx
  have e : (caps.toList.map a.eval).getD i undef = (caps.map a.eval).getD i undef := by
    simp [List.getD, Array.getD_eq_getD_getElem?]
  rwa [e] at this

end Go.Ab
