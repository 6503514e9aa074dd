/- The abstract layer: maps whose keys are structs of whole numbers. Plain lemmas over any program; no condition. -/
import Derived.Test.YtabbipdkbdojiaaAb6
import Derived.MapKept
import Derived.ChangeKeysEq
import Derived.Laws.CopyRow
namespace Go.Ab
open Go Go.RowKit
set_option linter.unusedVariables false
set_option linter.unusedSimpArgs false
variable {P : Program} {F : Nat → Prop} {n : Nat} {s : St} {a : Act} {w : World} {o : Oper} {K : AV → Heap → Prop} {Q : Exit → Act → World → Prop}

theorem isInts_fields {t : TypeId} (h : isInts P t = true) : ∃ fs, P.underlying t = some (.struct fs) ∧ nFields P t = fs.size ∧ ∀ (j : Nat) (f : Field), fs[j]? = some f → f.offset = j ∧ f.name ≠ "_" ∧ ∃ kd, P.underlying f.type = some (.int kd) := by
  unfold isInts at h
  simp only [Bool.and_eq_true, Bool.not_eq_true'] at h
  obtain ⟨⟨h1, h2⟩, h3⟩ := h
  cases hu : P.underlying t with
  | none => simp [hu] at h1
  | some d =>
    rw [hu] at h1
    simp only [Option.any_some] at h1
    split at h1
    case h_2 => cases h1
    rename_i fs
    refine ⟨fs, rfl, by simp [nFields, hu], fun j f hf => ?_⟩
    have hlt : j < fs.size := (Array.getElem?_eq_some_iff.1 hf).1
    have hj := List.all_eq_true.1 h1 j (by simpa using hlt)
    rw [hf] at hj
    simp only [Option.any_some, Bool.and_eq_true] at hj
    obtain ⟨⟨g1, g2⟩, g3⟩ := hj
    refine ⟨by simpa using g1, by simpa using g2, ?_⟩
    split at g3
    · rename_i kd hkd; exact ⟨kd, hkd⟩
    · cases g3
theorem run_checkKey_ints {t : TypeId} (h : isInts P t = true) (em : Bool) (m : Nat) (xs : Array Value) (l : List Int) (hl : l.length = nFields P t) (hx : ∀ (j : Nat), j < l.length → xs[j]? = some (.int .i64 (l.getD j 0))) :
    (Instr.checkKey em (m + 2) t (.agg xs)).run P w = .ok () w := by
  obtain ⟨fs, hu, hn, hf⟩ := isInts_fields h
  rw [show m + 2 = (m + 1) + 1 from rfl, Instr.checkKey]
  simp only [Sem.run_bind, run_underlying hu, Result.andThen_ok]
  rw [← Array.forIn_toList]
  have key : ∀ (r : List Field), (∀ f ∈ r, f ∈ fs.toList) → (forIn (m := Sem) r PUnit.unit fun f _ => do
        if f.name ≠ "_" then Instr.checkKey em (m + 1) f.type (← part f.type xs f.offset)
        pure PUnit.unit
        pure (ForInStep.yield PUnit.unit)).run P w = .ok PUnit.unit w := by
    intro r
    induction r with
    | nil => intro _; simp
    | cons f r ih =>
      intro hr
      obtain ⟨j, hj⟩ := List.getElem?_of_mem (hr f (by simp))
      obtain ⟨f1, f2, kd, f3⟩ := hf j f (by simpa using hj)
      have hlt : j < l.length := by
        have := (List.getElem?_eq_some_iff.1 hj).1
        simp only [Array.length_toList] at this; omega
      have e1 := hx j hlt
      have hpart : (part f.type xs f.offset).run P w = .ok (.int .i64 (l.getD j 0)) w := by simp [part, isAgg, run_underlying f3, f1, e1]
      have hchk : (Instr.checkKey em (m + 1) f.type (.int .i64 (l.getD j 0))).run P w = .ok () w := by simp [Instr.checkKey, run_underlying f3]
      have := ih fun g hg => hr g (by simp [hg])
      rw [List.forIn_cons]
      simp only [Sem.run_bind, if_pos f2, hpart, Result.andThen_ok, hchk, Sem.run_pure]
      simpa using this
  have := key fs.toList (fun f hf => hf)
  simp at this ⊢
  rw [this]; rfl
/-- The place of a key. -/
def mplace : List (List Int × AV) → List Int → Option Nat
  | [], _ => none
  | e :: r, ks => if e.1 = ks then some 0 else (mplace r ks).map (· + 1)
theorem mplace_find : ∀ (ents : List (List Int × AV)) (ks : List Int), mfind ents ks = (mplace ents ks).bind fun j => (ents[j]?).map (·.2)
  | [], ks => rfl
  | e :: r, ks => by
    simp only [mfind, mplace]
    split
    · rfl
    · rw [mplace_find r ks]; cases mplace r ks <;> simp
theorem mplace_some : ∀ {ents : List (List Int × AV)} {ks : List Int} {j : Nat}, mplace ents ks = some j → ∃ x, ents[j]? = some (ks, x)
  | [], ks, j, h => by cases h
  | e :: r, ks, j, h => by
    simp only [mplace] at h
    split at h
    · rename_i he; cases h; exact ⟨e.2, by simp [← he]⟩
    · cases hr : mplace r ks with
      | none => simp [hr] at h
      | some i => simp [hr] at h; subst h; obtain ⟨x, hx⟩ := mplace_some hr; exact ⟨x, by simpa using hx⟩
theorem mput_none : ∀ {ents : List (List Int × AV)} {ks : List Int} {v : AV}, mplace ents ks = none → mput ents ks v = ents ++ [(ks, v)]
  | [], ks, v, h => rfl
  | e :: r, ks, v, h => by
    simp only [mplace] at h
    split at h
    · cases h
    · rename_i he
      have : mplace r ks = none := by simpa using h
      rw [mput, if_neg he, mput_none this]; rfl
theorem mput_some : ∀ {ents : List (List Int × AV)} {ks : List Int} {v : AV} {j : Nat}, mplace ents ks = some j → mput ents ks v = ents.set j (ks, v)
  | [], ks, v, j, h => by cases h
  | e :: r, ks, v, j, h => by
    simp only [mplace] at h
    split at h
    · rename_i he; cases h; rw [mput, if_pos he, ← he]; rfl
    · rename_i he
      cases hr : mplace r ks with
      | none => simp [hr] at h
      | some i => simp [hr] at h; subst h; rw [mput, if_neg he, mput_some hr]; rfl

theorem keyV_get {ks : List Int} {j : Nat} (hj : j < ks.length) : ((ks.map (Value.int .i64)).toArray)[j]? = some (.int .i64 (ks.getD j 0)) := by
  simp [List.getD_eq_getElem?_getD, List.getElem?_eq_getElem hj]
theorem agg_eq {xs : Array Value} {l : List Int} (hs : xs.size = l.length) (hx : ∀ (j : Nat), j < l.length → xs[j]? = some (.int .i64 (l.getD j 0))) : xs = (l.map (Value.int .i64)).toArray := by
  apply Array.ext_getElem?
  intro j
  by_cases hj : j < l.length
  · rw [hx j hj, keyV_get hj]
  · rw [Array.getElem?_eq_none (by omega), Array.getElem?_eq_none (by simp; omega)]
theorem run_findAsking_ints {t : TypeId} (h : isInts P t = true) (ks : List Int) (hk : ks.length = nFields P t) : ∀ (es : List MapEntry) (ents : List (List Int × AV)) (i : Nat), es.length = ents.length → (∀ e ∈ ents, e.1.length = nFields P t) →
    (∀ (j : Nat) (e : MapEntry) (p : List Int × AV), es[j]? = some e → ents[j]? = some p → e.key = keyV p.1) →
    (Instr.findAsking t (keyV ks) es i).run P w = .ok ((mplace ents ks).bind fun j => (es[j]?).map fun e => (i + j, e.val)) w
  | [], [], i, _, _, _ => by simp [Instr.findAsking, mplace]
  | [], _ :: _, _, hl, _, _ => by simp at hl
  | _ :: _, [], _, hl, _, _ => by simp at hl
  | e :: es, p :: ents, i, hl, hn, hkey => by
    have e1 := hkey 0 e p rfl rfl
    have hp := hn p (by simp)
    have he : (Op.equal t (keyV ks) e.key).run P w = .ok (decide (ks = p.1)) w := by
      rw [e1]
      exact (run_eqs (w := w) h _ _ ks p.1 hk hp (fun j hj => keyV_get hj) (fun j hj => keyV_get hj)).1
    have ih := run_findAsking_ints h ks hk es ents (i + 1) (by simpa using hl) (fun q hq => hn q (by simp [hq])) (fun j x q hx hq => hkey (j + 1) x q (by simpa using hx) (by simpa using hq))
    simp only [Instr.findAsking, Sem.run_bind, he, Result.andThen_ok, mplace]
    by_cases hks : p.1 = ks
    · rw [if_pos hks, decide_eq_true hks.symm]; simp
    · rw [if_neg hks, decide_eq_false (fun e => hks e.symm)]
      simp only [Bool.false_eq_true, if_false, ih]
      congr 1
      cases mplace ents ks with
      | none => rfl
      | some j => simp; cases es[j]? <;> simp; omega
theorem run_findKey_ints {t : TypeId} (h : isInts P t = true) (ks : List Int) (hk : ks.length = nFields P t) (es : List MapEntry) (ents : List (List Int × AV)) (hl : es.length = ents.length) (hn : ∀ e ∈ ents, e.1.length = nFields P t)
    (hkey : ∀ (j : Nat) (e : MapEntry) (p : List Int × AV), es[j]? = some e → ents[j]? = some p → e.key = keyV p.1) :
    (Instr.findKey t (keyV ks) es).run P w = .ok ((mplace ents ks).bind fun j => (es[j]?).map fun e => (j, e.val)) w := by
  obtain ⟨fs, hu, _⟩ := isInts_fields h
  cases es with
  | nil =>
    have : ents = [] := List.length_eq_zero_iff.1 (by simpa using hl.symm)
    subst this
    simp [Instr.findKey, run_underlying hu, Instr.findNow, mplace]
  | cons e es =>
    have hnow : Instr.findNow (.struct fs) (keyV ks) (e :: es) 0 = none := by simp [Instr.findNow, Instr.sameNow]
    have := run_findAsking_ints (w := w) h ks hk (e :: es) ents 0 hl hn hkey
    simp only [Instr.findKey, Sem.run_bind, run_underlying hu, Result.andThen_ok, hnow, this, Nat.zero_add]

theorem map_rel {b : Nat} {ents : List (List Int × AV)} (hr : HeapRel P F w s.h) (hb : s.h b = some (.map ents)) : ∃ (es : Array MapEntry) (clock : Nat), w.heap[b]? = some (.map es clock) ∧ es.size = ents.length ∧ (∀ (j : Nat) (e : MapEntry), es[j]? = some e → e.born < clock) ∧
      (∀ (i j : Nat) (e e' : MapEntry), es[i]? = some e → es[j]? = some e' → i < j → e.born < e'.born) ∧ ∀ (j : Nat) k x, ents[j]? = some (k, x) → ∃ e : MapEntry, es[j]? = some e ∧ e.key = keyV k ∧ V P F w x e.val := (hr b _ hb).2
theorem V_mp {b : Nat} {v : Value} (h : V P F w (.mp b) v) : v = .map (some b) := by cases h; rfl

theorem sound_mget {t kt et : TypeId} {ok : Bool} {x i : Operand} {x' i' : Opd} {j : TypeInfo} {z : Value} (hop : o.op = .lookup t x i ok) (ht : P.underlying t = some (.map kt et)) (hx : trOpd x = some x') (hi : trOpd i = some i') (hj : P.info? et = some j) (hz : j.zero = some z) (hk : isInts P kt = true)
    (hd : okD n o.dst = true) (hr : Rel P F n s a w) (hX : X P (.mget (nFields P kt) ok z x' i') s K) : o.wp P a w (Aft P F n s w o.dst K) Q := by
  have hv := V_ev hr hx
  have hvi := V_ev hr hi
  simp only [X] at hX
  split at hX
  case h_2 => exact hX.elim
  rename_i b ks h1 h2
  split at hX
  case h_2 => exact hX.elim
  rename_i ents hb
  obtain ⟨hkl, hel, hK⟩ := hX
  rw [h1] at hv
  have ev := V_mp hv
  obtain ⟨vs, e1, es1, e2⟩ := ints_V hvi h2
  obtain ⟨es, clock, hm, hsz, hborn, hord, hent⟩ := map_rel hr.heap hb
  have evs : vs = (ks.map (Value.int .i64)).toArray := agg_eq es1 e2
  have hkey : ∀ (j : Nat) (e : MapEntry) (p : List Int × AV), es.toList[j]? = some e → ents[j]? = some p → e.key = keyV p.1 := by
    intro j e p he hp
    obtain ⟨e', h1', h2', _⟩ := hent j p.1 p.2 hp
    have : es[j]? = some e := by simpa using he
    rw [this] at h1'; cases h1'; exact h2'
  have hfind := run_findKey_ints (w := w) hk ks hkl es.toList ents (by simpa using hsz) hel hkey
  have hchk := run_checkKey_ints (w := w) hk es.isEmpty 9998 vs ks hkl e2
  have hev : a.eval x = .map (some b) := ev
  have hevi : a.eval i = .agg vs := e1
  rw [mplace_find] at hK
  cases hp : mplace ents ks with
  | none =>
    rw [hp] at hK hfind
    simp only [Option.bind_none, mgot] at hK
    simp only [Option.bind_none] at hfind
    refine sound_val hd hr (v := if ok then .tuple #[z, .bool false] else z) ?_ ?_ hK
    · rw [← show keyV ks = .agg vs by rw [evs]; rfl] at hevi
      rw [← show keyV ks = .agg vs by rw [evs]; rfl] at hchk
      simp [execOp, hop, hev, hevi, Instr.lookup, run_underlying ht, MapKept.run_getObj_map hm, hchk, hfind, zeroValue, typeInfo, hj, hz]
    · cases ok
      · exact .val z
      · exact .tup _ _ rfl fun i y hy => by
          match i with
          | 0 => simp at hy; subst hy; exact .val z
          | 1 => simp at hy; subst hy; exact .val _
          | i + 2 => simp at hy
  | some q =>
    obtain ⟨y, hy⟩ := mplace_some hp
    obtain ⟨e, g1, g2, g3⟩ := hent q ks y hy
    rw [hp] at hK hfind
    simp only [Option.bind_some, hy, Option.map_some, mgot] at hK
    have g1' : es.toList[q]? = some e := by simpa using g1
    simp only [Option.bind_some, g1', Option.map_some] at hfind
    refine sound_val hd hr (v := if ok then .tuple #[e.val, .bool true] else e.val) ?_ ?_ hK
    · rw [← show keyV ks = .agg vs by rw [evs]; rfl] at hevi
      rw [← show keyV ks = .agg vs by rw [evs]; rfl] at hchk
      simp [execOp, hop, hev, hevi, Instr.lookup, run_underlying ht, MapKept.run_getObj_map hm, hchk, hfind]
    · cases ok
      · exact g3
      · exact .tup _ _ rfl fun i u hu => by
          match i with
          | 0 => simp at hu; subst hu; exact g3
          | 1 => simp at hu; subst hu; exact .val _
          | i + 2 => simp at hu

theorem sound_mkmap {t kt et : TypeId} {r : Option Operand} (hop : o.op = .makeMap t r) (ht : P.underlying t = some (.map kt et)) (hr0 : r = none ∨ ∃ k m, r = some (.const (.int k m))) (hd : okD n o.dst = true) (hr : Rel P F n s a w) (hX : X P .mkmap s K) : o.wp P a w (Aft P F n s w o.dst K) Q := by
  simp only [X] at hX
  refine sound_to hd hr (v := .map (some w.heap.size)) (w' := w.alloc (.map #[] 0)) ?_ (step_new hr.heap hr.dom _ _) ?_ (.mp _) (hX _ (fresh hr.heap))
  · rcases hr0 with rfl | ⟨k, m, rfl⟩
    · simp [execOp, hop, Instr.makeMap, newObj, Sem.run]
    · simp [execOp, hop, Act.eval, Instr.makeMap, run_underlying ht, asInt, asIntOf, newObj, Sem.run]
  · intro b k hk
    by_cases hb : b = w.heap.size
    · subst hb
      rw [Heap.set_same] at hk; cases hk
      exact ⟨fun hF => by have := hr.dom _ hF; omega, #[], 0, heap_alloc_new w _, rfl, fun j e h => by simp at h, fun i j e e' h => by simp at h, fun j k x h => by simp at h⟩
    · rw [Heap.set_ne _ _ hb] at hk
      obtain ⟨h1, h2⟩ := hr.heap b k hk
      have hlt := hr.heap.lt hk
      exact ⟨h1, h2.mono (fun _ h => h) (fun b o hF => World.cell?_of_block (w := w) (Below.heap_alloc w _ b (hr.dom b hF))) (fun b x h => shape_alloc w _ b x h) (Below.heap_alloc w _ b hlt)⟩

theorem sameBits_ints (ks : List Int) : Instr.sameBits 10000 (keyV ks) (keyV ks) = true := by
  simp only [keyV, Instr.sameBits, beq_self_eq_true, Bool.true_and]
  induction ks with
  | nil => rfl
  | cons k ks ih => simp only [List.map_cons, List.zip_cons_cons, List.all_cons, Instr.sameBits, beq_self_eq_true, Bool.true_and]; exact ih
theorem sound_mset {t kt et : TypeId} {x i v : Operand} {x' i' v' : Opd} (hop : o.op = .mapUpdate t x i v ∨ o.op = .insert t x i v) (ht : P.underlying t = some (.map kt et)) (hx : trOpd x = some x') (hi : trOpd i = some i') (hv0 : trOpd v = some v') (hk : isInts P kt = true)
    (hd : okD n o.dst = true) (hr : Rel P F n s a w) (hX : X P (.mset (nFields P kt) x' i' v') s K) : o.wp P a w (Aft P F n s w o.dst K) Q := by
  have hv := V_ev hr hx
  have hvi := V_ev hr hi
  have hvv := V_ev hr hv0
  simp only [X] at hX
  split at hX
  case h_2 => exact hX.elim
  rename_i b ks h1 h2
  split at hX
  case h_2 => exact hX.elim
  rename_i ents hb
  obtain ⟨hkl, hel, hK⟩ := hX
  rw [h1] at hv
  have hev : a.eval x = .map (some b) := V_mp hv
  obtain ⟨vs, e1, es1, e2⟩ := ints_V hvi h2
  obtain ⟨es, clock, hm, hsz, hborn, hord, hent⟩ := map_rel hr.heap hb
  have evs : vs = (ks.map (Value.int .i64)).toArray := agg_eq es1 e2
  have hkey : ∀ (j : Nat) (e : MapEntry) (p : List Int × AV), es.toList[j]? = some e → ents[j]? = some p → e.key = keyV p.1 := by
    intro j e p he hp
    obtain ⟨e', h1', h2', _⟩ := hent j p.1 p.2 hp
    have : es[j]? = some e := by simpa using he
    rw [this] at h1'; cases h1'; exact h2'
  have hfind := run_findKey_ints (w := w) hk ks hkl es.toList ents (by simpa using hsz) hel hkey
  have hchk := run_checkKey_ints (w := w) hk false 9998 vs ks hkl e2
  have hevi : a.eval i = keyV ks := by rw [show a.eval i = .agg vs from e1, evs]; rfl
  rw [← show keyV ks = .agg vs by rw [evs]; rfl] at hchk
  have hlt : b < w.heap.size := hr.heap.lt hb
  have hFb := (hr.heap b _ hb).1
  -- the world behind
  have go : ∀ (es' : Array MapEntry) (clock' : Nat), (Instr.mapUpdate t (.map (some b)) (keyV ks) (a.eval v)).run P w = .ok () { w with heap := w.heap.setIfInBounds b (.map es' clock') } →
      (∀ (w' : World), (∀ {y : AV} {u : Value}, V P F w y u → V P F w' y u) → es'.size = (mput ents ks (s.ev v')).length ∧ (∀ (j : Nat) (e : MapEntry), es'[j]? = some e → e.born < clock') ∧
        (∀ (i j : Nat) (e e' : MapEntry), es'[i]? = some e → es'[j]? = some e' → i < j → e.born < e'.born) ∧ ∀ (j : Nat) k x, (mput ents ks (s.ev v'))[j]? = some (k, x) → ∃ e : MapEntry, es'[j]? = some e ∧ e.key = keyV k ∧ V P F w' x e.val) →
      o.wp P a w (Aft P F n s w o.dst K) Q := by
    intro es' clock' hrun hrel
    have other : ∀ c, c ≠ b → ({ w with heap := w.heap.setIfInBounds b (.map es' clock') } : World).heap[c]? = w.heap[c]? := fun c hc => by simp [Ne.symm hc]
    have shp : ∀ (c : Nat) (y : TypeId × Nat), w.shape? c = some y → ({ w with heap := w.heap.setIfInBounds b (.map es' clock') } : World).shape? c = some y := fun c y hy => by
      by_cases hc : c = b
      · subst hc; simp [World.shape?, hm] at hy
      · unfold World.shape? at hy ⊢; rw [other c hc]; exact hy
    have mono : ∀ {y : AV} {u : Value}, V P F w y u → V P F { w with heap := w.heap.setIfInBounds b (.map es' clock') } y u := fun h =>
      h.mono (fun _ h => h) (fun c o hF => World.cell?_of_block (w := w) (other c (fun e' => hFb (e' ▸ hF)))) shp
    refine sound_skip hd hr (w' := { w with heap := w.heap.setIfInBounds b (.map es' clock') }) (h' := s.h.set b (.map (mput ents ks (s.ev v')))) ?_ ?_ ?_ hK
    · rcases hop with hop | hop <;> simp [execOp, hop, hev, hevi, hrun]
    · exact ⟨rfl, rfl, rfl, by simp, fun _ h => h, fun c _ hn => other c (fun e' => by subst e'; rw [hb] at hn; cases hn), fun _ h => .inl h, fun c hc => by
        by_cases h : c = b
        · subst h; left; rw [hb]; simp
        · rw [Heap.set_ne _ _ h] at hc; exact .inl hc, shp⟩
    · intro c k hk
      by_cases hc : c = b
      · subst hc
        rw [Heap.set_same] at hk; cases hk
        obtain ⟨q1, q2, q3, q4⟩ := hrel _ mono
        exact ⟨hFb, es', clock', by simp [hlt], q1, q2, q3, q4⟩
      · rw [Heap.set_ne _ _ hc] at hk
        obtain ⟨g1, g2⟩ := hr.heap c k hk
        exact ⟨g1, g2.mono (fun _ h => h) (fun d o hF => World.cell?_of_block (w := w) (other d (fun e' => hFb (e' ▸ hF)))) shp (other c hc)⟩
  cases hp : mplace ents ks with
  | none =>
    rw [hp] at hfind
    simp only [Option.bind_none] at hfind
    refine go (es.push { key := keyV ks, val := a.eval v, born := clock }) (clock + 1) ?_ fun w' mono => ?_
    · simp [Instr.mapUpdate, run_underlying ht, MapKept.run_getObj_map hm, hchk, hfind, MapKept.run_setObj_map _ hm]
    · rw [mput_none hp]
      refine ⟨by simp [hsz], fun j e he => ?_, fun i j e e' hi hj hij => ?_, fun j k y hy => ?_⟩
      · rw [Array.getElem?_push] at he
        split at he
        · cases he; simp
        · have := hborn j e he; omega
      · rw [Array.getElem?_push] at hi hj
        have hjs : j ≤ es.size := by
          split at hj
          · omega
          · have := (Array.getElem?_eq_some_iff.1 hj).1; omega
        rw [if_neg (by omega)] at hi
        split at hj
        · cases hj; exact hborn i e hi
        · exact hord i j e e' hi hj hij
      · by_cases hj : j < ents.length
        · rw [List.getElem?_append_left hj] at hy
          obtain ⟨e, g1, g2, g3⟩ := hent j k y hy
          exact ⟨e, by rw [Array.getElem?_push, if_neg (by omega)]; exact g1, g2, mono g3⟩
        · rw [List.getElem?_append_right (by omega)] at hy
          have h0 : j - ents.length = 0 := by have := (List.getElem?_eq_some_iff.1 hy).1; simpa using this
          rw [h0] at hy
          simp at hy
          obtain ⟨rfl, rfl⟩ := hy
          exact ⟨_, by rw [Array.getElem?_push, if_pos (by omega)], rfl, mono hvv⟩
  | some q =>
    obtain ⟨y, hy⟩ := mplace_some hp
    obtain ⟨e, g1, g2, g3⟩ := hent q ks y hy
    rw [hp] at hfind
    have g1' : es.toList[q]? = some e := by simpa using g1
    simp only [Option.bind_some, g1', Option.map_some] at hfind
    have hstay : (Instr.keyThatStays (keyV ks) (keyV ks)).run P w = .ok (keyV ks) w := by simp [Instr.keyThatStays, sameBits_ints]
    refine go (es.modify q fun e => { e with key := keyV ks, val := a.eval v }) clock ?_ fun w' mono => ?_
    · simp [Instr.mapUpdate, run_underlying ht, MapKept.run_getObj_map hm, hchk, hfind, g1, g2, hstay, MapKept.run_setObj_map _ hm]
    · rw [mput_some hp]
      have get : ∀ (j : Nat) (e : MapEntry), (es.modify q fun e => { e with key := keyV ks, val := a.eval v })[j]? = some e → ∃ e0, es[j]? = some e0 ∧ e.born = e0.born := fun j e he => by
        rw [Array.getElem?_modify] at he
        split at he
        · cases h0 : es[j]? with
          | none => simp [h0] at he
          | some e0 => simp [h0] at he; subst he; exact ⟨e0, rfl, rfl⟩
        · exact ⟨e, he, rfl⟩
      refine ⟨by simp [hsz], fun j e he => ?_, fun i j e e' hi hj hij => ?_, fun j k u hu => ?_⟩
      · obtain ⟨e0, b1, b2⟩ := get j e he
        rw [b2]; exact hborn j e0 b1
      · obtain ⟨e0, b1, b2⟩ := get i e hi
        obtain ⟨e1, b3, b4⟩ := get j e' hj
        rw [b2, b4]; exact hord i j e0 e1 b1 b3 hij
      · by_cases hj : q = j
        · subst hj
          rw [List.getElem?_set_self (List.getElem?_eq_some_iff.1 hy).1] at hu
          cases hu
          exact ⟨_, by rw [Array.getElem?_modify, if_pos rfl, g1]; rfl, rfl, mono hvv⟩
        · rw [List.getElem?_set_ne hj] at hu
          obtain ⟨e2, b1, b2, b3⟩ := hent j k u hu
          exact ⟨e2, by rw [Array.getElem?_modify, if_neg hj]; exact b1, b2, mono b3⟩

/-! ### copy -/
theorem run_copy_real {t e : TypeId} {i : TypeInfo} (h0 : P.underlying t = some (.slice e)) (h1 : P.info? e = some i) (ty : TypeId) (g o dLen dCap sLen sCap : Nat) (src : Option Addr) (cur : Array Value) (ct : TypeId) (cs : List Value)
    (hg : w.heap[g]? = some (.cells cur ct (0, 0))) (hn : cs.length = min sLen dLen * i.size) (hnil : src = none → sLen = 0) (hsrc : ∀ a0, src = some a0 → ∀ j v, cs[j]? = some v → w.cell? (a0.add j) = some v) (hfit : o + cs.length ≤ cur.size) (hone : ∀ v ∈ cs, v.oneCell' = true) :
    (Builtin.copy_ #[t, t] ty #[.slice (some ⟨g, o, none⟩) dLen dCap, .slice src sLen sCap]).run P w = .ok (goInt ((min sLen dLen : Nat) : Int)) (w.setRow g (cur.toList.take o ++ cs ++ cur.toList.drop (o + cs.length)).toArray) := by
  have hst := run_storeCells_at P g o ct cs 0 cur w hg (by simpa using hfit) hone
  simp only [Nat.add_zero] at hst
  cases src with
  | none =>
    have := hnil rfl
    subst this
    have : cs = [] := List.length_eq_zero_iff.1 (by simpa using hn)
    subst this
    simp only [storeCells, List.append_nil, List.length_nil, Nat.add_zero, List.take_append_drop, Array.toArray_toList] at hst
    simp [Builtin.copy_, run_underlying h0, Builtin.lenOf, Builtin.firstCells, sizeOf, typeInfo, h1, storeCells]
    rw [setRow_self w g cur ct (0, 0) hg]
  | some a0 =>
    have hl := run_loadCells_list (P := P) w a0 cs (hsrc a0 rfl)
    rw [hn] at hl
    have hl' : Sem.run P (loadCells a0 (sLen.min dLen * i.size)) w = .ok cs.toArray w := hl
    simp [Builtin.copy_, run_underlying h0, Builtin.lenOf, Builtin.firstCells, sizeOf, typeInfo, h1, hl', hst]
theorem sound_copy {t e : TypeId} {x y : Operand} {x' y' : Opd} {i : TypeInfo} (hop : o.op = .call { callee := .builtin .copy, args := #[x, y], argTypes := #[t, t] })
    (h0 : P.underlying t = some (.slice e)) (h1 : P.info? e = some i) (h2 : 0 < i.size) (hx : trOpd x = some x') (hy : trOpd y = some y')
    (hd : okD n o.dst = true) (hr : Rel P F n s a w) (hX : X P (.copy i.size x' y') s K) : o.wp P a w (Aft P F n s w o.dst K) Q := by
  have hv := V_ev hr hx
  have hv' := V_ev hr hy
  simp only [X] at hX
  obtain ⟨m, new, ad, c, news, hK, hav', hnl, hnsl, hnil, hcells, hnv⟩ := src_real hr.heap hv' h2 hX
  have hexec : (execOp a.eval o).run P w = ((Builtin.copy_ #[t, t] o.type #[a.eval x, a.eval y]).run P w).andThen fun v w' => .ok (.value v) w' := by
    simp [execOp, hop, resolve, invoke, builtin]
  rw [hav'] at hexec
  generalize hav : a.eval x = v at hv
  rw [hav] at hexec
  have main : ∀ (b off dn dcap : Nat) (ee : TypeId) (cells : List AV), v = .slice (some ⟨b, off, none⟩) dn dcap → s.h b = some (.row ee cells) → off + dn * i.size ≤ cells.length → new.all oneC = true →
      K (.val (.int .i64 (min m dn : Nat))) (s.h.set b (.row ee (splice cells off (new.take (min m dn * i.size))))) → o.wp P a w (Aft P F n s w o.dst K) Q := by
    intro b off dn dcap ee cells hvv hb hfit hone hK
    subst hvv
    obtain ⟨hFb, arr, harr, hl, hcv⟩ := hr.heap b _ hb
    have hmn : min m dn * i.size ≤ m * i.size := Nat.mul_le_mul_right _ (Nat.min_le_left _ _)
    have hdn : min m dn * i.size ≤ dn * i.size := Nat.mul_le_mul_right _ (Nat.min_le_right _ _)
    have hlen : (news.take (min m dn * i.size)).length = min m dn * i.size := by rw [List.length_take]; omega
    have hlenA : (new.take (min m dn * i.size)).length = min m dn * i.size := by rw [List.length_take]; omega
    have hone' : ∀ z ∈ news.take (min m dn * i.size), z.oneCell' = true := by
      intro z hz
      obtain ⟨j, hj⟩ := List.getElem?_of_mem hz
      rw [List.getElem?_take] at hj
      split at hj
      · have hjl : j < new.length := by omega
        have := hnv j new[j] (List.getElem?_eq_getElem hjl)
        rw [List.getD_eq_getElem?_getD, hj] at this
        exact one_of this ((List.all_eq_true.1 hone) _ (List.getElem_mem hjl))
      · cases hj
    have hrun := run_copy_real (w := w) h0 h1 o.type b off dn dcap m c ad arr ee (news.take (min m dn * i.size)) harr hlen hnil (fun a0 ha j u hu => by
      rw [List.getElem?_take] at hu
      split at hu
      · exact hcells a0 ha j u hu
      · cases hu) (by rw [hlen]; omega) hone'
    rw [hrun] at hexec
    have hsz' : ((arr.toList.take off ++ news.take (min m dn * i.size) ++ arr.toList.drop (off + (news.take (min m dn * i.size)).length)).toArray).size = arr.size := by
      simp only [List.size_toArray, List.length_append, List.length_take, List.length_drop, Array.length_toList]
      omega
    refine sound_to hd hr (v := goInt ((min m dn : Nat) : Int)) hexec (step_setRow (xs := cells) (ys := []) hr.heap hb harr hsz' _) (heap_setRow hr.heap hb harr hsz' (by rw [length_splice, hsz']; exact hl) fun j y hy => ?_) (.val _) hK
    rw [spliced _ _ _ (by rw [hlen]; omega), hlen]
    rcases splice_get _ cells off (by rw [hlenA]; omega) j y hy with ⟨a1, a2, a3⟩ | ⟨a1, a2⟩
    · rw [hlenA] at a2
      rw [if_pos ⟨a1, a2⟩]
      rw [List.getElem?_take] at a3
      split at a3
      · rename_i hlt
        have := hnv _ y a3
        rw [List.getD_eq_getElem?_getD] at this ⊢
        rwa [List.getElem?_take, if_pos hlt]
      · cases a3
    · rw [hlenA] at a1
      rw [if_neg (by omega)]; exact hcv j y a2
  split at hK
  · rename_i b dn hev
    rw [hev] at hv
    split at hK
    · rename_i ee cells hb
      cases hv with
      | own _ _ cap e' hn hsh => exact main b 0 dn cap ee cells rfl hb (by omega) hK.2.1 hK.2.2
    · exact hK.elim
  · rename_i b off dn hev
    rw [hev] at hv
    split at hK
    · rename_i ee cells hb
      obtain ⟨k1, k2, k3, k4⟩ := hK
      cases hv with
      | sub _ _ _ cap ad ha => exact main b off dn cap ee cells (by rw [ha k1]) hb k2 k3 k4
    · exact hK.elim
  · exact hK.elim
end Go.Ab
