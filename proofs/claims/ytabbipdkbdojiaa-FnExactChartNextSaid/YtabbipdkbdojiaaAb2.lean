/- The abstract layer, part 2: each operation over abstract values is what the loaded program's operation does. Plain lemmas over any program; no condition. -/
import Derived.Test.YtabbipdkbdojiaaAb1
namespace Go.Ab
open Go Go.RowKit
set_option linter.unusedVariables false
variable {P : Program} {F : Nat → Prop} {n : Nat} {s : St} {a : Act} {w : World} {o : Oper} {K : AV → Heap → Prop} {Q : Exit → Act → World → Prop}

/-- What stands behind an operation. -/
def Aft (P : Program) (F : Nat → Prop) (n : Nat) (s : St) (w : World) (d : Option Nat) (K : AV → Heap → Prop) : Act → World → Prop :=
  fun a' w' => ∃ (F' : Nat → Prop) (r : AV) (h' : Heap), K r h' ∧ Rel P F' n ((s.heap h').put' d r) a' w' ∧ Step F s.h w F' h' w'

theorem St.heap_self (s : St) : s.heap s.h = s := rfl

theorem sound_val (hd : okD n o.dst = true) (hr : Rel P F n s a w) {r : AV} {v : Value} (hrun : (execOp a.eval o).run P w = .ok (.value v) w) (hv : V P F w r v) (hK : K r s.h) :
    o.wp P a w (Aft P F n s w o.dst K) Q := by
  unfold Oper.wp
  rw [hrun]
  exact ⟨F, r, s.h, hK, hr.put' hd hv, Step.refl F s.h w⟩

theorem sound_to (hd : okD n o.dst = true) (hr : Rel P F n s a w) {r : AV} {v : Value} {w' : World} {h' : Heap} (hrun : (execOp a.eval o).run P w = .ok (.value v) w') (st : Step F s.h w F h' w')
    (hh : HeapRel P F w' h') (hv : V P F w' r v) (hK : K r h') : o.wp P a w (Aft P F n s w o.dst K) Q := by
  unfold Oper.wp
  rw [hrun]
  exact ⟨F, r, h', hK, (hr.step st hh (fun b hb => Nat.lt_of_lt_of_le (hr.dom b hb) st.size)).put' hd hv, st⟩

theorem sound_skip (hd : okD n o.dst = true) (hr : Rel P F n s a w) {w' : World} {h' : Heap} (hrun : (execOp a.eval o).run P w = .ok .skip w') (st : Step F s.h w F h' w')
    (hh : HeapRel P F w' h') (hK : K .junk h') : o.wp P a w (Aft P F n s w o.dst K) Q := by
  unfold Oper.wp
  rw [hrun]
  exact ⟨F, .junk, h', hK, (hr.step st hh (fun b hb => Nat.lt_of_lt_of_le (hr.dom b hb) st.size)).put' hd (.junk _), st⟩

/-! ### new blocks -/
theorem shape_alloc (w : World) (o : Obj) (b : Nat) (x : TypeId × Nat) (h : w.shape? b = some x) : (w.alloc o).shape? b = some x := by
  have hb : b < w.heap.size := by
    unfold World.shape? at h
    split at h
    · rename_i hh; exact (Array.getElem?_eq_some_iff.1 hh).1
    · cases h
  unfold World.shape? at h ⊢
  rw [Below.heap_alloc w o b hb]; exact h

theorem step_alloc (hr : HeapRel P F w s.h) (hdom : ∀ b, F b → b < w.heap.size) (hh : Heap) (ob : Obj) (hnew : ∀ b, hh b ≠ none → s.h b ≠ none ∨ b = w.heap.size) : Step F s.h w F hh (w.alloc ob) where
  os := rfl
  tape := rfl
  output := rfl
  size := by simp
  sub := fun _ h => h
  keep := fun b hb _ => Below.heap_alloc w ob b hb
  newF := fun _ h => .inl h
  newH := fun b hb => by rcases hnew b hb with h | h; exact .inl h; exact .inr (by omega)
  shape := fun b x h => shape_alloc w ob b x h

theorem fresh (hr : HeapRel P F w s.h) : s.h w.heap.size = none := by
  cases hh : s.h w.heap.size with
  | none => rfl
  | some k => have := hr.lt hh; omega

theorem V.alloc (hdom : ∀ b, F b → b < w.heap.size) {x : AV} {v : Value} (h : V P F w x v) (ob : Obj) : V P F (w.alloc ob) x v :=
  h.mono (fun _ h => h) (fun b o hF => World.cell?_of_block (w := w) (Below.heap_alloc w ob b (hdom b hF))) (fun b x h => shape_alloc w ob b x h)

theorem heap_new (hr : HeapRel P F w s.h) (hdom : ∀ b, F b → b < w.heap.size) (e : TypeId) (arr : Array Value) (xs : List AV) (hl : xs.length ≤ arr.size)
    (hx : ∀ (j : Nat) (x : AV), xs[j]? = some x → V P F w x (arr.getD j undef)) : HeapRel P F (w.alloc (.cells arr e)) (s.h.set w.heap.size (.row e xs)) := by
  intro b k hk
  by_cases hb : b = w.heap.size
  · subst hb
    rw [Heap.set_same] at hk; cases hk
    exact ⟨fun hF => by have := hdom _ hF; omega, arr, heap_alloc_new w _, hl, fun j x hj => (hx j x hj).alloc hdom _⟩
  · rw [Heap.set_ne _ _ hb] at hk
    obtain ⟨h1, h2⟩ := hr b k hk
    have hlt := hr.lt hk
    exact ⟨h1, h2.mono (fun _ h => h) (fun b o hF => World.cell?_of_block (w := w) (Below.heap_alloc w _ b (hdom b hF))) (fun b x h => shape_alloc w _ b x h) (Below.heap_alloc w _ b hlt)⟩

theorem step_new (hr : HeapRel P F w s.h) (hdom : ∀ b, F b → b < w.heap.size) (k : Blk) (ob : Obj) : Step F s.h w F (s.h.set w.heap.size k) (w.alloc ob) :=
  step_alloc hr hdom _ ob fun b hb => by
    by_cases h : b = w.heap.size
    · exact .inr h
    · rw [Heap.set_ne _ _ h] at hb; exact .inl hb

/-! ### cells of values -/
theorem cells_of {x : AV} {v : Value} (hv : V P F w x v) {cs : List AV} (h : cellsOf? x = some cs) : v.cells.size = cs.length ∧ ∀ (j : Nat) (c : AV), cs[j]? = some c → V P F w c (v.cells.getD j undef) := by
  have one : ∀ {x : AV} {v : Value}, V P F w x v → v.cells = #[v] → cs = [x] → v.cells.size = cs.length ∧ ∀ (j : Nat) (c : AV), cs[j]? = some c → V P F w c (v.cells.getD j undef) := by
    intro x v hv h1 h2
    subst h2
    rw [h1]
    refine ⟨rfl, fun j c hc => ?_⟩
    cases j with
    | zero => simp at hc; subst hc; simpa using hv
    | succ j => simp at hc
  cases hv with
  | agg xs vs hl hx => simp [cellsOf?] at h; subst h; exact ⟨hl, hx⟩
  | junk => simp [cellsOf?, oneC] at h
  | tup => simp [cellsOf?, oneC] at h
  | val v =>
    by_cases h1 : oneC (.val v) = true
    · simp only [cellsOf?, h1, if_true, Option.some.injEq] at h; subst h
      exact one (.val v) (by simp only [oneC] at h1; cases v <;> simp_all [Value.oneCell', Value.cells]) rfl
    · simp only [cellsOf?, h1] at h; cases h
  | immE t a' cap ht => simp [cellsOf?, oneC] at h; subst h; exact one (.immE t a' cap ht) rfl rfl
  | imm t els b o cap sz c h1 h2 h3 h4 h5 h6 => simp [cellsOf?, oneC] at h; subst h; exact one (.imm t els b o cap sz c h1 h2 h3 h4 h5 h6) rfl rfl
  | ptr cells b o c h1 h2 h3 => simp [cellsOf?, oneC] at h; subst h; exact one (.ptr cells b o c h1 h2 h3) rfl rfl
  | own b n' cap e h1 h2 => simp [cellsOf?, oneC] at h; subst h; exact one (.own b n' cap e h1 h2) rfl rfl
  | adr b o => simp [cellsOf?, oneC] at h; subst h; exact one (.adr b o) rfl rfl
  | fn f caps vs h1 h2 => simp [cellsOf?, oneC] at h; subst h; exact one (.fn f caps vs h1 h2) rfl rfl
  | mp b => simp [cellsOf?, oneC] at h; subst h; exact one (.mp b) rfl rfl
  | sub b o n cap ad ha => simp [cellsOf?, oneC] at h; subst h; exact one (.sub b o n cap ad ha) rfl rfl

theorem one_of {x : AV} {v : Value} (hv : V P F w x v) (h : oneC x = true) : v.oneCell' = true := by
  cases hv <;> simp_all [oneC, Value.oneCell']

theorem one_wide (v : Value) (h : v.oneCell' = true) : v.cells = #[v] := by cases v <;> simp_all [Value.oneCell', Value.cells]

/-! ### reading a variable -/
theorem trAg_agg {t : TypeId} {k : Nat} (h : trAg P t = some (k, true)) : ∃ i d, P.info? t = some i ∧ i.size = k ∧ P.underlying t = some d ∧ (isAgg t).run P w = .ok true w := by
  unfold trAg at h
  split at h <;> simp at h
  · rename_i i fs hi hu; exact ⟨i, _, hi, h, hu, by simp [isAgg, run_underlying hu]⟩
  · rename_i i m e hi hu; exact ⟨i, _, hi, h, hu, by simp [isAgg, run_underlying hu]⟩
theorem trAg_one {t : TypeId} {k : Nat} (h : trAg P t = some (k, false)) : k = 1 ∧ (isAgg t).run P w = .ok false w := by
  unfold trAg at h
  split at h <;> simp at h
  rename_i i d h1 h2 hi hu
  refine ⟨h.symm, ?_⟩
  simp only [isAgg, Sem.run_bind, run_underlying hu, Result.andThen_ok]
  cases d <;> simp_all

theorem run_loadVar {t : TypeId} {k : Nat} {ag : Bool} (h : trAg P t = some (k, ag)) (ad : Addr) (c : Nat → Value) (hc : ∀ j, j < k → w.cell? (ad.add j) = some (c j)) :
    (loadVar t ad).run P w = .ok (if ag then .agg ((List.range k).map c).toArray else c 0) w := by
  cases ag with
  | true =>
    obtain ⟨i, d, hi, hk, hu, hag⟩ := trAg_agg (w := w) h
    have hl := run_loadCells (P := P) w ad k c hc
    simp only [loadVar, Sem.run_bind, hag, Result.andThen_ok, sizeOf, typeInfo, if_true]
    simp [hi, hk, hl]
  | false =>
    obtain ⟨rfl, hag⟩ := trAg_one (w := w) h
    have h0 := hc 0 (by omega)
    rw [show ad.add 0 = ad from by simp [Addr.add]] at h0
    simp only [loadVar, Sem.run_bind, hag, Result.andThen_ok]
    simp [h0]

theorem V_loadC {ag : Bool} {k : Nat} {cells : List AV} {off : Nat} (hk : off + k ≤ cells.length) (h1 : ag = false → k = 1) (c : Nat → Value) (hv : ∀ (j : Nat) (x : AV), cells[off + j]? = some x → V P F w x (c j)) :
    V P F w (loadC k ag cells off) (if ag then .agg ((List.range k).map c).toArray else c 0) := by
  cases ag with
  | true =>
    simp only [loadC, if_true]
    refine .agg _ _ (by simp; omega) fun i x hx => ?_
    rw [List.getElem?_take] at hx
    split at hx
    · rename_i hi
      rw [List.getElem?_drop] at hx
      have := hv i x hx
      simpa [hi] using this
    · cases hx
  | false =>
    have := h1 rfl; subst this
    simp only [loadC, Bool.false_eq_true, if_false]
    have hlt : off < cells.length := by omega
    have := hv 0 cells[off] (by simp [hlt])
    simpa [List.getD, hlt] using this

theorem sound_load {t : TypeId} {x : Operand} {k : Nat} {ag : Bool} {x' : Opd} (hop : o.op = .load t x) (hag : trAg P t = some (k, ag)) (hx : trOpd x = some x') (hd : okD n o.dst = true) (hr : Rel P F n s a w)
    (hX : X P (.load k ag x') s K) : o.wp P a w (Aft P F n s w o.dst K) Q := by
  have hv := V_ev hr hx
  have h1 : ag = false → k = 1 := fun h => by subst h; exact (trAg_one (w := w) hag).1
  simp only [X] at hX
  split at hX
  · rename_i cells hev
    rw [hev] at hv
    obtain ⟨hk, hK⟩ := hX
    generalize hav : a.eval x = v at hv
    cases hv with
    | ptr _ b off c hF hc hcv =>
      have hcell : ∀ j, j < k → w.cell? ((⟨b, off, none⟩ : Addr).add j) = some (c j) := fun j hj => by
        rw [Addr.add_lit]; exact hc j _ (List.getElem?_eq_getElem (by omega))
      have hrun := run_loadVar (w := w) hag ⟨b, off, none⟩ c hcell
      refine sound_val hd hr (v := if ag then .agg ((List.range k).map c).toArray else c 0) ?_ (V_loadC (by omega) h1 c (fun j x hx => hcv j x (by simpa using hx))) hK
      simp [execOp, hop, hav, Instr.loadAt, Instr.sureAddr, hrun]
  · rename_i b off hev
    rw [hev] at hv
    split at hX
    · rename_i e cells hb
      obtain ⟨hk, hK⟩ := hX
      generalize hav : a.eval x = v at hv
      cases hv
      obtain ⟨_, arr, harr, hl, hcv⟩ := hr.heap b _ hb
      have hcell : ∀ j, j < k → w.cell? ((⟨b, off, none⟩ : Addr).add j) = some (arr.getD (off + j) undef) := fun j hj => by
        rw [Addr.add_lit, cell_of_row w b _ arr e _ harr, Array.getD_eq_getD_getElem?, Array.getElem?_eq_getElem (by omega)]; rfl
      have hrun := run_loadVar (w := w) hag ⟨b, off, none⟩ _ hcell
      refine sound_val hd hr (v := if ag then .agg ((List.range k).map fun j => arr.getD (off + j) undef).toArray else arr.getD (off + 0) undef) ?_ (V_loadC hk h1 (fun j => arr.getD (off + j) undef) (fun j x hx => hcv _ x hx)) hK
      simp [execOp, hop, hav, Instr.loadAt, Instr.sureAddr, hrun]
    · exact hX.elim
  · exact hX.elim

end Go.Ab
