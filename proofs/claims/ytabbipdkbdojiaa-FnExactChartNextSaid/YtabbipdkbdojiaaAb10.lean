/- The abstract layer, part 10: code, loops and functions. Plain lemmas over any program; no condition. -/
import Derived.Test.YtabbipdkbdojiaaAb9
namespace Go.Ab
open Go Go.RowKit
set_option linter.unusedVariables false
set_option linter.unusedSimpArgs false
variable {P : Program} {F : Nat → Prop} {n : Nat} {s : St} {a : Act} {w : World} {Q : Exit → Act → World → Prop}

inductive IC where
  | skip
  | reg (l : List Ins)
  | dreg (sch : Sch) (l : List Ins)
  | seq (a b : IC)
  | cond (c : Opd) (a b : IC)
  | block (id : Nat) (c : IC)
  | loop (c : IC)
  | exit (id : Nat)
  | ret

def trCode (P : Program) (n : Nat) : Code → Option IC
  | .skip => some .skip
  | .region _ ops false => (trReg P n ops).map .reg
  | .region _ ops true => match trReg P n ops with
    | some l => (mkSch ops l ops.size (Array.replicate ops.size false)).map fun s => .dreg s l
    | none => none
  | .seq a b => match trCode P n a, trCode P n b with
    | some x, some y => some (.seq x y)
    | _, _ => none
  | .cond c a b => match trOpd c, trCode P n a, trCode P n b with
    | some c', some x, some y => some (.cond c' x y)
    | _, _, _ => none
  | .block id c => (trCode P n c).map (.block id)
  | .loop c => (trCode P n c).map .loop
  | .exit id => some (.exit id)
  | .ret => some .ret
  | _ => none

inductive Ex where
  | normal
  | exit (id : Nat)
  | ret
def Ex.then (K : St → Prop) (Q : Ex → St → Prop) : Ex → St → Prop
  | .normal, s => K s
  | e, s => Q e s
def Ex.inBlock (id : Nat) (Q : Ex → St → Prop) : Ex → St → Prop
  | .exit i, s => if i = id then Q .normal s else Q (.exit i) s
  | e, s => Q e s
/-- Less is known. -/
def St.le (s s' : St) : Prop := (∀ i, s.env i = s'.env i ∨ s.env i = .junk) ∧ s.h.le s'.h

/-- What a piece of code comes to. A loop: by what holds at each round's head, and a measure; what is no longer needed may be forgotten ahead of it and at a round's end. -/
def C (P : Program) : IC → St → (Ex → St → Prop) → Prop
  | .skip, s, Q => Q .normal s
  | .reg l, s, Q => W P l s (Q .normal)
  | .dreg sch l, s, Q => D P l sch s (Q .normal)
  | .seq a b, s, Q => C P a s (Ex.then (fun s' => C P b s' Q) Q)
  | .cond c a b, s, Q => match s.ev c with
    | .val (.bool t) => (t = true → C P a s Q) ∧ (t = false → C P b s Q)
    | _ => False
  | .block id c, s, Q => C P c s (Ex.inBlock id Q)
  | .loop c, s, Q => ∃ (I : St → Prop) (μ : St → Nat) (s0 : St), s0.le s ∧ I s0 ∧ ∀ s1, I s1 → C P c s1 (Ex.then (fun s2 => ∃ s3, s3.le s2 ∧ I s3 ∧ μ s3 < μ s1) Q)
  | .exit id, s, Q => Q (.exit id) s
  | .ret, s, Q => Q .ret s

theorem Rel.le {s' : St} (hr : Rel P F n s' a w) (hl : s.le s') : Rel P F n s a w where
  tmps := hr.tmps
  env := fun i => by rcases hl.1 i with h | h <;> rw [h]; exact hr.env i; exact .junk _
  heap := hr.heap.le hl.2
  dom := hr.dom
  defers := hr.defers

/-- The exits of the machine, and ours. -/
def Lift (P : Program) (F : Nat → Prop) (n : Nat) (h : Heap) (w : World) (Q : Ex → St → Prop) : Exit → Act → World → Prop :=
  fun e a' w' => ∃ (F' : Nat → Prop) (s' : St), Rel P F' n s' a' w' ∧ Step F h w F' s'.h w' ∧ match e with
    | .normal => Q .normal s'
    | .exit id => Q (.exit id) s'
    | .ret => Q .ret s'
    | _ => False

theorem Lift.of {F1 : Nat → Prop} {s1 : St} {w1 : World} {h : Heap} (st : Step F h w F1 s1.h w1) {Q : Ex → St → Prop} {e : Exit} {a' : Act} {w' : World} (hl : Lift P F1 n s1.h w1 Q e a' w') : Lift P F n h w Q e a' w' := by
  obtain ⟨F', s', hr, st', hq⟩ := hl
  exact ⟨F', s', hr, st.trans st', hq⟩

theorem C_sound (hm : P.follows .mixedOrders = true) : ∀ (c : Code) (i : IC) (F : Nat → Prop) (s : St) (a : Act) (w : World) (Q : Ex → St → Prop), trCode P n c = some i → Rel P F n s a w → C P i s Q → c.wp P (Lift P F n s.h w Q) a w
  | .skip, i, F, s, a, w, Q, ht, hr, h => by
    simp only [trCode, Option.some.injEq] at ht; subst ht
    exact wp_skip ⟨F, s, hr, Step.refl _ _ _, h⟩
  | .region id ops false, i, F, s, a, w, Q, ht, hr, h => by
    simp only [trCode] at ht
    cases hl : trReg P n ops with
    | none => simp [hl] at ht
    | some l =>
      simp [hl] at ht; subst ht
      exact reg_sound hl hr h fun F' s' a' w' hK hrel st => ⟨F', s', hrel, st, hK⟩
  | .region id ops true, i, F, s, a, w, Q, ht, hr, h => by
    simp only [trCode] at ht
    split at ht
    · rename_i l hl
      cases hs : mkSch ops l ops.size (Array.replicate ops.size false) with
      | none => simp [hs] at ht
      | some sch =>
        simp [hs] at ht; subst ht
        exact dreg_sound hm hl hs hr h fun F' s' a' w' hK hrel st => ⟨F', s', hrel, st, hK⟩
    · cases ht
  | .seq x y, i, F, s, a, w, Q, ht, hr, h => by
    simp only [trCode] at ht
    split at ht
    · rename_i x' y' hx hy
      cases ht
      refine wp_seq (wp_mono (C_sound hm x x' F s a w _ hx hr h) ?_)
      rintro e a' w' ⟨F', s', hrel, st, hq⟩
      cases e with
      | normal => exact wp_mono (C_sound hm y y' F' s' a' w' Q hy hrel hq) fun e a2 w2 hl => hl.of st
      | exit id => exact ⟨F', s', hrel, st, hq⟩
      | ret => exact ⟨F', s', hrel, st, hq⟩
      | goto l => exact hq.elim
      | panic ch => exact hq.elim
      | outgrown => exact hq.elim
    · cases ht
  | .cond c x y, i, F, s, a, w, Q, ht, hr, h => by
    simp only [trCode] at ht
    split at ht
    · rename_i c' x' y' hc hx hy
      cases ht
      simp only [C] at h
      split at h
      · rename_i t hev
        have hv := V_ev hr hc
        rw [hev] at hv
        generalize hav : a.eval c = v at hv
        cases hv
        exact wp_cond_split hav (fun e => C_sound hm x x' F s a w Q hx hr (h.1 e)) (fun e => C_sound hm y y' F s a w Q hy hr (h.2 e))
      · exact h.elim
    · cases ht
  | .block id c, i, F, s, a, w, Q, ht, hr, h => by
    simp only [trCode] at ht
    cases hc : trCode P n c with
    | none => simp [hc] at ht
    | some c' =>
      simp [hc] at ht; subst ht
      refine wp_block (wp_mono (C_sound hm c c' F s a w _ hc hr h) ?_)
      rintro e a' w' ⟨F', s', hrel, st, hq⟩
      cases e with
      | normal => exact ⟨F', s', hrel, st, hq⟩
      | exit id' =>
        simp only [Ex.inBlock, Exit.inBlock] at hq ⊢
        split
        · rename_i e; rw [if_pos e] at hq; exact ⟨F', s', hrel, st, hq⟩
        · rename_i e; rw [if_neg e] at hq; exact ⟨F', s', hrel, st, hq⟩
      | ret => exact ⟨F', s', hrel, st, hq⟩
      | goto l => exact hq.elim
      | panic ch => exact hq.elim
      | outgrown => exact hq.elim
  | .loop c, i, F, s, a, w, Q, ht, hr, h => by
    simp only [trCode] at ht
    cases hc : trCode P n c with
    | none => simp [hc] at ht
    | some c' =>
      simp [hc] at ht; subst ht
      obtain ⟨I, μ, s0, hle0, h0, round⟩ := h
      have key : ∀ (k : Nat) (s1 : St) (F1 : Nat → Prop) (a1 : Act) (w1 : World), μ s1 = k → I s1 → Rel P F1 n s1 a1 w1 → Step F s.h w F1 s1.h w1 → ∀ (b : Frame) (kk : List Item) (cs : List Frame),
          ∃ e a' w', Lift P F n s.h w Q e a' w' ∧ Arrives P (lone (b.at a1 (.code c :: .inLoop c :: kk)) cs w1) b kk cs e a' w' := by
        intro k
        induction k using Nat.strongRecOn with
        | _ k ih =>
          intro s1 F1 a1 w1 hk hI hrel st b kk cs
          obtain ⟨e, a', w', ⟨F', s', hrel', st', hq⟩, harr⟩ := C_sound hm c c' F1 s1 a1 w1 _ hc hrel (round s1 hI) b (.inLoop c :: kk) cs
          cases e with
          | normal =>
            obtain ⟨s3, hle, hI3, hlt⟩ := hq
            obtain ⟨e2, a2, w2, hq2, harr2⟩ := ih (μ s3) (hk ▸ hlt) s3 F' a' w' rfl hI3 (hrel'.le hle) ((st.trans st').weaken hle.2) b kk cs
            exact ⟨e2, a2, w2, hq2, .of_steps (Steps.trans harr (.one step_inLoop)) harr2⟩
          | exit id => exact ⟨_, a', w', ⟨F', s', hrel', st.trans st', hq⟩, .pass (x := .inLoop c) rfl (fun _ _ => .inl (by simp)) harr⟩
          | ret => exact ⟨_, a', w', ⟨F', s', hrel', st.trans st', hq⟩, .pass (x := .inLoop c) rfl (fun _ _ => .inl (by simp)) harr⟩
          | goto l => exact hq.elim
          | panic ch => exact hq.elim
          | outgrown => exact hq.elim
      intro b kk cs
      obtain ⟨e, a', w', hq, harr⟩ := key _ s0 F a w rfl h0 (hr.le hle0) ((Step.refl _ _ _).weaken hle0.2) b kk cs
      exact ⟨e, a', w', hq, .of_steps (.one step_loop) harr⟩
  | .exit id, i, F, s, a, w, Q, ht, hr, h => by
    simp only [trCode, Option.some.injEq] at ht; subst ht
    exact wp_exit ⟨F, s, hr, Step.refl _ _ _, h⟩
  | .ret, i, F, s, a, w, Q, ht, hr, h => by
    simp only [trCode, Option.some.injEq] at ht; subst ht
    exact wp_ret ⟨F, s, hr, Step.refl _ _ _, h⟩
  | .rangeFunc _ _ _ _, i, F, s, a, w, Q, ht, hr, h => by simp [trCode] at ht
  | .scope _, i, F, s, a, w, Q, ht, hr, h => by simp [trCode] at ht
  | .label _, i, F, s, a, w, Q, ht, hr, h => by simp [trCode] at ht
  | .goto _, i, F, s, a, w, Q, ht, hr, h => by simp [trCode] at ht
  | .refuse _, i, F, s, a, w, Q, ht, hr, h => by simp [trCode] at ht

/-! ### functions -/
inductive Res where
  | none
  | tmp (t : Nat)
  | cell (t k : Nat) (ag : Bool)
  | many (ts : List (Nat × Option (Nat × Bool)))
def trRes (P : Program) : ResultVar → Option (Nat × Option (Nat × Bool))
  | .tmp t => some (t, .none)
  | .cell t ty => (trAg P ty).map fun p => (t, some p)
def resV (s : St) : Nat × Option (Nat × Bool) → Option AV
  | (t, .none) => some (s.env t)
  | (t, some (k, ag)) => match s.env t with
    | .adr b o => match s.h b with
      | some (.row _ cells) => if o + k ≤ cells.length then some (loadC k ag cells o) else .none
      | _ => .none
    | .ptr cells => if k ≤ cells.length then some (loadC k ag cells 0) else .none
    | _ => .none
/-- A function as we have it: how many slots, its results, its code. -/
structure Fun where
  n : Nat
  res : List (Nat × Option (Nat × Bool))
  code : IC
def trFun (P : Program) (f : FuncId) : Option Fun :=
  match P.funcs[f]? with
  | some fn => match fn.body with
    | some c => match trCode P fn.ntmps c, fn.results.toList.mapM (trRes P) with
      | some i, some rs => some ⟨fn.ntmps, rs, i⟩
      | _, _ => none
    | none => none
  | none => none
def retV : List AV → AV
  | [x] => x
  | xs => .tup xs
/-- What holds of a function's end. -/
def atEnd (g : Fun) (Q : AV → Heap → Prop) : Ex → St → Prop
  | .exit _, _ => False
  | _, s => match g.res.mapM (resV s) with
    | some xs => ∃ h', h'.le s.h ∧ Q (retV xs) h'
    | none => False

def envOf (args : List AV) : Nat → AV := fun i => args.getD i .junk

theorem res_run {fn : Func} {rs : List (Nat × Option (Nat × Bool))} (ht : fn.results.toList.mapM (trRes P) = some rs) (hr : Rel P F n s a w) {xs : List AV} (hx : rs.mapM (resV s) = some xs) :
    ∃ v, (results fn a.tmps).run P w = .ok v w ∧ V P F w (retV xs) v := by
  have one : ∀ (r : ResultVar) (q : Nat × Option (Nat × Bool)) (x : AV), trRes P r = some q → resV s q = some x → ∃ v, (match r with | .tmp t => pure (a.tmps.getD t undef) | .cell b t => do loadVar t (← asAddr (a.tmps.getD b undef)) : Sem Value).run P w = .ok v w ∧ V P F w x v := by
    intro r q x h1 h2
    cases r with
    | tmp t => simp [trRes] at h1; subst h1; simp [resV] at h2; subst h2; exact ⟨_, rfl, hr.env t⟩
    | cell t ty =>
      cases hag : trAg P ty with
      | none => simp [trRes, hag] at h1
      | some p =>
        obtain ⟨k, ag⟩ := p
        simp [trRes, hag] at h1; subst h1
        have h1' : ag = false → k = 1 := fun h => by subst h; exact (trAg_one (w := w) hag).1
        have hv := hr.env t
        simp only [resV] at h2
        split at h2
        · rename_i b off hev
          rw [hev] at hv
          generalize hav : a.tmps.getD t undef = u at hv
          cases hv
          split at h2
          · rename_i e cells hb
            split at h2
            · rename_i hk
              cases h2
              obtain ⟨_, arr, harr, hl, hcv⟩ := hr.heap b _ hb
              have hcell : ∀ j, j < k → w.cell? ((⟨b, off, none⟩ : Addr).add j) = some (arr.getD (off + j) undef) := fun j hj => by
                rw [Addr.add_lit, cell_of_row w b _ arr e _ harr, Array.getD_eq_getD_getElem?, Array.getElem?_eq_getElem (by omega)]; rfl
              have hrun := run_loadVar (w := w) hag ⟨b, off, none⟩ _ hcell
              exact ⟨_, by simp [hav, asAddr, hrun], V_loadC hk h1' (fun j => arr.getD (off + j) undef) (fun j x hx => hcv _ x hx)⟩
            · cases h2
          · cases h2
        · rename_i cells hev
          rw [hev] at hv
          generalize hav : a.tmps.getD t undef = u at hv
          split at h2
          · rename_i hk
            cases h2
            cases hv with
            | ptr _ b off c hF hc hcv =>
              have hcell : ∀ j, j < k → w.cell? ((⟨b, off, none⟩ : Addr).add j) = some (c j) := fun j hj => by
                rw [Addr.add_lit]; exact hc j _ (List.getElem?_eq_getElem (by omega))
              have hrun := run_loadVar (w := w) hag ⟨b, off, none⟩ c hcell
              exact ⟨_, by simp [hav, asAddr, hrun], V_loadC (by omega) h1' c (fun j x hx => hcv j x (by simpa using hx))⟩
          · cases h2
        · cases h2
  have key : ∀ (l : List ResultVar) (rs : List (Nat × Option (Nat × Bool))) (xs : List AV), l.mapM (trRes P) = some rs → rs.mapM (resV s) = some xs →
      ∃ vs : List Value, (l.mapM (fun r => match r with | .tmp t => pure (a.tmps.getD t undef) | .cell b t => do loadVar t (← asAddr (a.tmps.getD b undef)) : ResultVar → Sem Value)).run P w = .ok vs w ∧ vs.length = xs.length ∧
        ∀ (i : Nat) (x : AV), xs[i]? = some x → V P F w x (vs.getD i undef) := by
    intro l
    induction l with
    | nil =>
      intro rs xs h1 h2
      simp at h1; subst h1; simp at h2; subst h2
      exact ⟨[], by simp, rfl, fun i x hx => by simp at hx⟩
    | cons r l ih =>
      intro rs xs h1 h2
      simp only [List.mapM_cons] at h1
      cases hr1 : trRes P r with
      | none => simp [hr1] at h1
      | some q =>
        cases hl1 : l.mapM (trRes P) with
        | none => simp [hr1, hl1] at h1
        | some qs =>
          simp [hr1, hl1] at h1; subst h1
          simp only [List.mapM_cons] at h2
          cases hq : resV s q with
          | none => simp [hq] at h2
          | some x =>
            cases hqs : qs.mapM (resV s) with
            | none => simp [hq, hqs] at h2
            | some xs' =>
              simp [hq, hqs] at h2; subst h2
              obtain ⟨v, hv1, hv2⟩ := one r q x hr1 hq
              obtain ⟨vs, e1, e2, e3⟩ := ih qs xs' hl1 hqs
              refine ⟨v :: vs, ?_, by simp [e2], fun i y hy => ?_⟩
              · rw [List.mapM_cons]
                simp only [Sem.run_bind, hv1, Result.andThen_ok, e1, Sem.run_pure]
              · cases i with
                | zero => simp at hy; subst hy; simpa using hv2
                | succ i => simp at hy; simpa using e3 i y hy
  obtain ⟨vs, e1, e2, e3⟩ := key fn.results.toList rs xs ht hx
  have e1' : (fn.results.mapM (fun r => match r with | .tmp t => pure (a.tmps.getD t undef) | .cell b t => do loadVar t (← asAddr (a.tmps.getD b undef)) : ResultVar → Sem Value)).run P w = .ok vs.toArray w := by
    rw [Array.mapM_eq_mapM_toList]
    show Sem.run P ((fn.results.toList.mapM (fun r => match r with | .tmp t => pure (a.tmps.getD t undef) | .cell b t => do loadVar t (← asAddr (a.tmps.getD b undef)) : ResultVar → Sem Value)) >>= fun l => pure l.toArray) w = _
    rw [Sem.run_bind, e1]; rfl
  refine ⟨if h : vs.toArray.size = 1 then vs.toArray[0] else .tuple vs.toArray, ?_, ?_⟩
  · unfold results
    rw [Sem.run_bind]
    exact congrArg (fun r : Result (Array Value) => r.andThen fun a w' => Sem.run P (pure (if h : a.size = 1 then a[0] else Value.tuple a)) w') e1'
  · match xs, vs, e2, e3 with
    | [x], [v], _, e3 => simpa [retV] using e3 0 x rfl
    | [], [], _, _ => simpa [retV] using V.tup (P := P) (F := F) (w := w) [] #[] rfl (fun i x hx => by simp at hx)
    | x :: y :: xs, v :: u :: vs, e2, e3 =>
      simp only [retV]
      rw [dif_neg (by simp)]
      exact .tup _ _ (by simpa using e2) fun i z hz => by
        have := e3 i z hz
        simpa [Array.getD_eq_getD_getElem?, List.getD_eq_getElem?_getD] using this

theorem CALL_of {f : FuncId} {g : Fun} {args : List AV} {h : Heap} {Q : AV → Heap → Prop} (hm : P.follows .mixedOrders = true) (ht : trFun P f = some g) (hl : args.length ≤ g.n) (hC : C P g.code ⟨envOf args, h⟩ (atEnd g Q)) : CALL P f args h Q := by
  unfold trFun at ht
  split at ht
  case h_2 => cases ht
  rename_i fn hf
  split at ht
  case h_2 => cases ht
  rename_i c hb
  split at ht
  case h_2 => cases ht
  rename_i i rs hc hrs
  cases ht
  intro F w vs hh hdom hvl hvs
  have hsz : (vs ++ Array.replicate (fn.ntmps - vs.size) undef).size = fn.ntmps := by simp at hl ⊢; omega
  have hrel : Rel P F fn.ntmps ⟨envOf args, h⟩ { tmps := vs ++ Array.replicate (fn.ntmps - vs.size) undef, defers := [] } w := by
    refine ⟨hsz, fun k => ?_, hh, hdom, rfl⟩
    simp only [envOf]
    by_cases hk : k < args.length
    · have := hvs k args[k] (by simp [hk])
      rw [List.getD_eq_getElem?_getD, List.getElem?_eq_getElem hk]
      rw [Array.getD_eq_getD_getElem?, Array.getElem?_append_left (by omega), ← Array.getD_eq_getD_getElem?]
      exact this
    · rw [List.getD_eq_getElem?_getD, List.getElem?_eq_none (by omega)]; exact .junk _
  refine calls_of_wp hf hb (wp_mono (C_sound hm c i F _ _ w _ hc hrel hC) ?_)
  have fin : ∀ (a' : Act) (w' : World) (F' : Nat → Prop) (s' : St), Rel P F' fn.ntmps s' a' w' → Step F h w F' s'.h w' → (match rs.mapM (resV s') with | some xs => ∃ h', h'.le s'.h ∧ Q (retV xs) h' | none => False) →
      a'.defers = [] ∧ ∃ v, (results fn a'.tmps).run P w' = .ok v w' ∧ ∃ (F' : Nat → Prop) (r : AV) (v' : Value) (h' : Heap), Ending.returned v = .returned v' ∧ V P F' w' r v' ∧ Q r h' ∧ Step F h w F' h' w' ∧ HeapRel P F' w' h' ∧ ∀ b, F' b → b < w'.heap.size := by
    intro a' w' F' s' hr' st hq
    refine ⟨hr'.defers, ?_⟩
    split at hq
    · rename_i xs hxs
      obtain ⟨h', hle, hQ⟩ := hq
      obtain ⟨v, hv1, hv2⟩ := res_run hrs hr' hxs
      exact ⟨v, hv1, F', retV xs, v, h', rfl, hv2, hQ, st.weaken hle, hr'.heap.le hle, hr'.dom⟩
    · exact hq.elim
  rintro e a' w' ⟨F', s', hrel', st, hq⟩
  cases e with
  | normal => exact fin a' w' F' s' hrel' st hq
  | ret => exact fin a' w' F' s' hrel' st hq
  | exit id => exact hq.elim
  | goto l => exact hq.elim
  | panic ch => exact hq.elim
  | outgrown => exact hq.elim

end Go.Ab
