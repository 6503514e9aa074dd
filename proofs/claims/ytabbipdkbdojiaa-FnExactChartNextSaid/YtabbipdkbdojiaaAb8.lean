/- The abstract layer, part 8: regions: in the text's order, and in whatever order their edges allow. Plain lemmas over any program; no condition. -/
import Derived.Test.YtabbipdkbdojiaaAb7
namespace Go.Ab
open Go Go.RowKit
set_option linter.unusedVariables false
set_option linter.unusedSimpArgs false
variable {P : Program} {F : Nat → Prop} {n : Nat} {s : St} {a : Act} {w : World} {Q : Exit → Act → World → Prop}

instance : Inhabited Ins := ⟨⟨none, .mv (.c (.bool false)), none⟩⟩

def trIns (P : Program) (n : Nat) (ops : Array Oper) (o : Oper) : Option Ins :=
  match trOp P o with
  | none => none
  | some op => if okD n o.dst then match o.guard with
      | none => some ⟨o.dst, op, none⟩
      | some (j, b) => match (ops[j]?).bind (·.dst) with
        | some t => some ⟨o.dst, op, some (t, b)⟩
        | none => none
    else none
def trReg (P : Program) (n : Nat) (ops : Array Oper) : Option (List Ins) := ops.toList.mapM (trIns P n ops)

/-- One instruction. -/
def XI (P : Program) (i : Ins) (s : St) (K : St → Prop) : Prop :=
  match i.g with
  | none => X P i.op s fun v h => K ((s.heap h).put' i.d v)
  | some (t, b) => match s.env t with
    | .val (.bool c) => (c = b → X P i.op s fun v h => K ((s.heap h).put' i.d v)) ∧ (c = !b → K (s.put' i.d (.val (.tuple #[]))))
    | .val (.tuple _) => K (s.put' i.d (.val (.tuple #[])))
    | _ => False
def W (P : Program) : List Ins → St → (St → Prop) → Prop
  | [], s, K => K s
  | i :: r, s, K => XI P i s fun s' => W P r s' K

theorem put'_h (s : St) (d : Option Nat) (x : AV) : (s.put' d x).h = s.h := by cases d <;> rfl

theorem XI_sound {ops : Array Oper} {k : Nat} {o : Oper} {i : Ins} (ho : ops[k]? = some o) (ht : trIns P n ops o = some i) (hr : Rel P F n s a w) {K : St → Prop} (hX : XI P i s K) {R : Act → World → Prop}
    (hR : ∀ (F' : Nat → Prop) (s' : St) a' w', K s' → Rel P F' n s' a' w' → Step F s.h w F' s'.h w' → R a' w') : wpOp P ops Q k R a w := by
  unfold trIns at ht
  split at ht
  · cases ht
  rename_i op hop
  split at ht
  case isFalse => cases ht
  rename_i hd
  have run : ∀ {K' : AV → Heap → Prop}, X P op s K' → (∀ v h, K' v h → K ((s.heap h).put' o.dst v)) → o.wp P a w R Q := by
    intro K' h1 h2
    refine Oper.wp_mono ?_ (X_sound (Q := Q) hop hd hr h1)
    rintro a' w' ⟨F', r, h', hK, hrel, st⟩
    refine hR F' _ a' w' (h2 r h' hK) hrel ?_
    rw [put'_h]; exact st
  unfold wpOp
  simp only [ho]
  split at ht
  · rename_i hg
    cases ht
    have hw : Region.wanted o (yielded ops a.tmps) = true := by simp [Region.wanted, hg]
    rw [if_pos hw]
    have hX' : X P op s fun v h => K ((s.heap h).put' o.dst v) := hX
    exact .inl (run hX' fun v h hk => hk)
  · rename_i j b hg
    split at ht
    case h_2 => cases ht
    rename_i t hjt
    cases ht
    simp only [XI] at hX
    have hlt : ∀ v, a.tmps.getD t undef = v → v ≠ undef → a.tmps[t]? = some v := fun v hav hne => by
      rcases Nat.lt_or_ge t a.tmps.size with h | h
      · rw [Array.getD_eq_getD_getElem?, Array.getElem?_eq_getElem h] at hav
        rw [Array.getElem?_eq_getElem h]; simpa using hav
      · rw [Array.getD_eq_getD_getElem?, Array.getElem?_eq_none h] at hav; exact absurd hav.symm hne
    have skip : (∀ c, yielded ops a.tmps j = some c → c ≠ b) → K (s.put' o.dst (.val (.tuple #[]))) → (if Region.wanted o (yielded ops a.tmps) then o.wp P a w R Q ∨ (o.asks P a w ∧ LetsOut Q) else R (a.put o.dst undef) w) := by
      intro hy hK
      have hw : ¬ Region.wanted o (yielded ops a.tmps) = true := by
        cases hyj : yielded ops a.tmps j with
        | none => simp [Region.wanted, hg, hyj]
        | some c => simpa [Region.wanted, hg, hyj] using hy c hyj
      rw [if_neg hw]
      refine hR F _ _ _ hK (hr.put' hd (.val _)) ?_
      rw [put'_h]; exact Step.refl F s.h w
    split at hX
    case h_3 => exact hX.elim
    case h_2 =>
      rename_i tv hc
      refine skip (fun c hyc => ?_) hX
      exfalso
      have hv := hr.env t
      rw [hc] at hv
      generalize hav : a.tmps.getD t undef = v at hv
      cases hv
      simp only [yielded, hjt, Option.bind_some] at hyc
      cases hg' : a.tmps[t]? with
      | none => simp [hg'] at hyc
      | some u =>
        rw [Array.getD_eq_getD_getElem?, hg'] at hav
        simp only [Option.getD_some] at hav
        subst hav
        simp [hg'] at hyc
    rename_i c hc
    have hv := hr.env t
    rw [hc] at hv
    generalize hav : a.tmps.getD t undef = v at hv
    cases hv
    have hget : a.tmps[t]? = some (.bool c) := hlt _ hav (by simp [undef])
    have hy : yielded ops a.tmps j = some c := by simp only [yielded, hjt, Option.bind_some, hget]
    by_cases hcb : c = b
    · have hw : Region.wanted o (yielded ops a.tmps) = true := by simp [Region.wanted, hg, hy, hcb]
      rw [if_pos hw]
      exact .inl (run (hX.1 hcb) fun v h hk => hk)
    · have hcb' : c = !b := by clear hX skip run hR hlt; cases c <;> cases b <;> first | rfl | exact absurd rfl hcb
      exact skip (fun c' hc' => by rw [hy] at hc'; cases hc'; exact hcb) (hX.2 hcb')

theorem W_sound {ops : Array Oper} {K : St → Prop} (hQ : ∀ (F' : Nat → Prop) (s' : St) a' w', K s' → Rel P F' n s' a' w' → Step F s.h w F' s'.h w' → Q .normal a' w') :
    ∀ (ks : List Nat) (ls : List Ins), ks.length = ls.length → (∀ (j k : Nat) (i : Ins), ks[j]? = some k → ls[j]? = some i → ∃ o, ops[k]? = some o ∧ trIns P n ops o = some i) →
    ∀ (F1 : Nat → Prop) (s1 : St) (a1 : Act) (w1 : World), Rel P F1 n s1 a1 w1 → Step F s.h w F1 s1.h w1 → W P ls s1 K → wpOps P ops Q ks a1 w1
  | [], [], _, _, F1, s1, a1, w1, hr, st, h => hQ F1 s1 a1 w1 h hr st
  | [], _ :: _, hl, _, _, _, _, _, _, _, _ => by simp at hl
  | _ :: _, [], hl, _, _, _, _, _, _, _, _ => by simp at hl
  | k :: ks, i :: ls, hl, hp, F1, s1, a1, w1, hr, st, h => by
    obtain ⟨o, ho, ht⟩ := hp 0 k i rfl rfl
    rw [wpOps_cons]
    exact XI_sound ho ht hr h fun F' s' a' w' hK hrel st' => W_sound hQ ks ls (by simpa using hl) (fun j k i a b => hp (j + 1) k i (by simpa using a) (by simpa using b)) F' s' a' w' hrel (st.trans st') hK

theorem reg_sound {id : Nat} {ops : Array Oper} {l : List Ins} (ht : trReg P n ops = some l) (hr : Rel P F n s a w) {K : St → Prop} (hW : W P l s K)
    (hQ : ∀ (F' : Nat → Prop) (s' : St) a' w', K s' → Rel P F' n s' a' w' → Step F s.h w F' s'.h w' → Q .normal a' w') : (Code.region id ops false).wp P Q a w := by
  obtain ⟨h1, h2⟩ := mapM_get ht
  refine wp_region (W_sound hQ (List.range ops.size) l (by simpa using h1.symm) (fun j k i hj hi => ?_) F s a w hr (Step.refl _ _ _) hW)
  have hlt : j < ops.size := by
    rcases Nat.lt_or_ge j ops.size with h | h
    · exact h
    · rw [List.getElem?_eq_none (by simpa using h)] at hj; cases hj
  rw [List.getElem?_range hlt] at hj; cases hj
  refine ⟨ops[j], by simp [hlt], ?_⟩
  obtain ⟨y, a1, a2⟩ := h2 j ops[j] (by simp [hlt])
  rw [hi] at a1; cases a1; exact a2

/-! ### whatever order -/
def slotO : Opd → List Nat
  | .t i => [i]
  | _ => []
def opds : IOp → List Opd
  | .mv x | .un _ x | .cvt _ x | .b2s x | .s2s x | .load _ _ x | .box _ x | .fadr _ x | .field _ _ _ x | .len x _ | .ext _ x | .nilc x => [x]
  | .pick c a b => [c, a, b]
  | .bin _ x y | .bbin _ x y | .eqs _ _ x y | .store _ x y | .iadr _ x y | .iadrA _ _ x y | .idx x y | .mks _ _ _ x y | .app _ _ x y | .mm _ x y => [x, y]
  | .alloc _ _ | .mkmap | .bad => []
  | .copy _ x y => [x, y]
  | .mget _ _ _ x i => [x, i]
  | .mset _ x i v => [x, i, v]
  | .build _ ps => ps.map (·.2.2)
  | .bslice _ _ _ _ ps => ps.map (·.2)
  | .sl _ x lo hi mx => x :: (lo.toList ++ hi.toList ++ mx.toList)
  | .sls x lo hi => x :: (lo.toList ++ hi.toList)
  | .call _ as => as
  | .callv x as => x :: as
  | .mkf _ as => as

theorem map_ev {s1 : St} {l : List Opd} (h : ∀ x ∈ l, s1.ev x = s.ev x) : l.map s1.ev = l.map s.ev := List.map_congr_left h
theorem opt_ev {s1 : St} {o : Option Opd} (h : ∀ x ∈ o.toList, s1.ev x = s.ev x) : o.map s1.ev = o.map s.ev := by cases o <;> simp_all

theorem X_congr {op : IOp} {s1 : St} (he : ∀ x ∈ opds op, s1.ev x = s.ev x) (hh : s1.h = s.h) {K : AV → Heap → Prop} : X P op s1 K = X P op s K := by
  cases op with
  | build z ps =>
    have : (ps.map fun p => (p.1, p.2.1, s1.ev p.2.2)) = ps.map fun p => (p.1, p.2.1, s.ev p.2.2) := List.map_congr_left fun p hp => by rw [he p.2.2 (List.mem_map_of_mem (f := (·.2.2)) hp)]
    simp only [X, this, hh]
  | bslice e len sz z ps =>
    have : (ps.map fun p => (p.1 * sz, sz, s1.ev p.2)) = ps.map fun p => (p.1 * sz, sz, s.ev p.2) := List.map_congr_left fun p hp => by rw [he p.2 (List.mem_map_of_mem (f := (·.2)) hp)]
    simp only [X, this, hh]
  | sl sz x lo hi mx =>
    simp only [opds, List.mem_cons, List.mem_append] at he
    simp only [X, he x (.inl rfl), opt_ev (s1 := s1) (s := s) (o := lo) (fun y hy => he y (.inr (.inl (.inl hy)))), opt_ev (s1 := s1) (s := s) (o := hi) (fun y hy => he y (.inr (.inl (.inr hy)))), opt_ev (s1 := s1) (s := s) (o := mx) (fun y hy => he y (.inr (.inr hy))), hh]
  | sls x lo hi =>
    simp only [opds, List.mem_cons, List.mem_append] at he
    simp only [X, he x (.inl rfl), opt_ev (s1 := s1) (s := s) (o := lo) (fun y hy => he y (.inr (.inl hy))), opt_ev (s1 := s1) (s := s) (o := hi) (fun y hy => he y (.inr (.inr hy))), hh]
  | call f as => show CALL P f (as.map s1.ev) s1.h K = CALL P f (as.map s.ev) s.h K; rw [map_ev (l := as) he, hh]
  | mkf f as => show K (.fn f (as.map s1.ev)) s1.h = K (.fn f (as.map s.ev)) s.h; rw [map_ev (l := as) he, hh]
  | callv x as =>
    simp only [opds, List.mem_cons] at he
    simp only [X, he x (.inl rfl), map_ev (s1 := s1) (s := s) (fun y hy => he y (.inr hy)), hh]
  | alloc e z => simp only [X, hh]
  | mkmap => simp only [X, hh]
  | bad => rfl
  | _ =>
    simp only [opds, List.mem_cons, List.not_mem_nil, or_false, forall_eq_or_imp, forall_eq] at he
    simp only [X, he, hh]

theorem px_app_mono {h : Heap} {e sz m : Nat} {x : AV} {new : List AV} {K K' : AV → Heap → Prop} (hk : ∀ v h, K v h → K' v h) (hx : px_app h e sz m x new K) : px_app h e sz m x new K' := by
  unfold px_app at hx ⊢
  split at hx
  · exact ⟨fun h => hk _ _ (hx.1 h), fun h => ⟨(hx.2 h).1, fun b hb => hk _ _ ((hx.2 h).2 b hb)⟩⟩
  · split at hx
    · exact ⟨hx.1, hx.2.1, hx.2.2.1, hx.2.2.2.1, fun b hb => hk _ _ (hx.2.2.2.2 b hb)⟩
    · exact hx.elim
  · exact ⟨hx.1, hx.2.1, hx.2.2.1, fun b hb => hk _ _ (hx.2.2.2 b hb)⟩
  · exact hx.elim
theorem src_mono {h : Heap} {sz : Nat} {y : AV} {K K' : Nat → List AV → Prop} (hk : ∀ m c, K m c → K' m c) (hx : src h sz y K) : src h sz y K' := by
  unfold src at hx ⊢
  split at hx
  · exact ⟨hx.1, hk _ _ hx.2⟩
  · split at hx
    · exact ⟨hx.1, hk _ _ hx.2⟩
    · exact hx.elim
  · exact hk _ _ hx
  · exact hx.elim
theorem CALL.mono {f : FuncId} {args : List AV} {h : Heap} {K K' : AV → Heap → Prop} (hk : ∀ v h, K v h → K' v h) (hx : CALL P f args h K) : CALL P f args h K' := by
  intro F w vs h1 h2 h3 h4
  refine Calls.mono (hx F w vs h1 h2 h3 h4) ?_
  rintro e w' ⟨F', r, v, h', a1, a2, a3, a4⟩
  exact ⟨F', r, v, h', a1, a2, hk _ _ a3, a4⟩

/-- Operations that neither write nor make nor read memory. -/
def envOnly : IOp → Bool
  | .mv _ | .pick _ _ _ | .bin _ _ _ | .bbin _ _ _ | .eqs _ _ _ _ | .un _ _ | .cvt _ _ | .s2s _ | .build _ _ | .fadr _ _ | .field _ _ _ _ | .iadr _ _ _ | .iadrA _ _ _ _ | .idx _ _ | .sl _ _ _ _ _ | .sls _ _ _ | .len _ _ | .mm _ _ _ | .ext _ _ | .nilc _ | .mkf _ _ => true
  | _ => false
/-- Operations that make a block, and change none. -/
def makes : IOp → Bool
  | .alloc _ _ | .box _ _ | .bslice _ _ _ _ _ | .mks _ _ _ _ _ | .mkmap => true
  | _ => false
def isLoad : IOp → Bool
  | .load _ _ _ => true
  | _ => false

/-- What an operation that asks nothing of memory hands on, whatever comes behind it. -/
def Hands (P : Program) (op : IOp) (s : St) (v : AV) : Prop := ∀ (s1 : St), (∀ x ∈ opds op, s1.ev x = s.ev x) → ∀ R : AV → Heap → Prop, R v s1.h → X P op s1 R

theorem X_env {op : IOp} (ho : envOnly op = true) {K : AV → Heap → Prop} (hX : X P op s K) : ∃ v, K v s.h ∧ ∀ (h : Heap) (R : AV → Heap → Prop), R v h → X P op (s.heap h) R := by
  have hev : ∀ h, (s.heap h).ev = s.ev := fun h => by funext x; cases x <;> rfl
  cases op <;> simp only [envOnly, Bool.false_eq_true] at ho <;> simp only [X, hev] at hX ⊢
  case mv x => exact ⟨_, hX, fun _ _ h => h⟩
  case pick c x y =>
    split at hX
    · rename_i t ht
      cases t with
      | true => exact ⟨_, hX.1 rfl, fun _ _ h => ⟨fun _ => h, fun h => by cases h⟩⟩
      | false => exact ⟨_, hX.2 rfl, fun _ _ h => ⟨fun h => (by cases h), fun _ => h⟩⟩
    · exact hX.elim
  case bin op x y =>
    unfold px_bin at hX ⊢
    split at hX
    · split at hX
      · exact ⟨_, hX.2, fun _ _ h => ⟨hX.1, h⟩⟩
      · exact ⟨_, hX.2, fun _ _ h => ⟨hX.1, h⟩⟩
      · obtain ⟨e, hX⟩ := hX
        unfold ibin at hX ⊢
        split at hX <;> first
          | exact ⟨_, hX, fun _ _ h => ⟨e, h⟩⟩
          | exact ⟨_, hX.2, fun _ _ h => ⟨e, hX.1, h⟩⟩
          | exact hX.elim
    · unfold sbin at hX ⊢
      split at hX <;> first
        | exact ⟨_, hX, fun _ _ h => h⟩
        | exact ⟨_, hX.2, fun _ _ h => ⟨hX.1, h⟩⟩
        | exact hX.elim
    · exact hX.elim
  case bbin op x y =>
    split at hX
    · unfold bbin at hX ⊢
      split at hX <;> first
        | exact ⟨_, hX, fun _ _ h => h⟩
        | exact hX.elim
    · exact hX.elim
  case eqs k neg x y =>
    split at hX
    · exact ⟨_, hX.2.2, fun _ _ h => ⟨hX.1, hX.2.1, h⟩⟩
    · exact hX.elim
  case un op x =>
    unfold px_un at hX ⊢
    split at hX <;> first
      | exact ⟨_, hX, fun _ _ h => h⟩
      | exact hX.elim
  case sl sz x lo hi mx =>
    unfold px_sl at hX ⊢
    split at hX
    · split at hX
      · exact ⟨_, hX.2.2.2.2, fun _ _ h => ⟨hX.1, hX.2.1, hX.2.2.1, hX.2.2.2.1, h⟩⟩
      · exact ⟨_, hX.2.2.2.2.2.2, fun _ _ h => ⟨hX.1, hX.2.1, hX.2.2.1, hX.2.2.2.1, hX.2.2.2.2.1, hX.2.2.2.2.2.1, h⟩⟩
      · exact hX.elim
    · split at hX
      · exact ⟨_, hX.2.2.2, fun _ _ h => ⟨hX.1, hX.2.1, hX.2.2.1, h⟩⟩
      · exact hX.elim
    · split at hX
      · exact ⟨_, hX.2.2, fun _ _ h => ⟨hX.1, hX.2.1, h⟩⟩
      · exact hX.elim
    · exact hX.elim
  case sls x lo hi =>
    unfold px_sls at hX ⊢
    split at hX
    · split at hX
      · exact ⟨_, hX.2.2.2, fun _ _ h => ⟨hX.1, hX.2.1, hX.2.2.1, h⟩⟩
      · exact hX.elim
    · exact hX.elim
  case mkf f caps => exact ⟨_, hX, fun _ _ h => h⟩
  all_goals
    split at hX <;> first
      | exact ⟨_, hX, fun _ _ h => h⟩
      | exact ⟨_, hX.2, fun _ _ h => ⟨hX.1, h⟩⟩
      | exact ⟨_, hX.2.2, fun _ _ h => ⟨hX.1, hX.2.1, h⟩⟩
      | exact ⟨_, hX.2.2.2, fun _ _ h => ⟨hX.1, hX.2.1, hX.2.2.1, h⟩⟩
      | exact hX.elim

theorem X_hands {op : IOp} (ho : envOnly op = true) {K : AV → Heap → Prop} (hX : X P op s K) : ∃ v, K v s.h ∧ Hands P op s v := by
  obtain ⟨v, h1, h2⟩ := X_env ho hX
  refine ⟨v, h1, fun s1 he R hR => ?_⟩
  have := h2 s1.h R hR
  rw [X_congr (s := s.heap s1.h) (s1 := s1) (fun x hx => by rw [he x hx]; cases x <;> rfl) rfl]
  exact this

/-- A load hands on the same as long as the block that it reads stands as it stood. -/
theorem X_load {k : Nat} {ag : Bool} {x : Opd} {K : AV → Heap → Prop} (hX : X P (.load k ag x) s K) : ∃ v, K v s.h ∧ ∀ (s1 : St), s1.ev x = s.ev x → (∀ b l, s.h b = some l → s1.h b = some l) → ∀ R : AV → Heap → Prop, R v s1.h → X P (.load k ag x) s1 R := by
  simp only [X] at hX
  split at hX
  · rename_i cells hc
    exact ⟨_, hX.2, fun s1 he hh R hR => by simp only [X, he, hc]; exact ⟨hX.1, hR⟩⟩
  · rename_i b o' hc
    split at hX
    · rename_i e cells hb
      exact ⟨_, hX.2, fun s1 he hh R hR => by simp only [X, he, hc, hh b _ hb]; exact ⟨hX.1, hR⟩⟩
    · exact hX.elim
  · exact hX.elim
def isPtr : AV → Bool
  | .ptr _ => true
  | _ => false
theorem X_ptr {k : Nat} {ag : Bool} {x : Opd} (hp : isPtr (s.ev x) = true) {K : AV → Heap → Prop} (hX : X P (.load k ag x) s K) : ∃ v, K v s.h ∧ Hands P (.load k ag x) s v := by
  simp only [X] at hX
  split at hX
  · rename_i cells hc
    exact ⟨_, hX.2, fun s1 he R hR => by simp only [X, he x (by simp [opds]), hc]; exact ⟨hX.1, hR⟩⟩
  · rename_i b o' hc; rw [hc] at hp; cases hp
  · exact hX.elim

theorem X_grow {op : IOp} (ho : envOnly op = true ∨ makes op = true ∨ isLoad op = true) {K : AV → Heap → Prop} (hX : X P op s K) : X P op s fun v h => K v h ∧ ∀ b l, s.h b = some l → h b = some l := by
  have keep : ∀ (h : Heap) (b : Nat) (k : Blk), h b = none → ∀ c l, h c = some l → h.set b k c = some l := fun h b k hb c l hc => by
    rw [Heap.set_ne _ _ (fun e => by rw [e, hb] at hc; cases hc)]; exact hc
  rcases ho with ho | ho | ho
  · obtain ⟨v, h1, h2⟩ := X_hands ho hX
    exact h2 s (fun _ _ => rfl) _ ⟨h1, fun _ _ h => h⟩
  · cases op <;> simp only [makes, Bool.false_eq_true] at ho <;> simp only [X] at hX ⊢
    · exact fun b hb => ⟨hX b hb, keep _ _ _ hb⟩
    · split at hX
      · exact fun b hb => ⟨hX b hb, keep _ _ _ hb⟩
      · exact hX.elim
    · split at hX
      · exact fun b hb => ⟨hX b hb, keep _ _ _ hb⟩
      · exact hX.elim
    · split at hX
      · exact ⟨hX.1, hX.2.1, hX.2.2.1, fun b hb => ⟨hX.2.2.2 b hb, keep _ _ _ hb⟩⟩
      · exact hX.elim
    · exact fun b hb => ⟨hX b hb, keep _ _ _ hb⟩
  · cases op <;> simp only [isLoad, Bool.false_eq_true] at ho
    obtain ⟨v, h1, h2⟩ := X_load hX
    exact h2 s rfl (fun _ _ h => h) _ ⟨h1, fun _ _ h => h⟩

theorem X_mono {op : IOp} {K K' : AV → Heap → Prop} (hk : ∀ v h, K v h → K' v h) (hX : X P op s K) : X P op s K' := by
  by_cases ho : envOnly op = true
  · obtain ⟨v, h1, h2⟩ := X_hands ho hX
    exact h2 s (fun _ _ => rfl) _ (hk _ _ h1)
  · cases op <;> simp only [envOnly, not_true_eq_false] at ho <;> simp only [X] at hX ⊢
    case call => exact hX.mono hk
    case callv =>
      split at hX
      · exact ⟨hX.1, hX.2.mono hk⟩
      · exact hX.elim
    case app => exact src_mono (fun m c => px_app_mono hk) hX
    case b2s => exact src_mono (fun m c h => by obtain ⟨t, h1, h2⟩ := h; exact ⟨t, h1, hk _ _ h2⟩) hX
    case alloc => exact fun b hb => hk _ _ (hX b hb)
    case mkmap => exact fun b hb => hk _ _ (hX b hb)
    case copy =>
      refine src_mono (fun m c h => ?_) hX
      split at h
      · split at h
        · exact ⟨h.1, h.2.1, hk _ _ h.2.2⟩
        · exact h.elim
      · split at h
        · exact ⟨h.1, h.2.1, h.2.2.1, hk _ _ h.2.2.2⟩
        · exact h.elim
      · exact h.elim
    case mget =>
      split at hX
      · split at hX
        · exact ⟨hX.1, hX.2.1, hk _ _ hX.2.2⟩
        · exact hX.elim
      · exact hX.elim
    case mset =>
      split at hX
      · split at hX
        · exact ⟨hX.1, hX.2.1, hk _ _ hX.2.2⟩
        · exact hX.elim
      · exact hX.elim
    case load =>
      split at hX
      · exact ⟨hX.1, hk _ _ hX.2⟩
      · split at hX
        · exact ⟨hX.1, hk _ _ hX.2⟩
        · exact hX.elim
      · exact hX.elim
    case store =>
      split at hX
      · split at hX
        · exact ⟨hX.1, hX.2.1, hX.2.2.1, hk _ _ hX.2.2.2⟩
        · exact hX.elim
      · exact hX.elim
    all_goals
      split at hX <;> first
        | exact fun b hb => hk _ _ (hX b hb)
        | exact ⟨hX.1, hX.2.1, hX.2.2.1, fun b hb => hk _ _ (hX.2.2.2 b hb)⟩
        | exact hX.elim

end Go.Ab
