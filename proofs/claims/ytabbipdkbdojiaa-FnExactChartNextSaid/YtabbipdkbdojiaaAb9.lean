/- The abstract layer, part 9: regions that are run in whatever order their edges allow. Plain lemmas over any program; no condition. -/
import Derived.Test.YtabbipdkbdojiaaAb8
namespace Go.Ab
open Go Go.RowKit
set_option linter.unusedVariables false
set_option linter.unusedSimpArgs false
variable {P : Program} {F : Nat → Prop} {n : Nat} {s : St} {a : Act} {w : World} {Q : Exit → Act → World → Prop}

def AAny (P : Program) (ops : Array Oper) (l : List Ins) : Nat → Array Bool → St → (St → Prop) → Prop
  | 0, listed, s, K => Region.ready .any ops listed = [] ∧ K s
  | f + 1, listed, s, K => (Region.ready .any ops listed = [] → K s) ∧ ∀ i ∈ Region.ready .any ops listed, XI P (l.getD i default) s fun s' => AAny P ops l f (listed.setIfInBounds i true) s' K

theorem ready_lt {ops : Array Oper} {listed : Array Bool} {i : Nat} (h : i ∈ Region.ready .any ops listed) : i < ops.size := by
  unfold Region.ready at h
  have := (List.mem_filter.1 h).1
  simpa using this

theorem AAny_sound {ops : Array Oper} {l : List Ins} (ht : trReg P n ops = some l) {K : St → Prop} (hQ : ∀ (F' : Nat → Prop) (s' : St) a' w', K s' → Rel P F' n s' a' w' → Step F s.h w F' s'.h w' → Q .normal a' w') :
    ∀ (f : Nat) (listed : Array Bool) (F1 : Nat → Prop) (s1 : St) (a1 : Act) (w1 : World), Rel P F1 n s1 a1 w1 → Step F s.h w F1 s1.h w1 → AAny P ops l f listed s1 K → wpAny P .any ops Q f listed a1 w1 := by
  obtain ⟨h1, h2⟩ := mapM_get ht
  intro f
  induction f with
  | zero => intro listed F1 s1 a1 w1 hr st h; exact ⟨h.1, hQ F1 s1 a1 w1 h.2 hr st⟩
  | succ f ih =>
    intro listed F1 s1 a1 w1 hr st h
    refine ⟨fun he => hQ F1 s1 a1 w1 (h.1 he) hr st, fun i hi => ?_⟩
    have hlt := ready_lt hi
    obtain ⟨y, a1', a2⟩ := h2 i ops[i] (by simp [hlt])
    have hX := h.2 i hi
    rw [show l.getD i default = y by simp [List.getD, a1']] at hX
    exact XI_sound (by simp [hlt]) a2 hr hX fun F' s' a' w' hK hrel st' => ih _ F' s' a' w' hrel (st.trans st') hK

/-! ### what may come first -/
def slots (i : Ins) : List Nat := (match i.g with | some (t, _) => [t] | none => []) ++ (opds i.op).flatMap slotO
def apart (i j : Ins) : Bool :=
  (match i.d with | some d => !(slots j).contains d | none => true) && (match j.d with | some d => !(slots i).contains d && i.d != some d | none => true)
def quiet (op : IOp) : Bool := envOnly op || makes op || isLoad op
/-- Does operation j wait for one of these? -/
def waitsFor (ops : Array Oper) (B : List Nat) (j : Nat) : Bool := match ops[j]? with
  | some o => o.after.any fun e => Region.binds .any e && B.contains e.on
  | none => false
/-- Operation i, and all that can't be run ahead of it. -/
def behind (ops : Array Oper) (i : Nat) : List Nat := (List.range ops.size).foldl (fun B j => if j == i || waitsFor ops B j then j :: B else B) []
def okB (ops : Array Oper) (listed : Array Bool) (i : Nat) (B : List Nat) : Bool := B.all fun j => !listed.getD j false && (j == i || waitsFor ops B j)
/-- May instruction i come ahead of all that isn't listed? -/
def first (ops : Array Oper) (l : List Ins) (listed : Array Bool) (i : Nat) : Bool :=
  let x := l.getD i default
  (envOnly x.op || isLoad x.op) && (let B := behind ops i
    okB ops listed i B && (List.range l.length).all fun j => listed.getD j false || B.contains j || (apart x (l.getD j default) && (envOnly x.op || quiet (l.getD j default).op)))
/-- May a load come first if it reads what never changes? -/
def firstP (ops : Array Oper) (l : List Ins) (listed : Array Bool) (i : Nat) : Bool :=
  let x := l.getD i default
  isLoad x.op && x.g.isNone && (let B := behind ops i
    okB ops listed i B && (List.range l.length).all fun j => listed.getD j false || B.contains j || apart x (l.getD j default))

theorem XI_mono {i : Ins} {K K' : St → Prop} (hk : ∀ s', K s' → K' s') (h : XI P i s K) : XI P i s K' := by
  unfold XI at h ⊢
  split at h
  · exact X_mono (fun v h => hk _) h
  · split at h
    · exact ⟨fun e => X_mono (fun v h => hk _) (h.1 e), fun e => hk _ (h.2 e)⟩
    · exact hk _ h
    · exact h.elim

theorem ev_put' {d : Option Nat} {x : AV} {y : Opd} (h : ∀ t, d = some t → t ∉ slotO y) : (s.put' d x).ev y = s.ev y := by
  cases d with
  | none => rfl
  | some t =>
    cases y with
    | t i => simp only [St.put', St.put, St.ev]; rw [if_neg (fun e => h t rfl (by simp [slotO, e]))]
    | c v => rfl
    | f g => rfl
theorem env_put' {d : Option Nat} {x : AV} {i : Nat} (h : ∀ t, d = some t → t ≠ i) : (s.put' d x).env i = s.env i := by
  cases d with
  | none => rfl
  | some t => simp only [St.put', St.put]; rw [if_neg (fun e => h t rfl e.symm)]

theorem put_comm {d e : Option Nat} {x y : AV} (h : ∀ t, d = some t → e ≠ some t) : (s.put' d x).put' e y = (s.put' e y).put' d x := by
  cases d with
  | none => cases e <;> rfl
  | some t =>
    cases e with
    | none => rfl
    | some u =>
      have htu : u ≠ t := fun he => h t rfl (by rw [he])
      simp only [St.put', St.put]
      congr 1
      funext i
      by_cases h1 : i = u
      · subst h1; rw [if_pos rfl, if_neg htu, if_pos rfl]
      · by_cases h2 : i = t
        · subst h2; rw [if_neg h1, if_pos rfl, if_pos rfl]
        · rw [if_neg h1, if_neg h2, if_neg h2, if_neg h1]

theorem heap_put' (h : Heap) (d : Option Nat) (x : AV) : (s.put' d x).heap h = (s.heap h).put' d x := by cases d <;> rfl

/-- An instruction that doesn't look at a slot may be run ahead of what is laid there. -/
theorem XI_put {j : Ins} {d : Option Nat} {x : AV} (h1 : ∀ t, d = some t → t ∉ slots j) (h2 : ∀ t, d = some t → j.d ≠ some t) {K : St → Prop} (h : XI P j (s.put' d x) K) : XI P j s fun s1 => K (s1.put' d x) := by
  have hop : ∀ y ∈ opds j.op, (s.put' d x).ev y = s.ev y := fun y hy => ev_put' fun t ht hm => h1 t ht (by
    simp only [slots, List.mem_append, List.mem_flatMap]; exact .inr ⟨y, hy, hm⟩)
  have key : ∀ {R : AV → Heap → Prop}, (∀ v hh, R v hh → K (((s.put' d x).heap hh).put' j.d v)) → X P j.op (s.put' d x) R → X P j.op s fun v hh => K (((s.heap hh).put' j.d v).put' d x) := by
    intro R hR hX
    rw [X_congr hop (put'_h s d x)] at hX
    refine X_mono (fun v hh hr => ?_) hX
    have := hR v hh hr
    rwa [heap_put', put_comm h2] at this
  unfold XI at h ⊢
  split at h
  · exact key (fun v hh h => h) h
  · rename_i t b hg
    have hne : ∀ u, d = some u → u ≠ t := fun u hu e => h1 u hu (by simp [slots, hg, e])
    rw [env_put' hne] at h
    split at h
    · rename_i c hc
      simp only [hc]
      exact ⟨fun e => key (fun v hh h => h) (h.1 e), fun e => by
        have := h.2 e
        rwa [put_comm h2] at this⟩
    · rename_i tv hc
      simp only [hc]
      rwa [put_comm h2] at h
    · exact h.elim

/-- What an instruction leaves as it was. -/
theorem XI_env {j : Ins} {K : St → Prop} (h : XI P j s K) : XI P j s fun s1 => K s1 ∧ ∀ t, j.d ≠ some t → s1.env t = s.env t := by
  have key : ∀ (v : AV) (hh : Heap) (t : Nat), j.d ≠ some t → ((s.heap hh).put' j.d v).env t = s.env t := fun v hh t ht => env_put' (s := s.heap hh) fun u hu e => ht (by rw [hu, e])
  unfold XI at h ⊢
  split at h
  · exact X_mono (fun v hh hk => ⟨hk, key v hh⟩) h
  · split at h
    · rename_i c hc
      exact ⟨fun e => X_mono (fun v hh hk => ⟨hk, key v hh⟩) (h.1 e), fun e => ⟨h.2 e, key (.val (.tuple #[])) s.h⟩⟩
    · exact ⟨h, key (.val (.tuple #[])) s.h⟩
    · exact h.elim
theorem XI_heap {j : Ins} (hq : quiet j.op = true) {K : St → Prop} (h : XI P j s K) : XI P j s fun s1 => K s1 ∧ ∀ b l, s.h b = some l → s1.h b = some l := by
  have hq' : envOnly j.op = true ∨ makes j.op = true ∨ isLoad j.op = true := by
    simp only [quiet, Bool.or_eq_true] at hq; rcases hq with (h | h) | h <;> simp_all
  unfold XI at h ⊢
  split at h
  · exact X_mono (fun v hh hk => ⟨hk.1, by rw [put'_h]; exact hk.2⟩) (X_grow hq' h)
  · split at h
    · exact ⟨fun e => X_mono (fun v hh hk => ⟨hk.1, by rw [put'_h]; exact hk.2⟩) (X_grow hq' (h.1 e)), fun e => ⟨h.2 e, by rw [put'_h]; exact fun _ _ h => h⟩⟩
    · exact ⟨h, by rw [put'_h]; exact fun _ _ h => h⟩
    · exact h.elim

/-- The instruction gives the same value wherever its slots (and, for a load, the blocks) are as they are. -/
def Gives (P : Program) (i : Ins) (s : St) (ld : Bool) (v : AV) : Prop :=
  ∀ s1 : St, (∀ t ∈ slots i, s1.env t = s.env t) → (ld = true → ∀ b l, s.h b = some l → s1.h b = some l) → ∀ R : St → Prop, R (s1.put' i.d v) → XI P i s1 R

theorem ev_of {i : Ins} {s1 : St} (h : ∀ t ∈ slots i, s1.env t = s.env t) : ∀ y ∈ opds i.op, s1.ev y = s.ev y := fun y hy => by
  cases y with
  | t k => exact h k (by simp only [slots, List.mem_append, List.mem_flatMap]; exact .inr ⟨_, hy, by simp [slotO]⟩)
  | c v => rfl
  | f g => rfl

theorem XI_gives {i : Ins} (hi : envOnly i.op = true ∨ isLoad i.op = true) {K : St → Prop} (h : XI P i s K) : ∃ v, K (s.put' i.d v) ∧ Gives P i s (!envOnly i.op) v := by
  have base : ∀ {R0 : AV → Heap → Prop}, X P i.op s R0 → ∃ v, R0 v s.h ∧ ∀ s1 : St, (∀ t ∈ slots i, s1.env t = s.env t) → ((!envOnly i.op) = true → ∀ b l, s.h b = some l → s1.h b = some l) → ∀ R : AV → Heap → Prop, R v s1.h → X P i.op s1 R := by
    intro R0 h0
    by_cases he : envOnly i.op = true
    · obtain ⟨v, h1, h2⟩ := X_hands he h0
      exact ⟨v, h1, fun s1 hs _ R hR => h2 s1 (ev_of hs) R hR⟩
    · have hl : isLoad i.op = true := by rcases hi with h | h; exact absurd h he; exact h
      have hs2 : ∀ s1 : St, (∀ t ∈ slots i, s1.env t = s.env t) → ∀ y ∈ opds i.op, s1.ev y = s.ev y := fun s1 => ev_of
      have heb : (!envOnly i.op) = true := by simp [he]
      revert h0 hs2 heb
      generalize i.op = op at hl
      intro h0 hs2 heb
      cases op <;> simp only [isLoad, Bool.false_eq_true] at hl
      obtain ⟨v, h1, h2⟩ := X_load h0
      exact ⟨v, h1, fun s1 hs hb R hR => h2 s1 (hs2 s1 hs _ (by simp [opds])) (hb heb) R hR⟩
  unfold XI at h
  split at h
  · rename_i hg
    obtain ⟨v, h1, h2⟩ := base h
    refine ⟨v, h1, fun s1 hs hb R hR => ?_⟩
    unfold XI; simp only [hg]
    exact h2 s1 hs hb _ hR
  · rename_i t b hg
    split at h
    case h_3 => exact h.elim
    case h_2 =>
      rename_i tv hc
      refine ⟨.val (.tuple #[]), h, fun s1 hs hb R hR => ?_⟩
      unfold XI
      have : s1.env t = .val (.tuple tv) := by rw [hs t (by simp [slots, hg]), hc]
      simp only [hg, this]
      exact hR
    rename_i c hc
    have hs1 : ∀ s1 : St, (∀ t ∈ slots i, s1.env t = s.env t) → s1.env t = .val (.bool c) := fun s1 hs => by rw [hs t (by simp [slots, hg]), hc]
    by_cases hcb : c = b
    · obtain ⟨v, h1, h2⟩ := base (h.1 hcb)
      refine ⟨v, h1, fun s1 hs hb R hR => ?_⟩
      unfold XI; simp only [hg, hs1 s1 hs]
      exact ⟨fun _ => h2 s1 hs hb _ hR, fun e => by rw [hcb] at e; cases b <;> cases e⟩
    · have hcb' : c = !b := by cases c <;> cases b <;> simp_all
      refine ⟨.val (.tuple #[]), h.2 hcb', fun s1 hs hb R hR => ?_⟩
      unfold XI; simp only [hg, hs1 s1 hs]
      exact ⟨fun e => absurd e hcb, fun _ => hR⟩

theorem all_range {m : Nat} {p : Nat → Bool} (h : (List.range m).all p = true) {j : Nat} (hj : j < m) : p j = true := List.all_eq_true.1 h j (by simpa using hj)

theorem apart_spec {i j : Ins} (h : apart i j = true) : (∀ t, i.d = some t → t ∉ slots j) ∧ (∀ t, j.d = some t → t ∉ slots i) ∧ (∀ t, i.d = some t → j.d ≠ some t) := by
  unfold apart at h
  rw [Bool.and_eq_true] at h
  refine ⟨fun t ht => ?_, fun t ht => ?_, fun t ht hj => ?_⟩
  · rw [ht] at h; simpa using h.1
  · rw [ht] at h; simp at h; exact h.2.1
  · rw [hj] at h; simp at h; exact h.2.2 ht

theorem set_comm (listed : Array Bool) (i j : Nat) : (listed.setIfInBounds i true).setIfInBounds j true = (listed.setIfInBounds j true).setIfInBounds i true := by
  apply Array.ext_getElem?
  intro k
  simp only [Array.getElem?_setIfInBounds, Array.size_setIfInBounds]
  (repeat' split) <;> first | rfl | omega

theorem unlisted {ops : Array Oper} {listed : Array Bool} {j : Nat} (hj : j ∈ Region.ready .any ops listed) : listed.getD j false = false := by
  cases hh : listed.getD j false with
  | false => rfl
  | true =>
    have hlt : j < listed.size := by
      rcases Nat.lt_or_ge j listed.size with h' | h'
      · exact h'
      · rw [Array.getD_eq_getD_getElem?, Array.getElem?_eq_none h'] at hh; simp at hh
    have e : listed.getD j true = true := by
      rw [Array.getD_eq_getD_getElem?, Array.getElem?_eq_getElem hlt] at hh ⊢; simpa using hh
    unfold Region.ready at hj
    have := (List.mem_filter.1 hj).2
    rw [e] at this; simp at this

theorem not_behind {ops : Array Oper} {listed : Array Bool} {i j : Nat} {B : List Nat} (hB : okB ops listed i B = true) (hj : j ∈ Region.ready .any ops listed) (hji : j ≠ i) : j ∉ B := by
  intro hm
  have h := List.all_eq_true.1 hB j hm
  simp only [Bool.and_eq_true, Bool.or_eq_true] at h
  rcases h.2 with h' | h'
  · exact hji (by simpa using h')
  · unfold waitsFor at h'
    split at h'
    · rename_i o ho
      obtain ⟨k, hk, hb⟩ := Array.any_eq_true.1 h'
      simp only [Bool.and_eq_true] at hb
      have hmem : (o.after[k]).on ∈ B := by simpa using hb.2
      have hl := List.all_eq_true.1 hB _ hmem
      simp only [Bool.and_eq_true] at hl
      unfold Region.ready at hj
      have hr := (List.mem_filter.1 hj).2
      simp only [ho, Option.map_some, Option.getD_some, Bool.and_eq_true] at hr
      have := Array.all_eq_true.1 hr.2 k hk
      simp only [hb.1, Bool.not_true, Bool.false_or] at this
      rw [this] at hl; simp at hl
    · cases h'

theorem okB_set {ops : Array Oper} {listed : Array Bool} {i j : Nat} {B : List Nat} (hB : okB ops listed i B = true) (hj : j ∉ B) : okB ops (listed.setIfInBounds j true) i B = true := by
  refine List.all_eq_true.2 fun k hk => ?_
  have h := List.all_eq_true.1 hB k hk
  have hkj : k ≠ j := fun e => hj (e ▸ hk)
  rwa [getD_set_ne false (fun e => hkj e.symm)]

theorem AAny_first {ops : Array Oper} {l : List Ins} (hlen : l.length = ops.size) {ld : Bool} {i : Nat} {v : AV} {K : St → Prop} {B : List Nat} : ∀ (f : Nat) (listed : Array Bool) (s : St), i ∈ Region.ready .any ops listed →
    okB ops listed i B = true → (∀ j, j < l.length → j ∉ B → listed.getD j false = false → apart (l.getD i default) (l.getD j default) = true ∧ (ld = true → quiet (l.getD j default).op = true)) →
    Gives P (l.getD i default) s ld v → AAny P ops l f (listed.setIfInBounds i true) (s.put' (l.getD i default).d v) K → AAny P ops l (f + 1) listed s K
  | f, listed, s, hi, hB, hap, hg, h => by
    refine ⟨fun he => absurd hi (by rw [he]; simp), fun j hj => ?_⟩
    by_cases hji : j = i
    · subst hji; exact hg s (fun _ _ => rfl) (fun _ _ _ h => h) _ h
    · have hjr : j ∈ Region.ready .any ops (listed.setIfInBounds i true) := ready_mono hj hji
      have hjl := unlisted hj
      have hjB := not_behind hB hj hji
      have hjlt : j < l.length := by rw [hlen]; exact ready_lt hj
      obtain ⟨hap1, hq⟩ := hap j hjlt hjB hjl
      obtain ⟨p1, p2, p3⟩ := apart_spec hap1
      cases f with
      | zero => rw [h.1] at hjr; cases hjr
      | succ f =>
        have hX := XI_put (s := s) p1 (fun t ht => p3 t ht) (h.2 j hjr)
        have hX2 := XI_env hX
        have hX3 : XI P (l.getD j default) s fun s1 => (AAny P ops l f ((listed.setIfInBounds i true).setIfInBounds j true) (s1.put' (l.getD i default).d v) K ∧ ∀ t, (l.getD j default).d ≠ some t → s1.env t = s.env t) ∧ (ld = true → ∀ b k, s.h b = some k → s1.h b = some k) := by
          cases ld with
          | false => exact XI_mono (fun s1 h => ⟨h, fun e => by cases e⟩) hX2
          | true => exact XI_mono (fun s1 h => ⟨h.1, fun _ => h.2⟩) (XI_heap (hq rfl) hX2)
        refine XI_mono (fun s1 hs1 => ?_) hX3
        obtain ⟨⟨g1, g2⟩, g3⟩ := hs1
        rw [set_comm] at g1
        refine AAny_first hlen f (listed.setIfInBounds j true) s1 (ready_mono hi (fun e => hji e.symm)) (okB_set hB hjB) (fun k hk hkB hkl => hap k hk hkB ?_) (fun s2 hs hb R hR => hg s2 (fun t ht => ?_) (fun e b k hb' => hb e b k (g3 e b k hb')) R hR) g1
        · by_cases hkj : k = j
          · subst hkj
            exact hjl
          · rw [getD_set_ne false (fun e => hkj e.symm)] at hkl; exact hkl
        · rw [hs t ht]; exact g2 t (fun e => p2 t e ht)

inductive Sch where
  | done
  | one (i : Nat) (r : Sch)
  | ld (i : Nat) (r b : Sch)
  | alt (a b : Sch)
def addrOf (i : Ins) (s : St) : Bool := match i.op with
  | .load _ _ x => isPtr (s.ev x)
  | _ => false
def D (P : Program) (l : List Ins) : Sch → St → (St → Prop) → Prop
  | .done, s, K => K s
  | .one i r, s, K => XI P (l.getD i default) s fun s' => D P l r s' K
  | .ld i r b, s, K => match addrOf (l.getD i default) s with
    | true => XI P (l.getD i default) s fun s' => D P l r s' K
    | false => D P l b s K
  | .alt a b, s, K => D P l a s K ∧ D P l b s K
def alts (g : Nat → Option Sch) : List Nat → Option Sch
  | [] => none
  | [i] => (g i).map (.one i)
  | i :: is => match g i, alts g is with
    | some a, some b => some (.alt (.one i a) b)
    | _, _ => none
def mkSch (ops : Array Oper) (l : List Ins) : Nat → Array Bool → Option Sch
  | 0, listed => if Region.ready .any ops listed = [] then some .done else none
  | f + 1, listed => match Region.ready .any ops listed with
    | [] => some .done
    | rs => match rs.find? (first ops l listed) with
      | some i => (mkSch ops l f (listed.setIfInBounds i true)).map (.one i)
      | none => match rs.find? (firstP ops l listed) with
        | some i => match mkSch ops l f (listed.setIfInBounds i true), alts (fun i => mkSch ops l f (listed.setIfInBounds i true)) rs with
          | some r, some b => some (.ld i r b)
          | _, _ => none
        | none => alts (fun i => mkSch ops l f (listed.setIfInBounds i true)) rs

theorem alts_spec {l : List Ins} {g : Nat → Option Sch} {K : St → Prop} : ∀ (is : List Nat) (b : Sch), alts g is = some b → D P l b s K → ∀ i ∈ is, ∃ r, g i = some r ∧ XI P (l.getD i default) s fun s' => D P l r s' K
  | [], b, h, _, i, hi => by cases hi
  | [k], b, h, hD, i, hi => by
    simp only [List.mem_singleton] at hi; subst hi
    simp only [alts] at h
    cases hg : g i with
    | none => simp [hg] at h
    | some r => simp [hg] at h; subst h; exact ⟨r, rfl, hD⟩
  | k :: k' :: is, b, h, hD, i, hi => by
    simp only [alts] at h
    split at h
    · rename_i r b' hg hb'
      cases h
      rcases List.mem_cons.1 hi with rfl | hi
      · exact ⟨r, hg, hD.1⟩
      · exact alts_spec (k' :: is) b' hb' hD.2 i hi
    · cases h

theorem D_AAny {ops : Array Oper} {l : List Ins} (hlen : l.length = ops.size) {K : St → Prop} : ∀ (f : Nat) (listed : Array Bool) (sch : Sch) (s : St), mkSch ops l f listed = some sch → D P l sch s K → AAny P ops l f listed s K
  | 0, listed, sch, s, h, hD => by
    simp only [mkSch] at h
    split at h
    · rename_i he; cases h; exact ⟨he, hD⟩
    · cases h
  | f + 1, listed, sch, s, h, hD => by
    have all : ∀ {rs : List Nat} {b : Sch}, Region.ready .any ops listed = rs → rs ≠ [] → alts (fun i => mkSch ops l f (listed.setIfInBounds i true)) rs = some b → D P l b s K → AAny P ops l (f + 1) listed s K := by
      intro rs b hrs hne ha hb
      refine ⟨fun he => absurd (hrs.symm.trans he) hne, fun i hi => ?_⟩
      rw [hrs] at hi
      obtain ⟨r, hr, hX⟩ := alts_spec rs b ha hb i hi
      exact XI_mono (fun s' hs' => D_AAny hlen f _ r s' hr hs') hX
    unfold mkSch at h
    split at h
    · rename_i he; cases h
      exact ⟨fun _ => hD, fun i hi => by rw [he] at hi; cases hi⟩
    · rename_i hne
      split at h
      · rename_i i hi
        cases hm : mkSch ops l f (listed.setIfInBounds i true) with
        | none => simp [hm] at h
        | some r =>
          simp [hm] at h; subst h
          have hmem := List.mem_of_find?_eq_some hi
          have hf := List.find?_some hi
          unfold first at hf
          simp only [Bool.and_eq_true, Bool.or_eq_true] at hf
          obtain ⟨hf2, hf0, hf1⟩ := hf
          obtain ⟨v, hv1, hv2⟩ := XI_gives hf2 hD
          refine AAny_first (B := behind ops i) hlen f listed s hmem hf0 (fun j hj hjB hjl => ?_) hv2 (D_AAny hlen f _ r _ hm hv1)
          have q1 := all_range hf1 hj
          simp only [hjl, Bool.false_or, Bool.or_eq_true, Bool.and_eq_true] at q1
          rcases q1 with q1 | q1
          · exact absurd (by simpa using q1) hjB
          · refine ⟨q1.1, fun he => ?_⟩
            rcases q1.2 with h | h
            · rw [h] at he; cases he
            · exact h
      · split at h
        · rename_i i hi
          split at h
          case h_2 => cases h
          rename_i r b hm hb
          cases h
          simp only [D] at hD
          split at hD
          · rename_i had
            have hmem := List.mem_of_find?_eq_some hi
            have hf := List.find?_some hi
            unfold firstP at hf
            simp only [Bool.and_eq_true] at hf
            obtain ⟨⟨hf2, hf3⟩, hf0, hf1⟩ := hf
            obtain ⟨k, ag, x, hop⟩ : ∃ k ag x, (l.getD i default).op = .load k ag x := by
              generalize (l.getD i default).op = op at hf2
              cases op <;> simp only [isLoad, Bool.false_eq_true] at hf2
              exact ⟨_, _, _, rfl⟩
            have hg : (l.getD i default).g = none := by simpa using hf3
            unfold XI at hD
            simp only [hg, hop] at hD
            simp only [addrOf, hop] at had
            obtain ⟨v, hv1, hv2⟩ := X_ptr had hD
            refine AAny_first (B := behind ops i) (ld := false) hlen f listed s hmem hf0 (fun j hj hjB hjl => ?_) (fun s1 hs _ R hR => ?_) (D_AAny hlen f _ r _ hm hv1)
            · have q1 := all_range hf1 hj
              simp only [hjl, Bool.false_or, Bool.or_eq_true] at q1
              rcases q1 with q1 | q1
              · exact absurd (by simpa using q1) hjB
              · exact ⟨q1, fun e => by cases e⟩
            · unfold XI; simp only [hg, hop]
              exact hv2 s1 (fun y hy => ev_of (i := l.getD i default) hs y (by rw [hop]; exact hy)) _ hR
          · exact all rfl (fun e => hne e) hb hD
        · exact all rfl (fun e => hne e) h hD

theorem dreg_sound {id : Nat} {ops : Array Oper} {l : List Ins} {sch : Sch} (hm : P.follows .mixedOrders = true) (ht : trReg P n ops = some l) (hs : mkSch ops l ops.size (Array.replicate ops.size false) = some sch) (hr : Rel P F n s a w)
    {K : St → Prop} (hD : D P l sch s K) (hQ : ∀ (F' : Nat → Prop) (s' : St) a' w', K s' → Rel P F' n s' a' w' → Step F s.h w F' s'.h w' → Q .normal a' w') : (Code.region id ops true).wp P Q a w := by
  obtain ⟨h1, _⟩ := mapM_get ht
  have hr' : Rel P F n s a w.drew := ⟨hr.tmps, fun i => (hr.env i).drew, hr.heap.drew, hr.dom, hr.defers⟩
  exact wp_region_any hm (AAny_sound ht hQ ops.size _ F s a w.drew hr' (Step.drew F s.h w) (D_AAny (by simpa using h1) _ _ sch s hs hD))

end Go.Ab
