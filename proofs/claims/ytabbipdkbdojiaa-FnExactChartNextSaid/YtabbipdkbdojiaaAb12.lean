/- The abstract layer, part 12: the steps of a region, of code and of loops, as equations that a proof rewrites with. Plain lemmas over any program; no condition. -/
import Derived.Test.YtabbipdkbdojiaaAb11
namespace Go.Ab
open Go Go.RowKit
set_option linter.unusedVariables false
set_option linter.unusedSimpArgs false

def inOrderFrom : Nat → Nat → Sch
  | 0, _ => .done
  | n + 1, i => .one i (inOrderFrom n (i + 1))
/-- The text's own order, as a schedule. -/
def inOrder (n : Nat) : Sch := inOrderFrom n 0
theorem D_inOrderFrom {P : Program} {l : List Ins} {K : St → Prop} : ∀ (n i : Nat) (s : St), i + n = l.length → D P l (inOrderFrom n i) s K = W P (l.drop i) s K
  | 0, i, s, h => by rw [List.drop_of_length_le (by omega)]; rfl
  | n + 1, i, s, h => by
    rw [List.drop_eq_getElem_cons (by omega)]
    show XI P (l.getD i default) s (fun s' => D P l (inOrderFrom n (i + 1)) s' K) = XI P l[i] s (fun s' => W P (l.drop (i + 1)) s' K)
    rw [show l.getD i default = l[i] by simp [List.getD, List.getElem?_eq_getElem (show i < l.length by omega)]]
    congr 1
    funext s'
    exact D_inOrderFrom n (i + 1) s' (by omega)

def upd (e : Nat → AV) (d : Nat) (x : AV) : Nat → AV := fun i => if i = d then x else e i
def ev (e : Nat → AV) (x : Opd) : AV := (⟨e, Heap.none⟩ : St).ev x
theorem ev_st {e : Nat → AV} {h : Heap} (x : Opd) : (⟨e, h⟩ : St).ev x = ev e x := by cases x <;> rfl
theorem ev_fun {e : Nat → AV} {h : Heap} : (⟨e, h⟩ : St).ev = ev e := funext fun x => ev_st x
/-- What comes behind an operation: where its value goes, and the rest. -/
structure Tl where
  d : Option Nat
  r : Rt
  k : List Kf
  Q : Post
variable {P : Program}
def on (P : Program) (t : Tl) (e : Nat → AV) (h : Heap) (v : AV) : Prop := go P t.r (match t.d with | some d => upd e d v | none => e) h t.k t.Q
/-- A condition that must hold for the step to be taken. -/
def Need (p q : Prop) : Prop := p ∧ q
theorem Need.in {p q : Prop} (hp : p) (hq : q) : Need p q := ⟨hp, hq⟩
theorem Need_of {p q : Prop} (hp : p) : Need p q = q := propext ⟨fun h => h.2, fun h => ⟨hp, h⟩⟩
theorem Need_and {p p' q : Prop} : Need (p ∧ p') q = Need p (Need p' q) := propext ⟨fun h => ⟨h.1.1, h.1.2, h.2⟩, fun h => ⟨⟨h.1, h.2.1⟩, h.2.2⟩⟩
theorem Need_true {q : Prop} : Need True q = q := Need_of trivial

def insK (P : Program) (i : Ins) (r : Rt) (e : Nat → AV) (h : Heap) (k : List Kf) (Q : Post) : Prop := XI P i ⟨e, h⟩ fun s' => go P r s'.env s'.h k Q
def opK (P : Program) (op : IOp) (e : Nat → AV) (h : Heap) (t : Tl) : Prop := X P op ⟨e, h⟩ fun v h' => on P t e h' v
def gdK (P : Program) (c : AV) (b : Bool) (op : IOp) (e : Nat → AV) (h : Heap) (t : Tl) : Prop := match c with
  | .val (.bool c) => (c = b → opK P op e h t) ∧ (c = !b → on P t e h (.val (.tuple #[])))
  | .val (.tuple _) => on P t e h (.val (.tuple #[]))
  | _ => False
def condK (P : Program) (c : AV) (a b : IC) (e : Nat → AV) (h : Heap) (k : List Kf) (Q : Post) : Prop := match c with
  | .val (.bool t) => (t = true → CK P a e h k Q) ∧ (t = false → CK P b e h k Q)
  | _ => False
def ldK (P : Program) (x : Bool) (i : Nat) (is : List Ins) (r b : Sch) (e : Nat → AV) (h : Heap) (k : List Kf) (Q : Post) : Prop := match x with
  | true => insK P (is.getD i default) (.d is r) e h k Q
  | false => go P (.d is b) e h k Q
def inv (R : St → Prop) (e : Nat → AV) (h : Heap) : Prop := ∃ s3 : St, s3.le ⟨e, h⟩ ∧ R s3

section
variable {e : Nat → AV} {h : Heap} {k : List Kf} {Q : Post} {t : Tl} {d : Option Nat} {r : Rt}
theorem on_some {d : Nat} {v : AV} : on P ⟨some d, r, k, Q⟩ e h v = go P r (upd e d v) h k Q := rfl
theorem on_none {v : AV} : on P ⟨none, r, k, Q⟩ e h v = go P r e h k Q := rfl
theorem upd_app {d i : Nat} {x : AV} : upd e d x i = if i = d then x else e i := rfl
theorem go_nil : go P (.l []) e h k Q = RK P .normal e h k Q := rfl
theorem go_cons {i : Ins} {is : List Ins} : go P (.l (i :: is)) e h k Q = insK P i (.l is) e h k Q := rfl
theorem go_done {is : List Ins} : go P (.d is .done) e h k Q = RK P .normal e h k Q := rfl
theorem go_one {is : List Ins} {i : Nat} {c : Sch} : go P (.d is (.one i c)) e h k Q = insK P (is.getD i default) (.d is c) e h k Q := rfl
theorem go_alt {is : List Ins} {x y : Sch} : go P (.d is (.alt x y)) e h k Q = (go P (.d is x) e h k Q ∧ go P (.d is y) e h k Q) := rfl
theorem go_ld {is : List Ins} {i : Nat} {x y : Sch} : go P (.d is (.ld i x y)) e h k Q = ldK P (addrOf (is.getD i default) ⟨e, h⟩) i is x y e h k Q := by
  simp only [go, D, ldK]; split <;> rename_i hh <;> rw [hh] <;> rfl
theorem ldK_true {i : Nat} {is : List Ins} {x y : Sch} : ldK P true i is x y e h k Q = insK P (is.getD i default) (.d is x) e h k Q := rfl
theorem ldK_false {i : Nat} {is : List Ins} {x y : Sch} : ldK P false i is x y e h k Q = go P (.d is y) e h k Q := rfl
theorem addrOf_load {d : Option Nat} {g : Option (Nat × Bool)} {m : Nat} {ag : Bool} {x : Opd} : addrOf ⟨d, .load m ag x, g⟩ ⟨e, h⟩ = isPtr (ev e x) := by
  show isPtr ((⟨e, h⟩ : St).ev x) = _
  rw [ev_st]
theorem isPtr_ptr {cs : List AV} : isPtr (.ptr cs) = true := rfl
theorem isPtr_adr {b o : Nat} : isPtr (.adr b o) = false := rfl
theorem insK_none {op : IOp} : insK P ⟨d, op, none⟩ r e h k Q = opK P op e h ⟨d, r, k, Q⟩ := by cases d <;> rfl
theorem insK_some {op : IOp} {g : Nat} {b : Bool} : insK P ⟨d, op, some (g, b)⟩ r e h k Q = gdK P (e g) b op e h ⟨d, r, k, Q⟩ := by
  unfold insK XI gdK
  simp only []
  generalize e g = c
  cases c <;> try rfl
  rename_i v
  cases v <;> cases d <;> rfl
theorem gdK_tt {op : IOp} : gdK P (.val (.bool true)) true op e h t = opK P op e h t := by simp [gdK]
theorem gdK_tf {op : IOp} : gdK P (.val (.bool true)) false op e h t = on P t e h (.val (.tuple #[])) := by simp [gdK]
theorem gdK_ft {op : IOp} : gdK P (.val (.bool false)) true op e h t = on P t e h (.val (.tuple #[])) := by simp [gdK]
theorem gdK_ff {op : IOp} : gdK P (.val (.bool false)) false op e h t = opK P op e h t := by simp [gdK]
theorem gdK_u {op : IOp} {b : Bool} {v : Array Value} : gdK P (.val (.tuple v)) b op e h t = on P t e h (.val (.tuple #[])) := rfl
theorem gdK_not {op : IOp} {c b : Bool} : gdK P (.val (.bool (!c))) b op e h t = gdK P (.val (.bool c)) (!b) op e h t := by cases c <;> cases b <;> simp [gdK]
theorem CK_skip : CK P .skip e h k Q = RK P .normal e h k Q := rfl
theorem CK_reg {l : List Ins} : CK P (.reg l) e h k Q = go P (.l l) e h k Q := rfl
theorem CK_inOrder {l : List Ins} {m : Nat} : CK P (.dreg (inOrder m) l) e h k Q = (if m = l.length then go P (.l l) e h k Q else go P (.d l (inOrder m)) e h k Q) := by
  split
  · rename_i hm; exact D_inOrderFrom m 0 _ (by omega)
  · rfl
theorem CK_one {l : List Ins} {i : Nat} {c : Sch} : CK P (.dreg (.one i c) l) e h k Q = go P (.d l (.one i c)) e h k Q := rfl
theorem CK_alt {l : List Ins} {x y : Sch} : CK P (.dreg (.alt x y) l) e h k Q = go P (.d l (.alt x y)) e h k Q := rfl
theorem CK_ld {l : List Ins} {i : Nat} {x y : Sch} : CK P (.dreg (.ld i x y) l) e h k Q = go P (.d l (.ld i x y)) e h k Q := rfl
theorem CK_seq {x y : IC} : CK P (.seq x y) e h k Q = CK P x e h (.seq y :: k) Q := rfl
theorem CK_block {i : Nat} {x : IC} : CK P (.block i x) e h k Q = CK P x e h (.blk i :: k) Q := rfl
theorem CK_exit {i : Nat} : CK P (.exit i) e h k Q = RK P (.exit i) e h k Q := rfl
theorem CK_ret : CK P .ret e h k Q = RK P .ret e h k Q := rfl
theorem CK_cond {c : Opd} {x y : IC} : CK P (.cond c x y) e h k Q = condK P (ev e c) x y e h k Q := by
  simp only [CK, C, condK, ev_st]
  generalize ev e c = z
  cases z <;> rfl
theorem condK_true {x y : IC} : condK P (.val (.bool true)) x y e h k Q = CK P x e h k Q := by simp [condK]
theorem condK_false {x y : IC} : condK P (.val (.bool false)) x y e h k Q = CK P y e h k Q := by simp [condK]
theorem condK_not {c : Bool} {x y : IC} : condK P (.val (.bool (!c))) x y e h k Q = condK P (.val (.bool c)) y x e h k Q := by cases c <;> simp [condK]
/-- A road parts. -/
theorem condK_if {p : Prop} {_ : Decidable p} {x y : IC} (h1 : p → CK P x e h k Q) (h2 : ¬ p → CK P y e h k Q) : condK P (.val (.bool (decide p))) x y e h k Q := ⟨fun hp => h1 (of_decide_eq_true hp), fun hp => h2 (of_decide_eq_false hp)⟩
theorem condK_bool {c : Bool} {x y : IC} (h1 : c = true → CK P x e h k Q) (h2 : c = false → CK P y e h k Q) : condK P (.val (.bool c)) x y e h k Q := ⟨h1, h2⟩
theorem gdK_if {p : Prop} {_ : Decidable p} {b : Bool} {op : IOp} (h1 : p → gdK P (.val (.bool true)) b op e h t) (h2 : ¬ p → gdK P (.val (.bool false)) b op e h t) : gdK P (.val (.bool (decide p))) b op e h t := by
  by_cases hp : p
  · rw [decide_eq_true hp]; exact h1 hp
  · rw [decide_eq_false hp]; exact h2 hp
theorem RK_seq {c : IC} : RK P .normal e h (.seq c :: k) Q = CK P c e h k Q := rfl
theorem RK_seq_ret {c : IC} : RK P .ret e h (.seq c :: k) Q = RK P .ret e h k Q := rfl
theorem RK_seq_exit {i : Nat} {c : IC} : RK P (.exit i) e h (.seq c :: k) Q = RK P (.exit i) e h k Q := rfl
theorem RK_blk {i : Nat} : RK P .normal e h (.blk i :: k) Q = RK P .normal e h k Q := rfl
theorem RK_blk_ret {i : Nat} : RK P .ret e h (.blk i :: k) Q = RK P .ret e h k Q := rfl
theorem RK_blk_exit {i j : Nat} : RK P (.exit j) e h (.blk i :: k) Q = if j = i then RK P .normal e h k Q else RK P (.exit j) e h k Q := by simp only [RK, KQ, Ex.inBlock]
theorem RK_inv {R : St → Prop} : RK P .normal e h (.inv R :: k) Q = inv R e h := rfl
theorem RK_inv_ret {R : St → Prop} : RK P .ret e h (.inv R :: k) Q = RK P .ret e h k Q := rfl
theorem RK_inv_exit {i : Nat} {R : St → Prop} : RK P (.exit i) e h (.inv R :: k) Q = RK P (.exit i) e h k Q := rfl

/-! ### loops -/
def look : List (Nat × AV) → Nat → AV
  | [], _ => .junk
  | (j, x) :: l, i => if i = j then x else look l i
theorem look_nil {i : Nat} : look [] i = .junk := rfl
theorem look_cons {j i : Nat} {x : AV} {l : List (Nat × AV)} : look ((j, x) :: l) i = if i = j then x else look l i := rfl
/-- These slots hold these. -/
def agrees : List (Nat × AV) → (Nat → AV) → Prop
  | [], _ => True
  | (i, x) :: l, e => e i = x ∧ agrees l e
theorem agrees_nil : agrees [] e = True := rfl
theorem agrees_cons {i : Nat} {x : AV} {l : List (Nat × AV)} : agrees ((i, x) :: l) e = (e i = x ∧ agrees l e) := rfl
theorem look_le {e : Nat → AV} : ∀ (l : List (Nat × AV)), agrees l e → ∀ i, look l i = e i ∨ look l i = .junk
  | [], _, i => .inr rfl
  | (j, x) :: l, h, i => by
    simp only [look]
    split
    · rename_i hij; subst hij; exact .inl h.1.symm
    · exact look_le l h.2 i
theorem CK_loop {α : Type} {c : IC} (σ : α → List (Nat × AV)) (η : α → Heap) (p : α → Prop) (μ : α → Nat) (x0 : α) (h0 : agrees (σ x0) e) (hh : (η x0).le h) (hp : p x0)
    (round : ∀ (R : St → Prop) (x : α), p x → (∀ (y : α) (e : Nat → AV) (h : Heap), p y → μ y < μ x → agrees (σ y) e → (η y).le h → inv R e h) → CK P c (look (σ x)) (η x) (.inv R :: k) Q) : CK P (.loop c) e h k Q := by
  by_cases hnone : ∀ x : α, p x → False
  · exact (hnone x0 hp).elim
  refine ⟨fun s => ∃ x, p x ∧ s = ⟨look (σ x), η x⟩, ?_⟩
  -- a measure of states: the least that such an x has
  have : ∃ μ' : St → Nat, ∀ s, (∃ x, p x ∧ s = ⟨look (σ x), η x⟩) → ∃ x, p x ∧ s = ⟨look (σ x), η x⟩ ∧ μ x = μ' s ∧ ∀ y, p y → s = ⟨look (σ y), η y⟩ → μ' s ≤ μ y := by
    have hex : ∀ s : St, ∃ m : Nat, (∃ x, p x ∧ s = ⟨look (σ x), η x⟩) → ∃ x, p x ∧ s = ⟨look (σ x), η x⟩ ∧ μ x = m ∧ ∀ y, p y → s = ⟨look (σ y), η y⟩ → m ≤ μ y := by
      intro s
      by_cases hs : ∃ x, p x ∧ s = ⟨look (σ x), η x⟩
      · have key : ∀ (m : Nat) (x : α), μ x = m → p x → s = ⟨look (σ x), η x⟩ → ∃ m', ∃ x, p x ∧ s = ⟨look (σ x), η x⟩ ∧ μ x = m' ∧ ∀ y, p y → s = ⟨look (σ y), η y⟩ → m' ≤ μ y := by
          intro m
          induction m using Nat.strongRecOn with
          | _ m ih =>
            intro x hx hpx hsx
            by_cases hy : ∃ y, p y ∧ s = ⟨look (σ y), η y⟩ ∧ μ y < m
            · obtain ⟨y, a, b, c⟩ := hy
              exact ih (μ y) c y rfl a b
            · exact ⟨m, x, hpx, hsx, hx, fun y a b => Nat.not_lt.1 fun hc => hy ⟨y, a, b, hc⟩⟩
        obtain ⟨x, hx, hsx⟩ := hs
        obtain ⟨m, hm⟩ := key (μ x) x rfl hx hsx
        exact ⟨m, fun _ => hm⟩
      · exact ⟨0, fun h => (hs h).elim⟩
    exact ⟨fun s => (hex s).choose, fun s hs => (hex s).choose_spec hs⟩
  obtain ⟨μ', hμ⟩ := this
  refine ⟨μ', ⟨look (σ x0), η x0⟩, ⟨look_le _ h0, hh⟩, ⟨x0, hp, rfl⟩, fun s1 hs1 => ?_⟩
  obtain ⟨x, hx, hs, hm, -⟩ := hμ s1 hs1
  subst hs
  have := round (fun s3 => (∃ x, p x ∧ s3 = ⟨look (σ x), η x⟩) ∧ μ' s3 < μ' ⟨look (σ x), η x⟩) x hx (fun y e h hy hlt hag hle => by
    obtain ⟨z, hz, hs, hm2, hmin⟩ := hμ ⟨look (σ y), η y⟩ ⟨y, hy, rfl⟩
    refine ⟨⟨look (σ y), η y⟩, ⟨look_le _ hag, hle⟩, ⟨y, hy, rfl⟩, ?_⟩
    have := hmin y hy rfl
    omega)
  exact this

/-! ### functions -/
def atPost (g : List (Nat × Option (Nat × Bool))) (R : AV → Heap → Prop) : Ex → St → Prop
  | .exit _, _ => False
  | _, s => match g.mapM (resV s) with
    | some xs => ∃ h', h'.le s.h ∧ R (retV xs) h'
    | none => False
theorem resV_hmono {e : Nat → AV} {h1 h : Heap} (hl : h1.le h) {q : Nat × Option (Nat × Bool)} {x : AV} (hx : resV ⟨e, h1⟩ q = some x) : resV ⟨e, h⟩ q = some x := by
  obtain ⟨t, o⟩ := q
  cases o with
  | none => exact hx
  | some p =>
    obtain ⟨k, ag⟩ := p
    simp only [resV] at hx ⊢
    split at hx
    · rename_i b o hev
      split at hx
      · rename_i hb; rw [hl _ _ hb]; exact hx
      · cases hx
    · exact hx
    · cases hx
theorem mapM_hmono {e : Nat → AV} {h1 h : Heap} (hl : h1.le h) : ∀ {g : List (Nat × Option (Nat × Bool))} {xs : List AV}, g.mapM (resV ⟨e, h1⟩) = some xs → g.mapM (resV ⟨e, h⟩) = some xs
  | [], xs, hx => hx
  | q :: g, xs, hx => by
    simp only [List.mapM_cons] at hx ⊢
    cases hq : resV ⟨e, h1⟩ q with
    | none => simp [hq] at hx
    | some y =>
      cases hg : g.mapM (resV ⟨e, h1⟩) with
      | none => simp [hq, hg] at hx
      | some ys => simp [hq, hg] at hx; subst hx; simp [resV_hmono hl hq, mapM_hmono hl hg]
def ends (g : List (Nat × Option (Nat × Bool))) (R : AV → Heap → Prop) : Post where
  on := atPost g R
  mono := fun x e h1 h hl hq => by
    have key : ∀ {A : Prop}, (match g.mapM (resV ⟨e, h1⟩) with | some xs => ∃ h', h'.le h1 ∧ R (retV xs) h' | none => False) → (match g.mapM (resV ⟨e, h⟩) with | some xs => ∃ h', h'.le h ∧ R (retV xs) h' | none => False) := by
      intro _ hq
      split at hq
      · rename_i xs hxs
        rw [mapM_hmono hl hxs]
        obtain ⟨h', a, b⟩ := hq
        exact ⟨h', Heap.le_trans a hl, b⟩
      · exact hq.elim
    cases x with
    | normal => exact key (A := True) hq
    | exit i => exact hq
    | ret => exact key (A := True) hq
/-- The values that a function hands back, one by one. -/
def resK (xs : List AV) (e : Nat → AV) (h : Heap) (R : AV → Heap → Prop) : List (Nat × Option (Nat × Bool)) → Prop
  | [] => ∃ h', h'.le h ∧ R (retV xs) h'
  | (t, none) :: g => resK (xs ++ [e t]) e h R g
  | (t, some (m, ag)) :: g => match e t with
    | .adr b o => match h b with
      | some (.row _ cells) => o + m ≤ cells.length ∧ resK (xs ++ [loadC m ag cells o]) e h R g
      | _ => False
    | .ptr cells => m ≤ cells.length ∧ resK (xs ++ [loadC m ag cells 0]) e h R g
    | _ => False
theorem resK_spec {e : Nat → AV} {h : Heap} {R : AV → Heap → Prop} : ∀ (g : List (Nat × Option (Nat × Bool))) (xs : List AV), resK xs e h R g → ∃ ys, g.mapM (resV ⟨e, h⟩) = some ys ∧ ∃ h', h'.le h ∧ R (retV (xs ++ ys)) h'
  | [], xs, hr => ⟨[], rfl, by rw [List.append_nil]; exact hr⟩
  | (t, none) :: g, xs, hr => by
    obtain ⟨ys, h1, h2⟩ := resK_spec g _ hr
    exact ⟨e t :: ys, by simp [resV, h1], by simpa using h2⟩
  | (t, some (m, ag)) :: g, xs, hr => by
    simp only [resK] at hr
    split at hr
    · rename_i b o hev
      split at hr
      · rename_i hb
        obtain ⟨ys, h1, h2⟩ := resK_spec g _ hr.2
        exact ⟨_ :: ys, by simp only [List.mapM_cons, resV, hev, hb, if_pos hr.1, h1]; rfl, by simpa using h2⟩
      · exact hr.elim
    · rename_i cells hev
      obtain ⟨ys, h1, h2⟩ := resK_spec g _ hr.2
      exact ⟨_ :: ys, by simp only [List.mapM_cons, resV, hev, if_pos hr.1, h1]; rfl, by simpa using h2⟩
    · exact hr.elim
theorem RK_end {g : List (Nat × Option (Nat × Bool))} {R : AV → Heap → Prop} (hr : resK [] e h R g) : RK P .ret e h [] (ends g R) := by
  obtain ⟨ys, h1, h2⟩ := resK_spec g [] hr
  show match g.mapM (resV ⟨e, h⟩) with | some xs => ∃ h', h'.le h ∧ R (retV xs) h' | none => False
  rw [h1]; exact h2
theorem RK_end' {g : List (Nat × Option (Nat × Bool))} {R : AV → Heap → Prop} (hr : resK [] e h R g) : RK P .normal e h [] (ends g R) := RK_end (P := P) hr
theorem resK_back {e : Nat → AV} {h : Heap} {R : AV → Heap → Prop} : ∀ (g : List (Nat × Option (Nat × Bool))) (xs ys : List AV), g.mapM (resV ⟨e, h⟩) = some ys → (∃ h', h'.le h ∧ R (retV (xs ++ ys)) h') → resK xs e h R g
  | [], xs, ys, hm, hr => by
    simp at hm; subst hm
    simpa [resK] using hr
  | (t, none) :: g, xs, ys, hm, hr => by
    simp only [List.mapM_cons, resV] at hm
    cases hg : g.mapM (resV ⟨e, h⟩) with
    | none => simp [hg] at hm
    | some zs =>
      simp [hg] at hm; subst hm
      exact resK_back g (xs ++ [e t]) zs hg (by simpa using hr)
  | (t, some (m, ag)) :: g, xs, ys, hm, hr => by
    simp only [List.mapM_cons, resV] at hm
    simp only [resK]
    split at hm
    · rename_i b o hev
      simp only [hev]
      split at hm
      · rename_i hb
        simp only [hb]
        split at hm
        · rename_i hle
          cases hg : g.mapM (resV ⟨e, h⟩) with
          | none => simp [hg] at hm
          | some zs =>
            simp [hg] at hm; subst hm
            exact ⟨hle, resK_back g _ zs hg (by simpa using hr)⟩
        · simp at hm
      · simp at hm
    · rename_i cells hev
      simp only [hev]
      split at hm
      · rename_i hle
        cases hg : g.mapM (resV ⟨e, h⟩) with
        | none => simp [hg] at hm
        | some zs =>
          simp [hg] at hm; subst hm
          exact ⟨hle, resK_back g _ zs hg (by simpa using hr)⟩
      · simp at hm
    · simp at hm
theorem RK_ends {g : List (Nat × Option (Nat × Bool))} {R : AV → Heap → Prop} : RK P .ret e h [] (ends g R) = resK [] e h R g := by
  refine propext ⟨fun hq => ?_, RK_end⟩
  have hq' : match g.mapM (resV ⟨e, h⟩) with | some xs => ∃ h', h'.le h ∧ R (retV xs) h' | none => False := hq
  split at hq'
  · rename_i ys hm; exact resK_back g [] ys hm (by simpa using hq')
  · exact hq'.elim
theorem RK_ends' {g : List (Nat × Option (Nat × Bool))} {R : AV → Heap → Prop} : RK P .normal e h [] (ends g R) = resK [] e h R g := RK_ends (P := P)
/-- The value at a function's end. -/
def fin (h : Heap) (R : AV → Heap → Prop) (v : AV) : Prop := ∃ h', h'.le h ∧ R v h'
theorem fin.of {h h' : Heap} {R : AV → Heap → Prop} {v : AV} (hl : h'.le h) (hr : R v h') : fin h R v := ⟨h', hl, hr⟩
theorem fin.same {h : Heap} {R : AV → Heap → Prop} {v : AV} (hr : R v h) : fin h R v := ⟨h, Heap.le_refl h, hr⟩
theorem resK_nil {xs : List AV} {R : AV → Heap → Prop} : resK xs e h R [] = fin h R (retV xs) := rfl
theorem resK_tmp {xs : List AV} {R : AV → Heap → Prop} {t : Nat} {g : List (Nat × Option (Nat × Bool))} : resK xs e h R ((t, none) :: g) = resK (xs ++ [e t]) e h R g := rfl
def resC (x : AV) (m : Nat) (ag : Bool) (xs : List AV) (e : Nat → AV) (h : Heap) (R : AV → Heap → Prop) (g : List (Nat × Option (Nat × Bool))) : Prop := match x with
  | .adr b o => match h b with
    | some (.row _ cells) => o + m ≤ cells.length ∧ resK (xs ++ [loadC m ag cells o]) e h R g
    | _ => False
  | .ptr cells => m ≤ cells.length ∧ resK (xs ++ [loadC m ag cells 0]) e h R g
  | _ => False
def resR (r : Option Blk) (o m : Nat) (ag : Bool) (xs : List AV) (e : Nat → AV) (h : Heap) (R : AV → Heap → Prop) (g : List (Nat × Option (Nat × Bool))) : Prop := match r with
  | some (.row _ cells) => o + m ≤ cells.length ∧ resK (xs ++ [loadC m ag cells o]) e h R g
  | _ => False
theorem resK_cell {xs : List AV} {R : AV → Heap → Prop} {t m : Nat} {ag : Bool} {g : List (Nat × Option (Nat × Bool))} : resK xs e h R ((t, some (m, ag)) :: g) = resC (e t) m ag xs e h R g := by
  simp only [resK, resC] <;> rfl
theorem resC_ptr {cells : List AV} {xs : List AV} {R : AV → Heap → Prop} {m : Nat} {ag : Bool} {g : List (Nat × Option (Nat × Bool))} : resC (.ptr cells) m ag xs e h R g = Need (m ≤ cells.length) (resK (xs ++ [loadC m ag cells 0]) e h R g) := rfl
theorem resC_adr {b o : Nat} {xs : List AV} {R : AV → Heap → Prop} {m : Nat} {ag : Bool} {g : List (Nat × Option (Nat × Bool))} : resC (.adr b o) m ag xs e h R g = resR (h b) o m ag xs e h R g := rfl
theorem resR_row {ty : TypeId} {cells : List AV} {o : Nat} {xs : List AV} {R : AV → Heap → Prop} {m : Nat} {ag : Bool} {g : List (Nat × Option (Nat × Bool))} : resR (some (.row ty cells)) o m ag xs e h R g = Need (o + m ≤ cells.length) (resK (xs ++ [loadC m ag cells o]) e h R g) := rfl
theorem retV_one {x : AV} : retV [x] = x := rfl
theorem retV_two {x y : AV} : retV [x, y] = .tup [x, y] := rfl
theorem retV_none : retV [] = .tup [] := rfl
theorem retV_three {x y z : AV} : retV [x, y, z] = .tup [x, y, z] := rfl
theorem gdK_bool {c b : Bool} {op : IOp} (h1 : c = true → gdK P (.val (.bool true)) b op e h t) (h2 : c = false → gdK P (.val (.bool false)) b op e h t) : gdK P (.val (.bool c)) b op e h t := by
  cases c
  · exact h2 rfl
  · exact h1 rfl
theorem Heap.le_new {b : Nat} {k : Blk} (hb : h b = Option.none) : h.le (h.set b k) := Heap.le_set hb (Heap.le_refl h)
theorem Heap.new_ne {b c : Nat} {k : Blk} (hc : (h.set b k) c = Option.none) : c ≠ b := (Heap.set_none.1 hc).1
theorem Heap.new_none {b c : Nat} {k : Blk} (hc : (h.set b k) c = Option.none) : h c = Option.none := (Heap.set_none.1 hc).2
/-- A function's contract, by its code. -/
theorem CALL_by {f : FuncId} {g : Fun} (hm : P.follows .mixedOrders = true) (ht : trFun P f = some g) {args : List AV} {R : AV → Heap → Prop} (hl : args.length ≤ g.n) (hC : CK P g.code (envOf args) h [] (ends g.res R)) : CALL P f args h R :=
  CALL_of hm ht hl (C_hmono g.code _ h h _ _ (Heap.le_refl h) (fun x e h1 h hl hq => by
    have := (ends g.res R).mono x e h1 h hl hq
    cases x <;> exact this) hC)
end

end Go.Ab
