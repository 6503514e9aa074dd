/- The abstract layer, part 11: more own memory never hurts; the steps, one by one, as they are rewritten in a proof. Plain lemmas over any program; no condition. -/
import Derived.Test.YtabbipdkbdojiaaAb10
namespace Go.Ab
open Go Go.RowKit
set_option linter.unusedVariables false
set_option linter.unusedSimpArgs false
variable {P : Program} {F : Nat → Prop} {n : Nat} {s : St} {a : Act} {w : World}

/-! ### more memory -/
theorem Heap.le_none {h1 h : Heap} (hl : h1.le h) {b : Nat} (hb : h b = .none) : h1 b = .none := by
  cases hh : h1 b with
  | none => rfl
  | some k => rw [hl b k hh] at hb; cases hb
theorem Heap.set_mono {h1 h : Heap} (hl : h1.le h) (b : Nat) (k : Blk) : (h1.set b k).le (h.set b k) := fun i l hi => by
  unfold Heap.set at hi ⊢; split <;> simp_all
  exact hl i l hi
/-- Own memory put behind: of a block that both name the first one's. -/
def Heap.or (h1 h : Heap) : Heap := fun b => (h1 b).or (h b)
theorem Heap.le_or (h1 h : Heap) : h1.le (h1.or h) := fun b k hk => by simp [Heap.or, hk]

theorem src_hmono {h1 h : Heap} (hl : h1.le h) {sz : Nat} {y : AV} {K K' : Nat → List AV → Prop} (hk : ∀ m c, K m c → K' m c) (hx : src h1 sz y K) : src h sz y K' := by
  unfold src at hx ⊢
  split at hx
  · exact ⟨hx.1, hk _ _ hx.2⟩
  · split at hx
    · rename_i hb; rw [hl _ _ hb]; exact ⟨hx.1, hk _ _ hx.2⟩
    · exact hx.elim
  · exact hk _ _ hx
  · exact hx.elim

theorem px_app_hmono {h1 h : Heap} (hl : h1.le h) {e sz m : Nat} {x : AV} {new : List AV} {K K' : AV → Heap → Prop} (hk : ∀ v h1 h, h1.le h → K v h1 → K' v h) (hx : px_app h1 e sz m x new K) : px_app h e sz m x new K' := by
  unfold px_app at hx ⊢
  split at hx
  · exact ⟨fun h => hk _ _ _ hl (hx.1 h), fun h => ⟨(hx.2 h).1, fun b hb => hk _ _ _ (Heap.set_mono hl _ _) ((hx.2 h).2 b (Heap.le_none hl hb))⟩⟩
  · split at hx
    · rename_i hb; rw [hl _ _ hb]
      exact ⟨hx.1, hx.2.1, hx.2.2.1, hx.2.2.2.1, fun b hb => hk _ _ _ (Heap.set_mono hl _ _) (hx.2.2.2.2 b (hb.imp id (Heap.le_none hl)))⟩
    · exact hx.elim
  · exact ⟨hx.1, hx.2.1, hx.2.2.1, fun b hb => hk _ _ _ (Heap.set_mono hl _ _) (hx.2.2.2 b (Heap.le_none hl hb))⟩
  · exact hx.elim

theorem CALL.hmono {h1 h : Heap} (hl : h1.le h) {f : FuncId} {args : List AV} {K : AV → Heap → Prop} (hx : CALL P f args h1 K) : CALL P f args h K := by
  intro F w vs a1 a2 a3 a4
  refine Calls.mono (hx F w vs (a1.le hl) a2 a3 a4) ?_
  rintro e w' ⟨F', r, v, h', b1, b2, b3, st, b5, b6⟩
  exact ⟨F', r, v, h', b1, b2, b3, ⟨st.os, st.tape, st.output, st.size, st.sub, fun b hb hn => st.keep b hb (Heap.le_none hl hn), fun b hb => by
    rcases st.newF b hb with h | h | h
    · exact .inl h
    · exact .inr (.inl fun e => h (Heap.le_none hl e))
    · exact .inr (.inr h), fun b hb => by
    rcases st.newH b hb with h | h
    · exact .inl fun e => h (Heap.le_none hl e)
    · exact .inr h, st.shape⟩, b5, b6⟩

theorem X_hmono {op : IOp} {h1 : Heap} (hl : h1.le s.h) {K K' : AV → Heap → Prop} (hk : ∀ v h1 h, h1.le h → K v h1 → K' v h) (hX : X P op (s.heap h1) K) : X P op s K' := by
  have hev : ∀ h, (s.heap h).ev = s.ev := fun h => by funext x; cases x <;> rfl
  by_cases ho : envOnly op = true
  · obtain ⟨v, k1, k2⟩ := X_env ho hX
    exact k2 s.h _ (hk _ _ _ hl k1)
  · cases op <;> simp only [envOnly, not_true_eq_false] at ho <;> simp only [X, hev] at hX ⊢
    case call => exact (hX.mono fun v h => hk v h h (Heap.le_refl h)).hmono hl
    case callv =>
      split at hX
      · exact ⟨hX.1, (hX.2.mono fun v h => hk v h h (Heap.le_refl h)).hmono hl⟩
      · exact hX.elim
    case app => exact src_hmono hl (fun m c => px_app_hmono hl hk) hX
    case b2s => exact src_hmono hl (fun m c h => by obtain ⟨t, h1, h2⟩ := h; exact ⟨t, h1, hk _ _ _ hl h2⟩) hX
    case alloc => exact fun b hb => hk _ _ _ (Heap.set_mono hl _ _) (hX b (Heap.le_none hl hb))
    case copy =>
      refine src_hmono hl (fun m c h => ?_) hX
      split at h
      · split at h
        · rename_i hb; have hb' : s.h _ = _ := hl _ _ hb
          simp only [hb']; exact ⟨h.1, h.2.1, hk _ _ _ (Heap.set_mono hl _ _) h.2.2⟩
        · exact h.elim
      · split at h
        · rename_i hb; have hb' : s.h _ = _ := hl _ _ hb
          simp only [hb']; exact ⟨h.1, h.2.1, h.2.2.1, hk _ _ _ (Heap.set_mono hl _ _) h.2.2.2⟩
        · exact h.elim
      · exact h.elim
    case mkmap => exact fun b hb => hk _ _ _ (Heap.set_mono hl _ _) (hX b (Heap.le_none hl hb))
    case mget =>
      split at hX
      · split at hX
        · rename_i hb; have hb' : s.h _ = _ := hl _ _ hb
          simp only [hb']; exact ⟨hX.1, hX.2.1, hk _ _ _ hl hX.2.2⟩
        · exact hX.elim
      · exact hX.elim
    case mset =>
      split at hX
      · split at hX
        · rename_i hb; have hb' : s.h _ = _ := hl _ _ hb
          simp only [hb']; exact ⟨hX.1, hX.2.1, hk _ _ _ (Heap.set_mono hl _ _) hX.2.2⟩
        · exact hX.elim
      · exact hX.elim
    case load =>
      split at hX
      · exact ⟨hX.1, hk _ _ _ hl hX.2⟩
      · split at hX
        · rename_i hb; have hb' : s.h _ = _ := hl _ _ hb
          simp only [hb']; exact ⟨hX.1, hk _ _ _ hl hX.2⟩
        · exact hX.elim
      · exact hX.elim
    case store =>
      split at hX
      · split at hX
        · rename_i hb; have hb' : s.h _ = _ := hl _ _ hb
          simp only [hb']; exact ⟨hX.1, hX.2.1, hX.2.2.1, hk _ _ _ (Heap.set_mono hl _ _) hX.2.2.2⟩
        · exact hX.elim
      · exact hX.elim
    all_goals
      split at hX <;> first
        | exact fun b hb => hk _ _ _ (Heap.set_mono hl _ _) (hX b (Heap.le_none hl hb))
        | exact ⟨hX.1, hX.2.1, hX.2.2.1, fun b hb => hk _ _ _ (Heap.set_mono hl _ _) (hX.2.2.2 b (Heap.le_none hl hb))⟩
        | exact hX.elim

theorem XI_hmono {i : Ins} {h1 : Heap} (hl : h1.le s.h) {K K' : St → Prop} (hk : ∀ e h1 h, Heap.le h1 h → K ⟨e, h1⟩ → K' ⟨e, h⟩) (h : XI P i (s.heap h1) K) : XI P i s K' := by
  have hk' : ∀ v (h1 h : Heap), h1.le h → K (((s.heap h1).put' i.d v)) → K' ((s.heap h).put' i.d v) := fun v h1 h hl hK => by
    have := hk ((s.put' i.d v).env) h1 h hl
    cases hd : i.d <;> simp only [hd, St.put', St.put, St.heap] at this hK ⊢ <;> exact this hK
  unfold XI at h ⊢
  split at h
  · exact X_hmono hl hk' h
  · have e : ∀ t, (s.heap h1).env t = s.env t := fun _ => rfl
    rw [e] at h
    split at h
    · exact ⟨fun e => X_hmono hl hk' (h.1 e), fun e => hk' (.val (.tuple #[])) h1 s.h hl (h.2 e)⟩
    · exact hk' (.val (.tuple #[])) h1 s.h hl h
    · exact h.elim

theorem W_hmono : ∀ (l : List Ins) (e : Nat → AV) (h1 h : Heap) (K K' : St → Prop), h1.le h → (∀ e h1 h, Heap.le h1 h → K ⟨e, h1⟩ → K' ⟨e, h⟩) → W P l ⟨e, h1⟩ K → W P l ⟨e, h⟩ K'
  | [], e, h1, h, K, K', hl, hk, hX => hk e h1 h hl hX
  | i :: r, e, h1, h, K, K', hl, hk, hX => XI_hmono (s := ⟨e, h⟩) hl (fun e h1 h hl hK => W_hmono r e h1 h K K' hl hk hK) hX
theorem D_hmono {l : List Ins} : ∀ (c : Sch) (e : Nat → AV) (h1 h : Heap) (K K' : St → Prop), h1.le h → (∀ e h1 h, Heap.le h1 h → K ⟨e, h1⟩ → K' ⟨e, h⟩) → D P l c ⟨e, h1⟩ K → D P l c ⟨e, h⟩ K'
  | .done, e, h1, h, K, K', hl, hk, hX => hk e h1 h hl hX
  | .one i r, e, h1, h, K, K', hl, hk, hX => XI_hmono (s := ⟨e, h⟩) hl (fun e h1 h hl hK => D_hmono r e h1 h K K' hl hk hK) hX
  | .ld i r b, e, h1, h, K, K', hl, hk, hX => by
    simp only [D] at hX ⊢
    have ha : addrOf (l.getD i default) ⟨e, h1⟩ = addrOf (l.getD i default) ⟨e, h⟩ := by
      unfold addrOf; split
      · rename_i x _; cases x <;> rfl
      · rfl
    rw [ha] at hX
    split at hX
    · exact XI_hmono (s := ⟨e, h⟩) hl (fun e h1 h hl hK => D_hmono r e h1 h K K' hl hk hK) hX
    · exact D_hmono b e h1 h K K' hl hk hX
  | .alt x y, e, h1, h, K, K', hl, hk, hX => ⟨D_hmono x e h1 h K K' hl hk hX.1, D_hmono y e h1 h K K' hl hk hX.2⟩

theorem C_hmono : ∀ (c : IC) (e : Nat → AV) (h1 h : Heap) (Q Q' : Ex → St → Prop), h1.le h → (∀ x e h1 h, Heap.le h1 h → Q x ⟨e, h1⟩ → Q' x ⟨e, h⟩) → C P c ⟨e, h1⟩ Q → C P c ⟨e, h⟩ Q'
  | .skip, e, h1, h, Q, Q', hl, hk, hC => hk .normal _ _ _ hl hC
  | .reg l, e, h1, h, Q, Q', hl, hk, hC => W_hmono l e h1 h _ _ hl (fun e h1 h => hk .normal e h1 h) hC
  | .dreg c l, e, h1, h, Q, Q', hl, hk, hC => D_hmono c e h1 h _ _ hl (fun e h1 h => hk .normal e h1 h) hC
  | .seq x y, e, h1, h, Q, Q', hl, hk, hC => C_hmono x e h1 h _ _ hl (fun z e h1 h hl hq => by
      cases z with
      | normal => exact C_hmono y e h1 h Q Q' hl hk hq
      | exit id => exact hk _ _ _ _ hl hq
      | ret => exact hk _ _ _ _ hl hq) hC
  | .cond c x y, e, h1, h, Q, Q', hl, hk, hC => by
    simp only [C] at hC ⊢
    have he : (⟨e, h1⟩ : St).ev c = (⟨e, h⟩ : St).ev c := by cases c <;> rfl
    rw [he] at hC
    split at hC
    · exact ⟨fun t => C_hmono x e h1 h Q Q' hl hk (hC.1 t), fun t => C_hmono y e h1 h Q Q' hl hk (hC.2 t)⟩
    · exact hC.elim
  | .block id c, e, h1, h, Q, Q', hl, hk, hC => C_hmono c e h1 h _ _ hl (fun z e h1 h hl hq => by
      cases z with
      | normal => exact hk _ _ _ _ hl hq
      | exit i =>
        simp only [Ex.inBlock] at hq ⊢
        split
        · rename_i hi; rw [if_pos hi] at hq; exact hk _ _ _ _ hl hq
        · rename_i hi; rw [if_neg hi] at hq; exact hk _ _ _ _ hl hq
      | ret => exact hk _ _ _ _ hl hq) hC
  | .loop c, e, h1, h, Q, Q', hl, hk, hC => by
    obtain ⟨I, μ, s0, k1, k2, k3⟩ := hC
    refine ⟨I, μ, s0, ⟨k1.1, Heap.le_trans k1.2 hl⟩, k2, fun s1 hs1 => ?_⟩
    refine C_hmono c s1.env s1.h s1.h _ _ (Heap.le_refl _) (fun z e h1 h hl hq => ?_) (k3 s1 hs1)
    cases z with
    | normal => obtain ⟨s3, a, b⟩ := hq; exact ⟨s3, ⟨a.1, Heap.le_trans a.2 hl⟩, b⟩
    | exit id => exact hk _ _ _ _ hl hq
    | ret => exact hk _ _ _ _ hl hq
  | .exit id, e, h1, h, Q, Q', hl, hk, hC => hk _ _ _ _ hl hC
  | .ret, e, h1, h, Q, Q', hl, hk, hC => hk _ _ _ _ hl hC

/-! ### what comes behind, as data -/
/-- What holds of an end, the more so with more memory. -/
structure Post where
  on : Ex → St → Prop
  mono : ∀ x e (h1 h : Heap), h1.le h → on x ⟨e, h1⟩ → on x ⟨e, h⟩
inductive Kf where
  | seq (c : IC)
  | blk (id : Nat)
  | inv (R : St → Prop)
def KQ (P : Program) : List Kf → Post → Ex → St → Prop
  | [], Q => Q.on
  | .seq c :: k, Q => Ex.then (fun s' => C P c s' (KQ P k Q)) (KQ P k Q)
  | .blk id :: k, Q => Ex.inBlock id (KQ P k Q)
  | .inv R :: k, Q => Ex.then (fun s2 => ∃ s3 : St, s3.le s2 ∧ R s3) (KQ P k Q)
theorem KQ_hmono : ∀ (k : List Kf) (Q : Post) x e (h1 h : Heap), h1.le h → KQ P k Q x ⟨e, h1⟩ → KQ P k Q x ⟨e, h⟩
  | [], Q, x, e, h1, h, hl, hq => Q.mono x e h1 h hl hq
  | .seq c :: k, Q, x, e, h1, h, hl, hq => by
    cases x with
    | normal => exact C_hmono c e h1 h _ _ hl (fun x e h1 h => KQ_hmono k Q x e h1 h) hq
    | exit id => exact KQ_hmono k Q _ e h1 h hl hq
    | ret => exact KQ_hmono k Q _ e h1 h hl hq
  | .blk id :: k, Q, x, e, h1, h, hl, hq => by
    cases x with
    | normal => exact KQ_hmono k Q _ e h1 h hl hq
    | exit i =>
      simp only [KQ, Ex.inBlock] at hq ⊢
      split
      · rename_i hi; rw [if_pos hi] at hq; exact KQ_hmono k Q _ e h1 h hl hq
      · rename_i hi; rw [if_neg hi] at hq; exact KQ_hmono k Q _ e h1 h hl hq
    | ret => exact KQ_hmono k Q _ e h1 h hl hq
  | .inv R :: k, Q, x, e, h1, h, hl, hq => by
    cases x with
    | normal => obtain ⟨s3, a, b⟩ := hq; exact ⟨s3, ⟨a.1, Heap.le_trans a.2 hl⟩, b⟩
    | exit id => exact KQ_hmono k Q _ e h1 h hl hq
    | ret => exact KQ_hmono k Q _ e h1 h hl hq

/-- A region's rest: in the text's order, or by a schedule. -/
inductive Rt where
  | l (is : List Ins)
  | d (is : List Ins) (s : Sch)
def go (P : Program) (r : Rt) (e : Nat → AV) (h : Heap) (k : List Kf) (Q : Post) : Prop := match r with
  | .l is => W P is ⟨e, h⟩ (KQ P k Q .normal)
  | .d is s => D P is s ⟨e, h⟩ (KQ P k Q .normal)
def CK (P : Program) (c : IC) (e : Nat → AV) (h : Heap) (k : List Kf) (Q : Post) : Prop := C P c ⟨e, h⟩ (KQ P k Q)
def RK (P : Program) (x : Ex) (e : Nat → AV) (h : Heap) (k : List Kf) (Q : Post) : Prop := KQ P k Q x ⟨e, h⟩
theorem go_hmono {r : Rt} {e : Nat → AV} {h1 h : Heap} {k : List Kf} {Q : Post} (hl : h1.le h) (hg : go P r e h1 k Q) : go P r e h k Q := by
  cases r with
  | l is => exact W_hmono is e h1 h _ _ hl (fun e h1 h hl => KQ_hmono k Q .normal e h1 h hl) hg
  | d is s => exact D_hmono s e h1 h _ _ hl (fun e h1 h hl => KQ_hmono k Q .normal e h1 h hl) hg
theorem CK_hmono {c : IC} {e : Nat → AV} {h1 h : Heap} {k : List Kf} {Q : Post} (hl : h1.le h) (hg : CK P c e h1 k Q) : CK P c e h k Q := C_hmono c e h1 h _ _ hl (fun x e h1 h hl => KQ_hmono k Q x e h1 h hl) hg

end Go.Ab
