/- The abstract layer, part 21: own memory lent to a call that makes trees of its own. Plain lemmas over any program; no condition. -/
import Derived.Test.YtabbipdkbdojiaaAb20
namespace Go.Ab
open Go Go.RowKit
set_option linter.unusedVariables false
set_option linter.unusedSimpArgs false
variable {P : Program}

/-- Behind a call less may be said of the memory. -/
theorem CALL.weak {f : FuncId} {args : List AV} {h : Heap} {Q Q' : AV → Heap → Prop} (hc : CALL P f args h Q') (hq : ∀ r h', Q' r h' → ∃ h'', h''.le h' ∧ Q r h'') : CALL P f args h Q := by
  intro F w vs hh hdom hvl hvs
  refine Calls.mono (hc F w vs hh hdom hvl hvs) ?_
  rintro e w' ⟨F', r, v, h', he, hr, hqr, st, hh', hdom'⟩
  obtain ⟨h'', hle, hq'⟩ := hq r h' hqr
  exact ⟨F', r, v, h'', he, hr, hq', st.weaken hle, hh'.le hle, hdom'⟩
mutual
/-- Nothing in it leads to memory that doesn't change. -/
def solidT : Tree → Bool
  | .leaf _ => true
  | .nil => true
  | .row _ _ _ _ cells => solidTL cells
  | .imm x => solid x
  | .box _ _ cells => solidTL cells
def solidTL : List Tree → Bool
  | [] => true
  | c :: cs => solidT c && solidTL cs
end
theorem solidTL_all : ∀ {ts : List Tree}, solidTL ts = true ↔ ∀ t ∈ ts, solidT t = true
  | [] => by simp [solidTL]
  | t :: ts => by simp [solidTL, solidTL_all (ts := ts)]
theorem solid_tA : ∀ {t : Tree}, solidT t = true → solid (tA t) = true
  | .leaf _, _ => rfl
  | .nil, _ => rfl
  | .row _ _ _ _ _, _ => rfl
  | .imm x, h => h
  | .box _ _ _, _ => rfl
mutual
theorem solid_blk {h : Heap} : ∀ {t : Tree}, solidT t = true → t.at h → ∀ b ∈ blocks t, ∀ k, h b = some k → k.solid
  | .leaf _, _, _, b, hb, _, _ => by simp [blocks] at hb
  | .nil, _, _, b, hb, _, _ => by simp [blocks] at hb
  | .imm _, _, _, b, hb, _, _ => by simp [blocks] at hb
  | .row b' ty n sz cells, hs, ht, b, hb, k, hk => by
    simp only [blocks, List.mem_cons] at hb
    rcases hb with rfl | hb
    · rw [ht.1] at hk; cases hk
      intro x hx
      obtain ⟨c, hc, rfl⟩ := List.mem_map.1 hx
      exact solid_tA (solidTL_all.1 hs c hc)
    · exact solid_blkL hs ht.2.2 b hb k hk
  | .box b' ty cells, hs, ht, b, hb, k, hk => by
    simp only [blocks, List.mem_cons] at hb
    rcases hb with rfl | hb
    · rw [ht.1] at hk; cases hk
      intro x hx
      obtain ⟨c, hc, rfl⟩ := List.mem_map.1 hx
      exact solid_tA (solidTL_all.1 hs c hc)
    · exact solid_blkL hs ht.2 b hb k hk
theorem solid_blkL {h : Heap} : ∀ {ts : List Tree}, solidTL ts = true → Tree.atL h ts → ∀ b ∈ blocksL ts, ∀ k, h b = some k → k.solid
  | [], _, _, b, hb, _, _ => by simp [blocksL] at hb
  | c :: cs, hs, ht, b, hb, k, hk => by
    simp only [solidTL, Bool.and_eq_true] at hs
    simp only [blocksL, List.mem_append] at hb
    rcases hb with hb | hb
    · exact solid_blk hs.1 ht.1 b hb k hk
    · exact solid_blkL hs.2 ht.2 b hb k hk
end
open Classical in
/-- Only these blocks of the memory. -/
noncomputable def Heap.just (h : Heap) (bs : List Nat) : Heap := fun b => if b ∈ bs then h b else .none
theorem Heap.just_le {h : Heap} {bs : List Nat} : (h.just bs).le h := fun b k hk => by
  unfold Heap.just at hk; split at hk
  · exact hk
  · cases hk
theorem Heap.just_mem {h : Heap} {bs : List Nat} {b : Nat} (hb : b ∈ bs) : h.just bs b = h b := if_pos hb
theorem Heap.just_some {h : Heap} {bs : List Nat} {b : Nat} {k : Blk} (hk : h.just bs b = some k) : b ∈ bs ∧ h b = some k := by
  unfold Heap.just at hk; split at hk
  · rename_i hb; exact ⟨hb, hk⟩
  · cases hk
/-- Own memory lent to a call whose own memory comes back as trees. -/
theorem lend_made {α : Type} {f : FuncId} {args ys : List AV} {h : Heap} {Q : AV → Heap → Prop} (mk : α → List Tree → AV) (OK : α → List Tree → Prop) (hl : args.length = ys.length) (hv : ∀ (i : Nat) (x y : AV), args[i]? = some x → ys[i]? = some y → Vw h x y)
    (hc : ∀ {Q' : AV → Heap → Prop}, (∀ a ts h', OK a ts → Made Heap.none h' ts → Q' (mk a ts) h') → CALL P f ys Heap.none Q')
    (hs : ∀ a ts, OK a ts → solid (mk a ts) = true ∧ solidTL ts = true) (hQ : ∀ a ts h', OK a ts → Made h h' ts → Q (mk a ts) h') : CALL P f args h Q := by
  refine CALL.lend hl hv (CALL.weak (hc (Q' := fun r h' => ∃ a ts, OK a ts ∧ Made Heap.none h' ts ∧ r = mk a ts) fun a ts h' hok m => ⟨a, ts, hok, m, rfl⟩) (Q := fun r h' => ∃ a ts, OK a ts ∧ Made Heap.none h' ts ∧ r = mk a ts ∧ ∀ b k, h' b = some k → b ∈ blocksL ts) fun r h' hq => ?_) fun r h' hq => ?_
  · obtain ⟨a, ts, hok, m, rfl⟩ := hq
    refine ⟨h'.just (blocksL ts), Heap.just_le, a, ts, hok, ⟨atL_frame (h := h') (fun b hb => Heap.just_mem hb) m.at_, m.nodup, m.fresh, fun b k hk => by cases hk⟩, rfl, fun b k hk => (Heap.just_some hk).1⟩
  · obtain ⟨a, ts, hok, m, rfl, hb⟩ := hq
    obtain ⟨s1, s2⟩ := hs a ts hok
    refine ⟨s1, fun b k hk => solid_blkL s2 m.at_ b (hb b k hk) k hk, fun hd => hQ a ts _ hok ⟨atL_frame (h := h') (fun b hb' => ?_) m.at_, m.nodup, fun b hb' => hd b (atL_some m.at_ b hb'), fun b k hk => ?_⟩⟩
    · cases hh : h' b with
      | none => exact absurd hh (atL_some m.at_ b hb')
      | some k => simp [Heap.or, hh]
    · cases hh : h' b with
      | none => simp [Heap.or, hh, hk]
      | some k' => rw [hd b (by rw [hh]; simp)] at hk; cases hk
/-- What a call makes as trees is laid down for good. -/
theorem lay_made {α : Type} {f : FuncId} {args : List AV} {h : Heap} {Q : AV → Heap → Prop} (mk : α → List Tree → AV) (OK : α → List Tree → Prop) (vw : α → AV)
    (hc : ∀ {Q' : AV → Heap → Prop}, (∀ a ts h', OK a ts → Made h h' ts → Q' (mk a ts) h') → CALL P f args h Q')
    (hv : ∀ a ts h', OK a ts → Tree.atL h' ts → Vw h' (mk a ts) (vw a)) (hQ : ∀ a ts, OK a ts → Q (vw a) h) : CALL P f args h Q := by
  refine CALL.lay (hc (Q' := fun r h' => ∃ a ts, OK a ts ∧ Made h h' ts ∧ r = mk a ts) fun a ts h' hok m => ⟨a, ts, hok, m, rfl⟩) ?_
  rintro r h' ⟨a, ts, hok, m, rfl⟩
  exact ⟨h, vw a, m.le, hv a ts _ hok (minus_at m), hQ a ts hok⟩
/-! ### copy -/
theorem copyK.own {e : Nat → AV} {h : Heap} {t : Tl} {sz b n c m : Nat} {ty ty' : TypeId} {cells cs : List AV} (hb : h b = some (.row ty cells)) (hc : h c = some (.row ty' cs)) (h1 : m * sz ≤ cs.length) (h2 : n * sz ≤ cells.length) (h3 : (cs.take (m * sz)).all oneC = true)
    (k : on P t e (h.set b (.row ty (splice cells 0 ((cs.take (m * sz)).take (min m n * sz))))) (.val (.int .i64 (min m n : Nat)))) : copyK P sz (.own b n) (.own c m) e h t := by
  simp only [copyK, src, hb, hc]; exact ⟨h1, h2, h3, k⟩
theorem copyK.sub {e : Nat → AV} {h : Heap} {t : Tl} {sz b o n c m : Nat} {ty ty' : TypeId} {cells cs : List AV} (hb : h b = some (.row ty cells)) (hc : h c = some (.row ty' cs)) (h0 : 0 < n) (h1 : m * sz ≤ cs.length) (h2 : o + n * sz ≤ cells.length) (h3 : (cs.take (m * sz)).all oneC = true)
    (k : on P t e (h.set b (.row ty (splice cells o ((cs.take (m * sz)).take (min m n * sz))))) (.val (.int .i64 (min m n : Nat)))) : copyK P sz (.sub b o n) (.own c m) e h t := by
  simp only [copyK, src, hb, hc]; exact ⟨h1, h0, h2, h3, k⟩
end Go.Ab
