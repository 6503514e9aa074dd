/- The abstract layer, part 18: the laws' functions that copy slices into own memory. Plain lemmas over any program; no condition. -/
import Derived.Test.YtabbipdkbdojiaaAb17
namespace Go.Ab
open Go Go.RowKit
set_option linter.unusedVariables false
set_option linter.unusedSimpArgs false
variable {P : Program}

/-- Between h and h' these trees were made. -/
structure Made (h h' : Heap) (ts : List Tree) : Prop where
  at_ : Tree.atL h' ts
  nodup : (blocksL ts).Nodup
  fresh : ∀ b ∈ blocksL ts, h b = none
  le : h.le h'
theorem Made.none {h : Heap} : Made h h [] := ⟨trivial, List.nodup_nil, fun b hb => by simp [blocksL] at hb, Heap.le_refl h⟩
theorem blocksL_flat_nil : ∀ {zs : List Tree}, (∀ z ∈ zs, blocks z = []) → blocksL zs = []
  | [], _ => rfl
  | z :: zs, h => by rw [blocksL, h z (List.mem_cons_self ..), blocksL_flat_nil fun y hy => h y (List.mem_cons_of_mem z hy)]; rfl
theorem splice_mid : ∀ (b' a b c : List AV), b.length = b'.length → splice (a ++ b ++ c) a.length b' = a ++ b' ++ c
  | [], a, b, c, h => by
    have : b = [] := List.length_eq_zero_iff.1 (by simpa using h)
    subst this; rw [splice_nil]
  | x :: b', a, [], c, h => by simp at h
  | x :: b', a, y :: b, c, h => by
    rw [splice_cons]
    have e : (a ++ y :: b ++ c).set a.length x = (a ++ [x]) ++ b ++ c := by simp
    rw [e]
    have := splice_mid b' (a ++ [x]) b c (by simpa using h)
    rw [List.length_append] at this
    simpa using this
theorem atL_append {h : Heap} : ∀ {xs ys : List Tree}, Tree.atL h xs → Tree.atL h ys → Tree.atL h (xs ++ ys)
  | [], ys, _, hy => hy
  | x :: xs, ys, hx, hy => ⟨hx.1, atL_append hx.2 hy⟩
theorem atL_left {h : Heap} : ∀ {xs ys : List Tree}, Tree.atL h (xs ++ ys) → Tree.atL h xs
  | [], ys, _ => trivial
  | x :: xs, ys, ha => ⟨ha.1, atL_left ha.2⟩
theorem atL_right {h : Heap} : ∀ {xs ys : List Tree}, Tree.atL h (xs ++ ys) → Tree.atL h ys
  | [], ys, ha => ha
  | x :: xs, ys, ha => atL_right (xs := xs) ha.2
theorem atL_le {h h' : Heap} (hl : h.le h') {ts : List Tree} (ht : Tree.atL h ts) : Tree.atL h' ts := atL_frame (fun b hb => by
  cases hk : h b with
  | none => exact absurd hk (atL_some ht b hb)
  | some k => rw [hl b k hk]) ht
/-- Two things made one after the other. -/
theorem Made.trans {h h1 h2 : Heap} {xs ys : List Tree} (a : Made h h1 xs) (b : Made h1 h2 ys) : Made h h2 (xs ++ ys) := by
  refine ⟨atL_append (atL_le b.le a.at_) b.at_, ?_, fun c hc => ?_, Heap.le_trans a.le b.le⟩
  · rw [blocksL_append]
    refine List.nodup_append.2 ⟨a.nodup, b.nodup, fun c hc d hd e => ?_⟩
    subst e
    exact atL_some a.at_ c hc (b.fresh c hd)
  · rw [blocksL_append] at hc
    rcases List.mem_append.1 hc with hc | hc
    · exact a.fresh c hc
    · exact Heap.le_none a.le (b.fresh c hc)
theorem Made.base {h H h' : Heap} {ts : List Tree} (hl : h.le H) (m : Made H h' ts) : Made h h' ts := ⟨m.at_, m.nodup, fun b hb => Heap.le_none hl (m.fresh b hb), Heap.le_trans hl m.le⟩
theorem Made.put {h h' : Heap} {ts : List Tree} {b : Nat} {k : Blk} (m : Made h h' ts) (hb : h b = .none) (hn : b ∉ blocksL ts) : Made h (h'.set b k) ts :=
  ⟨atL_frame (fun c hc => Heap.set_ne _ _ (fun e => hn (e ▸ hc))) m.at_, m.nodup, m.fresh, Heap.le_set hb m.le⟩
theorem Made.not {h h' : Heap} {ts : List Tree} {b : Nat} {k : Blk} (m : Made h h' ts) (hb : h b = some k) : b ∉ blocksL ts := fun hm => by rw [m.fresh b hm] at hb; cases hb
theorem Made.leaf {h h' : Heap} {ts : List Tree} {v : Value} (m : Made h h' ts) : Made h h' (.leaf v :: ts) := ⟨⟨trivial, m.at_⟩, m.nodup, m.fresh, m.le⟩
theorem Made.tail {h h' : Heap} {ts : List Tree} {v : Value} (m : Made h h' (.leaf v :: ts)) : Made h h' ts := ⟨m.at_.2, m.nodup, m.fresh, m.le⟩
theorem minus_at {h h' : Heap} {ts : List Tree} (m : Made h h' ts) : Tree.atL (h'.minus h) ts := atL_frame (fun b hb => by simp [Heap.minus, m.fresh b hb]) m.at_
/-- What was made, laid down for good. -/
theorem Made.vw {h h' : Heap} {ts : List Tree} (m : Made h h' ts) : ∀ (i : Nat) (x y : AV), (ts.map tA)[i]? = some x → (ts.map tV)[i]? = some y → Vw (h'.minus h) x y := fun i x y hx hy => by
  rw [List.getElem?_map] at hx hy
  cases ht : ts[i]? with
  | none => simp [ht] at hx
  | some t =>
    simp [ht] at hx hy; subst hx; subst hy
    exact atL_vw (minus_at m) i t ht
theorem Made.vw1 {h h' : Heap} {t : Tree} (m : Made h h' [t]) : Vw (h'.minus h) (tA t) (tV t) := m.vw 0 _ _ rfl rfl
theorem Made.vwA {h h' : Heap} {ts : List Tree} (m : Made h h' ts) : Vw (h'.minus h) (.agg (ts.map tA)) (.agg (ts.map tV)) := .agg _ _ (by simp) m.vw
/-- Of what was made only a part is kept. -/
theorem Made.row {h h' : Heap} {b : Nat} {ty : TypeId} {n sz : Nat} {cells : List Tree} (hb : h b = .none) (hb' : h' b = some (.row ty (cells.map tA))) (hl : cells.length = n * sz) (m : Made (h.set b (.row ty (cells.map tA))) h' cells) : Made h h' [.row b ty n sz cells] := by
  refine ⟨⟨⟨hb', hl, m.at_⟩, trivial⟩, ?_, fun c hc => ?_, fun i k hk => m.le i k (by rw [Heap.set_ne _ _ (fun e => by rw [e, hb] at hk; cases hk)]; exact hk)⟩
  · simp only [blocksL, blocks, List.append_nil]
    exact List.nodup_cons.2 ⟨fun hm => (by have := m.fresh b hm; rw [Heap.set_same] at this; cases this), m.nodup⟩
  · simp only [blocksL, blocks, List.append_nil, List.mem_cons] at hc
    rcases hc with rfl | hc
    · exact hb
    · exact (Heap.set_none.1 (m.fresh c hc)).2

def toSliceL (sz : Nat) (ag : Bool) (f : FuncId) : IC :=
  .seq (.seq (.reg [⟨some 8, .mv (.t 4), none⟩,
    ⟨some 9, .mv (.t 0), none⟩,
    ⟨some 10, .len (.t 9) false, none⟩,
    ⟨some 11, .bin .lss (.t 8) (.t 10), none⟩]) <|
  .cond (.t 11) (.skip) (.exit 0)) <|
  .seq (.block 1 (.reg [⟨some 14, .mv (.t 3), none⟩,
      ⟨some 15, .mv (.t 4), none⟩,
      ⟨some 16, .mv (.t 0), none⟩,
      ⟨some 17, .mv (.t 4), none⟩,
      ⟨some 18, .iadr sz (.t 16) (.t 17), none⟩,
      ⟨some 19, .load sz ag (.t 18), none⟩,
      ⟨some 20, .call f [(.t 19)], none⟩,
      ⟨some 21, .iadr sz (.t 14) (.t 15), none⟩,
      ⟨none, .store sz (.t 21) (.t 20), none⟩])) <|
  .reg [⟨some 12, .mv (.t 4), none⟩,
    ⟨some 13, .bin .add (.t 12) (.c (.int .i64 1)), none⟩,
    ⟨some 4, .mv (.t 13), none⟩]
def toSliceG (ty : TypeId) (sz : Nat) (zero : List Value) (ag : Bool) (f : FuncId) : Fun := ⟨23, [(2, none)],
  .seq (.reg [⟨some 2, .mv (.c (.slice none 0 0)), none⟩]) <|
  .seq (.reg [⟨some 5, .mv (.t 0), none⟩,
    ⟨some 6, .len (.t 5) false, none⟩,
    ⟨some 7, .mks ty sz zero (.t 6) (.t 6), none⟩,
    ⟨some 3, .mv (.t 7), none⟩]) <|
  .seq (.seq (.reg [⟨some 4, .mv (.c (.int .i64 0)), none⟩]) <|
  .block 0 (.loop (toSliceL sz ag f))) <|
  .seq (.reg [⟨some 22, .mv (.t 3), none⟩,
    ⟨some 2, .mv (.t 22), none⟩]) <|
  .ret⟩
/-- Each element's cells: what E says of it. -/
structure Parts {α : Type} (E : α → List Tree → Prop) (l : List α) (parts : List (List Tree)) : Prop where
  len : parts.length = l.length
  each : ∀ (i : Nat) (a : α) (ts : List Tree), l[i]? = some a → parts[i]? = some ts → E a ts
theorem Parts.nil {α : Type} {E : α → List Tree → Prop} : Parts E [] [] := ⟨rfl, fun i a ts h => by simp at h⟩
theorem Parts.snoc {α : Type} {E : α → List Tree → Prop} {l : List α} {parts : List (List Tree)} (p : Parts E l parts) {a : α} {ts : List Tree} (h : E a ts) : Parts E (l ++ [a]) (parts ++ [ts]) := by
  refine ⟨by simp [p.len], fun i x us hx hu => ?_⟩
  by_cases hi : i < l.length
  · rw [List.getElem?_append_left hi] at hx
    rw [List.getElem?_append_left (by rw [p.len]; exact hi)] at hu
    exact p.each i x us hx hu
  · rw [List.getElem?_append_right (by omega)] at hx
    rw [List.getElem?_append_right (by rw [p.len]; omega), p.len] at hu
    have h0 : i - l.length = 0 := by have := (List.getElem?_eq_some_iff.1 hx).1; simpa using this
    rw [h0] at hx hu
    simp at hx hu; subst hx; subst hu; exact h
theorem parts_len {parts : List (List Tree)} {sz : Nat} (h : ∀ ts ∈ parts, ts.length = sz) : parts.flatten.length = parts.length * sz := by
  induction parts with
  | nil => simp
  | cons t parts ih => simp [List.flatten_cons, ih (fun ts hts => h ts (by simp [hts])), h t (by simp), Nat.succ_mul]; omega
theorem Parts.flat_len {α : Type} {E : α → List Tree → Prop} {l : List α} {parts : List (List Tree)} {sz : Nat} (p : Parts E l parts) (hE : ∀ a ∈ l, ∀ ts, E a ts → ts.length = sz) : parts.flatten.length = l.length * sz := by
  rw [← p.len]
  refine parts_len fun ts hts => ?_
  obtain ⟨i, hi⟩ := List.getElem?_of_mem hts
  have hil := (List.getElem?_eq_some_iff.1 hi).1
  have hl : l[i]? = some (l[i]'(by rw [← p.len]; exact hil)) := by simp [← p.len, hil]
  exact hE _ (List.mem_of_getElem? hl) ts (p.each i _ ts hl hi)

theorem toSlice_c {α : Type} {ty : TypeId} {sz : Nat} {zero : List Value} {ag : Bool} {f id : FuncId} {el : α → List AV} {val : α → AV} {E : α → List Tree → Prop} {rv : List Tree → AV} {zs : List Tree} (hm : P.follows .mixedOrders = true) (htr : trFun P id = some (toSliceG ty sz zero ag f)) (hel : ∀ a, (el a).length = sz) (hval : ∀ a, loadC sz ag (el a) 0 = val a)
    (hE : ∀ a ts, E a ts → ts.length = sz ∧ cellsOf? (rv ts) = some (ts.map tA)) (hzs : zs.map tA = zero.map .val) (hzl : zs.length = sz) (hzb : ∀ z ∈ zs, blocks z = [] ∧ ∀ h, z.at h)
    {l : List α} {h : Heap} {Q : AV → Heap → Prop} (hf : ∀ x ∈ l, ∀ {h : Heap} {Q : AV → Heap → Prop}, (∀ ts h', E x ts → Made h h' ts → Q (rv ts) h') → CALL P f [val x] h Q)
    (hleaf : ∀ a ts, E a ts → (ts.map tA).all oneC = true)
    (hl : l.length ≤ 4294967296) (hQ : ∀ b parts h', Parts E l parts → Made h h' [.row b ty l.length sz parts.flatten] → Q (.own b l.length) h') : CALL P id [.imm false (l.map el)] h Q := by
  refine CALL_by hm htr (Nat.le_of_ble_eq_true rfl) ?_
  simp (disch := omega) only [S, SL, Need_of, wrap_in, getD_map, getD_lt, Heap.set_ne, wrap_tdiv, tmod_nn, tdiv_nn, ↓reduceIte, eq_self, Nat.reduceEqDiff, Nat.reduceAdd, Nat.reduceSub, Nat.reduceMul, Nat.reduceLeDiff, Int.reduceNeg, Int.reduceToNat, Int.reduceLE, Int.reduceLT, Int.reduceEq, toSliceG]
  refine rowK.in fun b hb => ?_
  simp (disch := omega) only [S, SL, Need_of, wrap_in, getD_map, getD_lt, Heap.set_ne, wrap_tdiv, tmod_nn, tdiv_nn, ↓reduceIte, eq_self, Nat.reduceEqDiff, Nat.reduceAdd, Nat.reduceSub, Nat.reduceMul, Nat.reduceLeDiff, Int.reduceNeg, Int.reduceToNat, Int.reduceLE, Int.reduceLT, Int.reduceEq]
  have z0 : (List.replicate l.length (zero.map AV.val)).flatten = (List.replicate l.length zs).flatten.map tA := by
    rw [List.map_flatten, List.map_replicate, hzs]
  refine CK_loop (α := Nat × Heap × List (List Tree)) (fun x => [(0, .imm false (l.map el)), (3, .own b l.length), (4, .val (.int .i64 x.1))]) (fun x => x.2.1)
    (fun x => x.1 ≤ l.length ∧ Parts E (l.take x.1) x.2.2 ∧ Made h x.2.1 [.row b ty l.length sz (x.2.2.flatten ++ (List.replicate (l.length - x.1) zs).flatten)]) (fun x => l.length - x.1) (0, h.set b (.row ty ((List.replicate l.length zs).flatten.map tA)), []) ?_ (by rw [z0]; exact Heap.le_refl _) ⟨Nat.zero_le _, Parts.nil, ?_⟩ ?_
  · simp only [S, SL, ↓reduceIte, eq_self, Nat.reduceEqDiff, Nat.reduceAdd, Nat.reduceSub, Nat.reduceMul, Nat.reduceLeDiff, Int.reduceNeg, Int.reduceToNat, Int.reduceLE, Int.reduceLT, Int.reduceEq]
  · have zb : blocksL (List.replicate l.length zs).flatten = [] := blocksL_flat_nil fun z hz => by
      obtain ⟨ys, hy, hz⟩ := List.mem_flatten.1 hz
      rw [List.eq_of_mem_replicate hy] at hz; exact (hzb z hz).1
    refine Made.row hb (by simp only [List.flatten_nil, List.nil_append, Nat.sub_zero]; exact Heap.set_same _ _ _) (by simp [hzl]) ⟨?_, by simp [zb], fun c hc => by simp [zb] at hc, Heap.le_refl _⟩
    refine atL_mk fun i hi => ?_
    have hmem := List.getElem_mem hi
    simp only [List.flatten_nil, List.nil_append, Nat.sub_zero] at hmem
    obtain ⟨ys, hy, hz⟩ := List.mem_flatten.1 hmem
    rw [List.eq_of_mem_replicate hy] at hz
    exact (hzb _ hz).2 _
  · rintro R ⟨i, h', parts⟩ ⟨hi, hp, made⟩ next
    simp only at hi hp made
    have hat := made.at_.1
    have hb' := hat.1
    simp (disch := omega) only [S, SL, Need_of, wrap_in, getD_map, getD_lt, Heap.set_ne, wrap_tdiv, tmod_nn, tdiv_nn, ↓reduceIte, eq_self, Nat.reduceEqDiff, Nat.reduceAdd, Nat.reduceSub, Nat.reduceMul, Nat.reduceLeDiff, Int.reduceNeg, Int.reduceToNat, Int.reduceLE, Int.reduceLT, Int.reduceEq, toSliceL]
    refine condK_if (fun h2 => ?_) (fun h2 => ?_)
    · have ha : i < l.length := by omega
      simp (disch := omega) only [S, SL, Need_of, wrap_in, getD_map, getD_lt, Heap.set_ne, wrap_tdiv, tmod_nn, tdiv_nn, ↓reduceIte, eq_self, Nat.reduceEqDiff, Nat.reduceAdd, Nat.reduceSub, Nat.reduceMul, Nat.reduceLeDiff, Int.reduceNeg, Int.reduceToNat, Int.reduceLE, Int.reduceLT, Int.reduceEq, hel, hval]
      refine callK.in (hf l[i] (List.getElem_mem ha) fun ts h'' hts m => ?_)
      obtain ⟨e1, e2⟩ := hE _ _ hts
      have hb'' : h'' b = some (.row ty ((parts.flatten ++ (List.replicate (l.length - i) zs).flatten).map tA)) := m.le b _ hb'
      have hpl : parts.flatten.length = i * sz := by
        have := hp.flat_len (sz := sz) (fun a _ ts h => (hE a ts h).1)
        rw [this, List.length_take]; congr 1; omega
      have hrep : (List.replicate (l.length - i) zs).flatten = zs ++ (List.replicate (l.length - (i + 1)) zs).flatten := by
        rw [show l.length - i = (l.length - (i + 1)) + 1 by omega, List.replicate_succ, List.flatten_cons]
      have hsp : splice ((parts.flatten ++ (List.replicate (l.length - i) zs).flatten).map tA) (i * sz) (ts.map tA) = ((parts ++ [ts]).flatten ++ (List.replicate (l.length - (i + 1)) zs).flatten).map tA := by
        rw [hrep, ← List.append_assoc, List.map_append, List.map_append]
        rw [show i * sz = (parts.flatten.map tA).length by rw [List.length_map, hpl]]
        rw [splice_mid _ _ _ _ (by simp [e1, hzl])]
        simp
      have hlen : i * sz + sz ≤ (parts.flatten ++ (List.replicate (l.length - i) zs).flatten).length := by
        rw [hrep, List.length_append, List.length_append, hpl, hzl]; omega
      have hall := hleaf _ _ hts
      simp (disch := omega) only [S, SL, Need_of, wrap_in, getD_map, getD_lt, Heap.set_ne, wrap_tdiv, tmod_nn, tdiv_nn, ↓reduceIte, eq_self, Nat.reduceEqDiff, Nat.reduceAdd, Nat.reduceSub, Nat.reduceMul, Nat.reduceLeDiff, Int.reduceNeg, Int.reduceToNat, Int.reduceLE, Int.reduceLT, Int.reduceEq, e2, hb'', hsp, e1, hall, Need_of, hlen]
      refine next (i + 1, h''.set b (.row ty (((parts ++ [ts]).flatten ++ (List.replicate (l.length - (i + 1)) zs).flatten).map tA)), parts ++ [ts]) _ _ ⟨by simp only; omega, ?_, ?_⟩ (by simp only; omega) (by simp only [S, SL, ↓reduceIte, eq_self, Nat.reduceEqDiff, Nat.reduceAdd, Nat.reduceSub, Nat.reduceMul, Nat.reduceLeDiff, Int.reduceNeg, Int.reduceToNat, Int.reduceLE, Int.reduceLT, Int.reduceEq]) (Heap.le_refl _)
      · simp only
        rw [List.take_succ_eq_append_getElem ha]
        exact hp.snoc hts
      · simp only
        have hbp : ∀ c ∈ blocksL parts.flatten, c ≠ b := fun c hc e => by
          have := made.nodup
          simp only [blocksL, blocks, List.append_nil, blocksL_append] at this
          exact (List.nodup_cons.1 this).1 (by rw [← e]; exact List.mem_append.2 (.inl hc))
        have hbt : ∀ c ∈ blocksL ts, c ≠ b := fun c hc e => by
          have := m.fresh c hc
          rw [e, hb'] at this; cases this
        have zb : blocksL (List.replicate (l.length - (i + 1)) zs).flatten = [] := blocksL_flat_nil fun z hz => by
          obtain ⟨ys, hy, hz⟩ := List.mem_flatten.1 hz
          rw [List.eq_of_mem_replicate hy] at hz; exact (hzb z hz).1
        have ap : Tree.atL h' parts.flatten := atL_left hat.2.2
        have bl : blocksL ((parts ++ [ts]).flatten ++ (List.replicate (l.length - (i + 1)) zs).flatten) = blocksL parts.flatten ++ blocksL ts := by
          simp [blocksL_append, zb]
        refine ⟨⟨⟨Heap.set_same _ _ _, ?_, ?_⟩, trivial⟩, ?_, fun c hc => ?_, ?_⟩
        · simp [hpl, e1, hzl]
          generalize hm : l.length - (i + 1) = m
          rw [show l.length = i + 1 + m by omega, Nat.add_mul, Nat.add_mul]
          simp [Nat.add_assoc]
        · refine atL_append ?_ (atL_mk fun j hj => ?_)
          · simp only [List.flatten_append, List.flatten_cons, List.flatten_nil, List.append_nil]
            refine atL_append ?_ ?_
            · exact atL_frame (fun c hc => Heap.set_ne _ _ (hbp c hc)) (atL_le m.le ap)
            · exact atL_frame (fun c hc => Heap.set_ne _ _ (hbt c hc)) m.at_
          · have hmem := List.getElem_mem hj
            obtain ⟨ys, hy, hz⟩ := List.mem_flatten.1 hmem
            rw [List.eq_of_mem_replicate hy] at hz
            exact (hzb _ hz).2 _
        · simp only [blocksL, blocks, List.append_nil]
          rw [bl]
          have hn := made.nodup
          simp only [blocksL, blocks, List.append_nil, blocksL_append] at hn
          obtain ⟨n1, n2⟩ := List.nodup_cons.1 hn
          refine List.nodup_cons.2 ⟨fun hc => ?_, List.nodup_append.2 ⟨(List.nodup_append.1 n2).1, m.nodup, fun c hc d hd e => ?_⟩⟩
          · rcases List.mem_append.1 hc with hc | hc
            · exact hbp b hc rfl
            · exact hbt b hc rfl
          · subst e
            exact atL_some ap c hc (m.fresh c hd)
        · simp only [blocksL, blocks, List.append_nil, List.mem_cons] at hc
          rw [bl] at hc
          rcases hc with rfl | hc
          · exact hb
          · rcases List.mem_append.1 hc with hc | hc
            · exact made.fresh c (by simp [blocksL, blocks, blocksL_append, hc])
            · exact Heap.le_none made.le (m.fresh c hc)
        · exact Heap.le_set hb (Heap.le_trans made.le m.le)
    · simp (disch := omega) only [S, SL, Need_of, wrap_in, getD_map, getD_lt, Heap.set_ne, wrap_tdiv, tmod_nn, tdiv_nn, ↓reduceIte, eq_self, Nat.reduceEqDiff, Nat.reduceAdd, Nat.reduceSub, Nat.reduceMul, Nat.reduceLeDiff, Int.reduceNeg, Int.reduceToNat, Int.reduceLE, Int.reduceLT, Int.reduceEq]
      obtain rfl : i = l.length := by omega
      rw [Nat.sub_self, List.replicate_zero, List.flatten_nil, List.append_nil] at made
      rw [List.take_length] at hp
      exact fin.same (hQ b parts h' hp made)

def toLeafL : IC :=
  .seq (.seq (.reg [⟨some 8, .mv (.t 4), none⟩,
    ⟨some 9, .mv (.t 0), none⟩,
    ⟨some 10, .len (.t 9) false, none⟩,
    ⟨some 11, .bin .lss (.t 8) (.t 10), none⟩]) <|
  .cond (.t 11) (.skip) (.exit 0)) <|
  .seq (.block 1 (.reg [⟨some 14, .mv (.t 3), none⟩,
      ⟨some 15, .mv (.t 4), none⟩,
      ⟨some 16, .mv (.t 0), none⟩,
      ⟨some 17, .mv (.t 4), none⟩,
      ⟨some 18, .iadr 1 (.t 16) (.t 17), none⟩,
      ⟨some 19, .load 1 false (.t 18), none⟩,
      ⟨some 20, .iadr 1 (.t 14) (.t 15), none⟩,
      ⟨none, .store 1 (.t 20) (.t 19), none⟩])) <|
  .reg [⟨some 12, .mv (.t 4), none⟩,
    ⟨some 13, .bin .add (.t 12) (.c (.int .i64 1)), none⟩,
    ⟨some 4, .mv (.t 13), none⟩]
def toLeafG (ty : TypeId) (zero : Value) : Fun := ⟨22, [(2, none)],
  .seq (.reg [⟨some 2, .mv (.c (.slice none 0 0)), none⟩]) <|
  .seq (.reg [⟨some 5, .mv (.t 0), none⟩,
    ⟨some 6, .len (.t 5) false, none⟩,
    ⟨some 7, .mks ty 1 [zero] (.t 6) (.t 6), none⟩,
    ⟨some 3, .mv (.t 7), none⟩]) <|
  .seq (.seq (.reg [⟨some 4, .mv (.c (.int .i64 0)), none⟩]) <|
  .block 0 (.loop toLeafL)) <|
  .seq (.reg [⟨some 21, .mv (.t 3), none⟩,
    ⟨some 2, .mv (.t 21), none⟩]) <|
  .ret⟩
theorem toLeaf_c {α : Type} {ty : TypeId} {zero : Value} {id : FuncId} {el : α → Value} (hm : P.follows .mixedOrders = true) (htr : trFun P id = some (toLeafG ty zero)) (hone : ∀ a, (el a).oneCell' = true) (hcell : ∀ a, cellsOf? (.val (el a)) = some [.val (el a)])
    {l : List α} {h : Heap} {Q : AV → Heap → Prop} (hl : l.length ≤ 4294967296) (hQ : ∀ b, h b = none → Q (.own b l.length) (h.set b (.row ty (l.map fun a => .val (el a))))) : CALL P id [.imm false (l.map fun a => [.val (el a)])] h Q := by
  refine CALL_by hm htr (Nat.le_of_ble_eq_true rfl) ?_
  simp (disch := omega) only [S, SL, Need_of, wrap_in, getD_map, getD_lt, Heap.set_ne, wrap_tdiv, tmod_nn, tdiv_nn, ↓reduceIte, eq_self, Nat.reduceEqDiff, Nat.reduceAdd, Nat.reduceSub, Nat.reduceMul, Nat.reduceLeDiff, Int.reduceNeg, Int.reduceToNat, Int.reduceLE, Int.reduceLT, Int.reduceEq, toLeafG]
  refine rowK.in fun b hb => ?_
  simp (disch := omega) only [S, SL, Need_of, wrap_in, getD_map, getD_lt, Heap.set_ne, wrap_tdiv, tmod_nn, tdiv_nn, ↓reduceIte, eq_self, Nat.reduceEqDiff, Nat.reduceAdd, Nat.reduceSub, Nat.reduceMul, Nat.reduceLeDiff, Int.reduceNeg, Int.reduceToNat, Int.reduceLE, Int.reduceLT, Int.reduceEq]
  have z0 : (List.replicate l.length [AV.val zero]).flatten = List.replicate l.length (AV.val zero) := by
    generalize l.length = n
    induction n with
    | zero => rfl
    | succ n ih => rw [List.replicate_succ, List.flatten_cons, ih]; rfl
  refine CK_loop (α := Nat) (fun x => [(0, .imm false (l.map fun a => [.val (el a)])), (3, .own b l.length), (4, .val (.int .i64 x))]) (fun i => h.set b (.row ty ((l.take i).map (fun a => .val (el a)) ++ List.replicate (l.length - i) (.val zero))))
    (fun i => i ≤ l.length) (fun i => l.length - i) 0 ?_ (by rw [z0]; exact Heap.le_refl _) (Nat.zero_le _) ?_
  · simp only [S, SL, ↓reduceIte, eq_self, Nat.reduceEqDiff, Nat.reduceAdd, Nat.reduceSub, Nat.reduceMul, Nat.reduceLeDiff, Int.reduceNeg, Int.reduceToNat, Int.reduceLE, Int.reduceLT, Int.reduceEq]
  · intro R i hi next
    simp (disch := omega) only [S, SL, Need_of, wrap_in, getD_map, getD_lt, Heap.set_ne, wrap_tdiv, tmod_nn, tdiv_nn, ↓reduceIte, eq_self, Nat.reduceEqDiff, Nat.reduceAdd, Nat.reduceSub, Nat.reduceMul, Nat.reduceLeDiff, Int.reduceNeg, Int.reduceToNat, Int.reduceLE, Int.reduceLT, Int.reduceEq, toLeafL]
    refine condK_if (fun h2 => ?_) (fun h2 => ?_)
    · have ha : i < l.length := by omega
      have e : ((l.take i).map (fun a => AV.val (el a)) ++ List.replicate (l.length - i) (AV.val zero)).set i (.val (el l[i])) = (l.take (i + 1)).map (fun a => AV.val (el a)) ++ List.replicate (l.length - (i + 1)) (AV.val zero) := by
        have hlt : ((l.take i).map fun a => AV.val (el a)).length = i := by rw [List.length_map, List.length_take]; omega
        rw [List.set_append_right _ _ (by omega), hlt, Nat.sub_self, show l.length - i = (l.length - (i + 1)) + 1 by omega, List.replicate_succ, List.set_cons_zero, List.take_succ_eq_append_getElem ha, List.map_append, List.append_assoc]
        rfl
      have hlen : i + 1 ≤ ((l.take i).map (fun a => AV.val (el a)) ++ List.replicate (l.length - i) (AV.val zero)).length := by simp; omega
      have ho : oneC (.val (el l[i])) = true := hone _
      simp (disch := omega) only [S, SL, Need_of, wrap_in, getD_map, getD_lt, Heap.set_ne, wrap_tdiv, tmod_nn, tdiv_nn, ↓reduceIte, eq_self, Nat.reduceEqDiff, Nat.reduceAdd, Nat.reduceSub, Nat.reduceMul, Nat.reduceLeDiff, Int.reduceNeg, Int.reduceToNat, Int.reduceLE, Int.reduceLT, Int.reduceEq, hcell, e, ho, hlen]
      exact next (i + 1) _ _ (by omega) (by omega) (by simp only [S, SL, ↓reduceIte, eq_self, Nat.reduceEqDiff, Nat.reduceAdd, Nat.reduceSub, Nat.reduceMul, Nat.reduceLeDiff, Int.reduceNeg, Int.reduceToNat, Int.reduceLE, Int.reduceLT, Int.reduceEq]) (Heap.le_refl _)
    · simp (disch := omega) only [S, SL, Need_of, wrap_in, getD_map, getD_lt, Heap.set_ne, wrap_tdiv, tmod_nn, tdiv_nn, ↓reduceIte, eq_self, Nat.reduceEqDiff, Nat.reduceAdd, Nat.reduceSub, Nat.reduceMul, Nat.reduceLeDiff, Int.reduceNeg, Int.reduceToNat, Int.reduceLE, Int.reduceLT, Int.reduceEq]
      obtain rfl : i = l.length := by omega
      have := hQ b hb
      rw [Nat.sub_self, List.replicate_zero, List.append_nil, List.take_length]
      exact fin.same this
theorem parts_get {sz : Nat} : ∀ {parts : List (List Tree)}, (∀ ts ∈ parts, ts.length = sz) → ∀ (i j : Nat) (_ : j < sz), parts.flatten[i * sz + j]? = (parts[i]?).bind (·[j]?)
  | [], _, i, j, hj => by simp
  | t :: parts, h, 0, j, hj => by
    rw [List.flatten_cons, Nat.zero_mul, Nat.zero_add, List.getElem?_append_left (by rw [h t (by simp)]; exact hj)]; simp
  | t :: parts, h, i + 1, j, hj => by
    have := parts_get (parts := parts) (fun ts hts => h ts (by simp [hts])) i j hj
    rw [List.flatten_cons, List.getElem?_append_right (by rw [h t (by simp), Nat.succ_mul]; omega), h t (by simp), show (i + 1) * sz + j - sz = i * sz + j by rw [Nat.succ_mul]; omega, this]
    simp
theorem chunk_flat {α : Type} {sz : Nat} : ∀ {l : List (List α)}, (∀ ts ∈ l, ts.length = sz) → chunk sz l.length l.flatten = l := by
  intro l h
  refine List.ext_getElem? fun i => ?_
  simp only [chunk, List.getElem?_map]
  by_cases hi : i < l.length
  · rw [List.getElem?_range hi, List.getElem?_eq_getElem hi]
    simp only [Option.map_some, Option.some.injEq]
    have key : ∀ (l : List (List α)) (i : Nat) (hi : i < l.length), (∀ ts ∈ l, ts.length = sz) → (l.flatten.drop (i * sz)).take sz = l[i] := by
      intro l
      induction l with
      | nil => intro i hi; simp at hi
      | cons t l ih =>
        intro i hi h
        have ht := h t (by simp)
        cases i with
        | zero => rw [Nat.zero_mul, List.drop_zero, List.flatten_cons, List.take_append_of_le_length (by omega), ← ht, List.take_length]; rfl
        | succ i =>
          rw [List.flatten_cons, Nat.succ_mul, List.drop_append]
          rw [List.drop_of_length_le (by omega), List.nil_append, show i * sz + sz - t.length = i * sz by omega]
          rw [ih i (by simpa using hi) fun ts hts => h ts (by simp [hts])]; rfl
    exact key l i hi h
  · rw [List.getElem?_eq_none (by simpa using hi), List.getElem?_eq_none (by omega)]; rfl
theorem tVL_flatten : ∀ (parts : List (List Tree)), tVL parts.flatten = (parts.map fun ts => ts.map tV).flatten
  | [] => rfl
  | t :: parts => by
    have := tVL_flatten parts
    rw [tVL_map] at this ⊢
    simp [List.flatten_cons] at this ⊢
theorem countL_flat : ∀ (parts : List (List Tree)), countL parts.flatten = (parts.map countL).sum
  | [] => rfl
  | t :: parts => by rw [List.flatten_cons, countL_append, countL_flat parts]; rfl
/-- A slice's tree, by what its elements show. -/
theorem Parts.view {α : Type} {E : α → List Tree → Prop} {l : List α} {parts : List (List Tree)} {sz : Nat} {f : α → List AV} (p : Parts E l parts) (hE : ∀ a ∈ l, ∀ ts, E a ts → ts.length = sz ∧ ts.map tV = f a) {b : Nat} {ty : TypeId} : tV (.row b ty l.length sz parts.flatten) = .imm false (l.map f) := by
  have e : parts.map (fun ts => ts.map tV) = l.map f := by
    refine List.ext_getElem? fun i => ?_
    rw [List.getElem?_map, List.getElem?_map]
    by_cases hi : i < l.length
    · rw [List.getElem?_eq_getElem hi, List.getElem?_eq_getElem (by rw [p.len]; exact hi)]
      simp only [Option.map_some, Option.some.injEq]
      exact (hE _ (List.getElem_mem hi) _ (p.each i _ _ (List.getElem?_eq_getElem hi) (List.getElem?_eq_getElem _))).2
    · rw [List.getElem?_eq_none (by have := p.len; omega), List.getElem?_eq_none (by omega)]; rfl
  have hlen : ∀ ts ∈ l.map f, ts.length = sz := fun ts hts => by
    obtain ⟨a, ha, rfl⟩ := List.mem_map.1 hts
    obtain ⟨i, hi⟩ := List.getElem?_of_mem ha
    have hil := (List.getElem?_eq_some_iff.1 hi).1
    have := hE a ha _ (p.each i a _ hi (List.getElem?_eq_getElem (by rw [p.len]; exact hil)))
    rw [← this.2, List.length_map]; exact this.1
  rw [tV, tVL_flatten, e]
  have := chunk_flat hlen
  rw [List.length_map] at this
  rw [this]
end Go.Ab
