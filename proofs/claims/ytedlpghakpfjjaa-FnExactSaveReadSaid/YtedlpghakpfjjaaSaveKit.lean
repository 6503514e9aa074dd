/- Bytes as own memory, lent and read as strings; productions seen as memory that doesn't change. Plain lemmas; no condition. -/
import Derived.Test.YtedlpghakpfjjaaSaveWrite
import Derived.Test.YtedlpghakpfjjaaLawCfg
import Derived.Test.YtedlpghakpfjjaaAb20
namespace Go.Ab
open Go
theorem Heap.none_set_or {h : Heap} {b : Nat} {k : Blk} : (Heap.none.set b k).or h = h.set b k := by
  funext i; simp only [Heap.or, Heap.set, Heap.none]; split <;> rfl
theorem solid_yA {l : List UInt8} : ∀ x ∈ l.map yA, solid x = true := fun x hx => by obtain ⟨y, -, rfl⟩ := List.mem_map.1 hx; rfl
/-- Own memory lent to a call that makes bytes. -/
theorem lend_bytes {P : Program} {f : FuncId} {args ys : List AV} {bs : List UInt8} {ty : TypeId} {h : Heap} {Q : AV → Heap → Prop} (hl : args.length = ys.length) (hv : ∀ (i : Nat) (x y : AV), args[i]? = some x → ys[i]? = some y → Vw h x y)
    (hc : ∀ {Q' : AV → Heap → Prop}, (∀ b, Heap.none b = none → Q' (.own b bs.length) (Heap.none.set b (.row ty (bs.map yA)))) → CALL P f ys Heap.none Q') (hQ : ∀ b, h b = none → Q (.own b bs.length) (h.set b (.row ty (bs.map yA)))) : CALL P f args h Q := by
  refine CALL.lend hl hv (hc (Q' := fun r h' => ∃ b, r = .own b bs.length ∧ h' = Heap.none.set b (.row ty (bs.map yA))) fun b hb => ⟨b, rfl, rfl⟩) ?_
  rintro r h' ⟨b, rfl, rfl⟩
  refine ⟨rfl, fun c k hk => ?_, fun hd => ?_⟩
  · simp only [Heap.set, Heap.none] at hk
    split at hk
    · cases hk; exact solid_yA
    · cases hk
  · rw [Heap.none_set_or]
    exact hQ b (hd b (by rw [Heap.set_same]; simp))
def bytesT (b : Nat) (ty : TypeId) (bs : List UInt8) : Tree := .row b ty bs.length 1 (bs.map fun x => .leaf (.int .u8 x.toNat))
theorem bytesT_is (b : Nat) (ty : TypeId) (bs : List UInt8) : IsBytes (bytesT b ty bs) := by
  refine .row b ty bs.length _ (by simp) (fun j => (bs.getD j 0).toNat) fun j hj => ?_
  rw [List.getElem?_map, List.getElem?_eq_getElem hj, List.getD_eq_getElem?_getD, List.getElem?_eq_getElem hj]; rfl
theorem blocksL_leaf {α : Type} (f : α → Value) (l : List α) : blocksL (l.map fun x => .leaf (f x)) = [] := blocksL_flat_nil fun z hz => by obtain ⟨x, -, rfl⟩ := List.mem_map.1 hz; rfl
theorem bytesT_at {h : Heap} {b : Nat} {ty : TypeId} {bs : List UInt8} (hb : h b = some (.row ty (bs.map yA))) : (bytesT b ty bs).at h := by
  refine ⟨by rw [hb, List.map_map]; rfl, by simp, atL_mk fun i hi => ?_⟩
  simp only [List.getElem_map]; trivial
theorem bytesT_blocks (b : Nat) (ty : TypeId) (bs : List UInt8) : blocks (bytesT b ty bs) = [b] := by
  show b :: blocksL _ = [b]; rw [blocksL_leaf]
theorem bytesT_count (b : Nat) (ty : TypeId) (bs : List UInt8) : count (bytesT b ty bs) = bs.length := by
  show countL _ = _
  induction bs with
  | nil => rfl
  | cons x bs ih => simp only [List.map_cons, countL, count, List.length_cons]; rw [ih]; omega
theorem saveW_len (c : Cfg) : (saveW c).length ≤ 400000 := by
  unfold saveW
  split
  · rename_i ok
    have := upB_len ok c.prods.length (Nat.le_refl _)
    have := ok.len
    simp [allB, twoB]; omega
  · simp
theorem vw_cfg {h : Heap} {c : Cfg} {t : Tree} (ht : t.at h) (hv : tV t = .imm false (c.prods.map prdA)) : Vw h (.agg [iA c.heads, tA t]) (cfgA c) := by
  have := at_vw ht
  rw [hv] at this
  refine .agg _ _ rfl fun i x y hx hy => ?_
  match i with
  | 0 => simp [cfgL] at hx hy; subst hx; subst hy; exact .refl _
  | 1 => simp [cfgL] at hx hy; subst hx; subst hy; exact this
  | i + 2 => simp at hx
/-! ### strings of bytes -/
def strB (bs : List UInt8) : ByteArray := ⟨bs.toArray⟩
theorem strB_inj {a b : List UInt8} : strB a = strB b ↔ a = b := ⟨fun h => by
  have := congrArg (fun s : ByteArray => s.data.toList) h
  simpa [strB] using this, fun h => by rw [h]⟩
theorem strB_size (a : List UInt8) : (strB a).size = a.length := by simp [strB, ByteArray.size]
theorem bytesA_strB (bs : List UInt8) : bytesA (strB bs) = bs.map yA := by simp [bytesA, strB]
theorem bytesA_inj {s : ByteArray} {bs : List UInt8} (h : bs.map yA = bytesA s) : s = strB bs := by
  have h2 : s.data.toList = bs := by
    have : bs.map yA = s.data.toList.map yA := h
    have inj : ∀ (l m : List UInt8), l.map yA = m.map yA → l = m := by
      intro l
      induction l with
      | nil => intro m h; cases m <;> simp at h ⊢
      | cons x l ih =>
        intro m h
        cases m with
        | nil => simp at h
        | cons y m =>
          simp only [List.map_cons, List.cons.injEq, AV.val.injEq, Value.int.injEq, true_and] at h
          rw [ih m h.2, UInt8.toNat_inj.1 (Int.ofNat_inj.1 h.1)]
    exact (inj _ _ this).symm
  rw [strB, ← h2]
theorem b2sK_bytes {P : Program} {bs : List UInt8} {e : Nat → AV} {h : Heap} {t : Tl} : b2sK P (bytesI bs) e h t = on P t e h (.val (.string (strB bs))) := by
  have hf : (bs.map fun x => [yA x]).flatten = bs.map yA := by induction bs <;> simp_all
  refine propext ⟨fun hb => ?_, fun hb => ⟨fun x hx => by obtain ⟨y, -, rfl⟩ := List.mem_map.1 hx; rfl, strB bs, by rw [bytesA_strB]; exact hf, hb⟩⟩
  obtain ⟨_, s, h1, h2⟩ := hb
  rw [hf] at h1
  rwa [bytesA_inj h1] at h2
def b2sR (P : Program) (n : Nat) (r : Option Blk) (e : Nat → AV) (h : Heap) (t : Tl) : Prop := match r with
  | some (.row _ cells) => n * 1 ≤ cells.length ∧ ∃ s : ByteArray, cells.take (n * 1) = bytesA s ∧ on P t e h (.val (.string s))
  | _ => False
theorem b2sK_own {P : Program} {b n : Nat} {e : Nat → AV} {h : Heap} {t : Tl} : b2sK P (.own b n) e h t = b2sR P n (h b) e h t := rfl
theorem b2sR_row {P : Program} {bs : List UInt8} {ty : TypeId} {e : Nat → AV} {h : Heap} {t : Tl} : b2sR P bs.length (some (.row ty (bs.map yA))) e h t = on P t e h (.val (.string (strB bs))) := by
  have ht : (bs.map yA).take (bs.length * 1) = bs.map yA := by rw [List.take_of_length_le (by simp)]
  refine propext ⟨fun hb => ?_, fun hb => ⟨by simp, strB bs, by rw [bytesA_strB, ht], hb⟩⟩
  obtain ⟨_, s, h1, h2⟩ := hb
  rw [ht] at h1
  rwa [bytesA_inj h1] at h2
theorem lenK_bytes {P : Program} {bs : List UInt8} {e : Nat → AV} {h : Heap} {t : Tl} : lenK P (bytesI bs) false e h t = on P t e h (.val (.int .i64 bs.length)) := by
  rw [bytesI, lenK_imm, List.length_map]
theorem bytes_cell {bs : List UInt8} : cellsOf? (bytesI bs) = some [bytesI bs] := rfl
theorem bytes_one {bs : List UInt8} : oneC (bytesI bs) = true := rfl
end Go.Ab
