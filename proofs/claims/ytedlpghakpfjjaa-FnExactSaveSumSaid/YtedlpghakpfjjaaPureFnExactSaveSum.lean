/- For every row of bytes the program's SaveSum answers what the reference's SaveSum answers, and leaves the bytes as they were. Conditions: none beside the form's own. -/
import Derived.Test.YtedlpghakpfjjaaPFnExactSaveSumx1
namespace Go.Proofs.Ytedlpghakpfjjaa.Pure
open Go.RowKit Go.Proofs.Ytedlpghakpfjjaa.PFnExactSaveSum Go.Proofs.YtedlpghakpfjjaaW.PrintWords Go.Proofs.YtedlpghakpfjjaaW.PrintLast

theorem u8_bd {n : Int} (h : (Lit.int .u8 n).wf = true) : 0 ≤ n ∧ n ≤ 255 := by
  simpa [Lit.wf, IntKind.min, IntKind.max, IntKind.bits, IntKind.signed] using h

def sumS : Nat → Int → List Int → Int
  | _, n, [] => n
  | i, n, x :: t => sumS (i + 1) ((n + x * (((i % 251 : Nat) : Int) + 1)) % 65521) t

theorem step_eq (n x : Int) (i : Nat) (hn : 0 ≤ n) (hn' : n < 65521) (hx : 0 ≤ x) (hx' : x ≤ 255) (hi : i ≤ 140737488351232) :
    Int.tmod (wrap64 (n + (wrap64 ((wrap64 x) * (wrap64 ((Int.tmod (i : Int) 251) + 1)))))) 65521 = (n + x * (((i % 251 : Nat) : Int) + 1)) % 65521 := by
  have e1 : Int.tmod (i : Int) 251 = ((i % 251 : Nat) : Int) := by rw [Int.tmod_eq_emod_of_nonneg (by omega)]; omega
  rw [e1]
  have hm : ((i % 251 : Nat) : Int) < 251 := by omega
  have hm0 : 0 ≤ ((i % 251 : Nat) : Int) := by omega
  generalize ((i % 251 : Nat) : Int) = m at *
  have e2 : wrap64 (m + 1) = m + 1 := by unfold wrap64; omega
  have e3 : wrap64 x = x := by unfold wrap64; omega
  rw [e2, e3]
  have hp0 : 0 ≤ x * (m + 1) := Int.mul_nonneg hx (by omega)
  have hp1 : x * (m + 1) ≤ 255 * 251 := Int.mul_le_mul hx' (by omega) (by omega) (by omega)
  generalize x * (m + 1) = p at *
  have e4 : wrap64 p = p := by unfold wrap64; omega
  have e5 : wrap64 (n + p) = n + p := by unfold wrap64; omega
  rw [e4, e5, Int.tmod_eq_emod_of_nonneg (by omega)]

theorem step_eq' (n x : Int) (i : Nat) (hn : 0 ≤ n) (hn' : n < 65521) (hx : 0 ≤ x) (hx' : x ≤ 255) (hi : i ≤ 140737488351232) :
    Int.tmod (wrap64 (n + (wrap64 ((wrap64 ((Int.tmod (i : Int) 251) + 1)) * (wrap64 x))))) 65521 = (n + x * (((i % 251 : Nat) : Int) + 1)) % 65521 := by
  rw [Int.mul_comm (wrap64 _) (wrap64 x)]; exact step_eq n x i hn hn' hx hx' hi

theorem wr_i (i : Nat) (h : i ≤ 140737488351232) : wrap64 ((i : Int) + 1) = ((i + 1 : Nat) : Int) := by unfold wrap64; omega

theorem rd_nat (l : List Int) (i : Nat) (h : i < l.length) : rd l (i : Int) = l[i] := by
  simp [rd, h]

theorem impl_go (l : List Int) (hb : ∀ x ∈ l, 0 ≤ x ∧ x ≤ 255) (hl : l.length ≤ 140737488351232) (d : Nat) : ∀ (k i : Nat) (n : Int), 0 ≤ n → n < 65521 → i + d = l.length → d < k →
    impl_SaveSum.l0 k n l (l.length : Int) (i : Int) = some (sumS i n (l.drop i)) := by
  induction d with
  | zero =>
    intro k i n h0 h1 hd hk
    obtain ⟨k, rfl⟩ : ∃ m, k = m + 1 := ⟨k - 1, by omega⟩
    simp only [impl_SaveSum.l0]; rw [if_neg (by omega), List.drop_of_length_le (by omega)]; rfl
  | succ d ih =>
    intro k i n h0 h1 hd hk
    obtain ⟨k, rfl⟩ : ∃ m, k = m + 1 := ⟨k - 1, by omega⟩
    have hi : i < l.length := by omega
    have hx := hb l[i] (List.getElem_mem hi)
    simp only [impl_SaveSum.l0]; rw [if_pos (by omega), if_pos (by omega), if_pos (by omega), rd_nat l i hi, step_eq n l[i] i h0 h1 hx.1 hx.2 (by omega), wr_i i (by omega)]
    rw [ih k (i + 1) _ (Int.emod_nonneg _ (by omega)) (Int.emod_lt_of_pos _ (by omega)) (by omega) (by omega), List.drop_eq_getElem_cons hi]; rfl

theorem spec_go (l : List Int) (hb : ∀ x ∈ l, 0 ≤ x ∧ x ≤ 255) (hl : l.length ≤ 140737488351232) (d : Nat) : ∀ (k i : Nat) (n : Int), 0 ≤ n → n < 65521 → i + d = l.length → d < k →
    spec_SaveSum.l0 k l n (i : Int) = some (sumS i n (l.drop i)) := by
  induction d with
  | zero =>
    intro k i n h0 h1 hd hk
    obtain ⟨k, rfl⟩ : ∃ m, k = m + 1 := ⟨k - 1, by omega⟩
    simp only [spec_SaveSum.l0]; rw [if_neg (by omega), List.drop_of_length_le (by omega)]; rfl
  | succ d ih =>
    intro k i n h0 h1 hd hk
    obtain ⟨k, rfl⟩ : ∃ m, k = m + 1 := ⟨k - 1, by omega⟩
    have hi : i < l.length := by omega
    have hx := hb l[i] (List.getElem_mem hi)
    simp only [spec_SaveSum.l0]; rw [if_pos (by omega), if_pos (by omega), rd_nat l i hi, step_eq' n l[i] i h0 h1 hx.1 hx.2 (by omega), wr_i i (by omega)]
    rw [ih k (i + 1) _ (Int.emod_nonneg _ (by omega)) (Int.emod_lt_of_pos _ (by omega)) (by omega) (by omega), List.drop_eq_getElem_cons hi]; rfl

theorem set_copy (l : List Int) (i : Nat) (h : i < l.length) : (l.take i ++ List.replicate (l.length - i) 0).set i l[i] = l.take (i + 1) ++ List.replicate (l.length - (i + 1)) 0 := by
  have e : l.length - i = (l.length - (i + 1)) + 1 := by omega
  rw [e, List.replicate_succ, List.set_append_right _ _ (by simp; omega)]
  have : i - (l.take i).length = 0 := by simp; omega
  rw [this, List.set_cons_zero, List.take_succ_eq_append_getElem h, List.append_assoc]; rfl

theorem copy_go (l : List Int) (hl : l.length ≤ 140737488351232) (d : Nat) : ∀ (k i : Nat), i + d = l.length → d < k →
    laws_toByteS.l0 k l (l.take i ++ List.replicate (l.length - i) 0) (i : Int) = some l := by
  induction d with
  | zero =>
    intro k i hd hk
    obtain ⟨k, rfl⟩ : ∃ m, k = m + 1 := ⟨k - 1, by omega⟩
    simp only [laws_toByteS.l0]; rw [if_neg (by omega), List.take_of_length_le (by omega)]
    have : l.length - i = 0 := by omega
    rw [this]; simp
  | succ d ih =>
    intro k i hd hk
    obtain ⟨k, rfl⟩ : ∃ m, k = m + 1 := ⟨k - 1, by omega⟩
    have hi : i < l.length := by omega
    have hlen : (l.take i ++ List.replicate (l.length - i) (0 : Int)).length = l.length := by simp; omega
    simp only [laws_toByteS.l0]; rw [if_pos (by omega), if_pos (by omega), if_pos (by rw [hlen]; omega), rd_nat l i hi, wr_i i (by omega), Int.toNat_natCast, set_copy l i hi]
    exact ih k (i + 1) (by omega) (by omega)

theorem copy_is (l : List Int) (hl : l.length ≤ 140737488351232) : laws_toByteS.f (l.length + 1) l = some l := by
  unfold laws_toByteS.f
  rw [if_pos (by omega), if_pos (by simp; omega)]
  have := copy_go l hl l.length (l.length + 1) 0 (by omega) (by omega)
  simpa using this

theorem eq_go (l : List Int) (hl : l.length ≤ 140737488351232) (d : Nat) : ∀ (k i : Nat), i + d = l.length → d < k →
    laws_eqByteS.l0 k l l (i : Int) = some true := by
  induction d with
  | zero =>
    intro k i hd hk
    obtain ⟨k, rfl⟩ : ∃ m, k = m + 1 := ⟨k - 1, by omega⟩
    simp only [laws_eqByteS.l0]; rw [if_neg (by omega)]
  | succ d ih =>
    intro k i hd hk
    obtain ⟨k, rfl⟩ : ∃ m, k = m + 1 := ⟨k - 1, by omega⟩
    simp only [laws_eqByteS.l0]; rw [if_pos (by omega), if_pos (by omega), if_pos (by omega), if_pos trivial, wr_i i (by omega)]
    exact ih k (i + 1) (by omega) (by omega)

theorem eq_is (l : List Int) (hl : l.length ≤ 140737488351232) : laws_eqByteS.f (l.length + 1) l l = some true := by
  unfold laws_eqByteS.f
  rw [if_pos rfl]
  exact eq_go l hl l.length (l.length + 1) 0 (by omega) (by omega)

theorem impl_is (l : List Int) (hb : ∀ x ∈ l, 0 ≤ x ∧ x ≤ 255) (hl : l.length ≤ 140737488351232) : impl_SaveSum.f (l.length + 1) l = some (sumS 0 0 l) :=
  impl_go l hb hl l.length (l.length + 1) 0 0 (by omega) (by omega) (by omega) (by omega)

theorem spec_is (l : List Int) (hb : ∀ x ∈ l, 0 ≤ x ∧ x ≤ 255) (hl : l.length ≤ 140737488351232) : spec_SaveSum.f (l.length + 1) l = some (sumS 0 0 l) :=
  spec_go l hb hl l.length (l.length + 1) 0 0 (by omega) (by omega) (by omega) (by omega)

theorem FnExactSaveSum : laws_FnExactSaveSum.Pure := by
  intro l _ hl hw
  have hl' : l.length ≤ 140737488351232 := by omega
  have hb : ∀ x ∈ l, 0 ≤ x ∧ x ≤ 255 := fun x hx => u8_bd (hw x hx)
  refine ⟨l.length + 1, ?_⟩
  unfold laws_FnExactSaveSum.f
  split
  · rfl
  · simp only [copy_is l hl', spec_is l hb hl', impl_is l hb hl', eq_is l hl', Option.bind_some, if_true]

end Go.Proofs.Ytedlpghakpfjjaa.Pure
