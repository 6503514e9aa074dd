/- The sum of bytes turns if one byte is turned, for at most 251 bytes: plain law over numbers and lists. Conditions: none beside the form's own. -/
import Derived.Test.YtedlpghakpfjjaaPFnSaveSumx2
namespace Go.Proofs.Ytedlpghakpfjjaa.Pure
open Go.RowKit Go.Proofs.Ytedlpghakpfjjaa.PFnSaveSum Go.Proofs.YtedlpghakpfjjaaW.PrintWords Go.Proofs.YtedlpghakpfjjaaW.PrintLast

theorem u8_bd {n : Int} (h : (Lit.int .u8 n).wf = true) : 0 ≤ n ∧ n ≤ 255 := by
  simpa [Lit.wf, IntKind.min, IntKind.max, IntKind.bits, IntKind.signed] using h

def sumS : Nat → Int → List Int → Int
  | _, n, [] => n
  | i, n, x :: t => sumS (i + 1) ((n + x * (((i % 251 : Nat) : Int) + 1)) % 65521) t

theorem step_eq (n x : Int) (i : Nat) (hn : 0 ≤ n) (hn' : n < 65521) (hx : 0 ≤ x) (hx' : x ≤ 255) (hi : i ≤ 140737488351232) :
    Int.tmod (wrap64 (n + (wrap64 ((wrap64 x) * (wrap64 ((Int.tmod (i : Int) 251) + 1)))))) 65521 = (n + x * (((i % 251 : Nat) : Int) + 1)) % 65521 := by
  have e1 : Int.tmod (i : Int) 251 = ((i % 251 : Nat) : Int) := by rw [Int.tmod_eq_emod_of_nonneg (by omega)]; omega
  rw [e1]
  have hm : ((i % 251 : Nat) : Int) < 251 := by omega
  have hm0 : 0 ≤ ((i % 251 : Nat) : Int) := by omega
  generalize ((i % 251 : Nat) : Int) = m at *
  have e2 : wrap64 (m + 1) = m + 1 := by unfold wrap64; omega
  have e3 : wrap64 x = x := by unfold wrap64; omega
  rw [e2, e3]
  have hp0 : 0 ≤ x * (m + 1) := Int.mul_nonneg hx (by omega)
  have hp1 : x * (m + 1) ≤ 255 * 251 := Int.mul_le_mul hx' (by omega) (by omega) (by omega)
  generalize x * (m + 1) = p at *
  have e4 : wrap64 p = p := by unfold wrap64; omega
  have e5 : wrap64 (n + p) = n + p := by unfold wrap64; omega
  rw [e4, e5, Int.tmod_eq_emod_of_nonneg (by omega)]

theorem step_eq' (n x : Int) (i : Nat) (hn : 0 ≤ n) (hn' : n < 65521) (hx : 0 ≤ x) (hx' : x ≤ 255) (hi : i ≤ 140737488351232) :
    Int.tmod (wrap64 (n + (wrap64 ((wrap64 ((Int.tmod (i : Int) 251) + 1)) * (wrap64 x))))) 65521 = (n + x * (((i % 251 : Nat) : Int) + 1)) % 65521 := by
  rw [Int.mul_comm (wrap64 _) (wrap64 x)]; exact step_eq n x i hn hn' hx hx' hi

theorem wr_i (i : Nat) (h : i ≤ 140737488351232) : wrap64 ((i : Int) + 1) = ((i + 1 : Nat) : Int) := by unfold wrap64; omega

theorem rd_nat (l : List Int) (i : Nat) (h : i < l.length) : rd l (i : Int) = l[i] := by
  simp [rd, h]

theorem impl_go (l : List Int) (hb : ∀ x ∈ l, 0 ≤ x ∧ x ≤ 255) (hl : l.length ≤ 140737488351232) (d : Nat) : ∀ (k i : Nat) (n : Int), 0 ≤ n → n < 65521 → i + d = l.length → d < k →
    impl_SaveSum.l0 k n l (l.length : Int) (i : Int) = some (sumS i n (l.drop i)) := by
  induction d with
  | zero =>
    intro k i n h0 h1 hd hk
    obtain ⟨k, rfl⟩ : ∃ m, k = m + 1 := ⟨k - 1, by omega⟩
    simp only [impl_SaveSum.l0]; rw [if_neg (by omega), List.drop_of_length_le (by omega)]; rfl
  | succ d ih =>
    intro k i n h0 h1 hd hk
    obtain ⟨k, rfl⟩ : ∃ m, k = m + 1 := ⟨k - 1, by omega⟩
    have hi : i < l.length := by omega
    have hx := hb l[i] (List.getElem_mem hi)
    simp only [impl_SaveSum.l0]; rw [if_pos (by omega), if_pos (by omega), if_pos (by omega), rd_nat l i hi, step_eq n l[i] i h0 h1 hx.1 hx.2 (by omega), wr_i i (by omega)]
    rw [ih k (i + 1) _ (Int.emod_nonneg _ (by omega)) (Int.emod_lt_of_pos _ (by omega)) (by omega) (by omega), List.drop_eq_getElem_cons hi]; rfl

theorem spec_go (l : List Int) (hb : ∀ x ∈ l, 0 ≤ x ∧ x ≤ 255) (hl : l.length ≤ 140737488351232) (d : Nat) : ∀ (k i : Nat) (n : Int), 0 ≤ n → n < 65521 → i + d = l.length → d < k →
    spec_SaveSum.l0 k l n (i : Int) = some (sumS i n (l.drop i)) := by
  induction d with
  | zero =>
    intro k i n h0 h1 hd hk
    obtain ⟨k, rfl⟩ : ∃ m, k = m + 1 := ⟨k - 1, by omega⟩
    simp only [spec_SaveSum.l0]; rw [if_neg (by omega), List.drop_of_length_le (by omega)]; rfl
  | succ d ih =>
    intro k i n h0 h1 hd hk
    obtain ⟨k, rfl⟩ : ∃ m, k = m + 1 := ⟨k - 1, by omega⟩
    have hi : i < l.length := by omega
    have hx := hb l[i] (List.getElem_mem hi)
    simp only [spec_SaveSum.l0]; rw [if_pos (by omega), if_pos (by omega), rd_nat l i hi, step_eq' n l[i] i h0 h1 hx.1 hx.2 (by omega), wr_i i (by omega)]
    rw [ih k (i + 1) _ (Int.emod_nonneg _ (by omega)) (Int.emod_lt_of_pos _ (by omega)) (by omega) (by omega), List.drop_eq_getElem_cons hi]; rfl

theorem impl_is (l : List Int) (hb : ∀ x ∈ l, 0 ≤ x ∧ x ≤ 255) (hl : l.length ≤ 140737488351232) : impl_SaveSum.f (l.length + 1) l = some (sumS 0 0 l) :=
  impl_go l hb hl l.length (l.length + 1) 0 0 (by omega) (by omega) (by omega) (by omega)

theorem spec_is (l : List Int) (hb : ∀ x ∈ l, 0 ≤ x ∧ x ≤ 255) (hl : l.length ≤ 140737488351232) : spec_SaveSum.f (l.length + 1) l = some (sumS 0 0 l) :=
  spec_go l hb hl l.length (l.length + 1) 0 0 (by omega) (by omega) (by omega) (by omega)


/-! the sum, turned at one place -/
def wsum : Nat → List Int → Int
  | _, [] => 0
  | i, x :: t => x * (((i % 251 : Nat) : Int) + 1) + wsum (i + 1) t

theorem sumS_eq (l : List Int) : ∀ (i : Nat) (n : Int), 0 ≤ n → n < 65521 → sumS i n l = (n + wsum i l) % 65521 := by
  induction l with
  | nil => intro i n h0 h1; simp only [sumS, wsum]; omega
  | cons x t ih =>
    intro i n h0 h1
    simp only [sumS, wsum]
    rw [ih (i + 1) _ (Int.emod_nonneg _ (by omega)) (Int.emod_lt_of_pos _ (by omega))]
    omega

theorem wsum_set (l : List Int) : ∀ (i j : Nat) (y : Int) (h : j < l.length), wsum i (l.set j y) = wsum i l + (y - l[j]) * ((((i + j) % 251 : Nat) : Int) + 1) := by
  induction l with
  | nil => intro i j y h; simp at h
  | cons x t ih =>
    intro i j y h
    cases j with
    | zero => simp only [List.set_cons_zero, wsum, List.getElem_cons_zero, Nat.add_zero, Int.sub_mul]; omega
    | succ j =>
      have hj : j < t.length := by simpa using h
      simp only [List.set_cons_succ, wsum, List.getElem_cons_succ]
      rw [ih (i + 1) j y hj, show i + 1 + j = i + (j + 1) from by omega]; omega

theorem turned_ne (l : List Int) (hb : ∀ x ∈ l, 0 ≤ x ∧ x ≤ 255) (j : Nat) (y : Int) (h : j < l.length) (h251 : j < 251) (hy0 : 0 ≤ y) (hy1 : y ≤ 255) (hne : y ≠ l[j]) : sumS 0 0 (l.set j y) ≠ sumS 0 0 l := by
  rw [sumS_eq _ _ _ (by omega) (by omega), sumS_eq _ _ _ (by omega) (by omega), wsum_set l 0 j y h]
  have hx := hb l[j] (List.getElem_mem h)
  generalize l[j] = x at *
  have e : (((0 + j) % 251 : Nat) : Int) = j := by omega
  rw [e]
  generalize wsum 0 l = s
  rcases Int.lt_or_gt_of_ne hne with hl | hg
  · have p1 : 1 * 1 ≤ (x - y) * ((j : Int) + 1) := Int.mul_le_mul (by omega) (by omega) (by omega) (by omega)
    have p2 : (x - y) * ((j : Int) + 1) ≤ 255 * 251 := Int.mul_le_mul (by omega) (by omega) (by omega) (by omega)
    have p3 : (y - x) * ((j : Int) + 1) = - ((x - y) * ((j : Int) + 1)) := by rw [← Int.neg_mul]; congr 1; omega
    rw [p3]; generalize (x - y) * ((j : Int) + 1) = p at *
    omega
  · have p1 : 1 * 1 ≤ (y - x) * ((j : Int) + 1) := Int.mul_le_mul (by omega) (by omega) (by omega) (by omega)
    have p2 : (y - x) * ((j : Int) + 1) ≤ 255 * 251 := Int.mul_le_mul (by omega) (by omega) (by omega) (by omega)
    generalize (y - x) * ((j : Int) + 1) = p at *
    omega

/-! the drawing -/
def okR (b : List Int) : Prop := b.length ≤ 2000 ∧ ∀ x ∈ b, 0 ≤ x ∧ x ≤ 255

theorem open_is (l : List Int) (hb : ∀ x ∈ l, 0 ≤ x ∧ x ≤ 255) : ∃ b, spec_l6Open.f l = some (b, 0) ∧ okR b := by
  unfold spec_l6Open.f
  split
  · rw [if_pos (by omega)]
    exact ⟨_, rfl, by simp; omega, fun x hx => hb x (List.mem_of_mem_take hx)⟩
  · exact ⟨_, rfl, by omega, hb⟩

theorem bits_range (a b : Int) : -9223372036854775808 ≤ Go.bits .xor .i64 a b ∧ Go.bits .xor .i64 a b ≤ 9223372036854775807 := by
  unfold Go.bits; simp only [IntKind.wrap]; simp [IntKind.bits, IntKind.signed]; omega

theorem tmod_lt (a n : Int) (hn : 1 ≤ n) : Int.tmod a n < n := by
  have := Int.tmod_lt_of_pos a (show 0 < n by omega); exact this

theorem pick_is (b : List Int) (_hb : okR b) (p n : Int) (hp : 0 ≤ p) (hp' : p ≤ 1000000000) (hn : 1 ≤ n) (k : Nat) (hk : 1 ≤ k) :
    ∃ r, spec_l6Rd_pick.f k b p n = some (r, p + 1) ∧ r < n := by
  obtain ⟨k, rfl⟩ : ∃ m, k = m + 1 := ⟨k - 1, by omega⟩
  unfold spec_l6Rd_pick.f
  rw [if_neg (by omega)]
  have e1 : wrap64 (p + 1) = p + 1 := by unfold wrap64; omega
  have e2 : wrap64 (p + 1 - 1) = p := by unfold wrap64; omega
  have e3 : wrap64 (p * 7) = p * 7 := by unfold wrap64; omega
  have e4 : wrap64 (p * 7 + 3) = p * 7 + 3 := by unfold wrap64; omega
  simp only [spec_l6Rd_pick.j0, e1, e2, e3, e4]
  by_cases h0 : b.length = 0
  · rw [if_pos (by simp [h0])]; exact ⟨0, rfl, by omega⟩
  · rw [if_neg (by simp; intro hc; apply h0; rw [hc]; rfl)]
    by_cases h1 : p < (b.length : Int)
    · rw [if_pos h1, if_pos hp, if_neg (by omega)]
      exact ⟨_, rfl, tmod_lt _ _ hn⟩
    · have hL : (0 : Int) < b.length := by omega
      have q1 : 0 ≤ Int.tmod p b.length := Int.tmod_nonneg _ hp
      have q2 : Int.tmod p b.length < b.length := Int.tmod_lt_of_pos _ hL
      have q3 : 0 ≤ Int.tmod (p * 7 + 3) b.length := Int.tmod_nonneg _ (by omega)
      have q4 : Int.tmod (p * 7 + 3) b.length < b.length := Int.tmod_lt_of_pos _ hL
      rw [if_neg h1, if_neg (by omega), if_pos q1, if_pos q2, if_pos q3, if_pos q4, if_neg (by omega)]
      exact ⟨_, rfl, tmod_lt _ _ hn⟩

theorem draw_go (b : List Int) (hb : okR b) (d : Nat) : ∀ (k : Nat) (l : List Int) (n p : Int), n ≤ d → 0 ≤ p → p + d ≤ 1000000 → l.length + d ≤ 1000 → (∀ x ∈ l, 0 ≤ x ∧ x ≤ 255) → d < k →
    -9223372036854775808 < n → ∃ r, spec_DrawSaveSum.l0 k l n b p = some r ∧ r.length ≤ l.length + d ∧ ∀ x ∈ r, 0 ≤ x ∧ x ≤ 255 := by
  induction d with
  | zero =>
    intro k l n p hn hp hp' hl hx hk hm
    obtain ⟨k, rfl⟩ : ∃ m, k = m + 1 := ⟨k - 1, by omega⟩
    simp only [spec_DrawSaveSum.l0]; rw [if_neg (by omega)]; exact ⟨l, rfl, by omega, hx⟩
  | succ d ih =>
    intro k l n p hn hp hp' hl hx hk hm
    obtain ⟨k, rfl⟩ : ∃ m, k = m + 1 := ⟨k - 1, by omega⟩
    simp only [spec_DrawSaveSum.l0]
    by_cases h : n > 0
    · obtain ⟨r, hr, _⟩ := pick_is b hb p 256 hp (by omega) (by omega) k (by omega)
      rw [if_pos h, hr]; simp only [Option.bind_some]
      have e1 : wrap64 (n - 1) = n - 1 := by unfold wrap64; omega
      rw [if_pos (by omega), e1]
      obtain ⟨r', h1, h2, h3⟩ := ih k (l ++ [r % 256]) (n - 1) (p + 1) (by omega) (by omega) (by omega) (by simp; omega) (by
        intro x hx'
        rcases List.mem_append.1 hx' with h' | h'
        · exact hx x h'
        · simp at h'; omega) (by omega) (by omega)
      exact ⟨r', h1, by simp at h2; omega, h3⟩
    · rw [if_neg h]; exact ⟨l, rfl, by omega, hx⟩

theorem tmod_gt (a : Int) : -9223372036854775808 < Int.tmod a 40 := by
  have := Int.lt_tmod_of_pos a (show (0 : Int) < 40 by omega); omega

theorem draw_is (l : List Int) (hb : ∀ x ∈ l, 0 ≤ x ∧ x ≤ 255) (k : Nat) (hk : 50 ≤ k) : ∃ r, spec_DrawSaveSum.f k l = some r ∧ r.length ≤ 40 ∧ ∀ x ∈ r, 0 ≤ x ∧ x ≤ 255 := by
  obtain ⟨b, h1, h2⟩ := open_is l hb
  unfold spec_DrawSaveSum.f
  rw [h1]; simp only [Option.bind_some]
  obtain ⟨n, h3, h4⟩ := pick_is b h2 0 40 (by omega) (by omega) (by omega) k (by omega)
  rw [h3]; simp only [Option.bind_some]
  by_cases hn : n > 0
  · obtain ⟨r, h5, h6, h7⟩ := draw_go b h2 40 k [] n 1 (by omega) (by omega) (by omega) (by simp) (by simp) (by omega) (by omega)
    exact ⟨r, h5, by simpa using h6, h7⟩
  · obtain ⟨k, rfl⟩ : ∃ m, k = m + 1 := ⟨k - 1, by omega⟩
    simp only [spec_DrawSaveSum.l0]; rw [if_neg hn]; exact ⟨[], rfl, by simp, by simp⟩

theorem FnSaveSum : laws_FnSaveSum.Pure := by
  intro l0 l1 _ hl0 hw0 _ hl1 hw1
  have hb0 : ∀ x ∈ l0, 0 ≤ x ∧ x ≤ 255 := fun x hx => u8_bd (hw0 x hx)
  refine ⟨102, ?_⟩
  unfold laws_FnSaveSum.f
  have key : ∀ bb, laws_FnSaveSum.j0 102 l0 l1 bb = some true := by
    intro bb
    simp only [laws_FnSaveSum.j0]
    split
    · rfl
    · obtain ⟨r, h1, h2, h3⟩ := draw_is l0 hb0 101 (by omega)
      have hs : ∀ l : List Int, l.length ≤ 40 → (∀ x ∈ l, 0 ≤ x ∧ x ≤ 255) → ∀ k, 50 ≤ k → impl_SaveSum.f k l = some (sumS 0 0 l) ∧ spec_SaveSum.f k l = some (sumS 0 0 l) := fun l hl hb k hk =>
        ⟨impl_go l hb (by omega) l.length k 0 0 (by omega) (by omega) (by omega) (by omega), spec_go l hb (by omega) l.length k 0 0 (by omega) (by omega) (by omega) (by omega)⟩
      rw [h1]; simp only [Option.bind_some, hs r h2 h3 101 (by omega), if_true]
      have key2 : ∀ c, (c = false → r.length ≠ 0) → laws_FnSaveSum.j1 101 l0 l1 r (sumS 0 0 r) c = some true := by
        intro c hc
        simp only [laws_FnSaveSum.j1]
        cases c with
        | true => simp [hs r h2 h3 100 (by omega)]
        | false =>
          have hr : r.length ≠ 0 := hc rfl
          have hrp : (0 : Int) < r.length := by omega
          have m0 : 0 ≤ (l1.length : Int) % (r.length : Int) := Int.emod_nonneg _ (by omega)
          have m1 : (l1.length : Int) % (r.length : Int) < (r.length : Int) := Int.emod_lt_of_pos _ hrp
          rw [if_neg (by simp)]
          simp only [Option.bind_some, List.nil_append, List.length_nil, Nat.zero_add]
          rw [if_pos (by omega), if_neg (by omega), if_pos m0, if_pos m1]
          generalize hat : (l1.length : Int) % (r.length : Int) = at_ at *
          obtain ⟨j, rfl⟩ : ∃ j : Nat, at_ = j := ⟨at_.toNat, by omega⟩
          have hj : j < r.length := by omega
          rw [rd_nat r j hj, Int.toNat_natCast]
          have hx := h3 r[j] (List.getElem_mem hj)
          have hset : ∀ y, 0 ≤ y → y ≤ 255 → ∀ x ∈ r.set j y, 0 ≤ x ∧ x ≤ 255 := by
            intro y a b x hx'
            rcases List.mem_or_eq_of_mem_set hx' with h' | h'
            · exact h3 x h'
            · omega
          have hy : (r[j] + (1 + (l0.length : Int) % 255)) % 256 ≠ r[j] := by omega
          generalize hyy : (r[j] + (1 + (l0.length : Int) % 255)) % 256 = y at *
          have hy0 : 0 ≤ y ∧ y ≤ 255 := by omega
          rw [(hs (r.set j y) (by simp; omega) (hset y hy0.1 hy0.2) 100 (by omega)).1]
          simp only [Option.bind_some]
          rw [if_neg (turned_ne r h3 j y hj (by omega) hy0.1 hy0.2 hy)]
          rw [sumS_eq _ _ _ (by omega) (by omega)]
          generalize wsum 0 r = s
          rw [if_pos (by omega)]; simp; omega
      split
      · exact key2 true (by simp)
      · rename_i hne
        exact key2 _ (fun _ => by omega)
  split <;> exact key _

end Go.Proofs.Ytedlpghakpfjjaa.Pure
