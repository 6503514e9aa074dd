/- Own slices of parts and of productions. No condition. -/
import Derived.Test.YtabbipdkbdojiaaLawCfg
import Derived.Test.YtabbipdkbdojiaaAb21
namespace Go.Ab
open Go
set_option linter.unusedVariables false
set_option linter.unusedSimpArgs false
theorem symT_ok {s : Sym} : ∀ x ∈ symT s, blocks x = [] ∧ ∀ h, x.at h := flat_ok (vs := [.int .i64 s.head, .int .i64 s.low, .int .i64 s.high])
/-- An own slice of parts. -/
theorem syms_of {ty : TypeId} {l : List Sym} {t : Tree} (r : RowsT ty 3 (fun s ts => ts = symT s) l t) : IsSyms t ∧ tV t = .imm false (l.map symA) ∧ count t = 3 * l.length := by
  have hv := r.view (f := symA) fun a _ ts h => by rw [h]; exact ⟨rfl, rfl⟩
  obtain ⟨parts, s, hp⟩ := r
  have hlen : ∀ ts ∈ parts, ts.length = 3 ∧ countL ts = 3 := fun ts hts => by
    obtain ⟨i, hi⟩ := List.getElem?_of_mem hts
    have hil := (List.getElem?_eq_some_iff.1 hi).1
    have hl' : l[i]? = some (l[i]'(by rw [← hp.len]; exact hil)) := by simp [← hp.len, hil]
    have := hp.each i _ ts hl' hi
    rw [this]; exact ⟨rfl, rfl⟩
  have hsum : ∀ (ps : List (List Tree)), (∀ ts ∈ ps, ts.length = 3 ∧ countL ts = 3) → countL ps.flatten = 3 * ps.length := by
    intro ps
    induction ps with
    | nil => intro _; rfl
    | cons t ps ih => intro h; rw [List.flatten_cons, countL_append, ih fun ts hts => h ts (List.mem_cons_of_mem _ hts), (h t (List.mem_cons_self ..)).2, List.length_cons]; omega
  have hcount := hsum parts hlen
  rw [hp.len] at hcount
  generalize hn : l.length = n at s
  generalize hc : parts.flatten = cs at s
  cases s with
  | nil => exact ⟨.nil, hv, rfl⟩
  | row b n cells hl =>
    subst hn
    refine ⟨.row b _ _ _ hl (fun j => (match cs[j]? with | some (.leaf (.int _ n)) => n | _ => 0)) fun j hj => ?_, hv, by rw [hc] at hcount; simpa [count] using hcount⟩
    have hi : j / 3 < l.length := by omega
    have hj3 : j = (j / 3) * 3 + j % 3 := by omega
    have hget := parts_get (fun ts hts => (hlen ts hts).1) (j / 3) (j % 3) (by omega)
    rw [← hj3, hc] at hget
    have hpi : parts[j / 3]? = some (symT l[j / 3]) := by
      rw [List.getElem?_eq_getElem (by rw [hp.len]; exact hi)]
      exact congrArg some (hp.each (j / 3) _ _ (List.getElem?_eq_getElem hi) (List.getElem?_eq_getElem _))
    rw [hpi] at hget
    simp only [Option.bind_some] at hget
    have hm : j % 3 = 0 ∨ j % 3 = 1 ∨ j % 3 = 2 := by omega
    rcases hm with hm | hm | hm <;> rw [hm] at hget <;> rw [hget] <;> rfl
theorem prds_of {ty : TypeId} {l : List Prd} {t : Tree} (r : RowsT ty 2 EPrd l t) : IsPrds t ∧ tV t = .imm false (l.map prdA) ∧ count t = l.length + 3 * (l.map szPrd).sum := by
  have hv := r.view (f := prdA) fun a _ ts h => ⟨EPrd.len h, EPrd.view h⟩
  obtain ⟨parts, s, hp⟩ := r
  generalize hn : l.length = n at s
  generalize hc : parts.flatten = cs at s
  cases s with
  | nil => have : l = [] := List.length_eq_zero_iff.1 hn; subst this; exact ⟨.nil, hv, rfl⟩
  | row b n cells hl =>
    subst hn; subst hc
    obtain ⟨h1, h2⟩ := prds_parts hp b ty
    exact ⟨h1, hv, h2⟩
theorem vw_cfg {h : Heap} {c : Cfg} {t : Tree} (ht : t.at h) (hv : tV t = .imm false (c.prods.map prdA)) : Vw h (.agg [iA c.heads, tA t]) (cfgA c) := by
  have := at_vw ht
  rw [hv] at this
  refine .agg _ _ rfl fun i x y hx hy => ?_
  match i with
  | 0 => simp [cfgL] at hx hy; subst hx; subst hy; exact .refl _
  | 1 => simp [cfgL] at hx hy; subst hx; subst hy; exact this
  | i + 2 => simp at hx
end Go.Ab
