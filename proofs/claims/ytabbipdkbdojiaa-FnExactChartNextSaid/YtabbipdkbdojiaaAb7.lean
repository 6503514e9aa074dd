/- The abstract layer, part 7: texts of bytes, cuts and calls; and all operations together. Plain lemmas over any program; no condition. -/
import Derived.Test.YtabbipdkbdojiaaAbM
import Derived.Laws.BytesString
namespace Go.Ab
open Go Go.RowKit
set_option linter.unusedVariables false
set_option linter.unusedSimpArgs false
variable {P : Program} {F : Nat → Prop} {n : Nat} {s : St} {a : Act} {w : World} {o : Oper} {K : AV → Heap → Prop} {Q : Exit → Act → World → Prop}

theorem push_list (l : List UInt8) (c : UInt8) : (ByteArray.mk l.toArray).push c = ByteArray.mk (l ++ [c]).toArray := by
  show ByteArray.mk (l.toArray.push c) = _
  simp
theorem fold_bytes : ∀ (l acc : List UInt8), (l.map fun b => (b.toNat : Int)).foldl (fun (r : ByteArray) n => r.push (UInt8.ofNat n.toNat)) (ByteArray.mk acc.toArray) = ByteArray.mk (acc ++ l).toArray
  | [], acc => by simp
  | c :: l, acc => by
    simp only [List.map_cons, List.foldl_cons, push_list]
    rw [show UInt8.ofNat ((c.toNat : Int)).toNat = c by simp, fold_bytes l (acc ++ [c])]; simp

theorem sound_b2s {st dt e : TypeId} {x : Operand} {x' : Opd} (hop : o.op = .convert st dt x) (h0 : P.underlying st = some (.slice e)) (h1 : P.underlying dt = some .string) (h2 : isByte P e = true) (hx : trOpd x = some x') (hd : okD n o.dst = true) (hr : Rel P F n s a w)
    (hX : X P (.b2s x') s K) : o.wp P a w (Aft P F n s w o.dst K) Q := by
  have he : P.underlying e = some (.int .u8) := by unfold isByte at h2; split at h2 <;> simp_all
  have hv := V_ev hr hx
  simp only [X] at hX
  generalize hav : a.eval x = v at hv
  obtain ⟨m, cells, ad, cap, news, ⟨t, hct, hK⟩, rfl, hcl, hnl, hnil, hcells, hnv⟩ := src_real hr.heap hv (Nat.one_pos) hX
  subst hct
  have hlen : m = t.data.toList.length := by simpa [bytesA] using hcl.symm
  have hnews : news = (t.data.toList.map fun b => Value.int .u8 b.toNat) := by
    apply List.ext_getElem?
    intro j
    by_cases hj : j < t.data.toList.length
    · have hjn : j < news.length := by omega
      have := hnv j (.val (.int .u8 t.data.toList[j].toNat)) (by simp only [bytesA, List.getElem?_map, List.getElem?_eq_getElem hj, Option.map_some])
      rw [List.getD_eq_getElem?_getD, List.getElem?_eq_getElem hjn] at this
      simp only [Option.getD_some] at this
      rw [List.getElem?_eq_getElem hjn, List.getElem?_map, List.getElem?_eq_getElem hj]
      generalize news[j] = u at this
      cases this; rfl
    · rw [List.getElem?_eq_none (by omega), List.getElem?_eq_none (by simpa using hj)]
  have hstr : ByteArray.mk t.data.toList.toArray = t := by cases t; simp
  have hrun : (convert st dt (.slice ad m cap)).run P w = .ok (.string t) w := by
    rw [run_convert_bytes_string w st dt e _ _ _ h0 he h1]
    cases ad with
    | none =>
      have h0 := hnil rfl
      have : t.data.toList = [] := List.eq_nil_of_length_eq_zero (by omega)
      rw [this] at hstr
      simp [Conv.bytesToString, ← hstr]; rfl
    | some a0 =>
      have hload : (loadCells a0 m).run P w = .ok ((t.data.toList.map fun b => (b.toNat : Int)).map (Value.int .u8)).toArray w := by
        have hb := run_loadCells_list (P := P) w a0 news (hcells a0 rfl)
        rw [show news.length = m by omega, hnews] at hb
        rw [hb, List.map_map]; rfl
      rw [run_bytesToString w a0 m cap _ hload]
      have := fold_bytes t.data.toList []
      simp only [List.nil_append] at this
      rw [hstr] at this
      exact congrArg (fun z => Result.ok (Value.string z) w) this
  exact sound_val hd hr (v := .string t) (by simp [execOp, hop, hav, hrun]) (.val _) hK

theorem run_sl {t e : TypeId} {i : TypeInfo} (h0 : P.underlying t = some (.slice e)) (h1 : P.info? e = some i) (ad : Option Addr) (len cap l h : Nat) (lo hi : Option Value) (hlo : (lo = none ∧ l = 0) ∨ ∃ k, lo = some (.int k l))
    (hhi : (hi = none ∧ h = len) ∨ ∃ k, hi = some (.int k h)) (hlh : l ≤ h) (hc : h ≤ cap) :
    (Instr.sliceAt t (.slice ad len cap) lo hi none).run P w = .ok (.slice (if cap = l then ad else ad.map (·.add (l * i.size))) (h - l) (cap - l)) w := by
  have hb : ∀ (k : IntKind) (x y : Nat) (code : BoundsCode), x ≤ y → (Instr.sliceBound (.int k (x : Int)) y code).run P w = .ok x w := by
    intro k x y code hxy
    have : (x : Int) ≤ y := by omega
    simp [Instr.sliceBound, asIntOf, this]
  rcases hlo with ⟨rfl, rfl⟩ | ⟨k, rfl⟩ <;> rcases hhi with ⟨rfl, rfl⟩ | ⟨k', rfl⟩
  · simp [Instr.sliceAt, Instr.slice, run_underlying h0, Instr.sliceBounds, sizeOf, typeInfo, h1]
  · simp [Instr.sliceAt, Instr.slice, run_underlying h0, Instr.sliceBounds, sizeOf, typeInfo, h1, hb k' h cap _ hc]
  · simp [Instr.sliceAt, Instr.slice, run_underlying h0, Instr.sliceBounds, sizeOf, typeInfo, h1, hb k l h _ hlh]
  · simp [Instr.sliceAt, Instr.slice, run_underlying h0, Instr.sliceBounds, sizeOf, typeInfo, h1, hb k' h cap _ hc, hb k l h _ hlh]

theorem run_sl3 {t e : TypeId} {i : TypeInfo} (h0 : P.underlying t = some (.slice e)) (h1 : P.info? e = some i) (ad : Option Addr) (len cap l h : Nat) (lo : Option Value) (k' k'' : IntKind) (hlo : (lo = none ∧ l = 0) ∨ ∃ k, lo = some (.int k l))
    (hlh : l ≤ h) (hc : h ≤ cap) :
    (Instr.sliceAt t (.slice ad len cap) lo (some (.int k' h)) (some (.int k'' h))).run P w = .ok (.slice (if h = l then ad else ad.map (·.add (l * i.size))) (h - l) (h - l)) w := by
  have hb : ∀ (k : IntKind) (x y : Nat) (code : BoundsCode), x ≤ y → (Instr.sliceBound (.int k (x : Int)) y code).run P w = .ok x w := by
    intro k x y code hxy
    have : (x : Int) ≤ y := by omega
    simp [Instr.sliceBound, asIntOf, this]
  rcases hlo with ⟨rfl, rfl⟩ | ⟨k, rfl⟩
  · simp [Instr.sliceAt, Instr.slice, run_underlying h0, Instr.sliceBounds, sizeOf, typeInfo, h1, hb k'' h cap _ hc, hb k' h h _ (Nat.le_refl _)]
  · simp [Instr.sliceAt, Instr.slice, run_underlying h0, Instr.sliceBounds, sizeOf, typeInfo, h1, hb k'' h cap _ hc, hb k' h h _ (Nat.le_refl _), hb k l h _ hlh]

theorem opt_real (hr : Rel P F n s a w) {lo : Option Operand} {lo' : Option Opd} (h : trOptO lo = some lo') {d l : Int} (ho : optI (lo'.map s.ev) d = some l) (h0 : 0 ≤ l) : (lo.map a.eval = none ∧ lo' = none ∧ l = d) ∨ ∃ k, lo.map a.eval = some (.int k l.toNat) := by
  cases lo with
  | none => simp [trOptO] at h; subst h; simp [optI] at ho; exact .inl ⟨rfl, rfl, ho.symm⟩
  | some x =>
    cases hx : trOpd x with
    | none => simp [trOptO, hx] at h
    | some y =>
      simp [trOptO, hx] at h; subst h
      have hv := V_ev hr hx
      simp only [Option.map_some] at ho ⊢
      generalize s.ev y = z at ho hv
      generalize a.eval x = u at hv ⊢
      unfold optI at ho
      split at ho
      · rename_i hh; cases hh
      · rename_i k m hh; cases hh; cases hv; simp at ho; subst ho; exact .inr ⟨k, by rw [Int.toNat_of_nonneg h0]⟩
      · cases ho

theorem V_cut {t : Bool} {els : List (List AV)} {b off sz : Nat} {c : Nat → Nat → Value} (hF : F b) (hs : ∀ (i : Nat) (e : List AV), els[i]? = some e → e.length = sz)
    (hc : ∀ (i : Nat) (e : List AV) (j : Nat) (x : AV), els[i]? = some e → e[j]? = some x → w.cell? ⟨b, off + (i * sz + j), none⟩ = some (c i j))
    (hv : ∀ (i : Nat) (e : List AV) (j : Nat) (x : AV), els[i]? = some e → e[j]? = some x → V P F w x (c i j)) (l h k : Nat) (hlh : l ≤ h) (hh : h ≤ els.length) (hk : h ≤ k) (ht : t = true → k = h) (sz' : Nat) (hsz : l < h → sz' = sz) :
    V P F w (.imm t ((els.take h).drop l)) (.slice (if k = l then some ⟨b, off, none⟩ else some ⟨b, off + l * sz', none⟩) (h - l) (k - l)) := by
  by_cases hl : l = h
  · subst hl
    have : (els.take l).drop l = [] := by simp
    rw [this, Nat.sub_self]
    exact .immE t _ _ (fun h => by have := ht h; omega)
  · rw [if_neg (by omega), hsz (by omega)]
    have hlen : ((els.take h).drop l).length = h - l := by simp; omega
    have hget : ∀ (i : Nat) (e : List AV), ((els.take h).drop l)[i]? = some e → els[l + i]? = some e := by
      intro i e he
      rw [List.getElem?_drop, List.getElem?_take] at he
      split at he
      · exact he
      · cases he
    have := V.imm (P := P) (F := F) (w := w) t ((els.take h).drop l) b (off + l * sz) (k - l) sz (fun i j => c (l + i) j) (by omega) (fun h => by have := ht h; omega) hF (fun i e he => hs _ e (hget i e he))
      (fun i e j x he hx => by have := hc _ e j x (hget i e he) hx; rw [Nat.add_mul] at this; rw [← this]; congr 2; omega) (fun i e j x he hx => hv _ e j x (hget i e he) hx)
    rwa [hlen] at this

theorem sound_sl {t e : TypeId} {x : Operand} {lo hi mx : Option Operand} {x' : Opd} {lo' hi' mx' : Option Opd} {i : TypeInfo} (hop : o.op = .slice t x lo hi mx) (h0 : P.underlying t = some (.slice e)) (h1 : P.info? e = some i) (hsz0 : 0 < i.size)
    (hx : trOpd x = some x') (hlo : trOptO lo = some lo') (hhi : trOptO hi = some hi') (hmx : trOptO mx = some mx') (hd : okD n o.dst = true) (hr : Rel P F n s a w) (hX : X P (.sl i.size x' lo' hi' mx') s K) : o.wp P a w (Aft P F n s w o.dst K) Q := by
  have hv := V_ev hr hx
  simp only [X] at hX
  generalize hav : a.eval x = v at hv
  have hexec : (execOp a.eval o).run P w = ((Instr.sliceAt t v (lo.map a.eval) (hi.map a.eval) (mx.map a.eval)).run P w).andThen fun v w' => .ok (.value v) w' := by
    simp [execOp, hop, hav]
  unfold px_sl at hX
  split at hX
  · rename_i t' els hev
    rw [hev] at hv
    split at hX
    · -- no max
      rename_i l h e1 e2 e3
      obtain ⟨l0, lh, hh, hsz, hK⟩ := hX
      have rl := opt_real hr hlo e1 l0
      have rh := opt_real hr hhi e2 (by omega)
      have hmn : mx.map a.eval = none := by
        cases mx with
        | none => rfl
        | some z => cases hz : trOpd z with
          | none => simp [trOptO, hz] at hmx
          | some y => simp [trOptO, hz] at hmx; subst hmx; simp at e3
      rw [hmn] at hexec
      cases hv with
      | immE _ ad cap ht =>
        have hl : l = 0 := by simp at hh; omega
        have hh0 : h = 0 := by simp at hh; omega
        subst hl hh0
        have hrun := run_sl (w := w) h0 h1 ad 0 cap 0 0 (lo.map a.eval) (hi.map a.eval) (by rcases rl with ⟨a1, _, a2⟩ | ⟨k, a1⟩; exact .inl ⟨a1, rfl⟩; exact .inr ⟨k, by simpa using a1⟩)
          (by rcases rh with ⟨a1, _, a2⟩ | ⟨k, a1⟩; exact .inl ⟨a1, rfl⟩; exact .inr ⟨k, by simpa using a1⟩) (Nat.le_refl _) (Nat.zero_le _)
        rw [hrun] at hexec
        exact sound_val hd hr hexec (by simpa using V.immE (P := P) (F := F) (w := w) false _ _ (by simp)) hK
      | imm _ _ b off cap sz c hcap ht hF hs hc hcv =>
        have hrun := run_sl (w := w) h0 h1 (some ⟨b, off, none⟩) els.length cap l.toNat h.toNat (lo.map a.eval) (hi.map a.eval) (by rcases rl with ⟨a1, _, a2⟩ | ⟨k, a1⟩; exact .inl ⟨a1, by omega⟩; exact .inr ⟨k, a1⟩)
          (by rcases rh with ⟨a1, _, a2⟩ | ⟨k, a1⟩; exact .inl ⟨a1, by omega⟩; exact .inr ⟨k, a1⟩) (by omega) (by omega)
        rw [hrun] at hexec
        refine sound_val hd hr hexec ?_ hK
        simp only [Option.map_some, Addr.add_lit]
        exact V_cut hF hs hc hcv l.toNat h.toNat cap (by omega) (by omega) (by omega) (by simp) i.size fun hlt => by
          have hlt' : l.toNat < els.length := by omega
          exact (hsz els[l.toNat] (List.getElem_mem hlt')).symm.trans (hs _ _ (List.getElem?_eq_getElem hlt'))
    · rename_i l h k m e1 e2 e3
      obtain ⟨his, l0, lh, hh, rfl, hsz, hK⟩ := hX
      have rl := opt_real hr hlo e1 l0
      have rh := opt_real hr hhi e2 (by omega)
      have rm := opt_real hr hmx (d := 0) (by rw [e3]; rfl) (by omega)
      have rh' : ∃ k, hi.map a.eval = some (.int k m.toNat) := by
        rcases rh with ⟨a1, a2, _⟩ | h
        · subst a2; simp at his
        · exact h
      have rm' : ∃ k, mx.map a.eval = some (.int k m.toNat) := by
        rcases rm with ⟨a1, a2, _⟩ | h
        · subst a2; simp at e3
        · exact h
      obtain ⟨kh, rh'⟩ := rh'
      obtain ⟨km, rm'⟩ := rm'
      rw [rh', rm'] at hexec
      cases hv with
      | immE _ ad cap ht =>
        have hl : l = 0 := by simp at hh; omega
        have hh0 : m = 0 := by simp at hh; omega
        subst hl hh0
        have hrun := run_sl3 (w := w) h0 h1 ad 0 cap 0 0 (lo.map a.eval) kh km (by rcases rl with ⟨a1, _, a2⟩ | ⟨k, a1⟩; exact .inl ⟨a1, rfl⟩; exact .inr ⟨k, by simpa using a1⟩) (Nat.le_refl _) (Nat.zero_le _)
        simp only [Int.toNat_zero] at hexec
        simp only [Int.natCast_zero] at hrun hexec
        rw [hrun] at hexec
        exact sound_val hd hr hexec (by simpa using V.immE (P := P) (F := F) (w := w) true _ _ (by simp)) hK
      | imm _ _ b off cap sz c hcap ht hF hs hc hcv =>
        have hrun := run_sl3 (w := w) h0 h1 (some ⟨b, off, none⟩) els.length cap l.toNat m.toNat (lo.map a.eval) kh km (by rcases rl with ⟨a1, _, a2⟩ | ⟨k, a1⟩; exact .inl ⟨a1, by omega⟩; exact .inr ⟨k, a1⟩) (by omega) (by omega)
        rw [hrun] at hexec
        refine sound_val hd hr hexec ?_ hK
        simp only [Option.map_some, Addr.add_lit]
        exact V_cut hF hs hc hcv l.toNat m.toNat m.toNat (by omega) (by omega) (by omega) (by simp) i.size fun hlt => by
          have hlt' : l.toNat < els.length := by omega
          exact (hsz els[l.toNat] (List.getElem_mem hlt')).symm.trans (hs _ _ (List.getElem?_eq_getElem hlt'))
    · exact hX.elim
  · rename_i b m hev
    rw [hev] at hv
    split at hX
    · rename_i l h e1 e2 e3
      obtain ⟨l0, lh, hh, hK⟩ := hX
      have rl := opt_real hr hlo e1 l0
      have rh := opt_real hr hhi e2 (by omega)
      have hmn : mx.map a.eval = none := by
        cases mx with
        | none => rfl
        | some z => cases hz : trOpd z with
          | none => simp [trOptO, hz] at hmx
          | some y => simp [trOptO, hz] at hmx; subst hmx; simp at e3
      rw [hmn] at hexec
      cases hv with
      | own _ _ cap e' hn hsh =>
        have hrun := run_sl (w := w) h0 h1 (some ⟨b, 0, none⟩) m cap l.toNat h.toNat (lo.map a.eval) (hi.map a.eval) (by rcases rl with ⟨a1, _, a2⟩ | ⟨k, a1⟩; exact .inl ⟨a1, by omega⟩; exact .inr ⟨k, a1⟩)
          (by rcases rh with ⟨a1, _, a2⟩ | ⟨k, a1⟩; exact .inl ⟨a1, by omega⟩; exact .inr ⟨k, a1⟩) (by omega) (by omega)
        rw [hrun] at hexec
        refine sound_val hd hr hexec ?_ hK
        by_cases hl0 : l = 0
        · subst hl0
          rw [if_pos rfl]
          simp only [Option.map_some, Addr.add_lit, Int.toNat_zero, Nat.zero_mul, Nat.add_zero, ite_self, Nat.sub_zero]
          exact .own b _ cap e' (by omega) hsh
        · rw [if_neg hl0]
          refine .sub b _ _ _ _ fun hlt => ?_
          rw [if_neg (by omega)]
          simp only [Option.map_some, Addr.add_lit, Nat.zero_add]
    · exact hX.elim
  · rename_i hev
    rw [hev] at hv
    split at hX
    · rename_i l h e1 e2 e3
      obtain ⟨rfl, rfl, hK⟩ := hX
      have rl := opt_real hr hlo e1 (Int.le_refl _)
      have rh := opt_real hr hhi e2 (Int.le_refl _)
      have hmn : mx.map a.eval = none := by
        cases mx with
        | none => rfl
        | some z => cases hz : trOpd z with
          | none => simp [trOptO, hz] at hmx
          | some y => simp [trOptO, hz] at hmx; subst hmx; simp at e3
      rw [hmn] at hexec
      cases hv
      have hrun := run_sl (w := w) h0 h1 none 0 0 0 0 (lo.map a.eval) (hi.map a.eval) (by rcases rl with ⟨a1, _, a2⟩ | ⟨k, a1⟩; exact .inl ⟨a1, rfl⟩; exact .inr ⟨k, a1⟩)
        (by rcases rh with ⟨a1, _, a2⟩ | ⟨k, a1⟩; exact .inl ⟨a1, rfl⟩; exact .inr ⟨k, a1⟩) (Nat.le_refl _) (Nat.le_refl _)
      rw [hrun] at hexec
      exact sound_val hd hr (v := .slice none 0 0) (by simpa using hexec) (.val _) hK
    · exact hX.elim
  · exact hX.elim

theorem sound_sls {t : TypeId} {x : Operand} {lo hi : Option Operand} {x' : Opd} {lo' hi' : Option Opd} (hop : o.op = .slice t x lo hi none) (h0 : P.underlying t = some .string)
    (hx : trOpd x = some x') (hlo : trOptO lo = some lo') (hhi : trOptO hi = some hi') (hd : okD n o.dst = true) (hr : Rel P F n s a w) (hX : X P (.sls x' lo' hi') s K) : o.wp P a w (Aft P F n s w o.dst K) Q := by
  have hv := V_ev hr hx
  simp only [X] at hX
  generalize hav : a.eval x = v at hv
  unfold px_sls at hX
  split at hX
  · rename_i u hev
    rw [hev] at hv
    split at hX
    · rename_i l h e1 e2
      obtain ⟨l0, lh, hh, hK⟩ := hX
      have rl := opt_real hr hlo e1 l0
      have rh := opt_real hr hhi e2 (by omega)
      cases hv
      have hb : ∀ (k : IntKind) (x y : Nat) (code : BoundsCode), x ≤ y → (Instr.sliceBound (.int k (x : Int)) y code).run P w = .ok x w := by
        intro k x y code hxy
        have : (x : Int) ≤ y := by omega
        simp [Instr.sliceBound, asIntOf, this]
      obtain ⟨l, rfl⟩ := Int.eq_ofNat_of_zero_le l0
      obtain ⟨h, rfl⟩ := Int.eq_ofNat_of_zero_le (show 0 ≤ h by omega)
      simp only [Int.toNat_natCast] at rl rh hK
      refine sound_val hd hr (v := .string (u.extract l h)) ?_ (.val _) hK
      have b1 : h ≤ u.size := by omega
      have b2 : l ≤ h := by omega
      rcases rl with ⟨a1, _, a2⟩ | ⟨k, a1⟩ <;> rcases rh with ⟨a3, _, a4⟩ | ⟨k', a3⟩
      · obtain rfl : l = 0 := by omega
        obtain rfl : h = u.size := by omega
        simp [execOp, hop, hav, a1, a3, Instr.sliceAt, Instr.slice, run_underlying h0, Instr.sliceBounds]
      · obtain rfl : l = 0 := by omega
        simp [execOp, hop, hav, a1, a3, Instr.sliceAt, Instr.slice, run_underlying h0, Instr.sliceBounds, hb k' _ _ _ b1]
      · obtain rfl : h = u.size := by omega
        simp [execOp, hop, hav, a1, a3, Instr.sliceAt, Instr.slice, run_underlying h0, Instr.sliceBounds, hb k _ _ _ b2]
      · simp [execOp, hop, hav, a1, a3, Instr.sliceAt, Instr.slice, run_underlying h0, Instr.sliceBounds, hb k' _ _ _ b1, hb k _ _ _ b2]
    · exact hX.elim
  · exact hX.elim

/-! ### calls -/
theorem call_wp {f : FuncId} {fn : Func} {args : List AV} {vs : Array Value} (hf : P.funcs[f]? = some fn) (hb : fn.body.isSome = true) (hn : (fn.name == "runtime.NumGoroutine") = false)
    (hrun : (execOp a.eval o).run P w = (callFunc f vs).run P w) (hl : vs.size = args.length) (hvs : ∀ (i : Nat) (x : AV), args[i]? = some x → V P F w x (vs.getD i undef)) (hd : okD n o.dst = true) (hr : Rel P F n s a w)
    (hX : CALL P f args s.h K) : o.wp P a w (Aft P F n s w o.dst K) Q := by
  unfold Oper.wp
  have h1 : (callFunc f vs).run P w = .ok (.enter f vs) w := by
    obtain ⟨c, hc⟩ := Option.isSome_iff_exists.1 hb
    simp only [callFunc, Sem.run_bind, run_program, Result.andThen_ok, hf, hn, hc]
    rfl
  rw [hrun, h1]
  refine Calls.mono (hX F w vs hr.heap hr.dom hl hvs) ?_
  rintro e w' ⟨F', r, v, h', rfl, hv, hK, st, hh, hdom⟩
  exact ⟨F', r, h', hK, (hr.step st hh hdom).put' hd hv, st⟩

theorem okF_spec {f : FuncId} (h : okF P f = true) : ∃ fn, P.funcs[f]? = some fn ∧ fn.body.isSome = true ∧ (fn.name == "runtime.NumGoroutine") = false := by
  unfold okF at h
  split at h
  · rename_i fn hf
    simp only [Bool.and_eq_true] at h
    exact ⟨fn, hf, h.1, by simpa using h.2⟩
  · cases h

theorem sound_call {c : Call} {f : FuncId} {as : List Opd} (hop : o.op = .call c) (hc : c.callee = .value (.func f)) (hf : okF P f = true)
    (hx : trOpds c.args = some as) (hd : okD n o.dst = true) (hr : Rel P F n s a w) (hX : X P (.call f as) s K) : o.wp P a w (Aft P F n s w o.dst K) Q := by
  obtain ⟨h1, h2⟩ := V_evs hr (xs := c.args.toList) hx
  obtain ⟨fn, hfn, hb1, hb2⟩ := okF_spec hf
  refine call_wp (vs := c.args.map a.eval) (args := as.map s.ev) hfn hb1 hb2 ?_ (by simp at h1 ⊢; omega) (fun i x hx => ?_) hd hr hX
  · simp [execOp, hop, resolve, hc, Act.eval, Deferred.ofValue, invoke]
  · have := h2 i x hx
    have e : (c.args.toList.map a.eval).getD i undef = (c.args.map a.eval).getD i undef := by
      simp [List.getD, Array.getD_eq_getD_getElem?]
    rwa [e] at this

theorem sound_callv {c : Call} {x : Operand} {x' : Opd} {as : List Opd} (hop : o.op = .call c) (hc : c.callee = .value x) (hx0 : trOpd x = some x')
    (hx : trOpds c.args = some as) (hd : okD n o.dst = true) (hr : Rel P F n s a w) (hX : X P (.callv x' as) s K) : o.wp P a w (Aft P F n s w o.dst K) Q := by
  obtain ⟨h1, h2⟩ := V_evs hr (xs := c.args.toList) hx
  have hv := V_ev hr hx0
  simp only [X] at hX
  split at hX
  · rename_i f caps hev
    rw [hev] at hv
    generalize hav : a.eval x = v at hv
    obtain ⟨hf, hX⟩ := hX
    obtain ⟨fn, hfn, hb1, hb2⟩ := okF_spec hf
    cases hv with
    | fn _ _ vs hl hvs =>
      refine call_wp (vs := c.args.map a.eval ++ vs) (args := as.map s.ev ++ caps) hfn hb1 hb2 ?_ (by simp at h1 ⊢; omega) (fun i x hx => ?_) hd hr hX
      · simp [execOp, hop, resolve, hc, hav, Deferred.ofValue, invoke]
      · have hsz : (c.args.map a.eval).size = (as.map s.ev).length := by simp at h1 ⊢; omega
        by_cases hi : i < (as.map s.ev).length
        · rw [List.getElem?_append_left hi] at hx
          have := h2 i x hx
          have e : (c.args.toList.map a.eval).getD i undef = (c.args.map a.eval ++ vs).getD i undef := by
            rw [Array.getD_eq_getD_getElem?, Array.getElem?_append_left (by omega)]; simp [List.getD]
          rwa [e] at this
        · rw [List.getElem?_append_right (by omega)] at hx
          have := hvs _ x hx
          have e : vs.getD (i - (as.map s.ev).length) undef = (c.args.map a.eval ++ vs).getD i undef := by
            rw [Array.getD_eq_getD_getElem?, Array.getD_eq_getD_getElem?, Array.getElem?_append_right (by omega), hsz]
          rwa [e] at this
  · exact hX.elim

theorem X_sound {i : IOp} (ht : trOp P o = some i) (hd : okD n o.dst = true) (hr : Rel P F n s a w) (hX : X P i s K) : o.wp P a w (Aft P F n s w o.dst K) Q := by
  unfold trOp at ht
  split at ht
  · rename_i x hop
    cases hx : trOpd x with
    | none => simp [hx] at ht
    | some x' => simp [hx] at ht; subst ht; exact sound_mv (.inl hop) hx hd hr hX
  · rename_i x hop
    cases hx : trOpd x with
    | none => simp [hx] at ht
    | some x' => simp [hx] at ht; subst ht; exact sound_mv (.inr hop) hx hd hr hX
  · rename_i c x y hop
    split at ht
    · rename_i c' x' y' h1 h2 h3
      cases ht; exact sound_pick hop h1 h2 h3 hd hr hX
    · cases ht
  · rename_i op t x y ty hop
    split at ht
    · rename_i k x' y' h1 h2 h3; cases ht; exact sound_bin hop h2 h3 hd hr hX
    · rename_i x' y' h1 h2 h3; cases ht; exact sound_bin hop h2 h3 hd hr hX
    · rename_i x' y' h1 h2 h3; cases ht; exact sound_bbin hop h1 h2 h3 hd hr hX
    · rename_i fs x' y' h1 h2 h3
      split at ht
      · rename_i h4
        split at ht
        · cases ht; exact sound_eqs (neg := false) hop h4 h2 h3 hd hr hX
        · cases ht; exact sound_eqs (neg := true) hop h4 h2 h3 hd hr hX
        · cases ht
      · cases ht
    · cases ht
  · rename_i op t x hop
    cases hx : trOpd x with
    | none => simp [hx] at ht
    | some x' => simp [hx] at ht; subst ht; exact sound_un hop hx hd hr hX
  · rename_i st dt x hop
    split at ht
    · rename_i k0 k x' h1 h2 h3; cases ht; exact sound_cvt hop h1 h2 h3 hd hr hX
    · rename_i e x' h1 h2 h3
      split at ht
      · rename_i hb; cases ht; exact sound_b2s hop h1 h2 hb h3 hd hr hX
      · cases ht
    · rename_i x' h1 h2 h3
      split at ht
      · cases ht
        simp only [X] at hX
        have hv := V_ev hr h3
        split at hX
        · rename_i u hev
          rw [hev] at hv
          generalize hav : a.eval x = v at hv
          cases hv
          exact sound_val hd hr (v := .string u) (by simp [execOp, hop, hav, convert, run_underlying h1, run_underlying h2]) (.val _) hX
        · exact hX.elim
      · cases ht
    · cases ht
  · rename_i t x hop
    split at ht
    · rename_i k ag x' h1 h2; cases ht; exact sound_load hop h1 h2 hd hr hX
    · cases ht
  · rename_i t x v hop
    split at ht
    · rename_i i' x' v' h1 h2 h3; cases ht; exact sound_store hop h1 h2 h3 hd hr hX
    · cases ht
  · rename_i t hop
    cases hz : trZero P t with
    | none => simp [hz] at ht
    | some p => simp [hz] at ht; subst ht; exact sound_alloc hop hz hd hr hX
  · rename_i t x hop
    cases hx : trOpd x with
    | none => simp [hx] at ht
    | some x' => simp [hx] at ht; subst ht; exact sound_box hop hx hd hr hX
  · rename_i t parts hop
    split at ht
    · rename_i fs i' z ps h1 h2 h3
      split at ht
      · rename_i qs h4
        split at ht
        · rename_i h5; cases ht; exact sound_build hop h1 h2 h3 h4 h5 hd hr hX
        · cases ht
      · cases ht
    · cases ht
  · rename_i t len parts hop
    split at ht
    · rename_i e ps h1 h2
      split at ht
      · rename_i i' z h3
        split at ht
        · rename_i h4; cases ht; exact sound_bslice hop h1 h3 h2 h4.1 h4.2.1 h4.2.2 hd hr hX
        · cases ht
      · cases ht
    · cases ht
  · rename_i t x f hop
    split at ht
    · rename_i fs x' h1 h2
      split at ht
      · rename_i g h3
        split at ht
        · rename_i i' h4
          split at ht
          · rename_i h5; cases ht; exact sound_fadr hop h1 h3 h4 h5 h2 hd hr hX
          · cases ht
        · cases ht
      · cases ht
    · cases ht
  · rename_i t x f hop
    split at ht
    · rename_i fs x' h1 h2
      split at ht
      · rename_i g h3
        split at ht
        · rename_i k ag h4; cases ht; exact sound_field hop h1 h3 h4 h2 hd hr hX
        · cases ht
      · cases ht
    · cases ht
  · rename_i t x ix hop
    split at ht
    · rename_i e x' i' h1 h2 h3
      split at ht
      · rename_i j h4
        split at ht
        · cases ht; exact sound_iadr hop h1 h4 h2 h3 hd hr hX
        · cases ht
      · cases ht
    · rename_i m e x' i' h1 h2 h3
      split at ht
      · rename_i j h4; cases ht; exact sound_iadrA hop h1 h4 h2 h3 hd hr hX
      · cases ht
    · cases ht
  · rename_i t x ix hop
    split at ht
    · rename_i x' i' h1 h2 h3; cases ht; exact sound_idx hop h1 h2 h3 hd hr hX
    · cases ht
  · rename_i t x lo hi mx hop
    split at ht
    · rename_i e x' lo' hi' mx' h1 h2 h3 h4 h5
      split at ht
      · rename_i i' h6
        split at ht
        · rename_i h7; cases ht; exact sound_sl hop h1 h6 h7 h2 h3 h4 h5 hd hr hX
        · cases ht
      · cases ht
    · rename_i x' lo' hi' h1 h2 h3 h4 h5
      cases ht
      cases mx with
      | none => exact sound_sls hop h1 h2 h3 h4 hd hr hX
      | some z => cases hz : trOpd z <;> simp [trOptO, hz] at h5
    · cases ht
  · rename_i t x y hop
    split at ht
    · rename_i e x' y' h1 h2 h3
      split at ht
      · rename_i i' z h4
        split at ht
        · rename_i h5; cases ht; exact sound_mks hop h1 h4 h5.1 h5.2.1 h5.2.2 h2 h3 hd hr hX
        · cases ht
      · cases ht
    · cases ht
  · rename_i x i' hop
    cases hx : trOpd x with
    | none => simp [hx] at ht
    | some x' => simp [hx] at ht; subst ht; exact sound_ext hop hx hd hr hX
  · rename_i x hop
    cases hx : trOpd x with
    | none => simp [hx] at ht
    | some x' => simp [hx] at ht; subst ht; exact sound_nilc hop hx hd hr hX
  · rename_i f first caps hop
    split at ht
    · rename_i h0
      cases hx : trOpds caps with
      | none => simp [hx] at ht
      | some x' => simp [hx] at ht; subst ht; exact sound_mkf hop h0 hx hd hr hX
    · cases ht
  · rename_i t hop
    split at ht
    · rename_i kt et h1; cases ht; exact sound_mkmap hop h1 (.inl rfl) hd hr hX
    · cases ht
  · rename_i t k m hop
    split at ht
    · rename_i kt et h1; cases ht; exact sound_mkmap hop h1 (.inr ⟨k, m, rfl⟩) hd hr hX
    · cases ht
  · rename_i t x i' ok hop
    split at ht
    · rename_i kt et x' i'' h1 h2 h3
      split at ht
      · rename_i j h4
        split at ht
        · rename_i z h5
          split at ht
          · rename_i h6; cases ht; exact sound_mget hop h1 h2 h3 h4 h5 h6 hd hr hX
          · cases ht
        · cases ht
      · cases ht
    · cases ht
  · rename_i t x i' v hop
    split at ht
    · rename_i kt et x' i'' v' h1 h2 h3 h4
      split at ht
      · rename_i h6; cases ht; exact sound_mset (.inl hop) h1 h2 h3 h4 h6 hd hr hX
      · cases ht
    · cases ht
  · rename_i t x i' v hop
    split at ht
    · rename_i kt et x' i'' v' h1 h2 h3 h4
      split at ht
      · rename_i h6; cases ht; exact sound_mset (.inr hop) h1 h2 h3 h4 h6 hd hr hX
      · cases ht
    · cases ht
  · rename_i c hop
    unfold trCall at ht
    split at ht
    · rename_i f hc
      split at ht
      · rename_i hf
        cases hx : trOpds c.args with
        | none => simp [hx] at ht
        | some as => simp [hx] at ht; subst ht; exact sound_call hop hc hf hx hd hr hX
      · cases ht
    · rename_i x hne hc
      split at ht
      · rename_i x' as h1 h2; cases ht; exact sound_callv hop hc h1 h2 hd hr hX
      · cases ht
    · rename_i b hc
      obtain ⟨cal, args, tys⟩ := c
      simp only at hc ht
      subst hc
      split at ht
      · rename_i x t e1 e2
        obtain rfl : args = #[x] := by apply Array.ext'; simpa using e1
        obtain rfl : tys = #[t] := by apply Array.ext'; simpa using e2
        split at ht
        · rename_i e y h1 h2; cases ht; exact sound_len (td := .slice e) hop h1 (.inl ⟨e, rfl⟩) h2 hd hr hX
        · rename_i y h1 h2; cases ht; exact sound_len (td := .string) hop h1 (.inr rfl) h2 hd hr hX
        · cases ht
      · rename_i x y t u e1 e2
        obtain rfl : args = #[x, y] := by apply Array.ext'; simpa using e1
        obtain rfl : tys = #[t, u] := by apply Array.ext'; simpa using e2
        split at ht
        · rename_i e x' y' h1 h2 h3
          split at ht
          · rename_i i' h4
            split at ht
            · rename_i h5
              obtain ⟨rfl, h6, h7, h8⟩ := h5
              cases ht; exact sound_app hop h1 h4 h6 h7 h8 h2 h3 hd hr hX
            · cases ht
          · cases ht
        · cases ht
      · rename_i x y t u e1 e2
        obtain rfl : args = #[x, y] := by apply Array.ext'; simpa using e1
        obtain rfl : tys = #[t, u] := by apply Array.ext'; simpa using e2
        split at ht
        · rename_i e x' y' h1 h2 h3
          split at ht
          · rename_i i' h4
            split at ht
            · rename_i h5
              obtain ⟨rfl, h6⟩ := h5
              cases ht; exact sound_copy hop h1 h4 h6 h2 h3 hd hr hX
            · cases ht
          · cases ht
        · cases ht
      · rename_i x y e1
        obtain rfl : args = #[x, y] := by apply Array.ext'; simpa using e1
        split at ht
        · rename_i x' y' h1 h2; cases ht; exact sound_mm (isMax := false) hop h1 h2 hd hr hX
        · cases ht
      · rename_i x y e1
        obtain rfl : args = #[x, y] := by apply Array.ext'; simpa using e1
        split at ht
        · rename_i x' y' h1 h2; cases ht; exact sound_mm (isMax := true) hop h1 h2 hd hr hX
        · cases ht
      · cases ht
    · cases ht
  · cases ht; exact False.elim hX
  · cases ht; exact False.elim hX
  · cases ht; exact False.elim hX
  · cases ht

end Go.Ab
