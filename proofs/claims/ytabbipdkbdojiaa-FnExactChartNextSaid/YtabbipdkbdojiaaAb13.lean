/- The abstract layer, part 13: the operations, one by one, as equations that a proof rewrites with. Plain lemmas over any program; no condition. -/
import Derived.Test.YtabbipdkbdojiaaAb12
namespace Go.Ab
open Go Go.RowKit
set_option linter.unusedVariables false
set_option linter.unusedSimpArgs false
variable {P : Program} {e : Nat → AV} {h : Heap} {t : Tl}

def pickK (P : Program) (c a b : AV) (e : Nat → AV) (h : Heap) (t : Tl) : Prop := match c with
  | .val (.bool c) => (c = true → on P t e h a) ∧ (c = false → on P t e h b)
  | _ => False
def binK (P : Program) (op : BinOp) (x y : AV) (e : Nat → AV) (h : Heap) (t : Tl) : Prop := px_bin op x y fun v => on P t e h v
def bbinK (P : Program) (op : BinOp) (x y : AV) (e : Nat → AV) (h : Heap) (t : Tl) : Prop := match x, y with
  | .val (.bool a), .val (.bool b) => bbin op a b fun v => on P t e h v
  | _, _ => False
def eqsK (P : Program) (k : Nat) (neg : Bool) (x y : Option (List Int)) (e : Nat → AV) (h : Heap) (t : Tl) : Prop := match x, y with
  | some a, some b => a.length = k ∧ b.length = k ∧ on P t e h (.val (.bool (if neg then !decide (a = b) else decide (a = b))))
  | _, _ => False
def unK (P : Program) (op : UnOp) (x : AV) (e : Nat → AV) (h : Heap) (t : Tl) : Prop := px_un op x fun v => on P t e h v
def cvtK (P : Program) (k : IntKind) (x : AV) (e : Nat → AV) (h : Heap) (t : Tl) : Prop := match x with
  | .val (.int _ n) => on P t e h (.val (.int k (k.wrap n)))
  | _ => False
def b2sK (P : Program) (x : AV) (e : Nat → AV) (h : Heap) (t : Tl) : Prop := src h 1 x fun _ cells => ∃ s : ByteArray, cells = bytesA s ∧ on P t e h (.val (.string s))
def s2sK (P : Program) (x : AV) (e : Nat → AV) (h : Heap) (t : Tl) : Prop := match x with
  | .val (.string s) => on P t e h (.val (.string s))
  | _ => False
def loadK (P : Program) (n : Nat) (ag : Bool) (x : AV) (e : Nat → AV) (h : Heap) (t : Tl) : Prop := match x with
  | .ptr cells => n ≤ cells.length ∧ on P t e h (loadC n ag cells 0)
  | .adr b o => match h b with
    | some (.row _ cells) => o + n ≤ cells.length ∧ on P t e h (loadC n ag cells o)
    | _ => False
  | _ => False
def loadR (P : Program) (n : Nat) (ag : Bool) (o : Nat) (r : Option Blk) (e : Nat → AV) (h : Heap) (t : Tl) : Prop := match r with
  | some (.row _ cells) => o + n ≤ cells.length ∧ on P t e h (loadC n ag cells o)
  | _ => False
def storeK (P : Program) (n : Nat) (x : AV) (v : Option (List AV)) (e : Nat → AV) (h : Heap) (t : Tl) : Prop := match x, v with
  | .adr b o, some cs => match h b with
    | some (.row ty cells) => cs.length = n ∧ cs.all oneC = true ∧ o + n ≤ cells.length ∧ on P t e (h.set b (.row ty (splice cells o cs))) .junk
    | _ => False
  | _, _ => False
def storeR (P : Program) (n b o : Nat) (cs : List AV) (r : Option Blk) (e : Nat → AV) (h : Heap) (t : Tl) : Prop := match r with
  | some (.row ty cells) => cs.length = n ∧ cs.all oneC = true ∧ o + n ≤ cells.length ∧ on P t e (h.set b (.row ty (splice cells o cs))) .junk
  | _ => False
/-- A new own row, its address. -/
def allocK (P : Program) (ty : TypeId) (cells : List AV) (e : Nat → AV) (h : Heap) (t : Tl) : Prop := ∀ b, h b = none → on P t e (h.set b (.row ty cells)) (.adr b 0)
/-- A new own row, as a slice. -/
def rowK (P : Program) (ty : TypeId) (n : Nat) (cells : List AV) (e : Nat → AV) (h : Heap) (t : Tl) : Prop := ∀ b, h b = none → on P t e (h.set b (.row ty cells)) (.own b n)
/-- An own row that grew: where it was, or a new one. -/
def grownK (P : Program) (ty : TypeId) (b n : Nat) (cells : List AV) (e : Nat → AV) (h : Heap) (t : Tl) : Prop := ∀ b', (b' = b ∨ h b' = none) → on P t e (h.set b' (.row ty cells)) (.own b' n)
def boxK (P : Program) (ty : TypeId) (cs : Option (List AV)) (e : Nat → AV) (h : Heap) (t : Tl) : Prop := match cs with
  | some cs => allocK P ty cs e h t
  | none => False
def buildK (P : Program) (cs : Option (List AV)) (e : Nat → AV) (h : Heap) (t : Tl) : Prop := match cs with
  | some cs => on P t e h (.agg cs)
  | none => False
def bsliceK (P : Program) (ty : TypeId) (n : Nat) (cs : Option (List AV)) (e : Nat → AV) (h : Heap) (t : Tl) : Prop := match cs with
  | some cs => rowK P ty n cs e h t
  | none => False
def fadrK (P : Program) (off : Nat) (x : AV) (e : Nat → AV) (h : Heap) (t : Tl) : Prop := match x with
  | .ptr cells => on P t e h (.ptr (cells.drop off))
  | .adr b o => on P t e h (.adr b (o + off))
  | _ => False
def fieldK (P : Program) (off n : Nat) (ag : Bool) (x : AV) (e : Nat → AV) (h : Heap) (t : Tl) : Prop := match x with
  | .agg xs => off + n ≤ xs.length ∧ on P t e h (loadC n ag xs off)
  | _ => False
def iadrK (P : Program) (sz : Nat) (x i : AV) (e : Nat → AV) (h : Heap) (t : Tl) : Prop := match x, i with
  | .imm _ els, .val (.int _ i) => 0 ≤ i ∧ i < els.length ∧ (els.getD i.toNat []).length = sz ∧ on P t e h (.ptr (els.getD i.toNat []))
  | .own b n, .val (.int _ i) => 0 ≤ i ∧ i < n ∧ on P t e h (.adr b (i.toNat * sz))
  | _, _ => False
def iadrAK (P : Program) (len sz : Nat) (x i : AV) (e : Nat → AV) (h : Heap) (t : Tl) : Prop := match x, i with
  | .adr b o, .val (.int _ i) => 0 ≤ i ∧ i < len ∧ on P t e h (.adr b (o + i.toNat * sz))
  | _, _ => False
def idxK (P : Program) (x i : AV) (e : Nat → AV) (h : Heap) (t : Tl) : Prop := match x, i with
  | .val (.string s), .val (.int _ i) => 0 ≤ i ∧ i < s.size ∧ on P t e h (.val (.int .u8 (s.data.toList.getD i.toNat 0).toNat))
  | _, _ => False
def slK (P : Program) (sz : Nat) (x : AV) (lo hi mx : Option AV) (e : Nat → AV) (h : Heap) (t : Tl) : Prop := px_sl sz x lo hi mx fun v => on P t e h v
def slsK (P : Program) (x : AV) (lo hi : Option AV) (e : Nat → AV) (h : Heap) (t : Tl) : Prop := px_sls x lo hi fun v => on P t e h v
def mksK (P : Program) (ty : TypeId) (zero : List AV) (x y : AV) (e : Nat → AV) (h : Heap) (t : Tl) : Prop := match x, y with
  | .val (.int _ n), .val (.int _ m) => n = m ∧ 0 ≤ n ∧ n ≤ 4294967296 ∧ rowK P ty n.toNat ((List.replicate n.toNat zero).flatten) e h t
  | _, _ => False
def appK (P : Program) (ty : TypeId) (sz : Nat) (x y : AV) (e : Nat → AV) (h : Heap) (t : Tl) : Prop := src h sz y fun m new => px_app h ty sz m x new fun v h' => on P t e h' v
def appS (P : Program) (ty : TypeId) (sz : Nat) (x : AV) (m : Nat) (r : Option Blk) (e : Nat → AV) (h : Heap) (t : Tl) : Prop := match r with
  | some (.row _ cells) => m * sz ≤ cells.length ∧ px_app h ty sz m x (cells.take (m * sz)) fun v h' => on P t e h' v
  | _ => False
def appN (P : Program) (ty : TypeId) (sz m : Nat) (x : AV) (new : List AV) (e : Nat → AV) (h : Heap) (t : Tl) : Prop := px_app h ty sz m x new fun v h' => on P t e h' v
def appO (P : Program) (ty : TypeId) (sz m b n : Nat) (new : List AV) (r : Option Blk) (e : Nat → AV) (h : Heap) (t : Tl) : Prop := match r with
  | some (.row e' cells) => e' = ty ∧ n * sz ≤ cells.length ∧ n + m ≤ 4294967296 ∧ (∀ x ∈ new, oneC x = true) ∧ grownK P ty b (n + m) (cells.take (n * sz) ++ new) e h t
  | _ => False
def lenK (P : Program) (x : AV) (str : Bool) (e : Nat → AV) (h : Heap) (t : Tl) : Prop := match x, str with
  | .imm _ els, false => on P t e h (.val (.int .i64 els.length))
  | .own _ n, false => on P t e h (.val (.int .i64 n))
  | .val (.slice _ n _), false => on P t e h (.val (.int .i64 n))
  | .val (.string s), true => on P t e h (.val (.int .i64 s.size))
  | _, _ => False
def mmK (P : Program) (isMax : Bool) (x y : AV) (e : Nat → AV) (h : Heap) (t : Tl) : Prop := match x, y with
  | .val (.int k a), .val (.int _ b) => on P t e h (.val (.int k (if isMax then (if a < b then b else a) else (if b < a then b else a))))
  | _, _ => False
def extK (P : Program) (i : Nat) (x : AV) (e : Nat → AV) (h : Heap) (t : Tl) : Prop := match x with
  | .tup xs => i < xs.length ∧ on P t e h (xs.getD i .junk)
  | _ => False
def nilcK (P : Program) (x : AV) (e : Nat → AV) (h : Heap) (t : Tl) : Prop := match x with
  | .ptr cells => on P t e h (.ptr cells)
  | .adr b o => on P t e h (.adr b o)
  | _ => False
def callK (P : Program) (f : FuncId) (args : List AV) (e : Nat → AV) (h : Heap) (t : Tl) : Prop := CALL P f args h fun v h' => on P t e h' v
def callvK (P : Program) (x : AV) (args : List AV) (e : Nat → AV) (h : Heap) (t : Tl) : Prop := match x with
  | .fn f caps => okF P f = true ∧ callK P f (args ++ caps) e h t
  | _ => False

def copyR (P : Program) (sz b o n m : Nat) (new : List AV) (r : Option Blk) (e : Nat → AV) (h : Heap) (t : Tl) : Prop := match r with
  | some (.row ty cells) => o + n * sz ≤ cells.length ∧ new.all oneC = true ∧ on P t e (h.set b (.row ty (splice cells o (new.take (min m n * sz))))) (.val (.int .i64 (min m n : Nat)))
  | _ => False
def copyK (P : Program) (sz : Nat) (x y : AV) (e : Nat → AV) (h : Heap) (t : Tl) : Prop := src h sz y fun m new => match x with
  | .own b n => match h b with
    | some (.row ty cells) => n * sz ≤ cells.length ∧ new.all oneC = true ∧ on P t e (h.set b (.row ty (splice cells 0 (new.take (min m n * sz))))) (.val (.int .i64 (min m n : Nat)))
    | _ => False
  | .sub b o n => match h b with
    | some (.row ty cells) => 0 < n ∧ o + n * sz ≤ cells.length ∧ new.all oneC = true ∧ on P t e (h.set b (.row ty (splice cells o (new.take (min m n * sz))))) (.val (.int .i64 (min m n : Nat)))
    | _ => False
  | _ => False
/-- A new own map. -/
def mkmapK (P : Program) (e : Nat → AV) (h : Heap) (t : Tl) : Prop := ∀ b, h b = none → on P t e (h.set b (.map [])) (.mp b)
def mgetR (P : Program) (k : Nat) (ok : Bool) (z : Value) (ks : List Int) (r : Option Blk) (e : Nat → AV) (h : Heap) (t : Tl) : Prop := match r with
  | some (.map ents) => ks.length = k ∧ (∀ e ∈ ents, e.1.length = k) ∧ on P t e h (mgot ok z (mfind ents ks))
  | _ => False
def mgetK (P : Program) (k : Nat) (ok : Bool) (z : Value) (x : AV) (ks : Option (List Int)) (e : Nat → AV) (h : Heap) (t : Tl) : Prop := match x, ks with
  | .mp b, some ks => match h b with
    | some (.map ents) => ks.length = k ∧ (∀ e ∈ ents, e.1.length = k) ∧ on P t e h (mgot ok z (mfind ents ks))
    | _ => False
  | _, _ => False
def msetR (P : Program) (k b : Nat) (ks : List Int) (v : AV) (r : Option Blk) (e : Nat → AV) (h : Heap) (t : Tl) : Prop := match r with
  | some (.map ents) => ks.length = k ∧ (∀ e ∈ ents, e.1.length = k) ∧ on P t e (h.set b (.map (mput ents ks v))) .junk
  | _ => False
def msetK (P : Program) (k : Nat) (x : AV) (ks : Option (List Int)) (v : AV) (e : Nat → AV) (h : Heap) (t : Tl) : Prop := match x, ks with
  | .mp b, some ks => match h b with
    | some (.map ents) => ks.length = k ∧ (∀ e ∈ ents, e.1.length = k) ∧ on P t e (h.set b (.map (mput ents ks v))) .junk
    | _ => False
  | _, _ => False

theorem opK_mv {x : Opd} : opK P (.mv x) e h t = on P t e h (ev e x) := by cases x <;> rfl
theorem opK_pick {c a b : Opd} : opK P (.pick c a b) e h t = pickK P (ev e c) (ev e a) (ev e b) e h t := by
  simp only [opK, X, ev_st, pickK]; generalize ev e c = z; cases z <;> try rfl
theorem opK_bin {op : BinOp} {x y : Opd} : opK P (.bin op x y) e h t = binK P op (ev e x) (ev e y) e h t := by simp only [opK, X, ev_st, binK] <;> rfl
theorem opK_bbin {op : BinOp} {x y : Opd} : opK P (.bbin op x y) e h t = bbinK P op (ev e x) (ev e y) e h t := by
  simp only [opK, X, ev_st, bbinK] <;> rfl
theorem opK_eqs {k : Nat} {neg : Bool} {x y : Opd} : opK P (.eqs k neg x y) e h t = eqsK P k neg (ints? (ev e x)) (ints? (ev e y)) e h t := by
  simp only [opK, X, ev_st, eqsK] <;> rfl
theorem opK_un {op : UnOp} {x : Opd} : opK P (.un op x) e h t = unK P op (ev e x) e h t := by simp only [opK, X, ev_st, unK] <;> rfl
theorem opK_cvt {k : IntKind} {x : Opd} : opK P (.cvt k x) e h t = cvtK P k (ev e x) e h t := by
  simp only [opK, X, ev_st, cvtK] <;> rfl
theorem opK_b2s {x : Opd} : opK P (.b2s x) e h t = b2sK P (ev e x) e h t := by simp only [opK, X, ev_st, b2sK] <;> rfl
theorem opK_s2s {x : Opd} : opK P (.s2s x) e h t = s2sK P (ev e x) e h t := by simp only [opK, X, ev_st, s2sK] <;> rfl
theorem opK_load {n : Nat} {ag : Bool} {x : Opd} : opK P (.load n ag x) e h t = loadK P n ag (ev e x) e h t := by simp only [opK, X, ev_st, loadK] <;> rfl
theorem opK_store {n : Nat} {x v : Opd} : opK P (.store n x v) e h t = storeK P n (ev e x) (cellsOf? (ev e v)) e h t := by simp only [opK, X, ev_st, storeK] <;> rfl
theorem opK_alloc {ty : TypeId} {zero : List Value} : opK P (.alloc ty zero) e h t = allocK P ty (zero.map .val) e h t := rfl
theorem opK_box {ty : TypeId} {x : Opd} : opK P (.box ty x) e h t = boxK P ty (cellsOf? (ev e x)) e h t := by simp only [opK, X, ev_st, boxK, allocK] <;> rfl
theorem opK_build {zero : List Value} {ps : List (Nat × Nat × Opd)} : opK P (.build zero ps) e h t = buildK P (fillA (zero.map .val) (ps.map fun p => (p.1, p.2.1, ev e p.2.2))) e h t := by simp only [opK, X, ev_st, buildK] <;> rfl
theorem opK_bslice {ty : TypeId} {len sz : Nat} {zero : List Value} {ps : List (Nat × Opd)} : opK P (.bslice ty len sz zero ps) e h t = bsliceK P ty len (fillA ((List.replicate len (zero.map AV.val)).flatten) (ps.map fun p => (p.1 * sz, sz, ev e p.2))) e h t := by simp only [opK, X, ev_st, bsliceK, rowK] <;> rfl
theorem opK_fadr {off : Nat} {x : Opd} : opK P (.fadr off x) e h t = fadrK P off (ev e x) e h t := by simp only [opK, X, ev_st, fadrK] <;> rfl
theorem opK_field {off n : Nat} {ag : Bool} {x : Opd} : opK P (.field off n ag x) e h t = fieldK P off n ag (ev e x) e h t := by simp only [opK, X, ev_st, fieldK] <;> rfl
theorem opK_iadr {sz : Nat} {x i : Opd} : opK P (.iadr sz x i) e h t = iadrK P sz (ev e x) (ev e i) e h t := by simp only [opK, X, ev_st, iadrK] <;> rfl
theorem opK_iadrA {len sz : Nat} {x i : Opd} : opK P (.iadrA len sz x i) e h t = iadrAK P len sz (ev e x) (ev e i) e h t := by simp only [opK, X, ev_st, iadrAK] <;> rfl
theorem opK_idx {x i : Opd} : opK P (.idx x i) e h t = idxK P (ev e x) (ev e i) e h t := by simp only [opK, X, ev_st, idxK] <;> rfl
theorem opK_sl {sz : Nat} {x : Opd} {lo hi mx : Option Opd} : opK P (.sl sz x lo hi mx) e h t = slK P sz (ev e x) (lo.map (ev e)) (hi.map (ev e)) (mx.map (ev e)) e h t := by simp only [opK, X, ev_fun, slK] <;> rfl
theorem opK_sls {x : Opd} {lo hi : Option Opd} : opK P (.sls x lo hi) e h t = slsK P (ev e x) (lo.map (ev e)) (hi.map (ev e)) e h t := by simp only [opK, X, ev_fun, slsK] <;> rfl
theorem opK_mks {ty sz : Nat} {zero : List Value} {x y : Opd} : opK P (.mks ty sz zero x y) e h t = mksK P ty (zero.map .val) (ev e x) (ev e y) e h t := by simp only [opK, X, ev_st, mksK, rowK] <;> rfl
theorem opK_app {ty : TypeId} {sz : Nat} {x y : Opd} : opK P (.app ty sz x y) e h t = appK P ty sz (ev e x) (ev e y) e h t := by simp only [opK, X, ev_st, appK] <;> rfl
theorem opK_len {x : Opd} {str : Bool} : opK P (.len x str) e h t = lenK P (ev e x) str e h t := by simp only [opK, X, ev_st, lenK] <;> rfl
theorem opK_mm {b : Bool} {x y : Opd} : opK P (.mm b x y) e h t = mmK P b (ev e x) (ev e y) e h t := by simp only [opK, X, ev_st, mmK] <;> rfl
theorem opK_ext {i : Nat} {x : Opd} : opK P (.ext i x) e h t = extK P i (ev e x) e h t := by simp only [opK, X, ev_st, extK] <;> rfl
theorem opK_nilc {x : Opd} : opK P (.nilc x) e h t = nilcK P (ev e x) e h t := by simp only [opK, X, ev_st, nilcK] <;> rfl
theorem opK_call {f : FuncId} {args : List Opd} : opK P (.call f args) e h t = callK P f (args.map (ev e)) e h t := by simp only [opK, X, ev_fun, callK] <;> rfl
theorem opK_callv {x : Opd} {args : List Opd} : opK P (.callv x args) e h t = callvK P (ev e x) (args.map (ev e)) e h t := by simp only [opK, X, ev_fun, callvK, callK] <;> rfl
theorem opK_mkf {f : FuncId} {caps : List Opd} : opK P (.mkf f caps) e h t = on P t e h (.fn f (caps.map (ev e))) := by simp only [opK, X, ev_fun] <;> rfl

theorem opK_copy {sz : Nat} {x y : Opd} : opK P (.copy sz x y) e h t = copyK P sz (ev e x) (ev e y) e h t := by simp only [opK, X, ev_st, copyK] <;> rfl
theorem opK_mkmap : opK P .mkmap e h t = mkmapK P e h t := rfl
theorem opK_mget {k : Nat} {ok : Bool} {z : Value} {x i : Opd} : opK P (.mget k ok z x i) e h t = mgetK P k ok z (ev e x) (ints? (ev e i)) e h t := by simp only [opK, X, ev_st, mgetK] <;> rfl
theorem opK_mset {k : Nat} {x i v : Opd} : opK P (.mset k x i v) e h t = msetK P k (ev e x) (ints? (ev e i)) (ev e v) e h t := by simp only [opK, X, ev_st, msetK] <;> rfl

/-! ### what they come to -/
theorem pickK_t {a b : AV} : pickK P (.val (.bool true)) a b e h t = on P t e h a := by simp [pickK]
theorem pickK_f {a b : AV} : pickK P (.val (.bool false)) a b e h t = on P t e h b := by simp [pickK]
theorem pickK_not {c : Bool} {a b : AV} : pickK P (.val (.bool (!c))) a b e h t = pickK P (.val (.bool c)) b a e h t := by cases c <;> simp [pickK]
theorem pickK_or {c d : Bool} : pickK P (.val (.bool c)) (.val (.bool true)) (.val (.bool d)) e h t = on P t e h (.val (.bool (c || d))) := by cases c <;> simp [pickK]
theorem pickK_and {c d : Bool} : pickK P (.val (.bool c)) (.val (.bool d)) (.val (.bool false)) e h t = on P t e h (.val (.bool (c && d))) := by cases c <;> simp [pickK]
section
variable {k : IntKind} {a b : Int}
theorem binK_add : binK P .add (.val (.int k a)) (.val (.int k b)) e h t = on P t e h (.val (.int k (k.wrap (a + b)))) := by simp [binK, px_bin, ibin]
theorem binK_sub : binK P .sub (.val (.int k a)) (.val (.int k b)) e h t = on P t e h (.val (.int k (k.wrap (a - b)))) := by simp [binK, px_bin, ibin]
theorem binK_mul : binK P .mul (.val (.int k a)) (.val (.int k b)) e h t = on P t e h (.val (.int k (k.wrap (a * b)))) := by simp [binK, px_bin, ibin]
theorem binK_quo : binK P .quo (.val (.int k a)) (.val (.int k b)) e h t = Need (b ≠ 0) (on P t e h (.val (.int k (k.wrap (a.tdiv b))))) := by simp [binK, px_bin, ibin, Need]
theorem binK_rem : binK P .rem (.val (.int k a)) (.val (.int k b)) e h t = Need (b ≠ 0) (on P t e h (.val (.int k (a.tmod b)))) := by simp [binK, px_bin, ibin, Need]
theorem binK_xor : binK P .xor (.val (.int k a)) (.val (.int k b)) e h t = on P t e h (.val (.int k (Go.bits .xor k a b))) := by simp [binK, px_bin, ibin]
theorem binK_and : binK P .and (.val (.int k a)) (.val (.int k b)) e h t = on P t e h (.val (.int k (Go.bits .and k a b))) := by simp [binK, px_bin, ibin]
theorem binK_or : binK P .or (.val (.int k a)) (.val (.int k b)) e h t = on P t e h (.val (.int k (Go.bits .or k a b))) := by simp [binK, px_bin, ibin]
theorem binK_shl {k' : IntKind} : binK P .shl (.val (.int k a)) (.val (.int k' b)) e h t = Need (0 ≤ b) (on P t e h (.val (.int k (k.wrap (a * 2 ^ min b.toNat k.bits))))) := rfl
theorem binK_shr {k' : IntKind} : binK P .shr (.val (.int k a)) (.val (.int k' b)) e h t = Need (0 ≤ b) (on P t e h (.val (.int k (a.fdiv (2 ^ min b.toNat k.bits))))) := rfl
theorem binK_eql : binK P .eql (.val (.int k a)) (.val (.int k b)) e h t = on P t e h (.val (.bool (decide (a = b)))) := by simp [binK, px_bin, ibin]
theorem binK_neq : binK P .neq (.val (.int k a)) (.val (.int k b)) e h t = on P t e h (.val (.bool (!decide (a = b)))) := by simp [binK, px_bin, ibin]
theorem binK_lss : binK P .lss (.val (.int k a)) (.val (.int k b)) e h t = on P t e h (.val (.bool (decide (a < b)))) := by simp [binK, px_bin, ibin]
theorem binK_leq : binK P .leq (.val (.int k a)) (.val (.int k b)) e h t = on P t e h (.val (.bool (decide (a ≤ b)))) := by simp [binK, px_bin, ibin]
theorem binK_gtr : binK P .gtr (.val (.int k a)) (.val (.int k b)) e h t = on P t e h (.val (.bool (decide (b < a)))) := by simp [binK, px_bin, ibin]
theorem binK_geq : binK P .geq (.val (.int k a)) (.val (.int k b)) e h t = on P t e h (.val (.bool (decide (b ≤ a)))) := by simp [binK, px_bin, ibin]
end
section
variable {a b : ByteArray}
theorem binK_sadd : binK P .add (.val (.string a)) (.val (.string b)) e h t = Need (a.size + b.size ≤ 9223372036854775807) (on P t e h (.val (.string (a ++ b)))) := by simp [binK, px_bin, sbin, Need]
theorem binK_seql : binK P .eql (.val (.string a)) (.val (.string b)) e h t = on P t e h (.val (.bool (decide (a = b)))) := by simp [binK, px_bin, sbin]
theorem binK_sneq : binK P .neq (.val (.string a)) (.val (.string b)) e h t = on P t e h (.val (.bool (!decide (a = b)))) := by simp [binK, px_bin, sbin]
theorem binK_slss : binK P .lss (.val (.string a)) (.val (.string b)) e h t = on P t e h (.val (.bool (Op.bytesLess a.toList b.toList))) := by simp [binK, px_bin, sbin]
theorem binK_sgtr : binK P .gtr (.val (.string a)) (.val (.string b)) e h t = on P t e h (.val (.bool (!Op.bytesLess a.toList b.toList && !decide (a = b)))) := by simp [binK, px_bin, sbin]
end
theorem bbinK_eql {a b : Bool} : bbinK P .eql (.val (.bool a)) (.val (.bool b)) e h t = on P t e h (.val (.bool (a == b))) := rfl
theorem bbinK_neq {a b : Bool} : bbinK P .neq (.val (.bool a)) (.val (.bool b)) e h t = on P t e h (.val (.bool (!(a == b)))) := rfl
theorem eqsK_t {k : Nat} {a b : List Int} : eqsK P k true (some a) (some b) e h t = Need (a.length = k) (Need (b.length = k) (on P t e h (.val (.bool (!decide (a = b)))))) := by simp [eqsK, Need]
theorem eqsK_f {k : Nat} {a b : List Int} : eqsK P k false (some a) (some b) e h t = Need (a.length = k) (Need (b.length = k) (on P t e h (.val (.bool (decide (a = b)))))) := by simp [eqsK, Need]
theorem ints_nil : ints? (.agg []) = some [] := rfl
theorem ints_cons {n : Int} {l : List AV} : ints? (.agg (.val (.int .i64 n) :: l)) = (ints? (.agg l)).map (n :: ·) := by
  simp only [ints?, List.mapM_cons, intOf?]
  cases l.mapM intOf? <;> rfl
theorem map_some_cons {n : Int} {l : List Int} : (some l).map (n :: ·) = some (n :: l) := rfl
theorem unK_not {b : Bool} : unK P .not (.val (.bool b)) e h t = on P t e h (.val (.bool !b)) := rfl
theorem unK_neg {k : IntKind} {n : Int} : unK P .neg (.val (.int k n)) e h t = on P t e h (.val (.int k (k.wrap (0 - n)))) := rfl
theorem cvtK_int {k k' : IntKind} {n : Int} : cvtK P k (.val (.int k' n)) e h t = on P t e h (.val (.int k (k.wrap n))) := rfl
theorem s2sK_s {s : ByteArray} : s2sK P (.val (.string s)) e h t = on P t e h (.val (.string s)) := rfl
theorem loadK_ptr {n : Nat} {ag : Bool} {cells : List AV} : loadK P n ag (.ptr cells) e h t = Need (n ≤ cells.length) (on P t e h (loadC n ag cells 0)) := rfl
theorem loadK_adr {n : Nat} {ag : Bool} {b o : Nat} : loadK P n ag (.adr b o) e h t = loadR P n ag o (h b) e h t := rfl
theorem loadR_row {n : Nat} {ag : Bool} {o : Nat} {ty : TypeId} {cells : List AV} : loadR P n ag o (some (.row ty cells)) e h t = Need (o + n ≤ cells.length) (on P t e h (loadC n ag cells o)) := rfl
theorem loadC_f {n : Nat} {cells : List AV} {o : Nat} : loadC n false cells o = cells.getD o .junk := rfl
theorem loadC_t {n : Nat} {cells : List AV} {o : Nat} : loadC n true cells o = .agg ((cells.drop o).take n) := rfl
theorem storeK_adr {n b o : Nat} {cs : List AV} : storeK P n (.adr b o) (some cs) e h t = storeR P n b o cs (h b) e h t := rfl
theorem storeR_row {n b o : Nat} {cs : List AV} {ty : TypeId} {cells : List AV} : storeR P n b o cs (some (.row ty cells)) e h t = Need (cs.length = n) (Need (cs.all oneC = true) (Need (o + n ≤ cells.length) (on P t e (h.set b (.row ty (splice cells o cs))) .junk))) := rfl
theorem splice_nil {l : List AV} {o : Nat} : splice l o [] = l := by cases l <;> rfl
theorem splice_cons {l : List AV} {o : Nat} {c : AV} {cs : List AV} : splice l o (c :: cs) = splice (l.set o c) (o + 1) cs := rfl
theorem boxK_some {ty : TypeId} {cs : List AV} : boxK P ty (some cs) e h t = allocK P ty cs e h t := rfl
theorem buildK_some {cs : List AV} : buildK P (some cs) e h t = on P t e h (.agg cs) := rfl
theorem bsliceK_some {ty : TypeId} {n : Nat} {cs : List AV} : bsliceK P ty n (some cs) e h t = rowK P ty n cs e h t := rfl
theorem fillA_nil {l : List AV} : fillA l [] = some l := by cases l <;> rfl
def fillK (l : List AV) (o n : Nat) (cs : Option (List AV)) (r : List (Nat × Nat × AV)) : Option (List AV) := match cs with
  | some cs => if cs.length = n ∧ o + n ≤ l.length then fillA (splice l o cs) r else none
  | none => none
theorem fillA_cons {l : List AV} {o n : Nat} {x : AV} {r : List (Nat × Nat × AV)} : fillA l ((o, n, x) :: r) = fillK l o n (cellsOf? x) r := by simp only [fillA, fillK] <;> rfl
theorem fillK_some {l : List AV} {o n : Nat} {cs : List AV} {r : List (Nat × Nat × AV)} : fillK l o n (some cs) r = if cs.length = n ∧ o + n ≤ l.length then fillA (splice l o cs) r else none := rfl
theorem fadrK_ptr {off : Nat} {cells : List AV} : fadrK P off (.ptr cells) e h t = on P t e h (.ptr (cells.drop off)) := rfl
theorem fadrK_adr {off b o : Nat} : fadrK P off (.adr b o) e h t = on P t e h (.adr b (o + off)) := rfl
theorem fieldK_agg {off n : Nat} {ag : Bool} {xs : List AV} : fieldK P off n ag (.agg xs) e h t = Need (off + n ≤ xs.length) (on P t e h (loadC n ag xs off)) := rfl
theorem iadrK_imm {sz : Nat} {g : Bool} {els : List (List AV)} {k : IntKind} {i : Int} : iadrK P sz (.imm g els) (.val (.int k i)) e h t = Need (0 ≤ i) (Need (i < els.length) (Need ((els.getD i.toNat []).length = sz) (on P t e h (.ptr (els.getD i.toNat []))))) := rfl
theorem iadrK_own {sz b n : Nat} {k : IntKind} {i : Int} : iadrK P sz (.own b n) (.val (.int k i)) e h t = Need (0 ≤ i) (Need (i < n) (on P t e h (.adr b (i.toNat * sz)))) := rfl
theorem iadrAK_adr {len sz b o : Nat} {k : IntKind} {i : Int} : iadrAK P len sz (.adr b o) (.val (.int k i)) e h t = Need (0 ≤ i) (Need (i < len) (on P t e h (.adr b (o + i.toNat * sz)))) := rfl
theorem idxK_s {s : ByteArray} {k : IntKind} {i : Int} : idxK P (.val (.string s)) (.val (.int k i)) e h t = Need (0 ≤ i) (Need (i < s.size) (on P t e h (.val (.int .u8 (s.data.toList.getD i.toNat 0).toNat)))) := rfl
section
variable {sz : Nat} {g : Bool} {els : List (List AV)} {k k' k'' : IntKind} {i j m : Int}
theorem slK_imm_lo : slK P sz (.imm g els) (some (.val (.int k i))) none none e h t = Need (0 ≤ i) (Need (i ≤ els.length) (Need (∀ x ∈ els, x.length = sz) (on P t e h (.imm false (els.drop i.toNat))))) := by
  simp only [slK, px_sl, optI, Need, Int.toNat_natCast, List.take_length]
  apply propext
  constructor
  · rintro ⟨a, b, c, d, f⟩; exact ⟨a, b, d, f⟩
  · rintro ⟨a, b, c, d⟩; exact ⟨a, b, Int.le_refl _, c, d⟩
theorem slK_imm_hi : slK P sz (.imm g els) none (some (.val (.int k j))) none e h t = Need (0 ≤ j) (Need (j ≤ els.length) (Need (∀ x ∈ els, x.length = sz) (on P t e h (.imm false (els.take j.toNat))))) := by
  simp only [slK, px_sl, optI, Need, Int.toNat_zero, List.drop_zero, Int.le_refl, true_and]
theorem slK_imm_both : slK P sz (.imm g els) (some (.val (.int k i))) (some (.val (.int k' j))) none e h t = Need (0 ≤ i) (Need (i ≤ j) (Need (j ≤ els.length) (Need (∀ x ∈ els, x.length = sz) (on P t e h (.imm false ((els.take j.toNat).drop i.toNat)))))) := rfl
theorem slK_imm_all : slK P sz (.imm g els) none none none e h t = Need (∀ x ∈ els, x.length = sz) (on P t e h (.imm false els)) := by
  simp [slK, px_sl, optI, Need]
theorem slK_imm_three : slK P sz (.imm g els) (some (.val (.int k i))) (some (.val (.int k' j))) (some (.val (.int k'' m))) e h t = Need (0 ≤ i) (Need (i ≤ j) (Need (j ≤ els.length) (Need (m = j) (Need (∀ x ∈ els, x.length = sz) (on P t e h (.imm true ((els.take j.toNat).drop i.toNat))))))) := by
  simp [slK, px_sl, optI, Need]
theorem slK_own_hi {b n : Nat} : slK P sz (.own b n) none (some (.val (.int k j))) none e h t = Need (0 ≤ j) (Need (j ≤ n) (on P t e h (.own b j.toNat))) := by
  simp [slK, px_sl, optI, Need]
theorem slK_own_all {b n : Nat} : slK P sz (.own b n) none none none e h t = on P t e h (.own b n) := by
  simp [slK, px_sl, optI]
theorem slK_own_lo {b n : Nat} (hj : 0 < j) : slK P sz (.own b n) (some (.val (.int k j))) none none e h t = Need (j ≤ n) (on P t e h (.sub b (j.toNat * sz) (n - j.toNat))) := by
  have : j ≠ 0 := by omega
  have h0 : 0 ≤ j := by omega
  simp [slK, px_sl, optI, Need, this, h0]
end
section
variable {s : ByteArray} {k k' : IntKind} {i j : Int}
theorem slsK_lo : slsK P (.val (.string s)) (some (.val (.int k i))) none e h t = Need (0 ≤ i) (Need (i ≤ s.size) (on P t e h (.val (.string (s.extract i.toNat s.size))))) := by
  simp [slsK, px_sls, optI, Need]
theorem slsK_hi : slsK P (.val (.string s)) none (some (.val (.int k j))) e h t = Need (0 ≤ j) (Need (j ≤ s.size) (on P t e h (.val (.string (s.extract 0 j.toNat))))) := by
  simp [slsK, px_sls, optI, Need]
theorem slsK_both : slsK P (.val (.string s)) (some (.val (.int k i))) (some (.val (.int k' j))) e h t = Need (0 ≤ i) (Need (i ≤ j) (Need (j ≤ s.size) (on P t e h (.val (.string (s.extract i.toNat j.toNat)))))) := rfl
end
theorem mksK_int {ty : TypeId} {zero : List AV} {k k' : IntKind} {n m : Int} : mksK P ty zero (.val (.int k n)) (.val (.int k' m)) e h t = Need (n = m) (Need (0 ≤ n) (Need (n ≤ 4294967296) (rowK P ty n.toNat ((List.replicate n.toNat zero).flatten) e h t))) := rfl
section
variable {ty : TypeId} {sz m n b : Nat} {x : AV} {new cells : List AV} {g : Bool} {els : List (List AV)}
theorem appK_own : appK P ty sz x (.own b m) e h t = appS P ty sz x m (h b) e h t := rfl
theorem appS_row {ty' : TypeId} : appS P ty sz x m (some (.row ty' cells)) e h t = Need (m * sz ≤ cells.length) (appN P ty sz m x (cells.take (m * sz)) e h t) := rfl
theorem appK_imm : appK P ty sz x (.imm g els) e h t = Need (∀ e ∈ els, e.length = sz) (appN P ty sz els.length x els.flatten e h t) := rfl
theorem appK_nil {c : Nat} : appK P ty sz x (.val (.slice none 0 c)) e h t = appN P ty sz 0 x [] e h t := rfl
theorem appN_nil0 {m : Nat} : appN P ty sz m (.val (.slice none 0 0)) new e h t = ((m = 0 → on P t e h (.val (.slice none 0 0))) ∧ (0 < m → m ≤ 4294967296 ∧ rowK P ty m new e h t)) := rfl
theorem appN_nil (hm : 0 < m) : appN P ty sz m (.val (.slice none 0 0)) new e h t = Need (m ≤ 4294967296) (rowK P ty m new e h t) := by
  rw [appN_nil0]; exact propext ⟨fun h => h.2 hm, fun h => ⟨fun e => by omega, fun _ => h⟩⟩
theorem appN_own : appN P ty sz m (.own b n) new e h t = appO P ty sz m b n new (h b) e h t := rfl
theorem appO_row {ty' : TypeId} : appO P ty sz m b n new (some (.row ty' cells)) e h t = Need (ty' = ty) (Need (n * sz ≤ cells.length) (Need (n + m ≤ 4294967296) (Need (new.all oneC = true) (grownK P ty b (n + m) (cells.take (n * sz) ++ new) e h t)))) := by
  simp only [appO, Need, List.all_eq_true]
theorem appN_tight : appN P ty sz m (.imm true els) new e h t = Need (0 < m) (Need (∀ e ∈ els, e.length = sz) (Need (els.length + m ≤ 4294967296) (rowK P ty (els.length + m) (els.flatten ++ new) e h t))) := rfl
end
theorem lenK_imm {g : Bool} {els : List (List AV)} : lenK P (.imm g els) false e h t = on P t e h (.val (.int .i64 els.length)) := rfl
theorem lenK_own {b n : Nat} : lenK P (.own b n) false e h t = on P t e h (.val (.int .i64 n)) := rfl
theorem lenK_val {a : Option Addr} {n c : Nat} : lenK P (.val (.slice a n c)) false e h t = on P t e h (.val (.int .i64 n)) := rfl
theorem lenK_s {s : ByteArray} : lenK P (.val (.string s)) true e h t = on P t e h (.val (.int .i64 s.size)) := rfl
theorem mmK_max {k k' : IntKind} {a b : Int} : mmK P true (.val (.int k a)) (.val (.int k' b)) e h t = on P t e h (.val (.int k (max a b))) := by
  have : (if a < b then b else a) = max a b := by split <;> omega
  rw [← this]; rfl
theorem mmK_min {k k' : IntKind} {a b : Int} : mmK P false (.val (.int k a)) (.val (.int k' b)) e h t = on P t e h (.val (.int k (min a b))) := by
  have : (if b < a then b else a) = min a b := by split <;> omega
  rw [← this]; rfl
theorem extK_tup {i : Nat} {xs : List AV} : extK P i (.tup xs) e h t = Need (i < xs.length) (on P t e h (xs.getD i .junk)) := rfl
theorem nilcK_ptr {cells : List AV} : nilcK P (.ptr cells) e h t = on P t e h (.ptr cells) := rfl
theorem nilcK_adr {b o : Nat} : nilcK P (.adr b o) e h t = on P t e h (.adr b o) := rfl
theorem callvK_fn {f : FuncId} {caps args : List AV} : callvK P (.fn f caps) args e h t = Need (okF P f = true) (callK P f (args ++ caps) e h t) := rfl

theorem mgetK_mp {k b : Nat} {ok : Bool} {z : Value} {ks : List Int} : mgetK P k ok z (.mp b) (some ks) e h t = mgetR P k ok z ks (h b) e h t := rfl
theorem mgetR_map {k : Nat} {ok : Bool} {z : Value} {ks : List Int} {ents : List (List Int × AV)} : mgetR P k ok z ks (some (.map ents)) e h t = Need (ks.length = k) (Need (∀ e ∈ ents, e.1.length = k) (on P t e h (mgot ok z (mfind ents ks)))) := rfl
theorem msetK_mp {k b : Nat} {v : AV} {ks : List Int} : msetK P k (.mp b) (some ks) v e h t = msetR P k b ks v (h b) e h t := rfl
theorem msetR_map {k b : Nat} {v : AV} {ks : List Int} {ents : List (List Int × AV)} : msetR P k b ks v (some (.map ents)) e h t = Need (ks.length = k) (Need (∀ e ∈ ents, e.1.length = k) (on P t e (h.set b (.map (mput ents ks v))) .junk)) := rfl
theorem mkmapK.in (hb : ∀ b, h b = none → on P t e (h.set b (.map [])) (.mp b)) : mkmapK P e h t := hb
theorem cellsOf_mp {b : Nat} : cellsOf? (.mp b) = some [.mp b] := rfl
theorem oneC_mp {b : Nat} : oneC (.mp b) = true := rfl

theorem copyR_row {sz b o n m : Nat} {new cells : List AV} {ty : TypeId} : copyR P sz b o n m new (some (.row ty cells)) e h t = Need (o + n * sz ≤ cells.length) (Need (new.all oneC = true) (on P t e (h.set b (.row ty (splice cells o (new.take (min m n * sz))))) (.val (.int .i64 (min m n : Nat))))) := rfl
theorem allocK.in {ty : TypeId} {cells : List AV} (hb : ∀ b, h b = none → on P t e (h.set b (.row ty cells)) (.adr b 0)) : allocK P ty cells e h t := hb
theorem rowK.in {ty : TypeId} {n : Nat} {cells : List AV} (hb : ∀ b, h b = none → on P t e (h.set b (.row ty cells)) (.own b n)) : rowK P ty n cells e h t := hb
/-- After growing, the old row is forgotten. -/
theorem grownK.in {ty : TypeId} {b n : Nat} {old : Blk} {cells : List AV} (h0 : h b = none) (hb : ∀ b, h b = none → on P t e (h.set b (.row ty cells)) (.own b n)) : grownK P ty b n cells e (h.set b old) t := by
  intro b' hb'
  have hn : h b' = none := by
    rcases hb' with rfl | hb'
    · exact h0
    · exact (Heap.set_none.1 hb').2
  refine go_hmono ?_ (hb b' hn)
  exact Heap.set_mono (Heap.le_set h0 (Heap.le_refl h)) b' _
/-- After growing, the old row, and all but h0, is forgotten. -/
theorem grownK.to {ty : TypeId} {b n : Nat} {h0 : Heap} {cells : List AV} (hl : h0.le h) (hn : h0 b = none) (hb : ∀ b, h0 b = none → on P t e (h0.set b (.row ty cells)) (.own b n)) : grownK P ty b n cells e h t := by
  intro b' hb'
  have hn' : h0 b' = none := by
    rcases hb' with rfl | hb'
    · exact hn
    · exact Heap.le_none hl hb'
  exact go_hmono (Heap.set_mono hl b' _) (hb b' hn')
theorem rowK.to {ty : TypeId} {n : Nat} {h0 : Heap} {cells : List AV} (hl : h0.le h) (hb : ∀ b, h0 b = none → on P t e (h0.set b (.row ty cells)) (.own b n)) : rowK P ty n cells e h t := fun b hn =>
  go_hmono (Heap.set_mono hl b _) (hb b (Heap.le_none hl hn))
theorem callK.in {f : FuncId} {args : List AV} (hc : CALL P f args h fun v h' => on P t e h' v) : callK P f args e h t := hc

/-- Of what a cell is made: for the usual values. -/
theorem cellsOf_agg {xs : List AV} : cellsOf? (.agg xs) = some xs := rfl
theorem cellsOf_int {k : IntKind} {n : Int} : cellsOf? (.val (.int k n)) = some [.val (.int k n)] := rfl
theorem cellsOf_bool {b : Bool} : cellsOf? (.val (.bool b)) = some [.val (.bool b)] := rfl
theorem cellsOf_string {s : ByteArray} : cellsOf? (.val (.string s)) = some [.val (.string s)] := rfl
theorem cellsOf_slice {a : Option Addr} {n c : Nat} : cellsOf? (.val (.slice a n c)) = some [.val (.slice a n c)] := rfl
theorem cellsOf_imm {g : Bool} {els : List (List AV)} : cellsOf? (.imm g els) = some [.imm g els] := rfl
theorem cellsOf_own {b n : Nat} : cellsOf? (.own b n) = some [.own b n] := rfl
theorem cellsOf_adr {b o : Nat} : cellsOf? (.adr b o) = some [.adr b o] := rfl
theorem cellsOf_ptr {cs : List AV} : cellsOf? (.ptr cs) = some [.ptr cs] := rfl
theorem cellsOf_fn {f : FuncId} {cs : List AV} : cellsOf? (.fn f cs) = some [.fn f cs] := rfl
theorem oneC_int {k : IntKind} {n : Int} : oneC (.val (.int k n)) = true := rfl
theorem oneC_bool {b : Bool} : oneC (.val (.bool b)) = true := rfl
theorem oneC_string {s : ByteArray} : oneC (.val (.string s)) = true := rfl
theorem oneC_slice {a : Option Addr} {n c : Nat} : oneC (.val (.slice a n c)) = true := rfl
theorem oneC_imm {g : Bool} {els : List (List AV)} : oneC (.imm g els) = true := rfl
theorem oneC_own {b n : Nat} : oneC (.own b n) = true := rfl
theorem oneC_adr {b o : Nat} : oneC (.adr b o) = true := rfl
theorem oneC_ptr {cs : List AV} : oneC (.ptr cs) = true := rfl
theorem oneC_fn {f : FuncId} {cs : List AV} : oneC (.fn f cs) = true := rfl

theorem ev_t {i : Nat} : ev e (.t i) = e i := rfl
theorem ev_c {v : Value} : ev e (.c v) = .val v := rfl
theorem ev_f {f : FuncId} : ev e (.f f) = .fn f [] := rfl

theorem envOf_zero {x : AV} {l : List AV} : envOf (x :: l) 0 = x := rfl
theorem envOf_succ {x : AV} {l : List AV} {i : Nat} : envOf (x :: l) (i + 1) = envOf l i := rfl

theorem dec_true {d : Decidable True} : @decide True d = true := decide_eq_true trivial
theorem dec_false {d : Decidable False} : @decide False d = false := decide_eq_false id
/-! ### whole numbers and lists -/
theorem wrap_in {n : Int} (h1 : -9223372036854775808 ≤ n) (h2 : n ≤ 9223372036854775807) : IntKind.i64.wrap n = n := IntWalk.i64_in n ⟨h1, h2⟩
theorem wrap_byte {b : UInt8} : IntKind.i64.wrap (b.toNat : Int) = (b.toNat : Int) := wrap_in (by omega) (by have := b.toNat_lt; omega)
theorem toNat_add {n : Nat} {i : Int} (hi : 0 ≤ i) : (i + n).toNat = i.toNat + n := by omega
theorem toNat_sub_one {k : Nat} : ((k : Int) - 1).toNat = k - 1 := by omega
theorem toNat_add_one {k : Nat} : ((k : Int) + 1).toNat = k + 1 := by omega
theorem wrap_tdiv {x y : Int} (h : -9223372036854775808 ≤ x ∧ x ≤ 9223372036854775807 ∧ 1 ≤ y) : IntKind.i64.wrap (x.tdiv y) = x.tdiv y := IntWalk.i64_quo' x y h
theorem tmod_nn {a b : Int} (h : 0 ≤ a) : a.tmod b = a % b := Int.tmod_eq_emod_of_nonneg h
theorem tdiv_nn {a b : Int} (h : 0 ≤ a) : a.tdiv b = a / b := Int.tdiv_eq_ediv_of_nonneg h
theorem take_map_len {α β : Type} {l : List α} {f : α → β} : (l.map f).take l.length = l.map f := by rw [← List.length_map (as := l) f, List.take_length]
theorem getD_lt {α : Type} {l : List α} {i : Nat} {d : α} (hi : i < l.length) : l.getD i d = l[i] := by simp [List.getD, List.getElem?_eq_getElem hi]
theorem getD_map {α β : Type} {l : List α} {f : α → β} {i : Nat} {d : β} (hi : i < l.length) : (l.map f).getD i d = f l[i] := by simp [List.getD, List.getElem?_eq_getElem hi]
theorem all_map_len {α : Type} {l : List α} {f : α → List AV} {n : Nat} (hf : ∀ x, (f x).length = n) : ∀ x ∈ l.map f, x.length = n := by
  intro x hx; obtain ⟨y, -, rfl⟩ := List.mem_map.1 hx; exact hf y

end Go.Ab
