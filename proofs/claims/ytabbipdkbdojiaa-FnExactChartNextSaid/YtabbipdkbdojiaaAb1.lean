/- The abstract layer, part 1: operations over abstract values, and how a loaded program's operations are turned into them. Definitions alone. -/
import Derived.Test.YtabbipdkbdojiaaAb0
namespace Go.Ab
open Go Go.RowKit

inductive IOp where
  | mv (x : Opd)
  | pick (c a b : Opd)
  | bin (op : BinOp) (x y : Opd)
  | bbin (op : BinOp) (x y : Opd)
  | eqs (k : Nat) (neg : Bool) (x y : Opd)
  | un (op : UnOp) (x : Opd)
  | cvt (k : IntKind) (x : Opd)
  | b2s (x : Opd)
  | s2s (x : Opd)
  | load (n : Nat) (ag : Bool) (x : Opd)
  | store (n : Nat) (x v : Opd)
  | alloc (e : TypeId) (zero : List Value)
  | box (e : TypeId) (x : Opd)
  | build (zero : List Value) (parts : List (Nat × Nat × Opd))
  | bslice (e : TypeId) (len sz : Nat) (zero : List Value) (parts : List (Nat × Opd))
  | fadr (off : Nat) (x : Opd)
  | field (off n : Nat) (ag : Bool) (x : Opd)
  | iadr (sz : Nat) (x i : Opd)
  | iadrA (len sz : Nat) (x i : Opd)
  | idx (x i : Opd)
  | sl (sz : Nat) (x : Opd) (lo hi mx : Option Opd)
  | sls (x : Opd) (lo hi : Option Opd)
  | mks (e sz : Nat) (zero : List Value) (x y : Opd)
  | app (e : TypeId) (sz : Nat) (x y : Opd)
  | len (x : Opd) (str : Bool)
  | mm (isMax : Bool) (x y : Opd)
  | ext (i : Nat) (x : Opd)
  | nilc (x : Opd)
  | call (f : FuncId) (args : List Opd)
  | callv (x : Opd) (args : List Opd)
  | mkf (f : FuncId) (caps : List Opd)
  | mkmap
  | mget (k : Nat) (ok : Bool) (zero : Value) (x i : Opd)
  | mset (k : Nat) (x i v : Opd)
  | copy (sz : Nat) (x y : Opd)
  | bad

/-- An instruction: where its value goes, the operation, and under which slot's bool it is carried out. -/
structure Ins where
  d : Option Nat
  op : IOp
  g : Option (Nat × Bool) := none

def oneC : AV → Bool
  | .val v => v.oneCell'
  | .junk | .agg _ | .tup _ => false
  | _ => true
/-- The cells that a value takes up in memory. -/
def cellsOf? : AV → Option (List AV)
  | .agg xs => some xs
  | x => if oneC x then some [x] else none
def loadC (n : Nat) (ag : Bool) (cells : List AV) (o : Nat) : AV := if ag then .agg ((cells.drop o).take n) else cells.getD o .junk
def splice : List AV → Nat → List AV → List AV
  | l, _, [] => l
  | l, o, c :: cs => splice (l.set o c) (o + 1) cs
def fillA : List AV → List (Nat × Nat × AV) → Option (List AV)
  | l, [] => some l
  | l, (o, n, x) :: r => match cellsOf? x with
    | some cs => if cs.length = n ∧ o + n ≤ l.length then fillA (splice l o cs) r else none
    | none => none

def cmpOp : BinOp → Int → Int → Option Bool
  | .eql, a, b => some (decide (a = b))
  | .neq, a, b => some (!decide (a = b))
  | .lss, a, b => some (decide (a < b))
  | .leq, a, b => some (decide (a ≤ b))
  | .gtr, a, b => some (decide (b < a))
  | .geq, a, b => some (decide (b ≤ a))
  | _, _, _ => none
def ibin (op : BinOp) (k : IntKind) (a b : Int) (K : AV → Prop) : Prop :=
  match op with
  | .add => K (.val (.int k (k.wrap (a + b))))
  | .sub => K (.val (.int k (k.wrap (a - b))))
  | .mul => K (.val (.int k (k.wrap (a * b))))
  | .quo => b ≠ 0 ∧ K (.val (.int k (k.wrap (a.tdiv b))))
  | .rem => b ≠ 0 ∧ K (.val (.int k (a.tmod b)))
  | .xor => K (.val (.int k (Go.bits .xor k a b)))
  | .and => K (.val (.int k (Go.bits .and k a b)))
  | .or => K (.val (.int k (Go.bits .or k a b)))
  | .eql => K (.val (.bool (decide (a = b))))
  | .neq => K (.val (.bool (!decide (a = b))))
  | .lss => K (.val (.bool (decide (a < b))))
  | .leq => K (.val (.bool (decide (a ≤ b))))
  | .gtr => K (.val (.bool (decide (b < a))))
  | .geq => K (.val (.bool (decide (b ≤ a))))
  | _ => False
def sbin (op : BinOp) (a b : ByteArray) (K : AV → Prop) : Prop :=
  match op with
  | .add => a.size + b.size ≤ 9223372036854775807 ∧ K (.val (.string (a ++ b)))
  | .eql => K (.val (.bool (decide (a = b))))
  | .neq => K (.val (.bool (!decide (a = b))))
  | .lss => K (.val (.bool (Op.bytesLess a.toList b.toList)))
  | .gtr => K (.val (.bool (!Op.bytesLess a.toList b.toList && !decide (a = b))))
  | _ => False
def bbin (op : BinOp) (a b : Bool) (K : AV → Prop) : Prop :=
  match op with
  | .eql => K (.val (.bool (a == b)))
  | .neq => K (.val (.bool (!(a == b))))
  | _ => False
def px_bin (op : BinOp) (x y : AV) (K : AV → Prop) : Prop :=
  match x, y with
  | .val (.int k a), .val (.int k' b) => match op with
    | .shl => 0 ≤ b ∧ K (.val (.int k (k.wrap (a * 2 ^ min b.toNat k.bits))))
    | .shr => 0 ≤ b ∧ K (.val (.int k (a.fdiv (2 ^ min b.toNat k.bits))))
    | op => k = k' ∧ ibin op k a b K
  | .val (.string a), .val (.string b) => sbin op a b K
  | _, _ => False
/-- The whole numbers that a struct is made of. -/
def intOf? : AV → Option Int
  | .val (.int .i64 n) => some n
  | _ => none
def ints? : AV → Option (List Int)
  | .agg xs => xs.mapM intOf?
  | _ => none
def px_un (op : UnOp) (x : AV) (K : AV → Prop) : Prop :=
  match op, x with
  | .not, .val (.bool b) => K (.val (.bool !b))
  | .neg, .val (.int k n) => K (.val (.int k (k.wrap (0 - n))))
  | _, _ => False

/-- What a slice holds: how many elements, and their cells. -/
def src (h : Heap) (sz : Nat) (y : AV) (K : Nat → List AV → Prop) : Prop :=
  match y with
  | .imm _ els => (∀ e ∈ els, e.length = sz) ∧ K els.length els.flatten
  | .own b m => match h b with
    | some (.row _ cells) => m * sz ≤ cells.length ∧ K m (cells.take (m * sz))
    | _ => False
  | .val (.slice none 0 _) => K 0 []
  | _ => False

/-- Some elements put behind a slice. -/
def px_app (h : Heap) (e : TypeId) (sz m : Nat) (x : AV) (new : List AV) (K : AV → Heap → Prop) : Prop :=
  match x with
  | .val (.slice none 0 0) => (m = 0 → K (.val (.slice none 0 0)) h) ∧ (0 < m → m ≤ 4294967296 ∧ ∀ b, h b = none → K (.own b m) (h.set b (.row e new)))
  | .own b n => match h b with
    | some (.row e' cells) => e' = e ∧ n * sz ≤ cells.length ∧ n + m ≤ 4294967296 ∧ (∀ x ∈ new, oneC x = true) ∧ ∀ b', (b' = b ∨ h b' = none) → K (.own b' (n + m)) (h.set b' (.row e (cells.take (n * sz) ++ new)))
    | _ => False
  | .imm true els => 0 < m ∧ (∀ e ∈ els, e.length = sz) ∧ els.length + m ≤ 4294967296 ∧ ∀ b, h b = none → K (.own b (els.length + m)) (h.set b (.row e (els.flatten ++ new)))
  | _ => False

def optI : Option AV → Int → Option Int
  | none, d => some d
  | some (.val (.int _ n)), _ => some n
  | some _, _ => none

def px_sl (sz : Nat) (x : AV) (lo hi mx : Option AV) (K : AV → Prop) : Prop :=
  match x with
  | .imm _ els => match optI lo 0, optI hi els.length, mx with
    | some l, some h, none => 0 ≤ l ∧ l ≤ h ∧ h ≤ els.length ∧ (∀ e ∈ els, e.length = sz) ∧ K (.imm false ((els.take h.toNat).drop l.toNat))
    | some l, some h, some (.val (.int _ m)) => hi.isSome = true ∧ 0 ≤ l ∧ l ≤ h ∧ h ≤ els.length ∧ m = h ∧ (∀ e ∈ els, e.length = sz) ∧ K (.imm true ((els.take h.toNat).drop l.toNat))
    | _, _, _ => False
  | .own b n => match optI lo 0, optI hi n, mx with
    | some l, some h, none => 0 ≤ l ∧ l ≤ h ∧ h ≤ n ∧ K (if l = 0 then .own b h.toNat else .sub b (l.toNat * sz) (h.toNat - l.toNat))
    | _, _, _ => False
  | .val (.slice none 0 0) => match optI lo 0, optI hi 0, mx with
    | some l, some h, none => l = 0 ∧ h = 0 ∧ K (.val (.slice none 0 0))
    | _, _, _ => False
  | _ => False
def px_sls (x : AV) (lo hi : Option AV) (K : AV → Prop) : Prop :=
  match x with
  | .val (.string s) => match optI lo 0, optI hi s.size with
    | some l, some h => 0 ≤ l ∧ l ≤ h ∧ h ≤ s.size ∧ K (.val (.string (s.extract l.toNat h.toNat)))
    | _, _ => False
  | _ => False
def bytesA (s : ByteArray) : List AV := s.data.toList.map fun b => .val (.int .u8 b.toNat)

/-- What a call comes to, over abstract values. -/
def CALL (P : Program) (f : FuncId) (args : List AV) (h : Heap) (Q : AV → Heap → Prop) : Prop :=
  ∀ (F : Nat → Prop) (w : World) (vs : Array Value), HeapRel P F w h → (∀ b, F b → b < w.heap.size) → vs.size = args.length → (∀ (i : Nat) (x : AV), args[i]? = some x → V P F w x (vs.getD i undef)) →
    Calls P f vs w fun e w' => ∃ (F' : Nat → Prop) (r : AV) (v : Value) (h' : Heap), e = .returned v ∧ V P F' w' r v ∧ Q r h' ∧ Step F h w F' h' w' ∧ HeapRel P F' w' h' ∧ ∀ b, F' b → b < w'.heap.size

/-- A function with a body, entered by a call. -/
def okF (P : Program) (f : FuncId) : Bool := match P.funcs[f]? with
  | some fn => fn.body.isSome && fn.name != "runtime.NumGoroutine"
  | none => false

/-- A key of whole numbers. -/
def keyV (ks : List Int) : Value := .agg (ks.map (Value.int .i64)).toArray
def mfind : List (List Int × AV) → List Int → Option AV
  | [], _ => none
  | e :: r, ks => if e.1 = ks then some e.2 else mfind r ks
def mput : List (List Int × AV) → List Int → AV → List (List Int × AV)
  | [], ks, v => [(ks, v)]
  | e :: r, ks, v => if e.1 = ks then (e.1, v) :: r else e :: mput r ks v
def mgot (ok : Bool) (z : Value) : Option AV → AV
  | some v => if ok then .tup [v, .val (.bool true)] else v
  | none => if ok then .tup [.val z, .val (.bool false)] else .val z
/-- What an operation asks, and what it hands on. -/
def X (P : Program) (i : IOp) (s : St) (K : AV → Heap → Prop) : Prop :=
  match i with
  | .mv x => K (s.ev x) s.h
  | .pick c a b => match s.ev c with
    | .val (.bool t) => (t = true → K (s.ev a) s.h) ∧ (t = false → K (s.ev b) s.h)
    | _ => False
  | .bin op x y => px_bin op (s.ev x) (s.ev y) fun v => K v s.h
  | .bbin op x y => match s.ev x, s.ev y with
    | .val (.bool a), .val (.bool b) => bbin op a b fun v => K v s.h
    | _, _ => False
  | .eqs k neg x y => match ints? (s.ev x), ints? (s.ev y) with
    | some a, some b => a.length = k ∧ b.length = k ∧ K (.val (.bool (if neg then !decide (a = b) else decide (a = b)))) s.h
    | _, _ => False
  | .un op x => px_un op (s.ev x) fun v => K v s.h
  | .cvt k x => match s.ev x with
    | .val (.int _ n) => K (.val (.int k (k.wrap n))) s.h
    | _ => False
  | .b2s x => src s.h 1 (s.ev x) fun _ cells => ∃ t : ByteArray, cells = bytesA t ∧ K (.val (.string t)) s.h
  | .s2s x => match s.ev x with
    | .val (.string t) => K (.val (.string t)) s.h
    | _ => False
  | .load n ag x => match s.ev x with
    | .ptr cells => n ≤ cells.length ∧ K (loadC n ag cells 0) s.h
    | .adr b o => match s.h b with
      | some (.row _ cells) => o + n ≤ cells.length ∧ K (loadC n ag cells o) s.h
      | _ => False
    | _ => False
  | .store n x v => match s.ev x, cellsOf? (s.ev v) with
    | .adr b o, some cs => match s.h b with
      | some (.row e cells) => cs.length = n ∧ cs.all oneC = true ∧ o + n ≤ cells.length ∧ K .junk (s.h.set b (.row e (splice cells o cs)))
      | _ => False
    | _, _ => False
  | .alloc e zero => ∀ b, s.h b = none → K (.adr b 0) (s.h.set b (.row e (zero.map .val)))
  | .box e x => match cellsOf? (s.ev x) with
    | some cs => ∀ b, s.h b = none → K (.adr b 0) (s.h.set b (.row e cs))
    | none => False
  | .build zero parts => match fillA (zero.map .val) (parts.map fun p => (p.1, p.2.1, s.ev p.2.2)) with
    | some cs => K (.agg cs) s.h
    | none => False
  | .bslice e len sz zero parts => match fillA ((List.replicate len (zero.map AV.val)).flatten) (parts.map fun p => (p.1 * sz, sz, s.ev p.2)) with
    | some cs => ∀ b, s.h b = none → K (.own b len) (s.h.set b (.row e cs))
    | none => False
  | .fadr off x => match s.ev x with
    | .ptr cells => K (.ptr (cells.drop off)) s.h
    | .adr b o => K (.adr b (o + off)) s.h
    | _ => False
  | .field off n ag x => match s.ev x with
    | .agg xs => off + n ≤ xs.length ∧ K (loadC n ag xs off) s.h
    | _ => False
  | .iadr sz x i => match s.ev x, s.ev i with
    | .imm _ els, .val (.int _ i) => 0 ≤ i ∧ i < els.length ∧ (els.getD i.toNat []).length = sz ∧ K (.ptr (els.getD i.toNat [])) s.h
    | .own b n, .val (.int _ i) => 0 ≤ i ∧ i < n ∧ K (.adr b (i.toNat * sz)) s.h
    | _, _ => False
  | .iadrA len sz x i => match s.ev x, s.ev i with
    | .adr b o, .val (.int _ i) => 0 ≤ i ∧ i < len ∧ K (.adr b (o + i.toNat * sz)) s.h
    | _, _ => False
  | .idx x i => match s.ev x, s.ev i with
    | .val (.string t), .val (.int _ i) => 0 ≤ i ∧ i < t.size ∧ K (.val (.int .u8 (t.data.toList.getD i.toNat 0).toNat)) s.h
    | _, _ => False
  | .sl sz x lo hi mx => px_sl sz (s.ev x) (lo.map s.ev) (hi.map s.ev) (mx.map s.ev) fun v => K v s.h
  | .sls x lo hi => px_sls (s.ev x) (lo.map s.ev) (hi.map s.ev) fun v => K v s.h
  | .mks e _ zero x y => match s.ev x, s.ev y with
    | .val (.int _ n), .val (.int _ m) => n = m ∧ 0 ≤ n ∧ n ≤ 4294967296 ∧ ∀ b, s.h b = none → K (.own b n.toNat) (s.h.set b (.row e ((List.replicate n.toNat (zero.map AV.val)).flatten)))
    | _, _ => False
  | .app e sz x y => src s.h sz (s.ev y) fun m new => px_app s.h e sz m (s.ev x) new K
  | .len x str => match s.ev x, str with
    | .imm _ els, false => K (.val (.int .i64 els.length)) s.h
    | .own _ n, false => K (.val (.int .i64 n)) s.h
    | .val (.slice _ n _), false => K (.val (.int .i64 n)) s.h
    | .val (.string t), true => K (.val (.int .i64 t.size)) s.h
    | _, _ => False
  | .mm isMax x y => match s.ev x, s.ev y with
    | .val (.int k a), .val (.int _ b) => K (.val (.int k (if isMax then (if a < b then b else a) else (if b < a then b else a)))) s.h
    | _, _ => False
  | .ext i x => match s.ev x with
    | .tup xs => i < xs.length ∧ K (xs.getD i .junk) s.h
    | _ => False
  | .nilc x => match s.ev x with
    | .ptr cells => K (.ptr cells) s.h
    | .adr b o => K (.adr b o) s.h
    | _ => False
  | .call f args => CALL P f (args.map s.ev) s.h K
  | .callv x args => match s.ev x with
    | .fn f caps => okF P f = true ∧ CALL P f (args.map s.ev ++ caps) s.h K
    | _ => False
  | .mkf f caps => K (.fn f (caps.map s.ev)) s.h
  | .mkmap => ∀ b, s.h b = none → K (.mp b) (s.h.set b (.map []))
  | .mget k ok z x i => match s.ev x, ints? (s.ev i) with
    | .mp b, some ks => match s.h b with
      | some (.map ents) => ks.length = k ∧ (∀ e ∈ ents, e.1.length = k) ∧ K (mgot ok z (mfind ents ks)) s.h
      | _ => False
    | _, _ => False
  | .mset k x i v => match s.ev x, ints? (s.ev i) with
    | .mp b, some ks => match s.h b with
      | some (.map ents) => ks.length = k ∧ (∀ e ∈ ents, e.1.length = k) ∧ K .junk (s.h.set b (.map (mput ents ks (s.ev v))))
      | _ => False
    | _, _ => False
  | .copy sz x y => src s.h sz (s.ev y) fun m new => match s.ev x with
    | .own b n => match s.h b with
      | some (.row e cells) => n * sz ≤ cells.length ∧ new.all oneC = true ∧ K (.val (.int .i64 (min m n : Nat))) (s.h.set b (.row e (splice cells 0 (new.take (min m n * sz)))))
      | _ => False
    | .sub b o n => match s.h b with
      | some (.row e cells) => 0 < n ∧ o + n * sz ≤ cells.length ∧ new.all oneC = true ∧ K (.val (.int .i64 (min m n : Nat))) (s.h.set b (.row e (splice cells o (new.take (min m n * sz)))))
      | _ => False
    | _ => False
  | .bad => False

/-! ### from the program's own operations -/
def trOpds (xs : Array Operand) : Option (List Opd) := xs.toList.mapM trOpd
def trParts (xs : Array (Nat × Operand)) : Option (List (Nat × Opd)) := xs.toList.mapM fun p => (trOpd p.2).map fun x => (p.1, x)
def trOptO : Option Operand → Option (Option Opd)
  | none => some none
  | some x => (trOpd x).map some
def isByte (P : Program) (e : TypeId) : Bool := match P.underlying e with | some (.int .u8) => true | _ => false
/-- Is it a type of several cells; how many cells: of a type that is there. -/
def trAg (P : Program) (t : TypeId) : Option (Nat × Bool) :=
  match P.info? t, P.underlying t with
  | some i, some (.struct _) => some (i.size, true)
  | some i, some (.array _ _) => some (i.size, true)
  | some _, some _ => some (1, false)
  | _, _ => none
def trZero (P : Program) (t : TypeId) : Option (TypeInfo × List Value) :=
  match P.info? t with
  | some i => match i.zero with
    | some z => some (i, z.cells.toList)
    | none => none
  | none => none
/-- A struct type whose fields are whole numbers, one behind the other. -/
def isInts (P : Program) (t : TypeId) : Bool :=
  (P.underlying t).any (fun d => match d with
    | .struct fs => (List.range fs.size).all fun j => (fs[j]?).any fun f => f.offset == j && f.name != "_" && (match P.underlying f.type with | some (.int _) => true | _ => false)
    | _ => false) && !P.stoodInHeld t && !P.eqGuardType P.depth t
def nFields (P : Program) (t : TypeId) : Nat := match P.underlying t with
  | some (.struct fs) => fs.size
  | _ => 0
def trCall (P : Program) (c : Call) : Option IOp :=
  match c.callee with
  | .value (.func f) => if okF P f then (trOpds c.args).map (IOp.call f) else none
  | .value x => match trOpd x, trOpds c.args with
    | some y, some as => some (.callv y as)
    | _, _ => none
  | .builtin b => match b, c.args.toList, c.argTypes.toList with
    | .len, [x], [t] => match P.underlying t, trOpd x with
      | some (.slice _), some y => some (.len y false)
      | some .string, some y => some (.len y true)
      | _, _ => none
    | .append, [x, y], [t, u] => match P.underlying t, trOpd x, trOpd y with
      | some (.slice e), some x', some y' => match P.info? e with
        | some i => if t = u ∧ 0 < i.size ∧ i.bytes ≤ 16384 ∧ (i.zero.map (·.cells.size)) = some i.size then some (.app e i.size x' y') else none
        | none => none
      | _, _, _ => none
    | .copy, [x, y], [t, u] => match P.underlying t, trOpd x, trOpd y with
      | some (.slice e), some x', some y' => match P.info? e with
        | some i => if t = u ∧ 0 < i.size then some (.copy i.size x' y') else none
        | none => none
      | _, _, _ => none
    | .min, [x, y], _ => match trOpd x, trOpd y with
      | some x', some y' => some (.mm false x' y')
      | _, _ => none
    | .max, [x, y], _ => match trOpd x, trOpd y with
      | some x', some y' => some (.mm true x' y')
      | _, _ => none
    | _, _, _ => none
  | _ => none
def trOp (P : Program) (o : Oper) : Option IOp :=
  match o.op with
  | .move x | .assign x => (trOpd x).map IOp.mv
  | .pick c a b => match trOpd c, trOpd a, trOpd b with
    | some c', some a', some b' => some (.pick c' a' b')
    | _, _, _ => none
  | .binOp op t x y _ => match P.underlying t, trOpd x, trOpd y with
    | some (.int _), some x', some y' | some .string, some x', some y' => some (.bin op x' y')
    | some .bool, some x', some y' => some (.bbin op x' y')
    | some (.struct _), some x', some y' => if isInts P t then (match op with
        | .eql => some (.eqs (nFields P t) false x' y')
        | .neq => some (.eqs (nFields P t) true x' y')
        | _ => none) else none
    | _, _, _ => none
  | .unOp op _ x => (trOpd x).map (IOp.un op)
  | .convert s d x => match P.underlying s, P.underlying d, trOpd x with
    | some (.int _), some (.int k), some x' => some (.cvt k x')
    | some (.slice e), some .string, some x' => if isByte P e then some (.b2s x') else none
    | some .string, some .string, some x' => if s = d then some (.s2s x') else none
    | _, _, _ => none
  | .load t x => match trAg P t, trOpd x with
    | some (n, ag), some x' => some (.load n ag x')
    | _, _ => none
  | .store t x v => match P.info? t, trOpd x, trOpd v with
    | some i, some x', some v' => some (.store i.size x' v')
    | _, _, _ => none
  | .alloc t => (trZero P t).map fun p => .alloc t p.2
  | .box t x => (trOpd x).map fun x' => .box t x'
  | .build t parts => match P.underlying t, trZero P t, trParts parts with
    | some (.struct fs), some (_, z), some ps => match ps.mapM (fun p => (fs[p.1]?).bind fun f => (P.info? f.type).map fun i => (f.offset, i.size, p.2)) with
      | some qs => if fs.all (fun f => (P.info? f.type).isSome) then some (.build z qs) else none
      | none => none
    | _, _, _ => none
  | .buildSlice t len parts => match P.underlying t, trParts parts with
    | some (.slice e), some ps => match trZero P e with
      | some (i, z) => if len * i.size ≤ 2 ^ 24 ∧ z.length = i.size ∧ 0 < i.size then some (.bslice e len i.size z ps) else none
      | none => none
    | _, _ => none
  | .fieldAddr t x f => match P.underlying t, trOpd x with
    | some (.struct fs), some x' => match fs[f]? with
      | some g => match P.info? g.type with
        | some i => if i.size ≠ 0 then some (.fadr g.offset x') else none
        | none => none
      | none => none
    | _, _ => none
  | .field t x f => match P.underlying t, trOpd x with
    | some (.struct fs), some x' => match fs[f]? with
      | some g => match trAg P g.type with
        | some (n, ag) => some (.field g.offset n ag x')
        | none => none
      | none => none
    | _, _ => none
  | .indexAddr t x i => match P.underlying t, trOpd x, trOpd i with
    | some (.slice e), some x', some i' => match P.info? e with
      | some j => if 0 < j.size then some (.iadr j.size x' i') else none
      | none => none
    | some (.array n e), some x', some i' => match P.info? e with
      | some j => some (.iadrA n j.size x' i')
      | none => none
    | _, _, _ => none
  | .index t x i => match P.underlying t, trOpd x, trOpd i with
    | some .string, some x', some i' => some (.idx x' i')
    | _, _, _ => none
  | .slice t x lo hi mx => match P.underlying t, trOpd x, trOptO lo, trOptO hi, trOptO mx with
    | some (.slice e), some x', some lo', some hi', some mx' => match P.info? e with
      | some i => if 0 < i.size then some (.sl i.size x' lo' hi' mx') else none
      | none => none
    | some .string, some x', some lo', some hi', some none => some (.sls x' lo' hi')
    | _, _, _, _, _ => none
  | .makeSlice t x y => match P.underlying t, trOpd x, trOpd y with
    | some (.slice e), some x', some y' => match trZero P e with
      | some (i, z) => if z.length = i.size ∧ 0 < i.size ∧ i.bytes ≤ 16384 then some (.mks e i.size z x' y') else none
      | none => none
    | _, _, _ => none
  | .extract x i => (trOpd x).map (IOp.ext i)
  | .nilCheck x => (trOpd x).map IOp.nilc
  | .makeFunc (.func f) first caps => if first.size = 0 then (trOpds caps).map (IOp.mkf f) else none
  | .makeMap t none => match P.underlying t with
    | some (.map _ _) => some .mkmap
    | _ => none
  | .makeMap t (some (.const (.int _ _))) => match P.underlying t with
    | some (.map _ _) => some .mkmap
    | _ => none
  | .lookup t x i ok => match P.underlying t, trOpd x, trOpd i with
    | some (.map kt et), some x', some i' => match P.info? et with
      | some j => match j.zero with
        | some z => if isInts P kt then some (.mget (nFields P kt) ok z x' i') else none
        | none => none
      | none => none
    | _, _, _ => none
  | .mapUpdate t x i v | .insert t x i v => match P.underlying t, trOpd x, trOpd i, trOpd v with
    | some (.map kt _), some x', some i', some v' => if isInts P kt then some (.mset (nFields P kt) x' i' v') else none
    | _, _, _, _ => none
  | .call c => trCall P c
  | .panic _ | .makeInterface _ _ | .typeAssert _ _ _ _ => some .bad
  | _ => none

end Go.Ab
