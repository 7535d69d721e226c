/-
  The symbolic executor and its codecs are defined. Conditions: those of the statement alone.
-/
import Derived.Orders
import Derived.Below
import Derived.Tactics
import Derived.KernelRfl
set_option linter.unusedVariables false
set_option linter.unusedSimpArgs false

-- SxDef
namespace Go.Sx
open Go.RowKit

/-! ### Symbolic values -/
inductive S1 where
  | v (x : Value)
  | err (e : Option Int)
  | loc (k off : Nat)
  | any
inductive SV where
  | s (x : S1)
  | tup (l : List S1)

abbrev VP := Nat → Prop

def good1 : S1 → Bool
  | .v _ | .err _ => true
  | _ => false
def goodS : SV → Bool
  | .s x => good1 x
  | .tup l => l.all good1

structure Enc where
  α : Type
  enc : α → SV
  dec : SV → Option α
  law : ∀ s a, dec s = some a → enc a = s
  good : ∀ a, goodS (enc a) = true

/-! ### Types -/
inductive TK where
  | int (k : IntKind) | bool | str | ptr (e : Nat) | slice (e : Nat) | struct (fs : List (Nat × Nat × Nat)) | arr (n e es : Nat) | iface | other
structure TI where
  kind : TK
  size : Nat
  zero : List Value

def TK.agg : TK → Bool
  | .struct _ | .arr _ _ _ => true
  | _ => false

def fieldsOk (P : Program) : List Field → List (Nat × Nat × Nat) → Prop
  | [], [] => True
  | f :: fs, e :: es => f.offset = e.1 ∧ f.type = e.2.1 ∧ (∃ i, P.info? e.2.1 = some i ∧ i.size = e.2.2) ∧ e.2.2 ≠ 0 ∧ fieldsOk P fs es
  | _, _ => False

def TK.ok (P : Program) (T : Nat) : TK → Prop
  | .int k => P.underlying T = some (.int k)
  | .bool => P.underlying T = some .bool
  | .str => P.underlying T = some .string
  | .ptr e => P.underlying T = some (.pointer e)
  | .slice e => P.underlying T = some (.slice e)
  | .struct fs => ∃ fields : Array Field, P.underlying T = some (.struct fields) ∧ fieldsOk P fields.toList fs
  | .arr n e es => P.underlying T = some (.array n e) ∧ ∃ i, P.info? e = some i ∧ i.size = es
  | .iface => ∃ ms, P.underlying T = some (.interface ms)
  | .other => ∃ d, P.underlying T = some d ∧ (match d with | .struct _ | .array _ _ => False | _ => True)

def TI.ok (P : Program) (T : Nat) (t : TI) : Prop :=
  (∃ i z, P.info? T = some i ∧ i.size = t.size ∧ i.zero = some z ∧ z.cells.toList = t.zero) ∧ t.kind.ok P T

structure Ctx (P : Program) where
  tab : Nat → Option TI
  tenv : Nat → Enc
  errT : Nat
  ro : Nat → Bool
  htab : ∀ T t, tab T = some t → t.ok P T
  herr : P.underlying errT = some (.int .i64)
  mixed : P.follows .mixedOrders = true

/-! ### Nodes that a reader of a condition meets -/
structure Rel (V : VP) (u w : World) : Prop where
  os : w.os = u.os
  tape : w.tape = u.tape
  output : w.output = u.output
  size : u.heap.size ≤ w.heap.size
  blk : ∀ b, V b → b < u.heap.size ∧ w.heap[b]? = u.heap[b]?

/-- what a step may not turn: hidden blocks, the streams -/
structure FrameV (V : VP) (w w' : World) : Prop where
  os : w'.os = w.os
  tape : w'.tape = w.tape
  output : w'.output = w.output
  size : w.heap.size ≤ w'.heap.size
  blk : ∀ b, b < w.heap.size → ¬ V b → w'.heap[b]? = w.heap[b]?

def Vn (V : VP) (w w' : World) : VP := fun b => V b ∨ (w.heap.size ≤ b ∧ b < w'.heap.size)

def Rng (e : Int) : Prop := -9223372036854775808 ≤ e ∧ e ≤ 9223372036854775807
def NilK {α : Type} (p : Option α) (K : α → Prop) : Prop := match p with | some x => K x | none => False
def IfB (b : Bool) (A B : Prop) : Prop := match b with | true => A | false => B
def At (u : World) (V : VP) (ad : Addr) (cs : List Value) : Prop := V ad.block ∧ ∀ j x, cs[j]? = some x → u.cell? (ad.add j) = some x
def StOk (w : World) (V : VP) (ad : Addr) (n : Nat) : Prop := V ad.block ∧ ∀ j, j < n → (∃ x, w.cell? (ad.add j) = some x) ∧ w.frozen? (ad.add j) = false
def stW (w : World) (ad : Addr) : List Value → Nat → World
  | [], _ => w
  | x :: xs, i => stW (w.setCell (ad.add i) x) ad xs (i + 1)

def CanEnter (P : Program) (f : Nat) : Prop := ∃ fn, P.funcs[f]? = some fn ∧ fn.body.isNone = false ∧ (fn.name == "runtime.NumGoroutine") = false
def ROc (P : Program) (f : Nat) (args : List Value) (u : World) (V : VP) (r : Value) : Prop :=
  CanEnter P f ∧ ∀ w, Rel V u w → Calls P f args.toArray w fun e w' => e = .returned r ∧ Below w.heap.size w w'
def GC {α : Type} (P : Program) (f : Nat) (args : List Value) (u : World) (V : VP) (enc : α → Value) (K : α → World → VP → Prop) : Prop :=
  CanEnter P f ∧ ∀ w, Rel V u w → Calls P f args.toArray w fun e w' => ∃ x, e = .returned (enc x) ∧ FrameV V w w' ∧ K x w' (Vn V w w')
def LoopN {σ : Type} (s0 : σ) (u : World) (V : VP) (body : σ → World → VP → (σ → World → VP → Prop) → Prop) : Prop :=
  ∃ (I : σ → World → VP → Prop) (m : σ → World → VP → Nat), I s0 u V ∧ ∀ s u V, I s u V → body s u V fun s' u' V' => I s' u' V' ∧ m s' u' V' < m s u V
def JoinN {σ : Type} (rest : σ → World → VP → Prop) (A : (σ → World → VP → Prop) → Prop) : Prop :=
  ∀ Kj : σ → World → VP → Prop, (∀ s u V, rest s u V → Kj s u V) → A Kj

/-! ### State -/
structure St where
  env : Nat → SV
  L : Nat → Option (Nat × List Value)
  be : Nat → SV
  me : List Nat
  bl : Nat → Option (Nat × List Value)
  ml : List Nat

def upd {α : Type} (f : Nat → α) (k : Nat) (x : α) : Nat → α := fun t => match Nat.beq t k with | true => x | false => f t
def St.set (st : St) (t : Nat) (x : SV) : St := { st with env := upd st.env t x }
def St.put (st : St) (d : Option Nat) (x : SV) : St := match d with | some t => st.set t x | none => st
def St.setL (st : St) (k : Nat) (x : Option (Nat × List Value)) : St := { st with L := upd st.L k x }

def memN (l : List Nat) (k : Nat) : Bool := match l with | [] => false | x :: xs => match Nat.beq x k with | true => true | false => memN xs k
def subN (l m : List Nat) : Bool := match l with | [] => true | x :: xs => match memN m x with | true => subN xs m | false => false

def gval1 (eT : Nat) : S1 → Value
  | .v x => x
  | .err none => .nilIface
  | .err (some n) => .iface eT (.int .i64 n)
  | _ => undef
def gval (eT : Nat) : SV → Value
  | .s x => gval1 eT x
  | .tup l => .tuple (l.map (gval1 eT)).toArray

def constS : Value → SV
  | .nilIface => .s (.err none)
  | v => .s (.v v)
def ev (st : St) : Operand → SV
  | .tmp t => st.env t
  | .const v => constS v
  | .func f => .s (.v (.func (.func f) #[] #[]))
  | .global _ => .s .any
def isConst : Operand → Bool
  | .const _ => true
  | _ => false

def arK (k : IntKind) (e : Int) (K : SV → Prop) : Prop :=
  match k with
  | .i64 => Rng e ∧ K (.s (.v (.int .i64 e)))
  | k => K (.s (.v (.int k (k.wrap e))))

def getN {α : Type} : List α → Nat → Option α
  | [], _ => none
  | x :: _, 0 => some x
  | _ :: xs, n + 1 => getN xs n
def takeN {α : Type} : Nat → List α → List α
  | 0, _ => []
  | _, [] => []
  | n + 1, x :: xs => x :: takeN n xs
def dropN {α : Type} : Nat → List α → List α
  | 0, xs => xs
  | _, [] => []
  | n + 1, _ :: xs => dropN n xs
/-- cells laid over others from an offset -/
def overN {α : Type} : List α → Nat → List α → List α
  | xs, 0, ys => ys ++ dropN ys.length xs
  | [], _ + 1, _ => []
  | x :: xs, n + 1, ys => x :: overN xs n ys

def mkVal (agg : Bool) (cs : List Value) : Value := match agg with | true => .agg cs.toArray | false => match cs with | x :: _ => x | [] => undef
def shapeOk (t : TI) (x : Value) : Bool :=
  match t.kind.agg with
  | true => (match x with | .agg c => Nat.beq c.toList.length t.size | _ => false)
  | false => (match x with | .agg _ | .tuple _ => false | _ => Nat.beq t.size 1)

section
variable {P : Program} (X : Ctx P)

def fieldOff (T f : Nat) : Option Nat := match X.tab T with
  | some t => (match t.kind with | .struct fs => (match getN fs f with | some e => some e.1 | none => none) | _ => none)
  | none => none
def places (T : Nat) (i : Nat) : Option (Nat × Nat) := match X.tab T with
  | some t => (match t.kind with
    | .struct fs => (match getN fs i with | some e => some (e.1, e.2.2) | none => none)
    | .arr n _ es => (match Nat.blt i n with | true => some (i * es, es) | false => none)
    | _ => none)
  | none => none
def fillK (T : Nat) (st : St) : List (Nat × Operand) → List Value → (List Value → Prop) → Prop
  | [], cs, K => K cs
  | p :: ps, cs, K => match places X T p.1 with
    | some (off, n) => (match ev st p.2 with
      | .s (.v x) => (match (Nat.beq x.cells.toList.length n).and (Nat.ble (off + n) cs.length) with
        | true => fillK T st ps (overN cs off x.cells.toList) K
        | false => False)
      | _ => False)
    | none => False
def sizeT (T : Nat) : Option Nat := match X.tab T with | some t => some t.size | none => none

def cutA (a : Option Addr) (m l sz : Nat) : Option Addr := if m = l then a else a.map (·.add (l * sz))
def bAt (s : ByteArray) (i : Int) : Int := (s.data.toList.getD i.toNat 0).toNat

def bin (op : BinOp) (T : Nat) (x y : Operand) (st : St) (K : SV → Prop) : Prop :=
  match ev st x, ev st y with
  | .s (.v (.int k a)), .s (.v (.int k' b)) =>
    (match decide (k = k') with
    | false => False
    | true => match op with
      | .add => arK k (a + b) K
      | .sub => arK k (a - b) K
      | .mul => arK k (a * b) K
      | .quo => IfB (b == 0) False (arK k (a.tdiv b) K)
      | .rem => IfB (b == 0) False (K (.s (.v (.int k (a.tmod b)))))
      | .eql => K (.s (.v (.bool (a == b))))
      | .neq => K (.s (.v (.bool (a != b))))
      | .lss => K (.s (.v (.bool (decide (a < b)))))
      | .leq => K (.s (.v (.bool (decide (a ≤ b)))))
      | .gtr => K (.s (.v (.bool (decide (a > b)))))
      | .geq => K (.s (.v (.bool (decide (a ≥ b)))))
      | .and => K (.s (.v (.int k (k.wrap (BitVec.ofInt k.bits a &&& BitVec.ofInt k.bits b).toNat))))
      | .or => K (.s (.v (.int k (k.wrap (BitVec.ofInt k.bits a ||| BitVec.ofInt k.bits b).toNat))))
      | .xor => K (.s (.v (.int k (k.wrap (BitVec.ofInt k.bits a ^^^ BitVec.ofInt k.bits b).toNat))))
      | .shl => IfB (decide (b < 0)) False (K (.s (.v (.int k (k.wrap (a * 2 ^ (min b.toNat k.bits)))))))
      | .shr => IfB (decide (b < 0)) False (K (.s (.v (.int k (a.fdiv (2 ^ (min b.toNat k.bits)))))))
      | _ => False)
  | .s (.v (.string a)), .s (.v (.string b)) =>
    (match op with
    | .add => a.size + b.size ≤ 9223372036854775807 ∧ K (.s (.v (.string (a ++ b))))
    | .eql => K (.s (.v (.bool (a.toList == b.toList))))
    | .neq => K (.s (.v (.bool !(a.toList == b.toList))))
    | _ => False)
  | .s (.v (.bool a)), .s (.v (.bool b)) =>
    (match X.tab T with
    | some t => (match t.kind, op with
      | .bool, .eql => K (.s (.v (.bool (a == b))))
      | .bool, .neq => K (.s (.v (.bool !(a == b))))
      | _, _ => False)
    | none => False)
  | .s (.err e), .s (.err none) =>
    (match isConst y, X.tab T with
    | true, some t => (match t.kind, op with
      | .iface, .eql => K (.s (.v (.bool e.isNone)))
      | .iface, .neq => K (.s (.v (.bool e.isSome)))
      | _, _ => False)
    | _, _ => False)
  | .s (.v (.slice a _ _)), .s (.v (.slice none _ _)) =>
    (match isConst y, X.tab T with
    | true, some t => (match t.kind, op with
      | .slice _, .eql => K (.s (.v (.bool a.isNone)))
      | .slice _, .neq => K (.s (.v (.bool !a.isNone)))
      | _, _ => False)
    | _, _ => False)
  | .s (.v (.pointer a)), .s (.v (.pointer none)) =>
    (match isConst y, X.tab T with
    | true, some t => (match t.kind, op with
      | .ptr _, .eql => K (.s (.v (.bool a.isNone)))
      | .ptr _, .neq => K (.s (.v (.bool !a.isNone)))
      | _, _ => False)
    | _, _ => False)
  | .s (.v (.agg a)), .s (.v (.agg b)) =>
    (match op with
    | .eql => ∃ r, (∀ w, (binOp .eql T (.agg a) (.agg b)).run P w = .ok (.bool r) w) ∧ (∀ w, (eqGuard .eql T x y (.agg a) (.agg b)).run P w = .ok () w) ∧ K (.s (.v (.bool r)))
    | .neq => ∃ r, (∀ w, (binOp .neq T (.agg a) (.agg b)).run P w = .ok (.bool r) w) ∧ (∀ w, (eqGuard .neq T x y (.agg a) (.agg b)).run P w = .ok () w) ∧ K (.s (.v (.bool r)))
    | _ => False)
  | _, _ => False

def optI (st : St) : Option Operand → Option (Option Int)
  | none => some none
  | some x => (match ev st x with | .s (.v (.int _ n)) => some (some n) | _ => none)

def sliceK (T : Nat) (x : Operand) (lo hi : Option Operand) (st : St) (K : SV → Prop) : Prop :=
  match X.tab T, ev st x, optI st lo, optI st hi with
  | some t, .s (.v (.slice a len cap)), some l, some h =>
    (match t.kind with
    | .slice e => (match sizeT X e with
      | some sz =>
        (match l, h with
        | none, none => K (.s (.v (.slice a len cap)))
        | none, some h => (0 ≤ h ∧ h ≤ (cap : Int)) ∧ K (.s (.v (.slice a h.toNat cap)))
        | some l, none => (0 ≤ l ∧ l ≤ (len : Int)) ∧ K (.s (.v (.slice (cutA a cap l.toNat sz) (len - l.toNat) (cap - l.toNat))))
        | some l, some h => (0 ≤ h ∧ h ≤ (cap : Int)) ∧ (0 ≤ l ∧ l ≤ h) ∧ K (.s (.v (.slice (cutA a cap l.toNat sz) (h.toNat - l.toNat) (cap - l.toNat)))))
      | none => False)
    | _ => False)
  | some t, .s (.v (.string s)), some l, some h =>
    (match t.kind with
    | .str =>
        (match l, h with
        | none, none => K (.s (.v (.string s)))
        | none, some h => (0 ≤ h ∧ h ≤ (s.size : Int)) ∧ K (.s (.v (.string (s.extract 0 h.toNat))))
        | some l, none => (0 ≤ l ∧ l ≤ (s.size : Int)) ∧ K (.s (.v (.string (s.extract l.toNat s.size))))
        | some l, some h => (0 ≤ h ∧ h ≤ (s.size : Int)) ∧ (0 ≤ l ∧ l ≤ h) ∧ K (.s (.v (.string (s.extract l.toNat h.toNat)))))
    | _ => False)
  | _, _, _, _ => False

def vals (st : St) : List Operand → Option (List Value)
  | [] => some []
  | x :: xs => (match ev st x with
    | .s s => (match good1 s, vals st xs with | true, some l => some (gval1 X.errT s :: l) | _, _ => none)
    | _ => none)

def valsV (st : St) : List Operand → Option (List Value)
  | [] => some []
  | x :: xs => (match ev st x with
    | .s (.v s) => (match valsV st xs with | some l => some (s :: l) | none => none)
    | _ => none)

/-- an operation that no memory but the frame's own enters -/
def px (o : Oper) (st : St) (K : SV → Prop) : Prop :=
  match o.op with
  | .move x => K (ev st x)
  | .assign x => K (ev st x)
  | .pick c a b => (match ev st c with | .s (.v (.bool t)) => IfB t (K (ev st a)) (K (ev st b)) | _ => False)
  | .fieldAddr T x f => (match fieldOff X T f with
    | some off => (match ev st x with
      | .s (.loc k o) => K (.s (.loc k (o + off)))
      | .s (.v (.pointer p)) => NilK p fun ad => K (.s (.v (.pointer (some (ad.add off)))))
      | _ => False)
    | none => False)
  | .nilCheck x => (match ev st x with
      | .s (.loc k o) => K (.s (.loc k o))
      | .s (.v (.pointer p)) => NilK p fun ad => K (.s (.v (.pointer (some ad))))
      | _ => False)
  | .indexAddr T x i => (match X.tab T, ev st x, ev st i with
    | some t, .s (.v (.slice a len _)), .s (.v (.int _ n)) => (match t.kind with
      | .slice e => (match sizeT X e with
        | some sz => (0 ≤ n ∧ n < (len : Int)) ∧ NilK a fun ad => K (.s (.v (.pointer (some (ad.add (n.toNat * sz))))))
        | none => False)
      | _ => False)
    | some t, .s (.v (.pointer p)), .s (.v (.int _ n)) => (match t.kind with
      | .arr len _ sz => (match Nat.blt 1 len with
        | true => (0 ≤ n ∧ n < (len : Int)) ∧ NilK p fun ad => K (.s (.v (.pointer (some (ad.add (n.toNat * sz))))))
        | false => False)
      | _ => False)
    | some t, .s (.loc k o), .s (.v (.int _ n)) => (match t.kind with
      | .arr len _ sz => (match (decide (0 ≤ n)).and (decide (n < (len : Int))) with
        | true => K (.s (.loc k (o + n.toNat * sz)))
        | false => False)
      | _ => False)
    | _, _, _ => False)
  | .extract t i => (match ev st t with | .tup l => (match getN l i with | some x => K (.s x) | none => False) | _ => False)
  | .build T parts => (match X.tab T with
    | some t => (match t.kind.agg with
      | true => fillK X T st parts.toList t.zero fun cs => K (.s (.v (.agg cs.toArray)))
      | false => False)
    | none => False)
  | .makeInterface T x => (match Nat.beq T X.errT, ev st x with
    | true, .s (.v (.int .i64 n)) => K (.s (.err (some n)))
    | _, _ => False)
  | .makeFunc fn first cap => (match valsV st first.toList, valsV st cap.toList with
    | some f, some c => K (.s (.v (.func fn f.toArray c.toArray)))
    | _, _ => False)
  | .unOp .not _ x => (match ev st x with | .s (.v (.bool b)) => K (.s (.v (.bool !b))) | _ => False)
  | .unOp .neg _ x => (match ev st x with | .s (.v (.int k n)) => arK k (0 - n) K | _ => False)
  | .binOp op T x y _ => bin X op T x y st K
  | .slice T x lo hi none => sliceK X T x lo hi st K
  | .slice T x (some lo) (some hi) (some mx) => (match X.tab T, ev st x, ev st lo, ev st hi, ev st mx with
    | some t, .s (.v (.slice a _ cap)), .s (.v (.int _ l)), .s (.v (.int _ h)), .s (.v (.int _ m)) => (match t.kind with
      | .slice e => (match sizeT X e with
        | some sz => (0 ≤ m ∧ m ≤ (cap : Int)) ∧ (0 ≤ h ∧ h ≤ m) ∧ (0 ≤ l ∧ l ≤ h) ∧ K (.s (.v (.slice (cutA a m.toNat l.toNat sz) (h.toNat - l.toNat) (m.toNat - l.toNat))))
        | none => False)
      | _ => False)
    | _, _, _, _, _ => False)
  | .index T x i => (match X.tab T, ev st x, ev st i with
    | some t, .s (.v (.string s)), .s (.v (.int _ n)) => (match t.kind with
      | .str => (0 ≤ n ∧ n < (s.size : Int)) ∧ K (.s (.v (.int .u8 (bAt s n))))
      | _ => False)
    | _, _, _ => False)
  | .convert src dst x => (match X.tab src, X.tab dst, ev st x with
    | some s, some d, .s (.v (.int _ n)) => (match s.kind, d.kind with
      | .int _, .int k => K (.s (.v (.int k (k.wrap n))))
      | _, _ => False)
    | _, _, _ => False)
  | .call { callee := .builtin .len, args := ⟨[x]⟩, argTypes := ⟨[T]⟩ } => (match X.tab T, ev st x with
    | some t, .s (.v (.slice _ n _)) => (match t.kind with | .slice _ => K (.s (.v (.int .i64 (n : Int)))) | _ => False)
    | some t, .s (.v (.string s)) => (match t.kind with | .str => K (.s (.v (.int .i64 (s.size : Int)))) | _ => False)
    | _, _ => False)
  | .call { callee := .builtin .cap, args := ⟨[x]⟩, argTypes := ⟨[T]⟩ } => (match X.tab T, ev st x with
    | some t, .s (.v (.slice _ _ n)) => (match t.kind with | .slice _ => K (.s (.v (.int .i64 (n : Int)))) | _ => False)
    | _, _ => False)
  | .call { callee := .builtin .min, args := ⟨[x, y]⟩, .. } => (match ev st x, ev st y with
    | .s (.v (.int k a)), .s (.v (.int _ b)) => K (.s (.v (.int k (if b < a then b else a))))
    | _, _ => False)
  | .call { callee := .builtin .max, args := ⟨[x, y]⟩, .. } => (match ev st x, ev st y with
    | .s (.v (.int k a)), .s (.v (.int _ b)) => K (.s (.v (.int k (if b > a then b else a))))
    | _, _ => False)
  | _ => False

end
end Go.Sx

-- SxRun
namespace Go.Sx
open Go.RowKit

/-- a place that a loop or a meeting of ways carries on: a slot, or a local block, and its type -/
inductive It where
  | e (t ty : Nat)
  | l (k ty : Nat)
structure Pat where
  items : List It
  kill : List Nat
  killL : List Nat
inductive H where
  | leaf
  | node (j l : Option Pat) (rk ord : List Nat) (a b : H)
def H.j : H → Option Pat | .leaf => none | .node j _ _ _ _ _ => j
def H.l : H → Option Pat | .leaf => none | .node _ l _ _ _ _ => l
def H.rk : H → List Nat | .leaf => [] | .node _ _ r _ _ _ => r
def H.ord : H → List Nat | .leaf => [] | .node _ _ _ o _ _ => o
def H.a : H → H | .leaf => .leaf | .node _ _ _ _ a _ => a
def H.b : H → H | .leaf => .leaf | .node _ _ _ _ _ b => b

structure Fn where
  n : Nat
  locs : List Nat

def OpV (P : Program) (eT : Nat) (sem : Sem Value) (E : Enc) (u : World) (V : VP) (K : E.α → World → VP → Prop) : Prop :=
  ∀ w, Rel V u w → ∃ (x : E.α) (w' : World), sem.run P w = .ok (gval eT (E.enc x)) w' ∧ FrameV V w w' ∧ K x w' (Vn V w w')
def OpU (P : Program) (sem : Sem Unit) (u : World) (V : VP) (K : World → VP → Prop) : Prop :=
  ∀ w, Rel V u w → ∃ w' : World, sem.run P w = .ok () w' ∧ FrameV V w w' ∧ K w' (Vn V w w')
def NewC (w0 : World) (V : VP) (T : Nat) (cs : List Value) (K : Nat → World → VP → Prop) : Prop :=
  ∀ w, Rel V w0 w → K w.heap.size (w.alloc (.cells cs.toArray T)) (Vn V w (w.alloc (.cells cs.toArray T)))

section
variable {P : Program} (X : Ctx P) (F : Fn)

abbrev KT := St → World → VP → Prop
/-- what a step turns: a slot, a local block -/
structure Dl where
  e : Option (Nat × SV)
  l : Option (Nat × Nat × List Value)
abbrev KD := Dl → World → VP → Prop
def St.app (st : St) (δ : Dl) : St :=
  match δ.e, δ.l with
  | none, none => st
  | some e, none => st.set e.1 e.2
  | none, some l => st.setL l.1 (some l.2)
  | some e, some l => (st.setL l.1 (some l.2)).set e.1 e.2

def putK (d : Option Nat) (x : SV) (K : Dl → Prop) : Prop :=
  match d with
  | none => K ⟨none, none⟩
  | some t => (match Nat.blt t F.n, x with | true, .s y => K ⟨some (t, .s y), none⟩ | true, .tup l => K ⟨some (t, .tup l), none⟩ | false, _ => False)

def isNoneL : Option (Nat × List Value) → Bool | none => true | some _ => false

def newK (rk : List Nat) (d : Option Nat) (T : Nat) (cs : List Value) (st : St) (u : World) (V : VP) (K : KD) : Prop :=
  match d with
  | none => False
  | some k => (match Nat.blt k F.n with
    | false => False
    | true => (match memN F.locs k with
      | true => (match (memN rk k).and (isNoneL (st.L k)) with
        | true => K ⟨some (k, .s (.loc k 0)), some (k, T, cs)⟩ u V
        | false => False)
      | false => NewC u V T cs fun b w V => K ⟨some (k, .s (.v (.pointer (some ⟨b, 0, none⟩)))), none⟩ w V))

def replN : Nat → List Value → List Value
  | 0, _ => []
  | n + 1, cs => cs ++ replN n cs
def fillS (sz : Nat) (st : St) : List (Nat × Operand) → List Value → (List Value → Prop) → Prop
  | [], cs, K => K cs
  | p :: ps, cs, K => match ev st p.2 with
      | .s (.v x) => (match (Nat.beq x.cells.toList.length sz).and (Nat.ble (p.1 * sz + sz) cs.length) with
        | true => fillS sz st ps (overN cs (p.1 * sz) x.cells.toList) K
        | false => False)
      | _ => False

def loadK (T : Nat) (a : SV) (st : St) (u : World) (V : VP) (K : SV → Prop) : Prop :=
  match X.tab T with
  | none => False
  | some t => (match a with
    | .s (.loc k o) => (match st.L k with
      | some (_, cs) => (match Nat.ble (o + t.size) cs.length, t.kind.agg, Nat.ble 1 t.size with
        | true, true, _ => K (.s (.v (.agg (takeN t.size (dropN o cs)).toArray)))
        | true, false, true => (match dropN o cs with | x :: _ => K (.s (.v x)) | [] => False)
        | _, _, _ => False)
      | none => False)
    | .s (.v (.pointer p)) => NilK p fun ad => ∃ x : (X.tenv T).α, (match (X.tenv T).enc x with
        | .s (.v val) => (match shapeOk t val with
          | true => At u V ad val.cells.toList ∧ K (.s (.v val))
          | false => False)
        | _ => False)
    | _ => False)

def allOne : List Value → Bool
  | [] => true
  | x :: xs => (match x with | .agg _ | .tuple _ => false | _ => allOne xs)
def storeK (rk : List Nat) (T : Nat) (a x : SV) (st : St) (u : World) (V : VP) (K : KD) : Prop :=
  match X.tab T, x with
  | some t, .s (.v val) => (match (Nat.beq val.cells.toList.length t.size).and (allOne val.cells.toList) with
    | false => False
    | true => (match a with
      | .s (.loc k o) => (match st.L k with
        | some (T', cs) => (match (memN rk k).and (Nat.ble (o + t.size) cs.length) with
          | true => K ⟨none, some (k, T', overN cs o val.cells.toList)⟩ u V
          | false => False)
        | none => False)
      | .s (.v (.pointer p)) => NilK p fun ad => ∀ w, Rel V u w → StOk w V ad t.size ∧ K ⟨none, none⟩ (stW w ad val.cells.toList 0) V
      | _ => False))
  | _, _ => False

def callK (f : SV) (direct : Bool) (args : List Operand) (ty : Nat) (st : St) (u : World) (V : VP) (K : SV → World → VP → Prop) : Prop :=
  match f, vals X st args with
  | .s (.v (.func (.func fid) first caps)), some as =>
    (match direct.and (Bool.not (X.ro fid)) with
    | true => GC P fid (first.toList ++ as ++ caps.toList) u V (fun x => gval X.errT ((X.tenv ty).enc x)) fun x w V => K ((X.tenv ty).enc x) w V
    | false => ∃ x : (X.tenv ty).α, ROc P fid (first.toList ++ as ++ caps.toList) u V (gval X.errT ((X.tenv ty).enc x)) ∧ K ((X.tenv ty).enc x) u V)
  | _, _ => False

def isFunc : Operand → Bool | .func _ => true | _ => false

def ox (rk : List Nat) (o : Oper) (st : St) (u : World) (V : VP) (K : KD) : Prop :=
  match o.op with
  | .alloc T => (match X.tab T with | some t => newK F rk o.dst T t.zero st u V K | none => False)
  | .box T x => (match ev st x with
    | .s (.v val) => newK F rk o.dst T val.cells.toList st u V K
    | .s (.err e) => newK F rk o.dst T [gval1 X.errT (.err e)] st u V K
    | _ => False)
  | .buildSlice T n parts => (match X.tab T with
    | some t => (match t.kind with
      | .slice e => (match X.tab e with
        | some te => (match (Nat.ble (n * te.size) 16777216).and (Nat.beq te.zero.length te.size) with
          | true => fillS te.size st parts.toList (replN n te.zero) fun cs =>
              NewC u V e cs fun b w V => putK F o.dst (.s (.v (.slice (some ⟨b, 0, none⟩) n n))) fun δ => K δ w V
          | false => False)
        | none => False)
      | _ => False)
    | none => False)
  | .load T a => loadK X T (ev st a) st u V fun x => putK F o.dst x fun δ => K δ u V
  | .store T a x => (match o.dst with | none => storeK X rk T (ev st a) (ev st x) st u V K | some _ => False)
  | .call { callee := .value f, args, .. } => callK X (ev st f) (isFunc f) args.toList o.type st u V fun x w V => putK F o.dst x fun δ => K δ w V
  | .call { callee := .builtin .append, args, argTypes } => opv (valsV st args.toList) (fun l => Builtin.append_ argTypes o.type l.toArray)
  | .call { callee := .builtin .copy, args, argTypes } => opv (valsV st args.toList) (fun l => Builtin.copy_ argTypes o.type l.toArray)
  | .call { callee := .builtin .delete, args, argTypes } => opv (valsV st args.toList) (fun l => Builtin.delete_ argTypes o.type l.toArray)
  | .call { callee := .builtin .clear, args, argTypes } => opv (valsV st args.toList) (fun l => Builtin.clear_ argTypes o.type l.toArray)
  | .call { callee := .builtin .len, args := ⟨[x]⟩, argTypes } => (match ev st x with
    | .s (.v (.map m)) => opv (some [.map m]) (fun l => Builtin.len_ argTypes o.type l.toArray)
    | _ => px X o st fun x => putK F o.dst x fun δ => K δ u V)
  | .lookup T m i ok => opv (valsV st [m, i]) (fun l => Instr.lookup T (l.getD 0 undef) (l.getD 1 undef) ok)
  | .makeMap T none => opv (some []) (fun _ => Instr.makeMap T none)
  | .makeSlice T l c => opv (valsV st [l, c]) (fun l => Instr.makeSlice T (l.getD 0 undef) (l.getD 1 undef))
  | .range T x => opv (valsV st [x]) (fun l => Instr.range T (l.getD 0 undef))
  | .next it s => opv (valsV st [it]) (fun l => Instr.next (l.getD 0 undef) s o.type)
  | .mapUpdate T m k x => (match valsV st [m, k, x] with
    | some l => OpU P (Instr.mapUpdate T (l.getD 0 undef) (l.getD 1 undef) (l.getD 2 undef)) u V fun w V => putK F o.dst (.s .any) fun δ => K δ w V
    | none => False)
  | .convert src dst x => (match X.tab src, X.tab dst, ev st x with
    | some s, some d, .s (.v (.string b)) => (match s.kind, d.kind with
      | .str, .slice _ => opv (some [.string b]) (fun l => convert src dst (l.getD 0 undef))
      | _, _ => False)
    | some s, some d, .s (.v (.slice a n c)) => (match s.kind, d.kind with
      | .slice _, .str => opv (some [.slice a n c]) (fun l => convert src dst (l.getD 0 undef))
      | _, _ => False)
    | _, _, _ => px X o st fun x => putK F o.dst x fun δ => K δ u V)
  | _ => px X o st fun x => putK F o.dst x fun δ => K δ u V
where
  opv (vs : Option (List Value)) (sem : List Value → Sem Value) : Prop :=
    match vs with
    | some l => OpV P X.errT (sem l) (X.tenv o.type) u V fun x w V => putK F o.dst ((X.tenv o.type).enc x) fun δ => K δ w V
    | none => False

def gx (ops : List Oper) (rk : List Nat) (o : Oper) (st : St) (u : World) (V : VP) (K : KT) : Prop :=
  match o.guard with
  | none => ox X F rk o st u V fun δ u V => K (st.app δ) u V
  | some (j, want) => (match getN ops j with
    | some oj => (match oj.dst with
      | some t => (match st.env t with
        | .s (.v (.bool b)) =>
          (match want with
          | true => IfB b (ox X F rk o st u V fun δ u V => K ((st.set t (.s (.v (.bool true)))).app δ) u V) (putK F o.dst (.s (.v undef)) fun δ => K ((st.set t (.s (.v (.bool false)))).app δ) u V)
          | false => IfB b (putK F o.dst (.s (.v undef)) fun δ => K ((st.set t (.s (.v (.bool true)))).app δ) u V) (ox X F rk o st u V fun δ u V => K ((st.set t (.s (.v (.bool false)))).app δ) u V))
        | .s (.v (.tuple _)) => putK F o.dst (.s (.v undef)) fun δ => K (st.app δ) u V
        | _ => False)
      | none => False)
    | none => False)

def rxs (ops : List Oper) (rk : List Nat) : List Oper → St → World → VP → KT → Prop
  | [], st, u, V, K => K st u V
  | o :: l, st, u, V, K => gx X F ops rk o st u V fun st u V => rxs ops rk l st u V K

/-! ### a region that draws its order: told in one order, in which what is calm comes as early as it can -/
def tmpsOf : List Operand → List Nat
  | [] => []
  | .tmp t :: l => t :: tmpsOf l
  | _ :: l => tmpsOf l
def optL : Option Operand → List Operand | none => [] | some x => [x]
def sndL : List (Nat × Operand) → List Operand
  | [] => []
  | p :: l => p.2 :: sndL l
def opds : Op → List Operand
  | .move x | .assign x | .box _ x | .load _ x | .nilCheck x | .fieldAddr _ x _ | .extract x _ | .makeInterface _ x | .unOp _ _ x | .convert _ _ x | .range _ x | .next x _ => [x]
  | .pick c a b => [c, a, b]
  | .store _ a x | .indexAddr _ a x | .index _ a x | .lookup _ a x _ | .makeSlice _ a x => [a, x]
  | .binOp _ _ x y _ => [x, y]
  | .build _ ps | .buildSlice _ _ ps => sndL ps.toList
  | .makeFunc _ a b => a.toList ++ b.toList
  | .slice _ x lo hi mx => x :: (optL lo ++ (optL hi ++ optL mx))
  | .mapUpdate _ a b c => [a, b, c]
  | .call { callee := .value f, args, .. } => f :: args.toList
  | .call { args, .. } => args.toList
  | _ => []
def guardL (ops : List Oper) (o : Oper) : List Nat :=
  match o.guard with
  | none => []
  | some (j, _) => (match getN ops j with | some oj => (match oj.dst with | some t => [t] | none => []) | none => [])
def looks (ops : List Oper) (o : Oper) : List Nat := guardL ops o ++ tmpsOf (opds o.op)
def needsL : List Edge → List Nat
  | [] => []
  | e :: l => (match Region.binds .any e with | true => e.on :: needsL l | false => needsL l)
def needs (o : Oper) : List Nat := needsL o.after.toList
/-- who writes what op 'i' looks at is before it, or waits for it -/
def lookOk (i : Nat) (nd lk : List Nat) : Nat → List Oper → Bool
  | _, [] => true
  | m, o :: l => (match o.dst with
    | none => lookOk i nd lk (m + 1) l
    | some t => (match (memN lk t).and ((memN nd m).or (memN (needs o) i)) with
      | true => lookOk i nd lk (m + 1) l
      | false => (match memN lk t with | true => false | false => lookOk i nd lk (m + 1) l)))
def looksOk (ops : List Oper) : Nat → List Oper → Bool
  | _, [] => true
  | i, o :: l => (match lookOk i (needs o) (looks ops o) 0 ops with | true => looksOk ops (i + 1) l | false => false)
/-- some op that does not wait for op 'm' looks at what it writes -/
def lateO (ops : List Oper) (m t : Nat) : List Oper → Bool
  | [] => false
  | o :: l => (match (memN (looks ops o) t).and (Bool.not (memN (needs o) m)) with | true => true | false => lateO ops m t l)
def dstsOk : List Oper → List Nat → Bool
  | [], _ => true
  | o :: l, seen => (match o.dst with
    | none => dstsOk l seen
    | some t => (match memN seen t with | true => false | false => dstsOk l (t :: seen)))
/-- every op but those done, and 'i', waits for one that is not done -/
def waits (E : List Nat) (i : Nat) : Nat → List Oper → Bool
  | _, [] => true
  | m, o :: l => (match (memN E m).or ((Nat.beq m i).or (Bool.not (subN (needs o) E))) with | true => waits E i (m + 1) l | false => false)
def allIn (E : List Nat) : Nat → List Oper → Bool
  | _, [] => true
  | m, _ :: l => (match memN E m with | true => allIn E (m + 1) l | false => false)
def reachO (ops : List Oper) : Nat → List Nat → List Nat → List Nat
  | 0, _, acc => acc
  | _, [], acc => acc
  | n + 1, i :: l, acc => (match memN acc i with
    | true => reachO ops n l acc
    | false => (match getN ops i with | some o => reachO ops n (needs o ++ l) (i :: acc) | none => reachO ops n l acc))
def locOp (o : Oper) : Bool :=
  match o.op, o.dst with
  | .alloc _, some k => memN F.locs k
  | .box _ _, some k => memN F.locs k
  | _, _ => false
/-- 0: calm; 1: makes memory; 2: turns memory -/
def kindO (st : St) (o : Oper) : Nat :=
  match o.op with
  | .alloc _ => (match locOp F o with | true => 0 | false => 1)
  | .box _ _ => (match locOp F o with | true => 0 | false => 1)
  | .buildSlice _ _ _ => 1
  | .store _ _ _ | .lookup _ _ _ _ | .makeMap _ _ | .makeSlice _ _ _ | .range _ _ | .next _ _ | .mapUpdate _ _ _ _ => 2
  | .call { callee := .value f, .. } => (match ev st f with
    | .s (.v (.func (.func fid) _ _)) => (match (isFunc f).and (Bool.not (X.ro fid)) with | true => 2 | false => 0)
    | _ => 2)
  | .call { callee := .builtin .len, args := ⟨[x]⟩, .. } => (match ev st x with | .s (.v (.map _)) => 2 | _ => 0)
  | .call { callee := .builtin .cap, .. } | .call { callee := .builtin .min, .. } | .call { callee := .builtin .max, .. } => 0
  | .call _ => 2
  | .convert _ _ x => (match ev st x with | .s (.v (.int _ _)) => 0 | _ => 2)
  | _ => 0
/-- what was read before must be read again after, if the order lets it be read then -/
def keepK (ops : List Oper) (R : List Nat) (key : Option Nat) (st : St) (u : World) (V : VP) (K : Prop) : List Nat → Prop
  | [] => K
  | i :: E => (match memN R i with
    | true => keepK ops R key st u V K E
    | false => (match getN ops i with
      | none => False
      | some o => (match o.op with
        | .load _ x => (match ev st x with
          | .s (.loc k _) => (match key with
            | none => keepK ops R key st u V K E
            | some k' => (match Nat.beq k k' with | true => False | false => keepK ops R key st u V K E))
          | .s (.v (.pointer (some ad))) => (match o.dst with
            | some t => (match st.env t with
              | .s (.v (.tuple _)) => keepK ops R key st u V K E
              | .s (.v val) => At u V ad val.cells.toList ∧ keepK ops R key st u V K E
              | _ => False)
            | none => False)
          | _ => keepK ops R key st u V K E)
        | .call { callee := .value _, .. } => (match kindO X F st o with | 0 => False | _ => keepK ops R key st u V K E)
        | _ => keepK ops R key st u V K E)))
def storeKey (st : St) (o : Oper) : Option Nat :=
  match o.op with
  | .store _ a _ => (match ev st a with | .s (.loc k _) => some k | _ => none)
  | _ => none

def kindL (ops : List Oper) (i : Nat) (o : Oper) : Nat → Nat
  | 0 => (match o.dst with | some t => (match lateO ops i t ops with | true => 1 | false => 0) | none => 0)
  | k => k
def rxo (ops : List Oper) (rk : List Nat) : List Nat → List Nat → St → World → VP → KT → Prop
  | E, [], st, u, V, K => (match allIn E 0 ops with | true => K st u V | false => False)
  | E, i :: l, st, u, V, K => (match getN ops i with
    | none => False
    | some o => (match (subN (needs o) E).and (Bool.not (memN E i)) with
      | false => False
      | true => (match kindL ops i o (kindO X F st o) with
        | 0 => gx X F ops rk o st u V fun st u V => rxo ops rk (i :: E) l st u V K
        | 1 => (match waits E i 0 ops with
          | true => gx X F ops rk o st u V fun st u V => rxo ops rk (i :: E) l st u V K
          | false => False)
        | _ => (match waits E i 0 ops with
          | true => gx X F ops rk o st u V fun st' u V => keepK X F ops (reachO ops (ops.length * ops.length + ops.length) (needs o) []) (storeKey st o) st u V (rxo ops rk (i :: E) l st' u V K) E
          | false => False))))

def dstsOf : List Oper → List Nat
  | [] => []
  | o :: l => match o.dst with | some t => t :: dstsOf l | none => dstsOf l
def St.after (st : St) (ops : List Oper) (rk : List Nat) : St := { st with me := dstsOf ops ++ st.me, ml := rk ++ st.ml }

/-! ### what is carried on -/
def It.ty : It → Nat | .e _ ty => ty | .l _ ty => ty
def TupT : List It → Type
  | [] => Unit
  | i :: is => match is with | [] => (X.tenv i.ty).α | _ :: _ => (X.tenv i.ty).α × TupT is
/-- a block's cells as one value, and back -/
def valL (agg : Bool) (cs : List Value) : SV := match agg with | true => .s (.v (.agg cs.toArray)) | false => match cs with | [x] => .s (.v x) | _ => .s .any
def celL (agg : Bool) (x : Value) : List Value := match agg with | true => x.cells.toList | false => [x]
def getI (st : St) : It → SV
  | .e t _ => st.env t
  | .l k ty => match st.L k with
    | some (T, cs) => (match Nat.beq T ty, X.tab ty with | true, some t => valL t.kind.agg cs | _, _ => .s .any)
    | none => .s .any
def setI (st : St) (x : SV) : It → St
  | .e t _ => st.set t x
  | .l k ty => match x, X.tab ty with | .s (.v val), some t => st.setL k (some (ty, celL t.kind.agg val)) | _, _ => st.setL k none
def decT (st : St) : (l : List It) → Option (TupT X l)
  | [] => some ()
  | [i] => (X.tenv i.ty).dec (getI X st i)
  | i :: j :: is => match (X.tenv i.ty).dec (getI X st i), decT st (j :: is) with
    | some x, some y => some (x, y)
    | _, _ => none
def setT (st : St) : (l : List It) → TupT X l → St
  | [], _ => st
  | [i], x => setI X st ((X.tenv i.ty).enc x) i
  | i :: j :: is, x => setI X (setT st (j :: is) x.2) ((X.tenv i.ty).enc x.1) i
def killE (st : St) : List Nat → St
  | [] => st
  | t :: ts => (killE st ts).set t (.s .any)
def killL (st : St) : List Nat → St
  | [] => st
  | t :: ts => (killL st ts).setL t none
def itE : List It → List Nat
  | [] => []
  | .e t _ :: l => t :: itE l
  | .l _ _ :: l => itE l
def itL : List It → List Nat
  | [] => []
  | .e _ _ :: l => itL l
  | .l k _ :: l => k :: itL l
def allNone (st : St) : List Nat → Bool
  | [] => true
  | k :: ks => match isNoneL (st.L k) with | true => allNone st ks | false => false
/-- the state at a head -/
def St.head (st : St) (p : Pat) (s : TupT X p.items) : St := setT X (killL (killE st p.kill) p.killL) p.items s
def St.based (st : St) : St := { st with be := st.env, me := [], bl := st.L, ml := [] }
/-- a state behind a piece that began at 'st', told from where 'st' was told -/
def St.back (st st' : St) (p : Pat) : St := { st' with be := st.be, me := st'.me ++ (itE p.items ++ (p.kill ++ st.me)), bl := st.bl, ml := st'.ml ++ (itL p.items ++ (p.killL ++ st.ml)) }
/-- may this state go on to the head? -/
def fitsK (p : Pat) (st' : St) (K : TupT X p.items → Prop) : Prop :=
  match (subN st'.me (itE p.items ++ p.kill)).and (subN st'.ml (itL p.items ++ p.killL)) with
  | true => (match decT X st' p.items with | some s => K s | none => False)
  | false => False

def withJ (j : Option Pat) (st : St) (Kn Kr : KT) (Ke : Nat → KT) (run : St → KT → KT → (Nat → KT) → Prop) : Prop :=
  match j with
  | none => run st Kn Kr Ke
  | some p => (match allNone st p.killL with
    | true => JoinN (fun (s : TupT X p.items) u V => Kn (st.back (st.head X p s).based p) u V) fun Kj =>
        run st.based (fun st' u V => fitsK X p st' fun s => Kj s u V)
          (fun st' u V => Kr (st.back st' p) u V) (fun i st' u V => Ke i (st.back st' p) u V)
    | false => False)

def sx : Code → H → St → World → VP → KT → KT → (Nat → KT) → Prop
  | .skip, _, st, u, V, Kn, _, _ => Kn st u V
  | .ret, _, st, u, V, _, Kr, _ => Kr st u V
  | .exit i, _, st, u, V, _, _, Ke => Ke i st u V
  | .seq a b, h, st, u, V, Kn, Kr, Ke =>
    withJ X h.j st Kn Kr Ke fun st Kn Kr Ke => sx a h.a st u V (fun st u V => sx b h.b st u V Kn Kr Ke) Kr Ke
  | .cond c a b, h, st, u, V, Kn, Kr, Ke =>
    withJ X h.j st Kn Kr Ke fun st Kn Kr Ke => (match c with
      | .tmp t => (match st.env t with
        | .s (.v (.bool x)) => IfB x (sx a h.a { st.set t (.s (.v (.bool true))) with me := t :: st.me } u V Kn Kr Ke) (sx b h.b { st.set t (.s (.v (.bool false))) with me := t :: st.me } u V Kn Kr Ke)
        | _ => False)
      | .const (.bool x) => IfB x (sx a h.a st u V Kn Kr Ke) (sx b h.b st u V Kn Kr Ke)
      | _ => False)
  | .block i c, h, st, u, V, Kn, Kr, Ke =>
    withJ X h.j st Kn Kr Ke fun st Kn Kr Ke => sx c h.a st u V Kn Kr (fun i' st u V => match Nat.beq i' i with | true => Kn st u V | false => Ke i' st u V)
  | .region _ ops draw, h, st, u, V, Kn, _, _ =>
    withJ X h.j st Kn (fun _ _ _ => False) (fun _ _ _ _ => False) fun st Kn _ _ => (match draw with
      | false => rxs X F ops.toList h.rk ops.toList st u V fun st u V => Kn (st.after ops.toList h.rk) u V
      | true => (match (looksOk ops.toList 0 ops.toList).and (dstsOk ops.toList []) with
        | true => rxo X F ops.toList h.rk [] h.ord st u V fun st u V => Kn (st.after ops.toList h.rk) u V
        | false => False))
  | .loop c, h, st, u, V, _, Kr, Ke =>
    (match h.l with
    | some p => (match allNone st p.killL with
      | true => (fitsK X p st.based fun s0 => LoopN s0 u V fun (s : TupT X p.items) u V next =>
          sx c h.a (st.head X p s).based u V (fun st' u V => fitsK X p st' fun s => next s u V)
            (fun st' u V => Kr (st.back st' p) u V) (fun i st' u V => Ke i (st.back st' p) u V))
      | false => False)
    | none => False)
  | _, _, _, _, _, _, _, _ => False

def initEnv (args : List SV) : Nat → SV := fun t => match getN args t with | some x => x | none => .s .any
def St.init (args : List SV) : St := { env := initEnv args, L := fun _ => none, be := initEnv args, me := [], bl := fun _ => none, ml := [] }

def resS (st : St) : ResultVar → Option S1
  | .tmp t => (match st.env t with | .s x => some x | _ => none)
  | .cell t T => (match X.tab T, st.env t with
    | some ti, .s (.loc k o) => (match st.L k with
      | some (_, cs) => (match Nat.ble (o + ti.size) cs.length, ti.kind.agg, Nat.ble 1 ti.size with
        | true, true, _ => some (.v (.agg (takeN ti.size (dropN o cs)).toArray))
        | true, false, true => (match dropN o cs with | x :: _ => some (.v x) | [] => none)
        | _, _, _ => none)
      | none => none)
    | _, _ => none)
def resL (st : St) : List ResultVar → Option (List S1)
  | [] => some []
  | r :: rs => (match resS X st r with
    | some x => (match good1 x, resL st rs with | true, some l => some (x :: l) | _, _ => none)
    | none => none)
def resSV : List S1 → SV
  | [x] => .s x
  | l => .tup l
def retK (E : Enc) (rs : List ResultVar) (K : E.α → World → VP → Prop) : KT := fun st u V =>
  match resL X st rs with
  | some l => (match E.dec (resSV l) with | some x => K x u V | none => False)
  | none => False

def fx (c : Code) (rs : List ResultVar) (h : H) (args : List SV) (E : Enc) (u : World) (V : VP) (K : E.α → World → VP → Prop) : Prop :=
  sx X F c h (St.init args) u V (retK X E rs K) (retK X E rs K) (fun _ _ _ _ => False)
end
end Go.Sx

-- SxEnc
namespace Go.Sx

structure Sl where
  a : Option Addr
  len : Nat
  cap : Nat
structure Clo where
  f : Nat
  caps : List Value

/-- how data lie in cells -/
structure Cod (α : Type) where
  cells : α → List Value
  rd : List Value → Option (α × List Value)
  law : ∀ l a r, rd l = some (a, r) → l = cells a ++ r

def cInt (k : IntKind) : Cod Int where
  cells n := [.int k n]
  rd l := match l with | .int k' n :: r => (match decide (k' = k) with | true => some (n, r) | false => none) | _ => none
  law := by
    intro l a r h
    match l, h with
    | .int k' n :: r', h =>
      simp only at h
      by_cases hk : k' = k
      · subst hk; simp at h; obtain ⟨rfl, rfl⟩ := h; rfl
      · simp [hk] at h
def cBool : Cod Bool where
  cells n := [.bool n]
  rd l := match l with | .bool n :: r => some (n, r) | _ => none
  law := by
    intro l a r h
    match l, h with
    | .bool n :: r', h => simp at h; obtain ⟨rfl, rfl⟩ := h; rfl
def cStr : Cod ByteArray where
  cells n := [.string n]
  rd l := match l with | .string n :: r => some (n, r) | _ => none
  law := by
    intro l a r h
    match l, h with
    | .string n :: r', h => simp at h; obtain ⟨rfl, rfl⟩ := h; rfl
def cSl : Cod Sl where
  cells n := [.slice n.a n.len n.cap]
  rd l := match l with | .slice a n c :: r => some (⟨a, n, c⟩, r) | _ => none
  law := by
    intro l a r h
    match l, h with
    | .slice a n c :: r', h => simp at h; obtain ⟨rfl, rfl⟩ := h; rfl
def cPtr : Cod (Option Addr) where
  cells n := [.pointer n]
  rd l := match l with | .pointer n :: r => some (n, r) | _ => none
  law := by
    intro l a r h
    match l, h with
    | .pointer n :: r', h => simp at h; obtain ⟨rfl, rfl⟩ := h; rfl
def cMap : Cod (Option Nat) where
  cells n := [.map n]
  rd l := match l with | .map n :: r => some (n, r) | _ => none
  law := by
    intro l a r h
    match l, h with
    | .map n :: r', h => simp at h; obtain ⟨rfl, rfl⟩ := h; rfl
def Cod.pair {α β : Type} (A : Cod α) (B : Cod β) : Cod (α × β) where
  cells p := A.cells p.1 ++ B.cells p.2
  rd l := match A.rd l with | some (a, r) => (match B.rd r with | some (b, r') => some ((a, b), r') | none => none) | none => none
  law := by
    intro l a r h
    split at h
    · rename_i x y hx
      split at h
      · rename_i z t hz
        simp at h; obtain ⟨rfl, rfl⟩ := h
        rw [A.law _ _ _ hx, B.law _ _ _ hz, List.append_assoc]
      · simp at h
    · simp at h
def Cod.iso {α β : Type} (A : Cod α) (mk : α → β) (un : β → α) (h : ∀ a, un (mk a) = a) : Cod β where
  cells b := A.cells (un b)
  rd l := match A.rd l with | some (a, r) => some (mk a, r) | none => none
  law := by
    intro l a r hh
    split at hh
    · rename_i x y hx
      simp at hh; obtain ⟨rfl, rfl⟩ := hh
      rw [A.law _ _ _ hx, h]
    · simp at hh

structure Enc1 where
  α : Type
  enc : α → S1
  dec : S1 → Option α
  law : ∀ s a, dec s = some a → enc a = s
  good : ∀ a, good1 (enc a) = true

/-- one cell -/
def Enc1.cell {α : Type} (c : Cod α) : Enc1 where
  α := α
  enc a := .v (match c.cells a with | x :: _ => x | [] => undef)
  dec s := match s with | .v x => (match c.rd [x] with | some (a, []) => some a | _ => none) | _ => none
  law := by
    intro s a h
    split at h
    · rename_i x
      split at h
      · rename_i b hb
        simp at h; subst h
        have := c.law _ _ _ hb
        simp at this
        rw [← this]
      · simp at h
    · simp at h
  good _ := rfl
def Enc1.agg {α : Type} (c : Cod α) : Enc1 where
  α := α
  enc a := .v (.agg (c.cells a).toArray)
  dec s := match s with | .v (.agg ⟨l⟩) => (match c.rd l with | some (a, []) => some a | _ => none) | _ => none
  law := by
    intro s a h
    split at h
    · rename_i l
      split at h
      · rename_i b hb
        simp at h; subst h
        have := c.law _ _ _ hb
        simp at this
        rw [← this]
      · simp at h
    · simp at h
  good _ := rfl
def Enc1.err : Enc1 where
  α := Option Int
  enc e := .err e
  dec s := match s with | .err e => some e | _ => none
  law := by
    intro s a h
    split at h <;> simp_all
  good _ := rfl
def Enc1.clo : Enc1 where
  α := Clo
  enc c := .v (.func (.func c.f) #[] c.caps.toArray)
  dec s := match s with | .v (.func (.func f) ⟨[]⟩ ⟨l⟩) => some ⟨f, l⟩ | _ => none
  law := by
    intro s a h
    split at h
    · simp at h; subst h; rfl
    · simp at h
  good _ := rfl
def Enc1.raw : Enc1 where
  α := Value
  enc e := .v e
  dec s := match s with | .v e => some e | _ => none
  law := by
    intro s a h
    split at h <;> simp_all
  good _ := rfl

def Enc.one (a : Enc1) : Enc where
  α := a.α
  enc x := .s (a.enc x)
  dec s := match s with | .s y => a.dec y | _ => none
  law := by
    intro s x h
    split at h
    · rw [a.law _ _ h]
    · simp at h
  good x := a.good x
def Enc.t0 : Enc where
  α := Unit
  enc _ := .tup []
  dec s := match s with | .tup [] => some () | _ => none
  law := by
    intro s x h
    split at h <;> simp_all
  good _ := rfl
def Enc.t2 (a b : Enc1) : Enc where
  α := a.α × b.α
  enc x := .tup [a.enc x.1, b.enc x.2]
  dec s := match s with | .tup [x, y] => (match a.dec x, b.dec y with | some x, some y => some (x, y) | _, _ => none) | _ => none
  law := by
    intro s x h
    split at h
    · split at h
      · rename_i h1 h2
        simp at h; subst h
        rw [a.law _ _ h1, b.law _ _ h2]
      · simp at h
    · simp at h
  good x := by simp [goodS, a.good, b.good]
def Enc.t3 (a b c : Enc1) : Enc where
  α := a.α × b.α × c.α
  enc x := .tup [a.enc x.1, b.enc x.2.1, c.enc x.2.2]
  dec s := match s with | .tup [x, y, z] => (match a.dec x, b.dec y, c.dec z with | some x, some y, some z => some (x, y, z) | _, _, _ => none) | _ => none
  law := by
    intro s x h
    split at h
    · split at h
      · rename_i h1 h2 h3
        simp at h; subst h
        rw [a.law _ _ h1, b.law _ _ h2, c.law _ _ h3]
      · simp at h
    · simp at h
  good x := by simp [goodS, a.good, b.good, c.good]
def Enc.t4 (a b c d : Enc1) : Enc where
  α := a.α × b.α × c.α × d.α
  enc x := .tup [a.enc x.1, b.enc x.2.1, c.enc x.2.2.1, d.enc x.2.2.2]
  dec s := match s with | .tup [x, y, z, t] => (match a.dec x, b.dec y, c.dec z, d.dec t with | some x, some y, some z, some t => some (x, y, z, t) | _, _, _, _ => none) | _ => none
  law := by
    intro s x h
    split at h
    · split at h
      · rename_i h1 h2 h3 h4
        simp at h; subst h
        rw [a.law _ _ h1, b.law _ _ h2, c.law _ _ h3, d.law _ _ h4]
      · simp at h
    · simp at h
  good x := by simp [goodS, a.good, b.good, c.good, d.good]
def Enc.t5 (a b c d e : Enc1) : Enc where
  α := a.α × b.α × c.α × d.α × e.α
  enc x := .tup [a.enc x.1, b.enc x.2.1, c.enc x.2.2.1, d.enc x.2.2.2.1, e.enc x.2.2.2.2]
  dec s := match s with | .tup [x, y, z, t, u] => (match a.dec x, b.dec y, c.dec z, d.dec t, e.dec u with | some x, some y, some z, some t, some u => some (x, y, z, t, u) | _, _, _, _, _ => none) | _ => none
  law := by
    intro s x h
    split at h
    · split at h
      · rename_i h1 h2 h3 h4 h5
        simp at h; subst h
        rw [a.law _ _ h1, b.law _ _ h2, c.law _ _ h3, d.law _ _ h4, e.law _ _ h5]
      · simp at h
    · simp at h
  good x := by simp [goodS, a.good, b.good, c.good, d.good, e.good]

def eInt : Enc1 := .cell (cInt .i64)
def eIntK (k : IntKind) : Enc1 := .cell (cInt k)
def eBool : Enc1 := .cell cBool
def eStr : Enc1 := .cell cStr
def eSl : Enc1 := .cell cSl
def ePtr : Enc1 := .cell cPtr
def eMap : Enc1 := .cell cMap
def lookN {α : Type _} (l : List (Nat × α)) (k : Nat) : Option α := match l with | [] => none | x :: xs => match Nat.beq x.1 k with | true => some x.2 | false => lookN xs k
def lookE (l : List (Nat × Enc)) (k : Nat) : Enc := match lookN l k with | some e => e | none => Enc.one .raw
def bodyOf (f : Func) : Code := match f.body with | some c => c | none => .skip
end Go.Sx
