/- The abstract machine: values, memory, a small code, and how it is carried out. -/
import GoSem.Core.View
set_option linter.unusedVariables false
namespace Mu
open Go (IntKind Fn)

/-! ### Keys and tables -/
inductive P | h | o (p : P) | i (p : P)

inductive T (α : Type) | nil | node (l : T α) (v : Option α) (r : T α)

namespace T
variable {α : Type}
def get : T α → P → Option α
  | nil, _ => none
  | node _ v _, .h => v
  | node l _ _, .o p => l.get p
  | node _ _ r, .i p => r.get p
def sing (x : α) : P → T α
  | .h => node nil (some x) nil
  | .o p => node (sing x p) none nil
  | .i p => node nil none (sing x p)
def set (x : α) : P → T α → T α
  | p, nil => sing x p
  | .h, node l _ r => node l (some x) r
  | .o p, node l v r => node (set x p l) v r
  | .i p, node l v r => node l v (set x p r)
end T

/-- n ≥ 1, by its digits, the last one first -/
def toP : Nat → Nat → P
  | 0, _ => .h
  | f + 1, n => if n ≤ 1 then .h else bif n % 2 == 0 then .o (toP f (n / 2)) else .i (toP f (n / 2))
def key (b : Nat) : P := toP (b + 1) (b + 1)

/-! ### Values and memory -/
inductive V
  | junk
  | bool (b : Bool)
  | int (k : IntKind) (n : Int)
  | str (s : List Nat)
  | pnil
  | ptr (b o : Nat)
  | snil
  | sl (b o len cap es : Nat) (ex : Bool)
  | mnil
  | map (b : Nat)
  | fn (f : Nat) (first captured : List V)
  | fnil
  | iface (t : Nat) (v : V)
  | inil
  | agg (cs : List V)
  | tup (vs : List V)
deriving Inhabited

mutual
def V.beq : V → V → Bool
  | .bool a, .bool b => a == b
  | .int k a, .int k' b => decide (k = k') && decide (a = b)
  | .str a, .str b => decide (a = b)
  | .pnil, .pnil => true
  | .ptr b o, .ptr b' o' => Nat.beq b b' && Nat.beq o o'
  | .snil, .snil => true
  | .sl b o l c e x, .sl b' o' l' c' e' x' => Nat.beq b b' && Nat.beq o o' && Nat.beq l l' && Nat.beq c c' && Nat.beq e e' && x == x'
  | .mnil, .mnil => true
  | .map b, .map b' => Nat.beq b b'
  | .fn f a c, .fn f' a' c' => Nat.beq f f' && V.beqL a a' && V.beqL c c'
  | .fnil, .fnil => true
  | .iface t v, .iface t' v' => Nat.beq t t' && V.beq v v'
  | .inil, .inil => true
  | .agg a, .agg b => V.beqL a b
  | .tup a, .tup b => V.beqL a b
  | _, _ => false
def V.beqL : List V → List V → Bool
  | [], [] => true
  | a :: x, b :: y => V.beq a b && V.beqL x y
  | _, _ => false
end

/-- Who may write: rw: all; sb: all, but pointers into it are not compared; ro: nobody -/
inductive Own | rw | sb | ro
deriving DecidableEq

inductive Blk
  | cells (cs : List V) (own : Own) (t : Nat)
  | map (es : List (V × V))
  | dead

structure M where
  t : T Blk
  n : Nat

def M.get (m : M) (b : Nat) : Option Blk := m.t.get (key b)
def M.put (m : M) (b : Nat) (x : Blk) : M := ⟨m.t.set x (key b), m.n⟩
def M.new (m : M) (x : Blk) : M := ⟨m.t.set x (key m.n), m.n + 1⟩

inductive R
  | ok (v : V) (m : M)
  | pan (v : V) (m : M)
  | bad

abbrev Env := T V

inductive Opd
  | tmp (p : P)
  | const (v : V)

def ev (e : Env) : Opd → V
  | .tmp p => match e.get p with | some v => v | none => .junk
  | .const v => v

inductive IB | add | sub | mul | quo | rem | and | or | xor | shl | shr | lss | leq | gtr | geq
  | sadd | slss | sleq | sgtr | sgeq
deriving DecidableEq

/-- How two values of a type are compared -/
inductive EqB | int | str | bool
inductive EqD | base (b : EqB) | ptr | slc | mp | fnc | iface (cst : Bool) | struct (fs : List (Nat × EqB))

/-- Kinds of operations; their operands are told beside -/
inductive Kind
  | move | pick
  | alloc (t : Nat) (cs : List V)
  | box (t n : Nat)
  | build (zero : List V) (parts : List (Nat × Nat))
  | buildSlice (t es : Nat) (zero : List V) (len : Nat) (parts : List (Nat × Nat))
  | load (agg : Bool) (n : Nat)
  | store (n : Nat)
  | nilCheck
  | bin (op : IB)
  | eql (d : EqD) (neg : Bool)
  | not
  | convInt (k : IntKind)
  | convStrBytes (t : Nat)
  | convBytesStr
  | convSame
  | mkIface (t : Nat)
  | mkFunc (f nfirst : Nat)
  | mkMap
  | lookup (sk : Bool) (zero : V) (ok : Bool)
  | mapUpdate (sk : Bool)
  | delete (sk : Bool)
  | mkSlice (t es : Nat) (zero : List V)
  | slStr (lo hi : Bool)
  | slSlice (es : Nat) (lo hi mx : Bool)
  | slArr (es n : Nat) (lo hi : Bool)
  | fieldAddr (off : Nat)
  | field (agg : Bool) (off n : Nat)
  | idxSlice (es : Nat)
  | idxArr (es len : Nat)
  | idxStr
  | idxAgg (agg : Bool) (es len : Nat)
  | assertT (t : Nat) (zero : V) (ok : Bool)
  | extract (i : Nat)
  | panic
  | lenS
  | lenL
  | lenM
  | cap
  | append (t es by_ : Nat)
  | copy (es : Nat)
  | clear (es : Nat) (zero : List V)
  | min
  | max
  | call
  | invoke (name : Nat)
  | toUns
  | fromUns (u : Nat)
  | sliceData
  | unsStr (u : Nat)
  | never

structure Op where
  dst : Option P
  k : Kind
  args : List Opd
  guard : Option (P × Bool)

/-- In a region without an order of its own: what only computes; what reads (from how many effects on, up to how many it may be done); what makes memory (up to how many effects it may be done); what acts. -/
inductive Cls | pure | read (lo hi : Nat) | alloc (hi : Nat) | eff

inductive Rs | tmp (p : P) | cell (p : P) (agg : Bool) (n : Nat)

/-- an operation of a region without an order of its own: its place in the text, and behind which places it comes -/
structure DOp where
  idx : Nat
  op : Op
  cls : Cls
  after : List Nat

inductive Cmd
  | skip
  | reg (ops : List Op)
  | drawn (ops : List DOp)
  | seq (a b : Cmd)
  | cond (c : Opd) (a b : Cmd)
  | condJ (c : Opd) (keep : List P) (a b : Cmd)
  | block (id : Nat) (keep : List P) (c : Cmd)
  | loop (keep : List P) (c : Cmd)
  | exit (id : Nat) (keep : List P)
  | ret (rs : List Rs)
  | never

structure IFn where
  np : Nat
  body : Cmd
  rs : List Rs

structure Prg where
  fns : T IFn
  prims : Nat → Option (List V → M → R)
  /-- (type, method) ↦ function, place of the receiver -/
  meth : Nat → Nat → Option (Nat × Nat)
  /-- pointer types that interface values are compared at -/
  ptrT : Nat → Bool
  /-- (type of a row, place, type): is there a variable of that type at that place of the row's first element? how many cells that element has -/
  lies : Nat → Nat → Nat → Option Nat

/-! ### Operations -/
def one : V → Bool
  | .junk | .agg _ | .tup _ => false
  | _ => true

def cellsOf : V → Option (List V)
  | .agg cs => some cs
  | .junk | .tup _ => none
  | v => some [v]

def slice1 (cs : List V) (off n : Nat) : List V := (cs.drop off).take n
def splice (cs : List V) (off : Nat) (new : List V) : List V := cs.take off ++ (new ++ cs.drop (off + new.length))

def opt (x : Option V) (m : M) : R := match x with | some v => .ok v m | none => .bad

def partV (agg : Bool) (off n : Nat) (cs : List V) : Option V := bif agg then (if off + n ≤ cs.length then some (.agg (slice1 cs off n)) else none) else cs[off]?

def loadAt (agg : Bool) (n b o : Nat) (m : M) : R :=
  match m.get b with
  | some (.cells cs _ _) => opt (partV agg o n cs) m
  | _ => .bad

def canWrite : Own → Bool
  | .ro => false
  | _ => true

def storeAt (n b o : Nat) (x : V) (m : M) : R :=
  match m.get b, cellsOf x with
  | some (.cells cs own t), some l =>
    if canWrite own = true ∧ l.length = n ∧ o + n ≤ cs.length then .ok (.tup []) (m.put b (.cells (splice cs o l) own t)) else .bad
  | _, _ => .bad

def fill (cs : List V) : List (Nat × Nat) → List V → Option (List V)
  | [], _ => some cs
  | (off, n) :: ps, v :: vs => match cellsOf v with
    | some l => if l.length = n ∧ off + n ≤ cs.length then fill (splice cs off l) ps vs else none
    | none => none
  | _, [] => none

def rep (cs : List V) : Nat → List V
  | 0 => []
  | n + 1 => cs ++ rep cs n

def ltStr : List Nat → List Nat → Bool
  | _, [] => false
  | [], _ :: _ => true
  | a :: x, b :: y => decide (a < b) || (decide (a = b) && ltStr x y)

def binInt (op : IB) (k : IntKind) (a b : Int) (m : M) : R :=
  match op with
  | .add => .ok (.int k (k.wrap (a + b))) m
  | .sub => .ok (.int k (k.wrap (a - b))) m
  | .mul => .ok (.int k (k.wrap (a * b))) m
  | .quo => if b = 0 then .bad else .ok (.int k (k.wrap (a.tdiv b))) m
  | .rem => if b = 0 then .bad else .ok (.int k (a.tmod b)) m
  | .and => .ok (.int k (k.wrap (BitVec.ofInt k.bits a &&& BitVec.ofInt k.bits b).toNat)) m
  | .or => .ok (.int k (k.wrap (BitVec.ofInt k.bits a ||| BitVec.ofInt k.bits b).toNat)) m
  | .xor => .ok (.int k (k.wrap (BitVec.ofInt k.bits a ^^^ BitVec.ofInt k.bits b).toNat)) m
  | .lss => .ok (.bool (decide (a < b))) m
  | .leq => .ok (.bool (decide (a ≤ b))) m
  | .gtr => .ok (.bool (decide (b < a))) m
  | .geq => .ok (.bool (decide (b ≤ a))) m
  | _ => .bad

def evBin (op : IB) (x y : V) (m : M) : R :=
  match op, x, y with
  | .shl, .int k a, .int _ b => if b < 0 then .bad else .ok (.int k (k.wrap (a * 2 ^ (min b.toNat k.bits)))) m
  | .shr, .int k a, .int _ b => if b < 0 then .bad else .ok (.int k (a.fdiv (2 ^ (min b.toNat k.bits)))) m
  | .sadd, .str a, .str b => if a.length + b.length ≤ 2 ^ 62 then .ok (.str (a ++ b)) m else .bad
  | .slss, .str a, .str b => .ok (.bool (ltStr a b)) m
  | .sleq, .str a, .str b => .ok (.bool (ltStr a b || decide (a = b))) m
  | .sgtr, .str a, .str b => .ok (.bool (!(ltStr a b || decide (a = b)))) m
  | .sgeq, .str a, .str b => .ok (.bool (!ltStr a b)) m
  | op, .int k a, .int k' b => if k = k' then binInt op k a b m else .bad
  | _, _, _ => .bad

def eqBase : EqB → V → V → Option Bool
  | .int, .int k a, .int k' b => if k = k' then some (decide (a = b)) else none
  | .str, .str a, .str b => some (decide (a = b))
  | .bool, .bool a, .bool b => some (a == b)
  | _, _, _ => none

def eqFields (xs ys : List V) : List (Nat × EqB) → Option Bool
  | [] => some true
  | (o, d) :: r => match xs[o]?, ys[o]? with
    | some x, some y => match eqBase d x y with
      | some true => eqFields xs ys r
      | some false => some false
      | none => none
    | _, _ => none

def isRw (b : Nat) (m : M) : Bool := match m.get b with | some (.cells _ .rw _) => true | _ => false

def eqPtr (m : M) : V → V → Option Bool
  | .pnil, .pnil => some true
  | .pnil, .ptr _ _ => some false
  | .ptr _ _, .pnil => some false
  | .ptr b o, .ptr b' o' => if b = b' then some (decide (o = o')) else if isRw b m = true ∧ isRw b' m = true then some false else none
  | _, _ => none

def evEq (ptrT : Nat → Bool) (d : EqD) (x y : V) (m : M) : Option Bool :=
  match d with
  | .base d => eqBase d x y
  | .ptr => eqPtr m x y
  | .slc => match x, y with
    | .snil, .snil => some true
    | .snil, .sl .. => some false
    | .sl .., .snil => some false
    | _, _ => none
  | .mp => match x, y with
    | .mnil, .mnil => some true
    | .mnil, .map _ => some false
    | .map _, .mnil => some false
    | _, _ => none
  | .fnc => match x, y with
    | .fnil, .fnil => some true
    | .fnil, .fn .. => some false
    | .fn .., .fnil => some false
    | _, _ => none
  | .iface cst => match x, y with
    | .inil, .inil => if cst = true then some true else none
    | .inil, .iface .. => some false
    | .iface .., .inil => some false
    | .iface t v, .iface t' v' => if t = t' then (if ptrT t = true then eqPtr m v v' else none) else some false
    | _, _ => none
  | .struct fs => match x, y with
    | .agg xs, .agg ys => eqFields xs ys fs
    | _, _ => none

def natOf : V → Option Nat
  | .int _ n => if n < 0 then none else some n.toNat
  | _ => none

/-- the bytes or cells of what is appended or copied -/
def rdSl (es : Nat) (v : V) (m : M) : Option (List V) :=
  match v with
  | .snil => some []
  | .sl b o len _ es' _ => if es = es' then match m.get b with
      | some (.cells cs _ _) => if o + len * es ≤ cs.length then some (slice1 cs o (len * es)) else none
      | _ => none
    else none
  | .str s => if es = 1 then some (s.map fun n => .int .u8 (Int.ofNat n)) else none
  | _ => none

def lenV : V → Nat
  | .str s => s.length
  | .sl _ _ len _ _ _ => len
  | _ => 0

def big : Nat := 2 ^ 31

def evAppend (t es by_ : Nat) (s x : V) (m : M) : R :=
  match rdSl es x m with
  | none => .bad
  | some new =>
    let k := lenV x
    match s with
    | .snil => if k = 0 then .ok .snil m else if 2 ^ 47 < k * by_ then .bad else
        .ok (.sl m.n 0 k k es false) (m.new (.cells new .rw t))
    | .sl b o len cap es' ex =>
      if es = es' then
        if k = 0 then .ok (.sl b o len cap es' ex) m else if 2 ^ 47 < (len + k) * by_ then .bad else
        match m.get b with
        | some (.cells cs own t') =>
          if len + k ≤ cap then
            if canWrite own = true ∧ o + (len + k) * es ≤ cs.length then .ok (.sl b o (len + k) cap es ex) (m.put b (.cells (splice cs (o + len * es) new) own t')) else .bad
          else
            let old := slice1 cs o (len * es)
            if o + len * es ≤ cs.length then
              bif ex then .ok (.sl m.n 0 (len + k) (len + k) es false) (m.new (.cells (old ++ new) .rw t))
              else if o = 0 ∧ o + len * es = cs.length ∧ own = .rw ∧ t = t' then .ok (.sl m.n 0 (len + k) (len + k) es false) ((m.put b .dead).new (.cells (old ++ new) .rw t))
              else .bad
            else .bad
        | _ => .bad
      else .bad
    | _ => .bad

def eqKey : V → V → Option Bool
  | .int k a, .int k' b => if k = k' then some (decide (a = b)) else none
  | .str a, .str b => some (decide (a = b))
  | _, _ => none

def findK (k : V) : List (V × V) → Option (Option V)
  | [] => some none
  | (k', v) :: r => match eqKey k k' with
    | some true => some (some v)
    | some false => findK k r
    | none => none
def setK (k v : V) : List (V × V) → Option (List (V × V))
  | [] => some [(k, v)]
  | (k', v') :: r => match eqKey k k' with
    | some true => some ((k, v) :: r)
    | some false => (setK k v r).map ((k', v') :: ·)
    | none => none
def delK (k : V) : List (V × V) → Option (List (V × V))
  | [] => some []
  | (k', v') :: r => match eqKey k k' with
    | some true => some r
    | some false => (delK k r).map ((k', v') :: ·)
    | none => none

def isKey : Bool → V → Bool
  | false, .int _ _ => true
  | true, .str _ => true
  | _, _ => false

def strOf : List V → Option (List Nat)
  | [] => some []
  | .int .u8 n :: r => if 0 ≤ n ∧ n < 256 then (strOf r).map (n.toNat :: ·) else none
  | _ => none

def minV : V → List V → Option V
  | v, [] => some v
  | .int k a, .int _ b :: r => minV (.int k (if b < a then b else a)) r
  | _, _ => none
def maxV : V → List V → Option V
  | v, [] => some v
  | .int k a, .int _ b :: r => maxV (.int k (if b > a then b else a)) r
  | _, _ => none

/-- the operands of a slice expression that are there -/
def bnds (lo hi mx : Bool) (vs : List V) : Option (Option V × Option V × Option V) :=
  match lo, hi, mx, vs with
  | false, false, false, [] => some (none, none, none)
  | true, false, false, [a] => some (some a, none, none)
  | false, true, false, [a] => some (none, some a, none)
  | true, true, false, [a, b] => some (some a, some b, none)
  | false, true, true, [a, b] => some (none, some a, some b)
  | true, true, true, [a, b, c] => some (some a, some b, some c)
  | _, _, _, _ => none

def bnd (x : Option V) (d lim : Nat) : Option Nat :=
  match x with
  | none => some d
  | some v => match natOf v with
    | some n => if n ≤ lim then some n else none
    | none => none

def topOf (b : Option V) (c cap : Nat) : Nat := match b with | some _ => c | none => cap

/-- low, high, and the capacity's end -/
def bnds3 (len cap : Nat) (b : Option V × Option V × Option V) : Option (Nat × Nat × Nat) :=
  match bnd b.2.2 cap cap with
  | some c => match bnd b.2.1 len (topOf b.2.2 c cap) with
    | some h => match bnd b.1 0 h with
      | some l => some (l, h, c)
      | none => none
    | none => none
  | none => none

section
variable (W : Prg) (call : Nat → List V → M → R)

def callVal (f : V) (args : List V) (m : M) : R :=
  match f with
  | .fn k first cap => call k (first ++ (args ++ cap)) m
  | _ => .bad

def evK (m : M) : Kind → List V → R
  | .move, [x] => .ok x m
  | .pick, [.bool c, a, b] => .ok (bif c then a else b) m
  | .alloc t cs, [] => .ok (.ptr m.n 0) (m.new (.cells cs .rw t))
  | .box t n, [x] => match cellsOf x with
    | some l => if l.length = n then .ok (.ptr m.n 0) (m.new (.cells l .rw t)) else .bad
    | none => .bad
  | .build zero parts, vs => match fill zero parts vs with
    | some cs => .ok (.agg cs) m
    | none => .bad
  | .buildSlice t es zero len parts, vs => match fill (rep zero len) parts vs with
    | some cs => if cs.length = len * es then .ok (.sl m.n 0 len len es true) (m.new (.cells cs .rw t)) else .bad
    | none => .bad
  | .load agg n, [.ptr b o] => loadAt agg n b o m
  | .store n, [.ptr b o, x] => storeAt n b o x m
  | .nilCheck, [x] => match x with
    | .ptr b o => .ok (.ptr b o) m
    | .fn f a c => .ok (.fn f a c) m
    | .iface t v => .ok (.iface t v) m
    | _ => .bad
  | .bin op, [x, y] => evBin op x y m
  | .eql d neg, [x, y] => match evEq W.ptrT d x y m with
    | some b => .ok (.bool (xor b neg)) m
    | none => .bad
  | .not, [.bool b] => .ok (.bool (!b)) m
  | .convInt k, [.int _ n] => .ok (.int k (k.wrap n)) m
  | .convSame, [.str s] => .ok (.str s) m
  | .convStrBytes t, [.str s] => if big < s.length then .bad else .ok (.sl m.n 0 s.length s.length 1 false) (m.new (.cells (s.map fun n => .int .u8 (Int.ofNat n)) .sb t))
  | .convBytesStr, [x] => match x with
    | .snil => .ok (.str []) m
    | .sl .. => (match rdSl 1 x m with
      | some l => match strOf l with
        | some s => .ok (.str s) m
        | none => .bad
      | none => .bad)
    | _ => .bad
  | .mkIface t, [x] => .ok (.iface t x) m
  | .mkFunc f nf, vs => if nf ≤ vs.length then .ok (.fn f (vs.take nf) (vs.drop nf)) m else .bad
  | .mkMap, [] => .ok (.map m.n) (m.new (.map []))
  | .lookup sk zero ok, [x, k] => match x with
    | .mnil => if isKey sk k = true then .ok (bif ok then .tup [zero, .bool false] else zero) m else .bad
    | .map b => (match m.get b with
      | some (.map es) => if isKey sk k = true then match findK k es with
        | some (some v) => .ok (bif ok then .tup [v, .bool true] else v) m
        | some none => .ok (bif ok then .tup [zero, .bool false] else zero) m
        | none => .bad
        else .bad
      | _ => .bad)
    | _ => .bad
  | .mapUpdate sk, [.map b, k, v] => match m.get b with
    | some (.map es) => if isKey sk k = true then match setK k v es with
        | some es' => .ok (.tup []) (m.put b (.map es'))
        | none => .bad
      else .bad
    | _ => .bad
  | .delete sk, [.map b, k] => match m.get b with
    | some (.map es) => if isKey sk k = true then match delK k es with
        | some es' => .ok (.tup []) (m.put b (.map es'))
        | none => .bad
      else .bad
    | _ => .bad
  | .mkSlice t es zero, [l, c] => match natOf l, natOf c with
    | some l, some c => if l ≤ c ∧ c ≤ big then .ok (.sl m.n 0 l c es true) (m.new (.cells (rep zero c) .rw t)) else .bad
    | _, _ => .bad
  | .slStr lo hi, .str s :: vs => match bnds lo hi false vs with
    | some b => match bnds3 s.length s.length b with
      | some (l, h, _) => .ok (.str ((s.take h).drop l)) m
      | none => .bad
    | none => .bad
  | .slSlice es lo hi mx, x :: vs => match bnds lo hi mx vs with
    | some bs => match x with
      | .snil => (match bnds3 0 0 bs with
        | some _ => .ok .snil m
        | none => .bad)
      | .sl b o len cap es' ex => if es = es' then match bnds3 len cap bs with
          | some (l, h, c) => .ok (.sl b (o + l * es) (h - l) (c - l) es (ex || mx)) m
          | none => .bad
        else .bad
      | _ => .bad
    | none => .bad
  | .slArr es n lo hi, .ptr b o :: vs => match bnds lo hi false vs with
    | some bs => match bnds3 n n bs with
      | some (l, h, _) => (match m.get b with
        | some (.cells cs _ _) => if o + n * es ≤ cs.length then .ok (.sl b (o + l * es) (h - l) (n - l) es true) m else .bad
        | _ => .bad)
      | none => .bad
    | none => .bad
  | .fieldAddr off, [.ptr b o] => .ok (.ptr b (o + off)) m
  | .field agg off n, [.agg cs] => opt (partV agg off n cs) m
  | .idxSlice es, [.sl b o len _ es' _, i] => match natOf i with
    | some i => if es = es' ∧ i < len then .ok (.ptr b (o + i * es)) m else .bad
    | none => .bad
  | .idxArr es len, [.ptr b o, i] => match natOf i with
    | some i => if i < len then .ok (.ptr b (o + i * es)) m else .bad
    | none => .bad
  | .idxStr, [.str s, i] => match natOf i with
    | some i => match s[i]? with
      | some c => .ok (.int .u8 (Int.ofNat c)) m
      | none => .bad
    | none => .bad
  | .idxAgg agg es len, [.agg cs, i] => match natOf i with
    | some i => if i < len then opt (partV agg (i * es) es cs) m else .bad
    | none => .bad
  | .assertT t zero ok, [x] => match x with
    | .iface t' v => if t = t' then .ok (bif ok then .tup [v, .bool true] else v) m else bif ok then .ok (.tup [zero, .bool false]) m else .bad
    | .inil => bif ok then .ok (.tup [zero, .bool false]) m else .bad
    | _ => .bad
  | .extract i, [.tup vs] => opt vs[i]? m
  | .panic, [.iface t v] => .pan (.iface t v) m
  | .lenS, [.str s] => .ok (.int .i64 (Int.ofNat s.length)) m
  | .lenL, [x] => match x with
    | .snil => .ok (.int .i64 0) m
    | .sl _ _ len _ _ _ => .ok (.int .i64 (Int.ofNat len)) m
    | _ => .bad
  | .lenM, [x] => match x with
    | .mnil => .ok (.int .i64 0) m
    | .map b => (match m.get b with
      | some (.map es) => .ok (.int .i64 (Int.ofNat es.length)) m
      | _ => .bad)
    | _ => .bad
  | .cap, [x] => match x with
    | .snil => .ok (.int .i64 0) m
    | .sl _ _ _ cap _ true => .ok (.int .i64 (Int.ofNat cap)) m
    | _ => .bad
  | .append t es by_, [s, x] => evAppend t es by_ s x m
  | .copy es, [d, s] => match rdSl es s m with
    | some l => match d with
      | .snil => .ok (.int .i64 0) m
      | .sl b o len _ es' _ =>
        if es = es' then
          if Nat.min (lenV s) len = 0 then .ok (.int .i64 0) m else
          match m.get b with
          | some (.cells cs own t) => if canWrite own = true ∧ o + len * es ≤ cs.length then
              .ok (.int .i64 (Int.ofNat (Nat.min (lenV s) len))) (m.put b (.cells (splice cs o (l.take (Nat.min (lenV s) len * es))) own t)) else .bad
          | _ => .bad
        else .bad
      | _ => .bad
    | none => .bad
  | .clear es zero, [s] => match s with
    | .snil => .ok (.tup []) m
    | .sl b o len _ es' _ => if es = es' then
        if len = 0 then .ok (.tup []) m else
        match m.get b with
        | some (.cells cs own t) => if canWrite own = true ∧ o + len * es ≤ cs.length then .ok (.tup []) (m.put b (.cells (splice cs o (rep zero len)) own t)) else .bad
        | _ => .bad
      else .bad
    | _ => .bad
  | .min, x :: xs => opt (minV x xs) m
  | .max, x :: xs => opt (maxV x xs) m
  | .call, f :: args => callVal call f args m
  | .toUns, [x] => match x with
    | .pnil => .ok .pnil m
    | .ptr b o => (match m.get b with
      | some (.cells cs _ _) => if o < cs.length then .ok (.ptr b o) m else .bad
      | _ => .bad)
    | _ => .bad
  | .fromUns u, [x] => match x with
    | .pnil => .ok .pnil m
    | .ptr b o => (match m.get b with
      | some (.cells cs own t) => (match W.lies t o u with
        | some s => if own = .rw ∧ s ≤ cs.length then .ok (.ptr b o) m else .bad
        | none => .bad)
      | _ => .bad)
    | _ => .bad
  | .sliceData, [x] => match x with
    | .snil => .ok .pnil m
    | .sl b o len _ _ _ => if 0 < len then .ok (.ptr b o) m else .bad
    | _ => .bad
  | .unsStr u, [x, n] => match natOf n with
    | some 0 => (match x with
      | .pnil => .ok (.str []) m
      | .ptr _ _ => .ok (.str []) m
      | _ => .bad)
    | some k => (match x with
      | .ptr b o => (match m.get b with
        | some (.cells cs own t) => if own = .rw ∧ t = u ∧ o + k ≤ cs.length ∧ k ≤ 2 ^ 47 then (match strOf (slice1 cs o k) with
          | some s => .ok (.str s) (m.put b (.cells cs .ro t))
          | none => .bad) else .bad
        | _ => .bad)
      | _ => .bad)
    | none => .bad
  | .invoke name, .iface t (.ptr b o) :: args => match W.meth t name with
    | some (f, off) => call f (.ptr b (o + off) :: args) m
    | none => .bad
  | _, _ => .bad

/-! ### Code -/
/-- how a piece ends: behind it; at a block's end; at a return, with the results; with a panic -/
inductive X
  | norm (vs : List V) (m : M)
  | exit (id : Nat) (keep : List P) (vs : List V) (m : M)
  | ret (vs : List V) (m : M)
  | pan (v : V) (m : M)
  | bad

def R.to (r : R) (f : V → M → X) : X :=
  match r with
  | .ok v m => f v m
  | .pan v m => .pan v m
  | .bad => .bad

def putD (d : Option P) (v : V) (e : Env) : Env := match d with | some p => e.set v p | none => e

def wanted (e : Env) : Option (P × Bool) → Option Bool
  | none => some true
  | some (p, b) => match ev e (.tmp p) with
    | .bool c => some (c == b)
    | .tup [] => some false
    | _ => none

/-- if the guard says so -/
def gd (g : Option Bool) (a b : X) : X :=
  match g with
  | some true => a
  | some false => b
  | none => .bad

def evs (e : Env) : List Opd → List V
  | [] => []
  | x :: r => ev e x :: evs e r

def execOps : List Op → Env → M → (Env → M → X) → X
  | [], e, m, k => k e m
  | o :: rest, e, m, k =>
    gd (wanted e o.guard) ((evK W call m o.k (evs e o.args)).to fun v m' => execOps rest (putD o.dst v e) m' k) (execOps rest (putD o.dst (.tup []) e) m k)

/-- what has to be seen again ahead of each effect up to the hi-th, and at the end -/
inductive Pend
  | rd (k : Kind) (vs : List V) (v : V) (hi : Nat)
  | bl (b : Nat) (cs : List V) (t : Nat) (hi : Nat)

def again (m : M) (k : Kind) (vs : List V) (v : V) : Bool :=
  match evK W call m k vs with
  | .ok v' _ => V.beq v' v
  | _ => false

def isBlk (cs : List V) (t : Nat) : Option Blk → Bool
  | some (.cells cs' .rw t') => V.beqL cs' cs && Nat.beq t' t
  | _ => false

def chk1 (m : M) (cur : Nat) : Pend → Bool
  | .rd k vs v hi => Nat.blt hi cur || again W call m k vs v
  | .bl b cs t hi => Nat.blt hi cur || isBlk cs t (m.get b)

def chkPend (m : M) (cur : Nat) : List Pend → Bool
  | [] => true
  | p :: r => chk1 W call m cur p && chkPend m cur r

/-- the memories ahead of each effect, the last one first; its number; those from lo on -/
def chkHist (k : Kind) (vs : List V) (v : V) (lo : Nat) : List M → Bool
  | [] => true
  | m :: r => Nat.blt r.length lo || (again W call m k vs v && chkHist k vs v lo r)

def R.sure (r : R) (f : V → M → X) : X :=
  match r with
  | .ok v m => f v m
  | _ => .bad

def ifX (b : Bool) (x : X) : X := match b with | true => x | false => .bad

def allocOf : Kind → Option (Nat × List V)
  | .alloc t cs => some (t, cs)
  | _ => none

/-- the values and the memories -/
structure St where
  e : Env
  m : M
  h : List M

def execD : List DOp → St → List Pend → (Env → M → X) → X
  | [], s, pend, k => ifX (chkPend W call s.m s.h.length pend) (k s.e s.m)
  | d :: rest, s, pend, k =>
    match d.cls with
    | .pure => gd (wanted s.e d.op.guard)
        ((evK W call s.m d.op.k (evs s.e d.op.args)).sure fun v _ => execD rest ⟨putD d.op.dst v s.e, s.m, s.h⟩ pend k)
        (execD rest ⟨putD d.op.dst (.tup []) s.e, s.m, s.h⟩ pend k)
    | .read lo hi => gd (wanted s.e d.op.guard)
        ((evK W call s.m d.op.k (evs s.e d.op.args)).sure fun v _ =>
          ifX (chkHist W call d.op.k (evs s.e d.op.args) v lo s.h) (execD rest ⟨putD d.op.dst v s.e, s.m, s.h⟩ (.rd d.op.k (evs s.e d.op.args) v hi :: pend) k))
        (execD rest ⟨putD d.op.dst (.tup []) s.e, s.m, s.h⟩ pend k)
    | .alloc hi => gd (wanted s.e d.op.guard)
        (match allocOf d.op.k, evs s.e d.op.args with
        | some (t, cs), [] => execD rest ⟨putD d.op.dst (.ptr s.m.n 0) s.e, s.m.new (.cells cs .rw t), s.h⟩ (.bl s.m.n cs t hi :: pend) k
        | _, _ => .bad)
        (execD rest ⟨putD d.op.dst (.tup []) s.e, s.m, s.h⟩ pend k)
    | .eff => ifX (chkPend W call s.m s.h.length pend) (gd (wanted s.e d.op.guard)
        ((evK W call s.m d.op.k (evs s.e d.op.args)).sure fun v m' => execD rest ⟨putD d.op.dst v s.e, m', s.m :: s.h⟩ pend k)
        (execD rest ⟨putD d.op.dst (.tup []) s.e, s.m, s.m :: s.h⟩ pend k))

def vals (e : Env) : List P → List V
  | [] => []
  | p :: r => ev e (.tmp p) :: vals e r

def take1 (vs : List V) (k : V → List V → X) : X := match vs with | v :: r => k v r | [] => .bad

def withE : List P → List V → Env → (Env → X) → X
  | [], _, e, k => k e
  | p :: ps, vs, e, k => take1 vs fun v r => withE ps r (e.set v p) k

def cnd (c : V) (a b : X) : X :=
  match c with
  | .bool true => a
  | .bool false => b
  | _ => .bad

def X.join (r : X) (keep : List P) (k : Env → M → X) : X :=
  match r with
  | .norm vs m => withE keep vs .nil fun e => k e m
  | x => x

def X.blk (r : X) (id : Nat) (keep : List P) (k : Env → M → X) : X :=
  match r with
  | .norm vs m => withE keep vs .nil fun e => k e m
  | .exit i ks vs m => if i = id then withE ks vs .nil fun e => k e m else .exit i ks vs m
  | x => x

def loopV (keep : List P) (body : Env → M → X) : Nat → List V → M → X
  | 0, _, _ => .bad
  | n + 1, vs, m => match withE keep vs .nil fun e => body e m with
    | .norm vs' m' => loopV keep body n vs' m'
    | x => x

def results (e : Env) (m : M) : List Rs → Option (List V)
  | [] => some []
  | .tmp p :: r => (results e m r).map (ev e (.tmp p) :: ·)
  | .cell p agg n :: r => match ev e (.tmp p) with
    | .ptr b o => match loadAt agg n b o m with
      | .ok v _ => (results e m r).map (v :: ·)
      | _ => none
    | _ => none

def retX (rs : Option (List V)) (m : M) : X := match rs with | some l => .ret l m | none => .bad

def exec (fuel : Nat) : Cmd → Env → M → (Env → M → X) → X
  | .skip, e, m, k => k e m
  | .reg ops, e, m, k => execOps W call ops e m k
  | .drawn ops, e, m, k => execD W call ops ⟨e, m, []⟩ [] k
  | .seq a b, e, m, k => exec fuel a e m fun e m => exec fuel b e m k
  | .cond c a b, e, m, k => cnd (ev e c) (exec fuel a e m k) (exec fuel b e m k)
  | .condJ c keep a b, e, m, k => X.join (cnd (ev e c) (exec fuel a e m fun e m => .norm (vals e keep) m) (exec fuel b e m fun e m => .norm (vals e keep) m)) keep k
  | .block id keep c, e, m, k => X.blk (exec fuel c e m fun e m => .norm (vals e keep) m) id keep k
  | .loop keep c, e, m, _ => loopV keep (fun e m => exec fuel c e m fun e m => .norm (vals e keep) m) fuel (vals e keep) m
  | .exit id keep, e, m, _ => .exit id keep (vals e keep) m
  | .ret rs, e, m, _ => retX (results e m rs) m
  | .never, _, _, _ => .bad
end

def tupled : List V → V
  | [v] => v
  | l => .tup l

def mkEnv : List V → Nat → Env → Env
  | [], _, e => e
  | v :: r, i, e => mkEnv r (i + 1) (e.set v (key i))

def X.back : X → R
  | .ret l m => .ok (tupled l) m
  | .pan v m => .pan v m
  | _ => .bad

def callF (W : Prg) : Nat → Nat → List V → M → R
  | 0, _, _, _ => .bad
  | n + 1, f, args, m =>
    match W.prims f with
    | some p => p args m
    | none => match W.fns.get (key f) with
      | none => .bad
      | some fn => if args.length = fn.np then (exec W (callF W n) n fn.body (mkEnv args 0 .nil) m fun e m => retX (results e m fn.rs) m).back else .bad
end Mu
