/- How the model's operations are told in the small code. -/
import Derived.Test.YtaepllhjnbencaaGreatDoorMuMem
import Derived.Laws.StructEq
set_option linter.unusedVariables false
set_option linter.unusedSimpArgs false
namespace Mu
open Go (Value World Addr Program IntKind Sem Result Obj TypeDesc TypeInfo Operand Oper)

/-! ### Constants -/
def trS : Value → Option V
  | .bool b => some (.bool b)
  | .int k n => some (.int k n)
  | .string s => some (.str (s.data.toList.map UInt8.toNat))
  | .pointer none => some .pnil
  | .slice none 0 0 => some .snil
  | .map none => some .mnil
  | .nilFunc => some .fnil
  | .nilIface => some .inil
  | .func (.func f) a c => if a.size = 0 ∧ c.size = 0 then some (.fn f [] []) else none
  | _ => none

def trL : List Value → Option (List V)
  | [] => some []
  | x :: r => match trS x, trL r with
    | some v, some l => some (v :: l)
    | _, _ => none

def trC : Value → Option V
  | .agg cs => (trL cs.toList).map .agg
  | .iface t x => (trS x).map (.iface t)
  | x => trS x

theorem trS_sound {ρ : Rho} {x : Value} {v : V} (h : trS x = some v) : VR ρ v x ∧ x.oneCell' = true ∧ one v = true := by
  cases x with
  | bool b => simp [trS] at h; subst h; simp [VR, Value.oneCell', one]
  | int k n => simp [trS] at h; subst h; simp [VR, Value.oneCell', one]
  | string s => simp [trS] at h; subst h; simp [VR, Value.oneCell', one]
  | pointer a => cases a <;> simp [trS] at h; subst h; simp [VR, Value.oneCell', one]
  | slice a n c =>
    cases a with
    | some a => simp [trS] at h
    | none =>
      cases n with
      | succ n => simp [trS] at h
      | zero =>
        cases c with
        | succ c => simp [trS] at h
        | zero => simp [trS] at h; subst h; simp [VR, Value.oneCell', one]
  | map r => cases r <;> simp [trS] at h; subst h; simp [VR, Value.oneCell', one]
  | nilFunc => simp [trS] at h; subst h; simp [VR, Value.oneCell', one]
  | nilIface => simp [trS] at h; subst h; simp [VR, Value.oneCell', one]
  | func fn a c =>
    cases fn with
    | func f =>
      simp only [trS] at h
      split at h
      · rename_i hac
        injection h with h
        subst h
        have ha : a = #[] := Array.eq_empty_of_size_eq_zero hac.1
        have hc : c = #[] := Array.eq_empty_of_size_eq_zero hac.2
        subst ha hc
        refine ⟨?_, rfl, rfl⟩
        simp [VR, VRL]
      · cases h
    | _ => simp [trS] at h
  | _ => simp [trS] at h

theorem trL_sound {ρ : Rho} : ∀ {l : List Value} {k : List V}, trL l = some k → VRC ρ k l
  | [], k, h => by simp [trL] at h; subst h; simp [VRC]
  | x :: r, k, h => by
    simp only [trL] at h
    cases hx : trS x with
    | none => simp [hx] at h
    | some v =>
      cases hr : trL r with
      | none => simp [hx, hr] at h
      | some l =>
        simp [hx, hr] at h
        subst h
        simp only [VRC]
        exact ⟨x, r, rfl, (trS_sound hx).1, (trS_sound (ρ := ρ) hx).2.1, trL_sound hr⟩

theorem trC_sound {ρ : Rho} {x : Value} {v : V} (h : trC x = some v) : VR ρ v x := by
  cases x with
  | agg cs =>
    simp only [trC, Option.map_eq_some_iff] at h
    obtain ⟨l, h1, rfl⟩ := h
    simp only [VR]
    exact ⟨cs, rfl, trL_sound h1⟩
  | iface t x =>
    simp only [trC, Option.map_eq_some_iff] at h
    obtain ⟨l, h1, rfl⟩ := h
    simp only [VR]
    exact ⟨x, rfl, (trS_sound h1).1⟩
  | _ => exact (trS_sound (by simpa [trC] using h)).1

theorem trL_length {l : List Value} {k : List V} (h : trL l = some k) : k.length = l.length := ((trL_sound (ρ := fun _ => none) h).length).symm

/-! ### Operands, and what stands for an activation -/
def trO : Operand → Option Opd
  | .tmp t => some (.tmp (key t))
  | .const v => (trC v).map .const
  | .func f => some (.const (.fn f [] []))
  | .global _ => none

def trOs : List Operand → Option (List Opd)
  | [] => some []
  | x :: r => match trO x, trOs r with
    | some v, some l => some (v :: l)
    | _, _ => none

/-- n: how many temporaries there are -/
structure ER (ρ : Rho) (n : Nat) (e : Env) (a : Go.Act) : Prop where
  size : a.tmps.size = n
  tmp : ∀ t v, e.get (key t) = some v → VR ρ v (a.tmps.getD t Go.undef)

theorem ER.mono {ρ ρ' : Rho} {n : Nat} {e : Env} {a : Go.Act} (h : ER ρ n e a) (hs : Sub ρ ρ') : ER ρ' n e a :=
  ⟨h.size, fun t v hv => (h.tmp t v hv).mono hs⟩

theorem ER.ev {ρ : Rho} {n : Nat} {e : Env} {a : Go.Act} (h : ER ρ n e a) {x : Operand} {y : Opd} (hx : trO x = some y) : VR ρ (ev e y) (a.eval x) := by
  cases x with
  | tmp t =>
    simp only [trO, Option.some.injEq] at hx
    subst hx
    simp only [Mu.ev]
    cases hg : e.get (key t) with
    | none => simp [VR]
    | some v => exact h.tmp t v hg
  | const v =>
    simp only [trO, Option.map_eq_some_iff] at hx
    obtain ⟨c, h1, rfl⟩ := hx
    exact trC_sound h1
  | func f =>
    simp only [trO, Option.some.injEq] at hx
    subst hx
    simp [Mu.ev, VR, VRL, Go.Act.eval]
  | global g => simp [trO] at hx

theorem ER.evs {ρ : Rho} {n : Nat} {e : Env} {a : Go.Act} (h : ER ρ n e a) : ∀ {xs : List Operand} {ys : List Opd}, trOs xs = some ys → VRL ρ (evs e ys) (xs.map a.eval)
  | [], ys, hx => by simp [trOs] at hx; subst hx; simp [VRL, Mu.evs]
  | x :: r, ys, hx => by
    simp only [trOs] at hx
    cases h1 : trO x with
    | none => simp [h1] at hx
    | some v =>
      cases h2 : trOs r with
      | none => simp [h1, h2] at hx
      | some l =>
        simp [h1, h2] at hx
        subst hx
        simp only [Mu.evs, List.map_cons, VRL]
        exact ⟨_, _, rfl, h.ev h1, h.evs h2⟩

/-- a temporary is set -/
theorem ER.put {ρ : Rho} {n : Nat} {e : Env} {a : Go.Act} (h : ER ρ n e a) {d : Nat} (hd : d < n) {v : V} {x : Value} (hv : VR ρ v x) : ER ρ n (e.set v (key d)) (a.put (some d) x) := by
  refine ⟨by simp [Go.Act.put, h.size], fun t u hu => ?_⟩
  by_cases e1 : t = d
  · subst e1
    rw [T.get_set_same] at hu
    injection hu with hu
    subst hu
    simp only [Go.Act.put, Array.getD_eq_getD_getElem?]
    rw [Array.getElem?_setIfInBounds_self_of_lt (by rw [h.size]; exact hd)]
    exact hv
  · rw [T.get_set_ne _ _ _ _ (fun k => e1 (key_inj k).symm)] at hu
    have := h.tmp t u hu
    simp only [Go.Act.put, Array.getD_eq_getD_getElem?] at this ⊢
    rwa [Array.getElem?_setIfInBounds_ne (fun k => e1 k.symm)]

theorem ER.defers {ρ : Rho} {n : Nat} {e : Env} {a : Go.Act} (h : ER ρ n e a) (d : List Go.Deferred) : ER ρ n e { a with defers := d } := ⟨h.size, h.tmp⟩

/-! ### Kinds -/
section
variable (P : Program)

def isAggT (t : Nat) : Option Bool := (P.underlying t).map fun | .struct _ | .array _ _ => true | _ => false
def sizeT (t : Nat) : Option Nat := (P.info? t).map (·.size)
def zeroT (t : Nat) : Option (List V) := (P.info? t).bind fun i => i.zero.bind fun z => trL z.cells.toList
def zeroV (t : Nat) : Option V := (P.info? t).bind fun i => i.zero.bind trC

/-- the bytes of an element, if few -/
def fewBytes (t : Nat) : Bool := ((P.info? t).map fun i => decide (i.bytes ≤ 65536)).getD false

/-- the bytes of an element -/
def bytesT (t : Nat) : Option Nat := (P.info? t).map (·.bytes)

def eqBaseT (t : Nat) : Option EqB :=
  match P.underlying t with
  | some (.int _) => some .int
  | some .string => some .str
  | some .bool => some .bool
  | _ => none

def eqFieldsT : List Go.Field → Option (List (Nat × EqB))
  | [] => some []
  | f :: fs => if f.name = "_" then none else match eqBaseT P f.type, eqFieldsT fs with
    | some b, some r => some ((f.offset, b) :: r)
    | _, _ => none

def isNilC : Operand → Bool
  | .const _ => true
  | _ => false

def eqT (t : Nat) (x y : Operand) : Option EqD :=
  match P.underlying t with
  | some (.int _) => some (.base .int)
  | some .string => some (.base .str)
  | some .bool => some (.base .bool)
  | some (.pointer e) => (sizeT P e).bind fun n => if n = 0 then none else some .ptr
  | some (.slice _) => some .slc
  | some (.map _ _) => some .mp
  | some (.func _ _ _) => some .fnc
  | some (.interface _) => some (.iface (isNilC x || isNilC y))
  | some (.struct fs) => if P.stoodInHeld t = false ∧ P.eqGuardType P.depth t = false then (eqFieldsT P fs.toList).map .struct else none
  | _ => none

def binT (op : Go.BinOp) (t : Nat) : Option IB :=
  match P.underlying t, op with
  | some (.int _), .add => some .add
  | some (.int _), .sub => some .sub
  | some (.int _), .mul => some .mul
  | some (.int _), .quo => some .quo
  | some (.int _), .rem => some .rem
  | some (.int _), .and => some .and
  | some (.int _), .or => some .or
  | some (.int _), .xor => some .xor
  | some (.int _), .shl => some .shl
  | some (.int _), .shr => some .shr
  | some (.int _), .lss => some .lss
  | some (.int _), .leq => some .leq
  | some (.int _), .gtr => some .gtr
  | some (.int _), .geq => some .geq
  | some .string, .add => some .sadd
  | some .string, .lss => some .slss
  | some .string, .leq => some .sleq
  | some .string, .gtr => some .sgtr
  | some .string, .geq => some .sgeq
  | _, _ => none

/-- what a map's keys are: strings, or whole numbers -/
def keyT (t : Nat) : Option Bool :=
  match P.underlying t with
  | some (.int _) => some false
  | some .string => some true
  | _ => none

/-- the places of a build's parts -/
def partsT (fs : List Go.Field) : List (Nat × Operand) → Option (List (Nat × Nat))
  | [] => some []
  | (i, _) :: r => match fs[i]?, partsT fs r with
    | some f, some l => (sizeT P f.type).map fun n => (f.offset, n) :: l
    | _, _ => none

def hasFields (fs : List Go.Field) : Bool := fs.all fun f => (sizeT P f.type).isSome

def trK (names : List String) (op : Go.Op) : Option Kind :=
  match op with
  | .move _ | .assign _ => some .move
  | .pick .. => some .pick
  | .alloc t => (zeroT P t).map (.alloc t)
  | .box t _ => (sizeT P t).map (.box t)
  | .build t parts =>
    match P.underlying t, zeroT P t with
    | some (.struct fs), some z => if hasFields P fs.toList = true then (partsT P fs.toList parts.toList).map (.build z) else none
    | some (.array _ e), some z => (sizeT P e).map fun n => .build z (parts.toList.map fun p => (p.1 * n, n))
    | _, _ => none
  | .buildSlice t len parts =>
    match P.underlying t with
    | some (.slice e) => match sizeT P e, zeroT P e with
      | some n, some z => if 0 < n ∧ z.length = n ∧ len * n ≤ 2 ^ 24 then some (.buildSlice e n z len (parts.toList.map fun p => (p.1 * n, n))) else none
      | _, _ => none
    | _ => none
  | .load t _ => match isAggT P t, sizeT P t with
    | some g, some n => some (.load g n)
    | _, _ => none
  | .store t _ _ => (sizeT P t).map .store
  | .nilCheck _ => some .nilCheck
  | .binOp op t x y _ =>
    match op with
    | .eql => (eqT P t x y).map fun d => .eql d false
    | .neq => (eqT P t x y).map fun d => .eql d true
    | op => (binT P op t).map .bin
  | .unOp .not _ _ => some .not
  | .convert s d _ =>
    match P.underlying s, P.underlying d with
    | some (.int _), some (.int k) => some (.convInt k)
    | some .string, some .string => some .convSame
    | some .string, some (.slice e) => match P.underlying e with
      | some (.int .u8) => some (.convStrBytes e)
      | _ => none
    | some (.slice e), some .string => match P.underlying e with
      | some (.int .u8) => some .convBytesStr
      | _ => none
    | some (.pointer e), some .unsafePointer => (sizeT P e).bind fun n => if n = 0 then none else some .toUns
    | some .unsafePointer, some (.pointer u) => (sizeT P u).bind fun n => if n = 0 then none else some (.fromUns u)
    | _, _ => none
  | .makeInterface t _ => match P.underlying t with
    | some (.interface _) => none
    | some _ => some (.mkIface t)
    | none => none
  | .makeFunc (.func f) first _ => some (.mkFunc f first.size)
  | .makeMap _ none => some .mkMap
  | .lookup t _ _ ok => match P.underlying t with
    | some (.map k e) => match keyT P k with
      | some sk => (zeroV P e).map fun z => .lookup sk z ok
      | none => none
    | _ => none
  | .mapUpdate t _ _ _ => match P.underlying t with
    | some (.map k _) => (keyT P k).map .mapUpdate
    | _ => none
  | .makeSlice t _ _ => match P.underlying t with
    | some (.slice e) => match sizeT P e, zeroT P e with
      | some n, some z => if 0 < n ∧ z.length = n ∧ fewBytes P e = true then some (.mkSlice e n z) else none
      | _, _ => none
    | _ => none
  | .slice t _ lo hi mx => match P.underlying t with
    | some .string => if mx.isSome then none else some (.slStr lo.isSome hi.isSome)
    | some (.slice e) => match sizeT P e with
      | some n => if 0 < n ∧ (mx.isSome = true → hi.isSome = true) then some (.slSlice n lo.isSome hi.isSome mx.isSome) else none
      | none => none
    | some (.array len e) => match sizeT P e with
      | some n => if 0 < n ∧ mx.isSome = false then some (.slArr n len lo.isSome hi.isSome) else none
      | none => none
    | _ => none
  | .fieldAddr t _ f => match P.underlying t with
    | some (.struct fs) => match fs[f]? with
      | some g => (sizeT P g.type).bind fun n => if n = 0 then none else some (.fieldAddr g.offset)
      | none => none
    | _ => none
  | .field t _ f => match P.underlying t with
    | some (.struct fs) => match fs[f]? with
      | some g => match isAggT P g.type, sizeT P g.type with
        | some a, some n => some (.field a g.offset n)
        | _, _ => none
      | none => none
    | _ => none
  | .indexAddr t _ _ => match P.underlying t with
    | some (.slice e) => (sizeT P e).map .idxSlice
    | some (.array len e) => (sizeT P e).map fun n => .idxArr n len
    | _ => none
  | .index t _ _ => match P.underlying t with
    | some .string => some .idxStr
    | some (.array len e) => match isAggT P e, sizeT P e with
      | some a, some n => some (.idxAgg a n len)
      | _, _ => none
    | _ => none
  | .typeAssert _ _ t ok => match P.underlying t with
    | some (.interface _) => none
    | some _ => (zeroV P t).map fun z => .assertT t z ok
    | none => none
  | .extract _ i => some (.extract i)
  | .panic _ => some .panic
  | .call c =>
    match c.callee with
    | .value _ => some .call
    | .invoke _ name => match names.idxOf? name with
      | some i => some (.invoke i)
      | none => none
    | .builtin b => match b, c.argTypes.toList with
      | .len, [t] => match P.underlying t with
        | some .string => some .lenS
        | some (.slice _) => some .lenL
        | some (.map _ _) => some .lenM
        | _ => none
      | .cap, [t] => match P.underlying t with
        | some (.slice _) => some .cap
        | _ => none
      | .append, [t, u] => match P.underlying t, P.underlying u with
        | some (.slice e), some (.slice _) | some (.slice e), some .string => match sizeT P e, zeroT P e with
          | some n, some z => if 0 < n ∧ z.length = n then (bytesT P e).bind fun by_ => if 0 < by_ then some (.append e n by_) else none else none
          | _, _ => none
        | _, _ => none
      | .copy, [t, _] => match P.underlying t with
        | some (.slice e) => match sizeT P e with
          | some n => if 0 < n then some (.copy n) else none
          | none => none
        | _ => none
      | .clear, [t] => match P.underlying t with
        | some (.slice e) => match sizeT P e, zeroT P e with
          | some n, some z => if 0 < n ∧ z.length = n then some (.clear n z) else none
          | _, _ => none
        | _ => none
      | .delete, [t, _] => match P.underlying t with
        | some (.map k _) => (keyT P k).map .delete
        | _ => none
      | .unsafeSliceData, [_] => some .sliceData
      | .unsafeString, [t, _] => match P.underlying t with
        | some (.pointer u) => if sizeT P u = some 1 ∧ P.cellsOf u = 1 then some (.unsStr u) else none
        | _ => none
      | .min, _ => some .min
      | .max, _ => some .max
      | _, _ => none
  | _ => none
end
end Mu
