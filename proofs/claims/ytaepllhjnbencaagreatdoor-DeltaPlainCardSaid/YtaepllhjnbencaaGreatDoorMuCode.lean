/- How the model's code is told in the small code. -/
import Derived.Test.YtaepllhjnbencaaGreatDoorMuCall
set_option linter.unusedVariables false
set_option linter.unusedSimpArgs false
namespace Mu
open Go (Value World Addr Program IntKind Sem Result Obj TypeDesc TypeInfo Operand Oper Ending Calls Act Exit Code)

/-- the small code without what a program has added to it -/
inductive E
  | skip
  | reg (ops : List Op)
  | drawn (ops : List Op) (after : List (List Nat))
  | seq (a b : E)
  | cond (c : Opd) (a b : E)
  | block (id : Nat) (c : E)
  | loop (c : E)
  | exit (id : Nat)
  | ret (rs : List Rs)
  | never

def nth (l : List DOp) (i : Nat) : Option DOp := l.find? fun d => Nat.beq d.idx i

def inText (l : List DOp) : Nat → List Op × List (List Nat)
  | 0 => ([], [])
  | n + 1 => let r := inText l n
    match nth l n with
    | some d => (r.1 ++ [d.op], r.2 ++ [d.after])
    | none => r

def er : Cmd → E
  | .skip => .skip
  | .reg ops => .reg ops
  | .drawn l => .drawn (inText l l.length).1 (inText l l.length).2
  | .seq a b => .seq (er a) (er b)
  | .cond c a b => .cond c (er a) (er b)
  | .condJ c _ a b => .cond c (er a) (er b)
  | .block id _ c => .block id (er c)
  | .loop _ c => .loop (er c)
  | .exit id _ => .exit id
  | .ret rs => .ret rs
  | .never => .never

def trD (n : Nat) : Option Nat → Option (Option P)
  | none => some none
  | some d => if Nat.blt d n = true then some (some (key d)) else none

def trG (ops : List Oper) : Option (Nat × Bool) → Option (Option (P × Bool))
  | none => some none
  | some (j, want) => match (ops[j]?).bind (·.dst) with
    | some t => some (some (key t, want))
    | none => none

def binding (o : Oper) : List Nat := (o.after.toList.filter (Go.Region.binds .any)).map (·.on)

section
variable (P : Program) (names : List String) (n : Nat) (rs : List Rs)

/-- what cannot be told is never said to end -/
def trOp (ops : List Oper) (o : Oper) : Option Op :=
  match trD n o.dst, trG ops o.guard with
  | some d, some g => (match trK P names o.op, trOs o.op.operands.toList with
    | some k, some args => some ⟨d, k, args, g⟩
    | _, _ => some ⟨d, .never, [], g⟩)
  | _, _ => none

def trOps (ops : List Oper) : List Oper → Option (List Op)
  | [] => some []
  | o :: r => match trOp P names n ops o, trOps ops r with
    | some x, some l => some (x :: l)
    | _, _ => none

def trCode : Code → Option E
  | .skip => some .skip
  | .region _ ops false => (trOps P names n ops.toList ops.toList).map .reg
  | .region _ ops true => (trOps P names n ops.toList ops.toList).map fun l => .drawn l (ops.toList.map binding)
  | .seq a b => match trCode a, trCode b with
    | some x, some y => some (.seq x y)
    | _, _ => none
  | .cond c a b => match trO c, trCode a, trCode b with
    | some c, some x, some y => some (.cond c x y)
    | _, _, _ => none
  | .block id c => (trCode c).map (.block id)
  | .loop c => (trCode c).map .loop
  | .exit id => some (.exit id)
  | .ret => some (.ret rs)
  | .refuse _ => some .never
  | _ => none

def trRs : List Go.ResultVar → Option (List Rs)
  | [] => some []
  | .tmp t :: r => (trRs r).map (.tmp (key t) :: ·)
  | .cell a t :: r => match isAggT P t, sizeT P t, trRs r with
    | some g, some n, some l => some (.cell (key a) g n :: l)
    | _, _, _ => none
end

section
variable {P : Program} {names : List String} {ρ : Rho} {m : M} {w : World} {n : Nat} {e : Env} {a : Act}

theorem trOps_get {ops : List Oper} : ∀ {l : List Oper} {il : List Op}, trOps P names n ops l = some il → il.length = l.length ∧ ∀ (i : Nat) (o : Oper), l[i]? = some o → ∃ x, il[i]? = some x ∧ trOp P names n ops o = some x
  | [], il, h => by simp [trOps] at h; subst h; simp
  | o :: r, il, h => by
    simp only [trOps] at h
    split at h
    · rename_i x l h1 h2
      injection h with h
      subst h
      obtain ⟨hl, hi⟩ := trOps_get h2
      refine ⟨by simp [hl], fun i o' ho => ?_⟩
      cases i with
      | zero => simp at ho; subst ho; exact ⟨x, by simp, h1⟩
      | succ i => simp only [List.getElem?_cons_succ] at ho ⊢; exact hi i o' ho
    · cases h

theorem trOp_inv {ops : List Oper} {o : Oper} {x : Op} (h : trOp P names n ops o = some x) :
    ((trK P names o.op = some x.k ∧ trOs o.op.operands.toList = some x.args) ∨ x.k = .never) ∧ trD n o.dst = some x.dst ∧ trG ops o.guard = some x.guard := by
  unfold trOp at h
  split at h
  · split at h
    · injection h with h; subst h; exact ⟨.inl ⟨‹_›, ‹_›⟩, ‹_›, ‹_›⟩
    · injection h with h; subst h; exact ⟨.inr rfl, ‹_›, ‹_›⟩
  · cases h
theorem evK_never {W : Prg} {call : Nat → List V → M → R} {m : M} {vs : List V} : evK W call m .never vs = .bad := by
  unfold evK
  split <;> first | (rename_i h; cases h; done) | rfl | skip

/-- a value is put where it belongs -/
theorem ER.putD (h : ER ρ n e a) {d : Option Nat} {p : Option Mu.P} (hd : trD n d = some p) {v : V} {x : Value} (hv : VR ρ v x) : ER ρ n (putD p v e) (a.put d x) := by
  cases d with
  | none => simp only [trD, Option.some.injEq] at hd; subst hd; exact h
  | some d =>
    simp only [trD] at hd
    split at hd
    · rename_i hlt
      injection hd with hd
      subst hd
      exact h.put (by simpa using hlt) hv
    · cases hd

theorem put_defers (a : Act) (d : Option Nat) (x : Value) : (a.put d x).defers = a.defers := by cases d <;> rfl

theorem getD_bool {l : Array Value} {t : Nat} {b : Bool} (h : l.getD t Go.undef = .bool b) : l[t]? = some (.bool b) := by
  rw [Array.getD_eq_getD_getElem?] at h
  cases hg : l[t]? with
  | none => rw [hg] at h; simp [Go.undef] at h
  | some v => rw [hg] at h; simp at h; rw [h]

theorem wanted_sound' {ops : Array Oper} {o : Oper} {g : Option (Mu.P × Bool)} (hg : trG ops.toList o.guard = some g) {b : Bool} (hw : wanted e g = some b)
    (hr : ∀ t want, g = some (key t, want) → VR ρ (ev e (.tmp (key t))) (a.eval (.tmp t))) : Go.Region.wanted o (Go.yielded ops a.tmps) = b := by
  unfold Go.Region.wanted
  cases ho : o.guard with
  | none =>
    rw [ho] at hg
    simp only [trG, Option.some.injEq] at hg
    subst hg
    simp only [wanted, Option.some.injEq] at hw
    exact hw
  | some jw =>
    obtain ⟨j, want⟩ := jw
    rw [ho] at hg
    simp only [trG] at hg
    split at hg
    · rename_i t ht
      injection hg with hg
      subst hg
      have hv := hr t want rfl
      simp only [wanted] at hw
      split at hw
      · rename_i c hc
        injection hw with hw
        rw [hc] at hv
        have hv := vrl_bool hv
        have hget := getD_bool (l := a.tmps) (t := t) hv
        have : Go.yielded ops a.tmps j = some c := by
          unfold Go.yielded
          have : (ops[j]?).bind (·.dst) = some t := by rw [← Array.getElem?_toList]; exact ht
          rw [this]
          simp [hget]
        simp only [this]
        subst hw
        cases c <;> cases want <;> rfl
      · rename_i hc
        injection hw with hw
        subst hw
        rw [hc] at hv
        simp only [VR, VRL] at hv
        obtain ⟨vs, hv, hvs⟩ := hv
        have hvs : vs = #[] := by cases vs; simp at hvs; rw [hvs]
        subst hvs
        have : Go.yielded ops a.tmps j = none := by
          unfold Go.yielded
          have : (ops[j]?).bind (·.dst) = some t := by rw [← Array.getElem?_toList]; exact ht
          rw [this]
          simp only [Go.Act.eval, Array.getD_eq_getD_getElem?] at hv
          cases hg : a.tmps[t]? with
          | none => simp [hg]
          | some v => rw [hg] at hv; simp at hv; simp [hg, hv]
        simp only [this]
        rfl
      · cases hw
    · cases hg

theorem wanted_sound (h : ER ρ n e a) {ops : Array Oper} {o : Oper} {g : Option (Mu.P × Bool)} (hg : trG ops.toList o.guard = some g) {b : Bool} (hw : wanted e g = some b) :
    Go.Region.wanted o (Go.yielded ops a.tmps) = b := wanted_sound' hg hw fun t want _ => h.ev (x := .tmp t) rfl

theorem MR.load_var (hm : MR ρ m w) {t : Nat} {g : Bool} (hgt : isAggT P t = some g) {k : Nat} (hn : sizeT P t = some k) {b off : Nat} {L : Loc} {cs : List V} {own : Own} {ty : Nat} (h1 : ρ b = some L)
    (hg : m.get b = some (.cells cs own ty)) {v : V} (hv : partV g off k cs = some v) : ∃ x, (Go.loadVar t ⟨L.blk, L.base + off, none⟩).run P w = .ok x w ∧ VR ρ v x := by
  unfold partV at hv
  cases g
  · simp only [cond_false] at hv
    obtain ⟨y, k1, k2, k3⟩ := hm.cell h1 hg hv
    exact ⟨y, by simp [Go.loadVar, run_isAgg' hgt, k1], k2⟩
  · simp only [cond_true] at hv
    split at hv
    · rename_i hle
      injection hv with hv
      subst hv
      obtain ⟨l', k1, k2, k3⟩ := hm.load (P := P) h1 hg hle
      exact ⟨.agg l'.toArray, by simp [Go.loadVar, run_isAgg' hgt, run_sizeOf' hn, k1 w rfl], by simp only [VR]; exact ⟨_, rfl, by simpa using k2⟩⟩
    · cases hv

theorem run_asAddr (p : Addr) : (Go.asAddr (.pointer (some p))).run P w = .ok p w := by simp [Go.asAddr]

/-- results -/
theorem results_sound (h : ER ρ n e a) (hm : MR ρ m w) : ∀ {l : List Go.ResultVar} {rs : List Rs}, trRs P l = some rs → ∀ {vs : List V}, results e m rs = some vs →
    ∃ xs : List Value, (l.mapM (m := Sem) fun | .tmp t => pure (a.tmps.getD t Go.undef) | .cell b t => do Go.loadVar t (← Go.asAddr (a.tmps.getD b Go.undef))).run P w = .ok xs w ∧ VRL ρ vs xs
  | [], rs, hr, vs, hv => by
    simp [trRs] at hr; subst hr
    simp [results] at hv; subst hv
    exact ⟨[], by simp, by simp [VRL]⟩
  | .tmp t :: r, rs, hr, vs, hv => by
    simp only [trRs, Option.map_eq_some_iff] at hr
    obtain ⟨rs', h1, rfl⟩ := hr
    simp only [results, Option.map_eq_some_iff] at hv
    obtain ⟨vs', h2, rfl⟩ := hv
    obtain ⟨xs, h3, h4⟩ := results_sound h hm h1 h2
    refine ⟨a.tmps.getD t Go.undef :: xs, ?_, by simp only [VRL]; exact ⟨_, _, rfl, h.ev (x := .tmp t) rfl, h4⟩⟩
    simp only [List.mapM_cons, Sem.run_bind, Sem.run_pure, Result.andThen_ok, h3]
  | .cell b t :: r, rs, hr, vs, hv => by
    simp only [trRs] at hr
    split at hr
    · rename_i g k l hg hk hl
      injection hr with hr
      subst hr
      simp only [results] at hv
      split at hv
      · rename_i pb po hp
        split at hv
        · rename_i v m' hld
          simp only [Option.map_eq_some_iff] at hv
          obtain ⟨vs', h2, rfl⟩ := hv
          obtain ⟨xs, h3, h4⟩ := results_sound h hm hl h2
          have hvr := h.ev (x := .tmp b) rfl
          rw [hp] at hvr
          simp only [VR] at hvr
          obtain ⟨L, g1, g2⟩ := hvr
          simp only [loadAt] at hld
          split at hld
          · rename_i cs own ty hget
            obtain ⟨x, x1, x2⟩ : ∃ x, (Go.loadVar t ⟨L.blk, L.base + po, none⟩).run P w = .ok x w ∧ VR ρ v x := by
              cases hpv : partV g po k cs with
              | none => simp [hpv, opt] at hld
              | some u =>
                simp only [hpv, opt] at hld
                injection hld with hld hld2
                subst hld
                exact hm.load_var hg hk g1 hget hpv
            refine ⟨x :: xs, ?_, by simp only [VRL]; exact ⟨_, _, rfl, x2, h4⟩⟩
            have g2' : a.tmps.getD b Go.undef = .pointer (some ⟨L.blk, L.base + po, none⟩) := g2
            simp only [List.mapM_cons, Sem.run_bind, Sem.run_pure, Result.andThen_ok, g2', run_asAddr, x1]
            rw [h3]
            rfl
          · cases hld
        · cases hv
      · cases hv
    · cases hr
end
end Mu
