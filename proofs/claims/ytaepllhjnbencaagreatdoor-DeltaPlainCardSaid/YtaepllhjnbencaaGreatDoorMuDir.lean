/- The small code in a direct style: each operation once, joins once. What it comes to, if not bad, is what the small code comes to. -/
import Derived.Test.YtaepllhjnbencaaGreatDoorMuFn
set_option linter.unusedVariables false
set_option linter.unusedSimpArgs false
namespace Mu

def guarded (g : Option Bool) (r : R) (m : M) (f : V → M → X) : X := gd g (r.to f) (f (.tup []) m)
def pureD (g : Option Bool) (r : R) (f : V → X) : X := gd g (r.sure fun v _ => f v) (f (.tup []))
def readD (g : Option Bool) (r : R) (c : V → Bool) (ent : V → Pend) (pend : List Pend) (f : V → List Pend → X) : X := gd g (r.sure fun v _ => ifX (c v) (f v (ent v :: pend))) (f (.tup []) pend)
def effD (c : Bool) (g : Option Bool) (r : R) (m : M) (f : V → M → X) : X := ifX c (gd g (r.sure fun v m' => f v m') (f (.tup []) m))
def allocD (g : Option Bool) (k : Kind) (vs : List V) (m : M) (hi : Nat) (pend : List Pend) (f : V → M → List Pend → X) : X :=
  gd g (match allocOf k, vs with
    | some (t, cs), [] => f (.ptr m.n 0) (m.new (.cells cs .rw t)) (.bl m.n cs t hi :: pend)
    | _, _ => .bad) (f (.tup []) m pend)
def sameP : List P → List P → Bool
  | [], [] => true
  | a :: x, b :: y => P.beq a b && sameP x y
  | _, _ => false
theorem P.beq_eq : ∀ (a b : P), P.beq a b = true → a = b
  | .h, .h, _ => rfl
  | .o a, .o b, hh => by rw [P.beq_eq a b hh]
  | .i a, .i b, hh => by rw [P.beq_eq a b hh]
  | .h, .o _, hh => by cases hh
  | .h, .i _, hh => by cases hh
  | .o _, .h, hh => by cases hh
  | .o _, .i _, hh => by cases hh
  | .i _, .h, hh => by cases hh
  | .i _, .o _, hh => by cases hh
theorem sameP_eq : ∀ (a b : List P), sameP a b = true → a = b
  | [], [], _ => rfl
  | a :: x, b :: y, h => by
    simp only [sameP, Bool.and_eq_true] at h
    rw [P.beq_eq _ _ h.1, sameP_eq _ _ h.2]
  | [], _ :: _, h => by cases h
  | _ :: _, [], h => by cases h
theorem P.beq_self : ∀ a : P, P.beq a a = true
  | .h => rfl
  | .o a => P.beq_self a
  | .i a => P.beq_self a
theorem sameP_self : ∀ a : List P, sameP a a = true
  | [] => rfl
  | a :: x => by simp only [sameP, P.beq_self, sameP_self x, Bool.and_self]
def blkF (r : X) (id : Nat) (keep : List P) (K : List V → M → X) : X :=
  match r with
  | .norm vs m => K vs m
  | .exit i ks vs m => if i = id then (bif sameP ks keep then K vs m else .bad) else .exit i ks vs m
  | x => x
def joinF (r : X) (K : List V → M → X) : X :=
  match r with
  | .norm vs m => K vs m
  | x => x
def loopF (B : List V → M → X) : Nat → List V → M → X
  | 0, _, _ => .bad
  | n + 1, vs, m => match B vs m with
    | .norm vs' m' => loopF B n vs' m'
    | x => x

section
variable (W : Prg) (call : Nat → List V → M → R)
/-- what only hands on -/
def mv (o : Op) : Option Opd := match o.k, o.args with | .move, [x] => some x | _, _ => none
def run2 : List Op → Env → M → (Env → M → X) → X
  | [], e, m, k => k e m
  | o :: rest, e, m, k => match o.guard with
    | none => match mv o with
      | some x => run2 rest (putD o.dst (ev e x) e) m k
      | none => (evK W call m o.k (evs e o.args)).to fun v m' => run2 rest (putD o.dst v e) m' k
    | some g => guarded (wanted e (some g)) (evK W call m o.k (evs e o.args)) m fun v m' => run2 rest (putD o.dst v e) m' k
def run2D : List DOp → Env → M → List M → List Pend → (Env → M → X) → X
  | [], e, m, h, pend, k => ifX (chkPend W call m h.length pend) (k e m)
  | d :: rest, e, m, h, pend, k => match d.cls with
    | .pure => match d.op.guard, mv d.op with
      | none, some x => run2D rest (putD d.op.dst (ev e x) e) m h pend k
      | g, _ => pureD (wanted e g) (evK W call m d.op.k (evs e d.op.args)) fun v => run2D rest (putD d.op.dst v e) m h pend k
    | .read lo hi => readD (wanted e d.op.guard) (evK W call m d.op.k (evs e d.op.args)) (fun v => chkHist W call d.op.k (evs e d.op.args) v lo h) (fun v => .rd d.op.k (evs e d.op.args) v hi) pend fun v pend => run2D rest (putD d.op.dst v e) m h pend k
    | .alloc hi => allocD (wanted e d.op.guard) d.op.k (evs e d.op.args) m hi pend fun v m' pend => run2D rest (putD d.op.dst v e) m' h pend k
    | .eff => effD (chkPend W call m h.length pend) (wanted e d.op.guard) (evK W call m d.op.k (evs e d.op.args)) m fun v m' => run2D rest (putD d.op.dst v e) m' (m :: h) pend k
def exec2 (fuel : Nat) : Cmd → Env → M → (Env → M → X) → X
  | .skip, e, m, k => k e m
  | .reg ops, e, m, k => run2 W call ops e m k
  | .drawn ops, e, m, k => run2D W call ops e m [] [] k
  | .seq a b, e, m, k => exec2 fuel a e m fun e m => exec2 fuel b e m k
  | .cond c a b, e, m, k => cnd (ev e c) (exec2 fuel a e m k) (exec2 fuel b e m k)
  | .condJ c keep a b, e, m, k => joinF (cnd (ev e c) (exec2 fuel a e m fun e m => .norm (vals e keep) m) (exec2 fuel b e m fun e m => .norm (vals e keep) m)) fun vs m => withE keep vs .nil fun e => k e m
  | .block id keep c, e, m, k => blkF (exec2 fuel c e m fun e m => .norm (vals e keep) m) id keep fun vs m => withE keep vs .nil fun e => k e m
  | .loop keep c, e, m, _ => loopF (fun vs m => withE keep vs .nil fun e => exec2 fuel c e m fun e m => .norm (vals e keep) m) fuel (vals e keep) m
  | .exit id keep, e, m, _ => .exit id keep (vals e keep) m
  | .ret rs, e, m, _ => retX (results e m rs) m
  | .never, _, _, _ => .bad

def X.le (a b : X) : Prop := a = .bad ∨ a = b
theorem X.le.rfl {a : X} : X.le a a := .inr (Eq.refl a)
theorem X.bad_le {a : X} : X.le .bad a := .inl (Eq.refl _)
theorem to_le {r : R} {f g : V → M → X} (h : ∀ v m, X.le (f v m) (g v m)) : X.le (r.to f) (r.to g) := by
  cases r with
  | ok v m => exact h v m
  | _ => exact .inr rfl
theorem sure_le {r : R} {f g : V → M → X} (h : ∀ v m, X.le (f v m) (g v m)) : X.le (r.sure f) (r.sure g) := by
  cases r with
  | ok v m => exact h v m
  | _ => exact .inr rfl
theorem gd_le {g : Option Bool} {a b a' b' : X} (h : X.le a a') (k : X.le b b') : X.le (gd g a b) (gd g a' b') := by
  cases g with
  | none => exact .inr rfl
  | some t => cases t <;> assumption
theorem ifX_le {c : Bool} {a a' : X} (h : X.le a a') : X.le (ifX c a) (ifX c a') := by
  cases c <;> first | exact h | exact .inr rfl
theorem mv_some {o : Op} {x : Opd} (h : mv o = some x) : o.k = .move ∧ o.args = [x] := by
  unfold mv at h
  split at h
  · rename_i h1 h2
    injection h with h
    subst h
    exact ⟨h1, h2⟩
  · cases h
theorem run2_le : ∀ (ops : List Op) (e : Env) (m : M) {k k' : Env → M → X}, (∀ e m, X.le (k e m) (k' e m)) → X.le (run2 W call ops e m k) (execOps W call ops e m k')
  | [], e, m, k, k', h => h e m
  | o :: rest, e, m, k, k', h => by
    simp only [run2, execOps]
    cases hg : o.guard with
    | none =>
      simp only [wanted, gd]
      cases hm : mv o with
      | none => exact to_le fun v m => run2_le rest _ _ h
      | some x =>
        obtain ⟨h1, h2⟩ := mv_some hm
        rw [h1, h2]
        exact run2_le rest _ _ h
    | some g =>
      simp only [guarded]
      exact gd_le (to_le fun v m => run2_le rest _ _ h) (run2_le rest _ _ h)
theorem run2D_le : ∀ (ops : List DOp) (e : Env) (m : M) (h : List M) (pend : List Pend) {k k' : Env → M → X}, (∀ e m, X.le (k e m) (k' e m)) → X.le (run2D W call ops e m h pend k) (execD W call ops ⟨e, m, h⟩ pend k')
  | [], e, m, h, pend, k, k', hk => by
    simp only [run2D, execD]
    exact ifX_le (hk e m)
  | d :: rest, e, m, h, pend, k, k', hk => by
    simp only [run2D, execD]
    cases d.cls with
    | pure =>
      cases hg : d.op.guard with
      | some g => exact gd_le (sure_le fun v _ => run2D_le rest _ _ _ _ hk) (run2D_le rest _ _ _ _ hk)
      | none =>
        cases hm : mv d.op with
        | none => exact gd_le (sure_le fun v _ => run2D_le rest _ _ _ _ hk) (run2D_le rest _ _ _ _ hk)
        | some x =>
          obtain ⟨h1, h2⟩ := mv_some hm
          rw [h1, h2]
          exact run2D_le rest _ _ _ _ hk
    | read lo hi => exact gd_le (sure_le fun v _ => ifX_le (run2D_le rest _ _ _ _ hk)) (run2D_le rest _ _ _ _ hk)
    | alloc hi =>
      simp only [allocD]
      refine gd_le ?_ (run2D_le rest _ _ _ _ hk)
      generalize evs e d.op.args = vs
      cases allocOf d.op.k with
      | none => exact .inr rfl
      | some x =>
        cases vs with
        | nil => exact run2D_le rest _ _ _ _ hk
        | cons _ _ => exact .inr rfl
    | eff => exact ifX_le (gd_le (sure_le fun v _ => run2D_le rest _ _ _ _ hk) (run2D_le rest _ _ _ _ hk))
theorem cnd_le {c : V} {a b a' b' : X} (h : X.le a a') (k : X.le b b') : X.le (cnd c a b) (cnd c a' b') := by
  unfold cnd
  split <;> first | assumption | exact .inr rfl
theorem take1_le {vs : List V} {k k' : V → List V → X} (h : ∀ v r, X.le (k v r) (k' v r)) : X.le (take1 vs k) (take1 vs k') := by
  cases vs with
  | nil => exact .inr rfl
  | cons v r => exact h v r
theorem withE_le : ∀ (ps : List P) (vs : List V) (e : Env) {k k' : Env → X}, (∀ e, X.le (k e) (k' e)) → X.le (withE ps vs e k) (withE ps vs e k')
  | [], vs, e, k, k', h => h e
  | p :: ps, vs, e, k, k', h => take1_le fun v r => withE_le ps r _ h
theorem loopF_le {keep : List P} {body : Env → M → X} {B : List V → M → X} (h : ∀ vs m, X.le (B vs m) (withE keep vs .nil fun e => body e m)) : ∀ (n : Nat) (vs : List V) (m : M), X.le (loopF B n vs m) (loopV keep body n vs m)
  | 0, vs, m => .inr rfl
  | n + 1, vs, m => by
    simp only [loopF, loopV]
    rcases h vs m with h1 | h1
    · rw [h1]; exact .inl rfl
    · rw [h1]
      cases withE keep vs .nil fun e => body e m with
      | norm vs' m' => exact loopF_le h n vs' m'
      | _ => exact .inr rfl
theorem exec2_le {fuel : Nat} : ∀ (c : Cmd) (e : Env) (m : M) {k k' : Env → M → X}, (∀ e m, X.le (k e m) (k' e m)) → X.le (exec2 W call fuel c e m k) (exec W call fuel c e m k') := by
  intro c
  induction c with
  | skip => intro e m k k' h; exact h e m
  | reg ops => intro e m k k' h; exact run2_le W call ops e m h
  | drawn ops => intro e m k k' h; exact run2D_le W call ops e m [] [] h
  | seq a b iha ihb => intro e m k k' h; exact iha e m fun e m => ihb e m h
  | cond c a b iha ihb => intro e m k k' h; exact cnd_le (iha e m h) (ihb e m h)
  | condJ c keep a b iha ihb =>
    intro e m k k' h
    simp only [exec2, exec]
    rcases cnd_le (c := ev e c) (iha e m (k := fun e m => .norm (vals e keep) m) (k' := fun e m => .norm (vals e keep) m) fun e m => .inr rfl) (ihb e m (k := fun e m => .norm (vals e keep) m) (k' := fun e m => .norm (vals e keep) m) fun e m => .inr rfl) with h1 | h1
    · rw [h1]; exact .inl rfl
    · rw [h1]
      generalize cnd (ev e c) (exec W call fuel a e m fun e m => .norm (vals e keep) m) (exec W call fuel b e m fun e m => .norm (vals e keep) m) = x
      cases x with
      | norm vs m' => exact withE_le _ _ _ fun e => h e _
      | _ => exact .inr rfl
  | block id keep c ih =>
    intro e m k k' h
    simp only [exec2, exec]
    rcases ih e m (k := fun e m => .norm (vals e keep) m) (k' := fun e m => .norm (vals e keep) m) (fun e m => .inr rfl) with h1 | h1
    · rw [h1]; exact .inl rfl
    · rw [h1]
      generalize exec W call fuel c e m (fun e m => .norm (vals e keep) m) = x
      cases x with
      | norm vs m' => exact withE_le _ _ _ fun e => h e _
      | exit i ks vs m' =>
        simp only [blkF, X.blk]
        by_cases hi : i = id
        · rw [if_pos hi, if_pos hi]
          cases hs : sameP ks keep with
          | false => exact .inl rfl
          | true => rw [sameP_eq _ _ hs]; exact withE_le _ _ _ fun e => h e _
        · rw [if_neg hi, if_neg hi]; exact .inr rfl
      | _ => exact .inr rfl
  | loop keep c ih =>
    intro e m k k' h
    simp only [exec2, exec]
    exact loopF_le (fun vs m => withE_le _ _ _ fun e => ih e m (k := fun e m => .norm (Mu.vals e keep) m) (k' := fun e m => .norm (Mu.vals e keep) m) fun e m => .inr rfl) _ _ _
  | exit id keep => intro e m k k' h; exact .inr rfl
  | ret rs => intro e m k k' h; exact .inr rfl
  | never => intro e m k k' h; exact .inr rfl
end

/-- what a function answers, in the direct style -/
theorem callF_dir {W : Prg} {n f : Nat} {fn : IFn} {args : List V} {m : M} {x : X} {r : R} (hp : W.prims f = none) (hf : W.fns.get (key f) = some fn) (hn : args.length = fn.np)
    (h : exec2 W (callF W n) n fn.body (mkEnv args 0 .nil) m (fun e m => retX (results e m fn.rs) m) = x) (hr : x.back = r) (hb : r ≠ .bad) : callF W (n + 1) f args m = r := by
  simp only [callF, hp, hf, hn, if_true]
  rcases exec2_le W (callF W n) (fuel := n) fn.body (mkEnv args 0 .nil) m (k := fun e m => retX (results e m fn.rs) m) (k' := fun e m => retX (results e m fn.rs) m) (fun e m => .inr rfl) with h1 | h1
  · rw [h1] at h; subst h; exact absurd hr.symm hb
  · rw [← h1, h, hr]
end Mu
