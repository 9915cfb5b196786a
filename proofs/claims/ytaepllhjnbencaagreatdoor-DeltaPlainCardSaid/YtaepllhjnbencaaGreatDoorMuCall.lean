/- Operations that may be calls, too. -/
import Derived.Test.YtaepllhjnbencaaGreatDoorMuOps8
import Derived.Calls
import Derived.Orders
set_option linter.unusedVariables false
set_option linter.unusedSimpArgs false
namespace Mu
open Go (Value World Addr Program IntKind Sem Result Obj TypeDesc TypeInfo Operand Oper Ending Calls Act Exit)

/-- a function's run, be it a body or a value at once -/
def FnRuns (P : Program) (f : Nat) (xs : Array Value) (w : World) (Q : Ending → World → Prop) : Prop :=
  match (Go.callFunc f xs).run P w with
  | .ok (.value v) w' => Q (.returned v) w'
  | .ok (.enter g ys) w' => Calls P g ys w' Q
  | .halt (.panic v) w' => Q (.panicked [{ v, recovered := false }]) w'
  | _ => False

/-- how a run's end stands to the small code's answer -/
def Res (ρ : Rho) (m : M) (w : World) : R → Ending → World → Prop
  | .ok v m', .returned x, w' => ∃ ρ', VR ρ' v x ∧ Good ρ m w ρ' m' w'
  | .pan v m', .panicked ch, w' => ∃ ρ' x, ch = [{ v := x, recovered := false }] ∧ VR ρ' v x ∧ Good ρ m w ρ' m' w'
  | _, _, _ => False

def CallOk (P : Program) (call : Nat → List V → M → R) : Prop :=
  ∀ (f : Nat) (args : List V) (m : M), call f args m ≠ .bad → ∀ (ρ : Rho) (w : World) (xs : Array Value), VRL ρ args xs.toList → MR ρ m w → FnRuns P f xs w (Res ρ m w (call f args m))

def MethOk (P : Program) (W : Prg) (names : List String) : Prop :=
  ∀ t i f off, W.meth t i = some (f, off) → ∃ nm, names[i]? = some nm ∧
    ∀ (w : World) (ad : Addr), (Go.method (P.types.size + Go.Made.depth) t (.pointer (some ad)) nm).run P w = .ok (f, .pointer (some (ad.add off))) w

/-- what is to follow an operation -/
def Then (ρ : Rho) (m : M) (w : World) (o : Oper) (a : Act) (next : Act → World → Prop) (Q : Exit → Act → World → Prop) : R → Prop
  | .ok v m' => ∀ x w' ρ', VR ρ' v x → Good ρ m w ρ' m' w' → next (a.put o.dst x) w'
  | .pan v m' => ∀ x w' ρ', VR ρ' v x → Good ρ m w ρ' m' w' → Q (.panic [{ v := x, recovered := false }]) a w'
  | .bad => False

section
variable {P : Program} {names : List String} {o : Oper} {a : Act} {ρ : Rho} {m : M} {w : World} {W : Prg} {call : Nat → List V → M → R} {next : Act → World → Prop} {Q : Exit → Act → World → Prop}

theorem Done.wp {r : R} (h : Done P o a ρ m w r) (ht : Then ρ m w o a next Q r) : o.wp P a w next Q := by
  unfold Oper.wp
  cases r with
  | ok v m' =>
    obtain ⟨x, w', ρ', h1, h2, h3⟩ := h
    rcases h1 with h1 | ⟨h1, rfl⟩ <;> rw [h1]
    · exact ht x w' ρ' h2 h3
    · exact ht _ w' ρ' h2 h3
  | pan v m' =>
    obtain ⟨x, w', ρ', h1, h2, h3⟩ := h
    rw [h1]
    exact ht x w' ρ' h2 h3
  | bad => exact ht.elim

theorem upon_fn {f : Nat} {xs : Array Value} {r : R} (h : FnRuns P f xs w (Res ρ m w r)) (ht : Then ρ m w o a next Q r) : o.upon P a next Q ((Go.callFunc f xs).run P w) := by
  unfold FnRuns at h
  split at h
  · rename_i v w' hr
    rw [hr]
    cases r with
    | ok u m' => obtain ⟨ρ', h1, h2⟩ := h; exact ht _ _ _ h1 h2
    | pan u m' => exact h.elim
    | bad => exact h.elim
  · rename_i g ys w' hr
    rw [hr]
    refine Calls.mono h fun e w'' he => ?_
    cases r with
    | ok u m' =>
      cases e with
      | returned x => obtain ⟨ρ', h1, h2⟩ := he; exact ht _ _ _ h1 h2
      | _ => exact he.elim
    | pan u m' =>
      cases e with
      | panicked ch => obtain ⟨ρ', x, rfl, h1, h2⟩ := he; exact ht _ _ _ h1 h2
      | _ => exact he.elim
    | bad => cases e <;> exact he.elim
  · rename_i v w' hr
    rw [hr]
    cases r with
    | ok u m' => exact h.elim
    | pan u m' =>
      obtain ⟨ρ', x, h0, h1, h2⟩ := h
      simp only [List.cons.injEq, and_true] at h0
      have : x = v := by injection h0 with h0; exact h0.symm
      subst this
      exact ht _ _ _ h1 h2
    | bad => exact h.elim
  · exact h.elim

theorem Then.ok {r : R} (h : Then ρ m w o a next Q r) : r ≠ .bad := by rintro rfl; exact h

theorem call_sound (hc : CallOk P call) {c : Go.Call} {f : Operand} (ho : o.op = .call c) (hcl : c.callee = .value f) {vs : List V} (hvs : VRL ρ vs (o.op.operands.toList.map a.eval)) (hm : MR ρ m w)
    (ht : Then ρ m w o a next Q (evK W call m .call vs)) : o.wp P a w next Q := by
  have hop : o.op.operands.toList.map a.eval = a.eval f :: (c.args.map a.eval).toList := by rw [ho]; simp [Go.Op.operands, Go.Call.operands, hcl]
  rw [hop] at hvs
  obtain ⟨v, l, rfl, hv, hl⟩ := hvs.cons_inv
  simp only [evK] at ht
  cases v with
  | fn k first cap =>
    simp only [VR] at hv
    obtain ⟨fa, ca, h1, h2, h3⟩ := hv
    simp only [callVal] at ht
    have := hc _ _ m ht.ok ρ w (fa ++ c.args.map a.eval ++ ca) (by
      simp only [Array.toList_append]
      rw [List.append_assoc]
      exact h2.append (hl.append h3)) hm
    unfold Oper.wp
    have hrun : (Go.execOp a.eval o).run P w = (Go.callFunc k (fa ++ c.args.map a.eval ++ ca)).run P w := by
      simp [Go.execOp, ho, Go.resolve, hcl, h1, Go.Deferred.ofValue, Go.invoke]
    rw [hrun]
    exact upon_fn this ht
  | _ => exact (ht.ok rfl).elim

theorem idxOf?_get {l : List String} {s : String} {i : Nat} (h : l.idxOf? s = some i) : l[i]? = some s := by
  induction l generalizing i with
  | nil => simp at h
  | cons x r ih =>
    rw [List.idxOf?_cons] at h
    split at h
    · rename_i hx
      injection h with h
      subst h
      simpa using hx
    · simp only [Option.map_eq_some_iff] at h
      obtain ⟨j, hj, rfl⟩ := h
      simpa using ih hj

theorem invoke_sound (hc : CallOk P call) (hM : MethOk P W names) {c : Go.Call} {f : Operand} {nm : String} {i : Nat} (ho : o.op = .call c) (hcl : c.callee = .invoke f nm) (hi : names.idxOf? nm = some i) {vs : List V}
    (hvs : VRL ρ vs (o.op.operands.toList.map a.eval)) (hm : MR ρ m w) (ht : Then ρ m w o a next Q (evK W call m (.invoke i) vs)) : o.wp P a w next Q := by
  have hop : o.op.operands.toList.map a.eval = a.eval f :: (c.args.map a.eval).toList := by rw [ho]; simp [Go.Op.operands, Go.Call.operands, hcl]
  rw [hop] at hvs
  obtain ⟨v, l, rfl, hv, hl⟩ := hvs.cons_inv
  cases v with
  | iface t v =>
    cases v with
    | ptr b off =>
      simp only [evK] at ht
      cases hmt : W.meth t i with
      | none => rw [hmt] at ht; exact (ht.ok rfl).elim
      | some g =>
        obtain ⟨g, go⟩ := g
        simp only [hmt] at ht
        simp only [VR] at hv
        obtain ⟨x, h1, L, h2, h3⟩ := hv
        subst h3
        obtain ⟨nm', hn1, hn2⟩ := hM t i g go hmt
        rw [idxOf?_get hi] at hn1
        injection hn1 with hn1
        subst hn1
        have hadd : (⟨L.blk, L.base + off, none⟩ : Addr).add go = ⟨L.blk, L.base + (off + go), none⟩ := by rw [addr_add, Nat.add_assoc]
        have := hc _ _ m ht.ok ρ w (#[.pointer (some ⟨L.blk, L.base + (off + go), none⟩)] ++ c.args.map a.eval) (by
          simp only [Array.toList_append, List.singleton_append, VRL]
          exact ⟨_, _, rfl, by simp only [VR]; exact ⟨L, h2, rfl⟩, hl⟩) hm
        unfold Oper.wp
        have hrun : (Go.execOp a.eval o).run P w = (Go.callFunc g (#[.pointer (some ⟨L.blk, L.base + (off + go), none⟩)] ++ c.args.map a.eval)).run P w := by
          have h0 : ∀ (x : Value) (ys : Array Value), (#[x] ++ ys)[0]? = some x := fun x ys => by simp [Array.getElem?_append]
          have h9 : ∀ (x : Value) (ys : Array Value), (#[x] ++ ys).extract 1 (#[x] ++ ys).size = ys := fun x ys => by simp [Array.extract_append]
          simp only [Go.execOp, ho, Go.resolve, hcl, h1, Go.invoke, Go.callMethod, Sem.run_bind, Sem.run_pure, Result.andThen_ok, h0, h9, Go.run_program, hn2, hadd]
        rw [hrun]
        exact upon_fn this ht
    | _ => exact (ht.ok rfl).elim
  | _ => exact (ht.ok rfl).elim

theorem op_sound (hW : PtrTOk P W) (hc : CallOk P call) (hM : MethOk P W names) {k : Kind} (hk : trK P names o.op = some k) {vs : List V}
    (hvs : VRL ρ vs (o.op.operands.toList.map a.eval)) (hm : MR ρ m w) (ht : Then ρ m w o a next Q (evK W call m k vs)) : o.wp P a w next Q := by
  cases hkc : k.isCall with
  | false => exact (evK_sound W call hW hk hkc hvs hm).wp ht
  | true =>
    by_cases hcall : ∃ c, o.op = .call c
    · obtain ⟨c, ho⟩ := hcall
      have hk0 := hk
      rw [ho] at hk
      simp only [trK] at hk
      split at hk
      · injection hk with hk; subst hk; exact call_sound hc ho ‹_› hvs hm ht
      · split at hk
        · injection hk with hk; subst hk; exact invoke_sound hc hM ho ‹_› ‹_› hvs hm ht
        · cases hk
      · exact (bi_sound W call ho ‹_› hk0 hvs hm).wp ht
    · exfalso
      unfold trK at hk
      split at hk
      all_goals first
        | exact hcall ⟨_, ‹_›⟩
        | (cases hk; cases hkc; done)
        | (simp only [Option.map_eq_some_iff] at hk; obtain ⟨_, _, rfl⟩ := hk; cases hkc; done)
        | (repeat' split at hk
           all_goals first
             | (cases hk; done)
             | (cases hk; cases hkc; done)
             | (simp only [Option.map_eq_some_iff] at hk; obtain ⟨_, _, rfl⟩ := hk; cases hkc; done)
             | (simp only [Option.bind_eq_some_iff] at hk; obtain ⟨_, _, hk⟩ := hk; split at hk <;> cases hk; cases hkc))
end
end Mu
