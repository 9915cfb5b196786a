/- A function of the small code does what the model's function does. -/
import Derived.Test.YtaepllhjnbencaaGreatDoorMuExec
set_option linter.unusedVariables false
set_option linter.unusedSimpArgs false
namespace Mu
open Go (Value World Addr Program IntKind Sem Result Obj TypeDesc TypeInfo Operand Oper Ending Calls Act Exit Code)

/-- what is known of a function that the small code tells -/
structure FnFact (P : Program) (names : List String) (f : Nat) (fn : IFn) : Prop where
  ex : ∃ (F : Go.Func) (code : Code), P.funcs[f]? = some F ∧ F.body = some code ∧ (∀ (xs : Array Value) (w : World), (Go.callFunc f xs).run P w = .ok (.enter f xs) w) ∧
    fn.np ≤ F.ntmps ∧ trRs P F.results.toList = some fn.rs ∧ trCode P names F.ntmps fn.rs code = some (er fn.body) ∧ dOk fn.body = true

def PrimOk (P : Program) (W : Prg) : Prop :=
  ∀ f p, W.prims f = some p → ∀ (args : List V) (m : M), p args m ≠ .bad → ∀ (ρ : Rho) (w : World) (xs : Array Value), VRL ρ args xs.toList → MR ρ m w → FnRuns P f xs w (Res ρ m w (p args m))

structure Ok (P : Program) (W : Prg) (names : List String) : Prop where
  mix : P.follows .mixedOrders = true
  ptrT : PtrTOk P W
  meth : MethOk P W names
  prims : PrimOk P W
  fns : ∀ f fn, W.fns.get (key f) = some fn → FnFact P names f fn

section
variable {P : Program} {names : List String} {W : Prg}

theorem mkEnv_get : ∀ (vs : List V) (i : Nat) (e : Env) (t : Nat), (mkEnv vs i e).get (key t) = if i ≤ t ∧ t < i + vs.length then vs[t - i]? else e.get (key t)
  | [], i, e, t => by simp only [mkEnv, List.length_nil]; rw [if_neg (by omega)]
  | v :: r, i, e, t => by
    simp only [mkEnv, List.length_cons]
    rw [mkEnv_get r (i + 1) (e.set v (key i)) t]
    by_cases h : i + 1 ≤ t ∧ t < i + 1 + r.length
    · rw [if_pos h, if_pos (by omega), show t - i = (t - (i + 1)) + 1 by omega, List.getElem?_cons_succ]
    · rw [if_neg h]
      by_cases h2 : t = i
      · subst h2
        rw [T.get_set_same, if_pos (by omega)]
        simp
      · rw [T.get_set_ne _ _ _ _ (fun k => h2 (key_inj k).symm), if_neg (by omega)]

theorem enter_ER {ρ : Rho} {args : List V} {xs : Array Value} (h : VRL ρ args xs.toList) {n : Nat} (hn : args.length ≤ n) :
    ER ρ n (mkEnv args 0 .nil) { tmps := xs ++ Array.replicate (n - xs.size) Go.undef, defers := [] } := by
  have hl := h.length
  simp only [Array.length_toList] at hl
  refine ⟨by simp; omega, fun t v hv => ?_⟩
  rw [mkEnv_get] at hv
  split at hv
  · rename_i ht
    obtain ⟨x, h1, h2⟩ := h.get _ _ hv
    rw [Nat.sub_zero, Array.getElem?_toList] at h1
    simp only [Array.getD_eq_getD_getElem?]
    rw [Array.getElem?_append_left (by omega), h1]
    exact h2
  · rw [T.get_nil] at hv; cases hv

theorem tupled_sound {ρ : Rho} {vs : List V} {xs : List Value} (h : VRL ρ vs xs) : VR ρ (tupled vs) (if h : xs.toArray.size = 1 then xs.toArray[0] else .tuple xs.toArray) := by
  rcases vs with _ | ⟨v, _ | ⟨u, r⟩⟩
  · simp only [VRL] at h; subst h; simp [tupled, VR, VRL]
  · simp only [VRL] at h
    obtain ⟨x, r, rfl, h1, rfl⟩ := h
    simpa [tupled] using h1
  · have hl := h.length
    simp only [List.length_cons] at hl
    simp only [tupled, VR]
    rw [dif_neg (by simp; omega)]
    exact ⟨_, rfl, by simpa using h⟩

theorem run_results {ρ : Rho} {m : M} {w : World} {n : Nat} {e : Env} {a : Act} (he : ER ρ n e a) (hm : MR ρ m w) {F : Go.Func} {rs : List Rs} (hr : trRs P F.results.toList = some rs) {vs : List V} (hv : results e m rs = some vs) :
    ∃ x, (Go.results F a.tmps).run P w = .ok x w ∧ VR ρ (tupled vs) x := by
  obtain ⟨xs, h1, h2⟩ := results_sound he hm hr hv
  refine ⟨_, ?_, tupled_sound h2⟩
  unfold Go.results
  rw [Sem.run_bind, Array.mapM_eq_mapM_toList]
  simp only [Sem.run_map, Sem.run_bind]
  exact (congrArg (fun r => (Result.andThen r fun (a : List Value) w' => Result.ok a.toArray w').andThen fun a w' => Sem.run P (pure (if h : a.size = 1 then a[0] else Value.tuple a)) w') h1).trans (by
    simp only [Result.andThen_ok, Sem.run_pure])

theorem callF_ok (ok : Ok P W names) : ∀ k, CallOk P (callF W k)
  | 0 => fun f args m h => absurd rfl h
  | k + 1 => by
    intro f args m hne ρ w xs hv hm
    have ih := callF_ok ok k
    simp only [callF] at hne ⊢
    cases hp : W.prims f with
    | some p => simp only [hp] at hne ⊢; exact ok.prims f p hp args m hne ρ w xs hv hm
    | none =>
      simp only [hp] at hne ⊢
      cases hf : W.fns.get (key f) with
      | none => simp [hf] at hne
      | some fn =>
        simp only [hf] at hne ⊢
        split at hne
        case isFalse => exact absurd rfl hne
        rename_i hnp
        rw [if_pos hnp]
        obtain ⟨F, code, h1, h2, h3, h4, h5, h6, h7⟩ := (ok.fns f fn hf).ex
        unfold FnRuns
        rw [h3]
        generalize hr : exec W (callF W k) k fn.body (mkEnv args 0 .nil) m (fun e m => retX (results e m fn.rs) m) = r at hne ⊢
        have hrb : r ≠ .bad := by rintro rfl; exact hne rfl
        refine Go.calls_of_wp h1 h2 ?_
        have hret : ∀ e' m' a' w' ρ', ER ρ' F.ntmps e' a' → a'.defers = [] → Good ρ m w ρ' m' w' → retX (results e' m' fn.rs) m' = r →
            a'.defers = [] ∧ ∃ v, (Go.results F a'.tmps).run P w' = .ok v w' ∧ Res ρ m w r.back (.returned v) w' := by
          intro e' m' a' w' ρ' he' hd' g hx
          refine ⟨hd', ?_⟩
          cases hres : results e' m' fn.rs with
          | none => rw [hres] at hx; exact absurd hx.symm hrb
          | some vs =>
            rw [hres] at hx
            obtain ⟨x, x1, x2⟩ := run_results he' g.mr h5 hres
            refine ⟨x, x1, ?_⟩
            subst hx
            exact ⟨ρ', x2, g⟩
        refine exec_sound ok.mix ok.ptrT ih ok.meth fn.body h6 h7 (enter_ER hv (by omega)) rfl hm hr hrb ⟨?_, ?_, ?_, ?_⟩
        · exact hret
        · intro id keep e' m' a' w' ρ' he' hd' g hx
          subst hx
          exact absurd rfl hne
        · exact hret
        · intro v m' x a' w' ρ' hv' hd' g hx
          subst hx
          exact ⟨hd', ρ', x, rfl, hv', g⟩
end
end Mu
