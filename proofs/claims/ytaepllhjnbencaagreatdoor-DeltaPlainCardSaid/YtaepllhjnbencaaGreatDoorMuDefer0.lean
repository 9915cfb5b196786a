/- A function that defers a function which recovers (of one shape): what it comes to. -/
import Derived.Test.YtaepllhjnbencaaGreatDoorMuFn
import Derived.Recover
set_option linter.unusedVariables false
set_option linter.unusedSimpArgs false
set_option maxHeartbeats 4000000
namespace Mu
open Go (Value World Addr Program IntKind Sem Result Obj TypeDesc TypeInfo Operand Oper Ending Calls Act Exit Code)

section
/-- what has to be so behind a row of operations; K: what they do not turn -/
structure PostK (K : List Mu.P) (D : List Go.Deferred) (n : Nat) (e0 : Env) (ρ : Rho) (m : M) (w : World) (Q : Exit → Act → World → Prop) (r : X) (N : Env → M → X) : Prop where
  norm : ∀ e' m' a' w' ρ', ER ρ' n e' a' → (∀ p ∈ K, e'.get p = e0.get p) → a'.defers = D → Good ρ m w ρ' m' w' → N e' m' = r → Q .normal a' w'
  pan : ∀ e' v m' x a' w' ρ', ER ρ' n e' a' → (∀ p ∈ K, e'.get p = e0.get p) → VR ρ' v x → a'.defers = D → Good ρ m w ρ' m' w' → .pan v m' = r → Q (.panic [{ v := x, recovered := false }]) a' w'
end
section
variable {Pr : Program} {names : List String} {W : Prg} {call : Nat → List V → M → R} {n : Nat} {rs : List Rs} {D : List Go.Deferred}
theorem putD_keeps {d : Option Mu.P} {v : V} {e : Env} {K : List Mu.P} (h : ∀ p ∈ K, d ≠ some p) : ∀ p ∈ K, (putD d v e).get p = e.get p := by
  intro p hp
  cases d with
  | none => rfl
  | some q =>
    simp only [putD]
    exact T.get_set_ne _ _ _ _ fun e => h p hp (by rw [e])
theorem execOps_K (hW : PtrTOk Pr W) (hc : CallOk Pr call) (hM : MethOk Pr W names) {ops : Array Oper} {N : Env → M → X} {r : X} (hr : r ≠ .bad) {Q : Exit → Act → World → Prop} {K : List Mu.P} {e0 : Env} :
    ∀ (l : List Oper) (il : List Op) (i0 : Nat), (∀ i o, l[i]? = some o → ops[i0 + i]? = some o) → trOps Pr names n ops.toList l = some il → (∀ o ∈ il, ∀ p ∈ K, o.dst ≠ some p) →
      ∀ {e : Env} {m : M} {a : Act} {w : World} {ρ : Rho}, ER ρ n e a → (∀ p ∈ K, e.get p = e0.get p) → a.defers = D → MR ρ m w → execOps W call il e m N = r → PostK K D n e0 ρ m w Q r N → Go.wpOps Pr ops Q (List.range' i0 l.length) a w
  | [], il, i0, hl, ht, hk, e, m, a, w, ρ, he, hke, hd, hm, hx, hp => by
    simp only [trOps, Option.some.injEq] at ht
    subst ht
    simp only [List.length_nil, List.range'_zero, Go.wpOps]
    exact hp.norm e m a w ρ he hke hd (Good.refl hm) hx
  | o :: l, il, i0, hl, ht, hk, e, m, a, w, ρ, he, hke, hd, hm, hx, hp => by
    simp only [trOps] at ht
    split at ht
    case h_2 => cases ht
    rename_i x l' h1 h2
    injection ht with ht
    subst ht
    obtain ⟨hka, hdst, hg⟩ := trOp_inv h1
    have ho : ops[i0]? = some o := by simpa using hl 0 o (by simp)
    have hl' : ∀ i o, l[i]? = some o → ops[i0 + 1 + i]? = some o := fun i o hi => by
      have := hl (i + 1) o (by simpa using hi)
      rwa [show i0 + 1 + i = i0 + (i + 1) by omega]
    have hk1 := hk x (List.mem_cons_self ..)
    have hk2 : ∀ o ∈ l', ∀ p ∈ K, o.dst ≠ some p := fun o ho => hk o (List.mem_cons_of_mem _ ho)
    simp only [List.length_cons, List.range'_succ, Go.wpOps, ho]
    simp only [execOps] at hx
    obtain ⟨b, hb, hx⟩ := gd_some hx hr
    have hwant := wanted_sound he hg hb
    have later : ∀ {ρ1 m1 w1}, Good ρ m w ρ1 m1 w1 → PostK K D n e0 ρ1 m1 w1 Q r N := fun g =>
      ⟨fun e' m' a' w' ρ' h1 h2 h3 h4 h5 => hp.norm e' m' a' w' ρ' h1 h2 h3 (g.trans h4) h5, fun e' v m' x a' w' ρ' h1 h2 h3 h4 h5 h6 => hp.pan e' v m' x a' w' ρ' h1 h2 h3 h4 (g.trans h5) h6⟩
    cases b with
    | false =>
      simp only [hwant, Bool.false_eq_true, if_false] at hx ⊢
      exact execOps_K hW hc hM hr l l' (i0 + 1) hl' h2 hk2 (he.putD hdst (v := .tup []) (by simp [VR, VRL, Go.undef])) (fun p hp' => (putD_keeps hk1 p hp').trans (hke p hp')) (by rw [put_defers]; exact hd) hm hx hp
    | true =>
      simp only [hwant, if_true] at hx ⊢
      rcases hka with ⟨hkk, hargs⟩ | hnv
      case inr =>
        rw [hnv, evK_never] at hx
        exact absurd hx.symm hr
      refine .inl ?_
      refine op_sound hW hc hM hkk (he.evs hargs) hm ?_
      cases hev : evK W call m x.k (evs e x.args) with
      | bad => rw [hev] at hx; exact absurd hx.symm hr
      | pan v m' =>
        rw [hev] at hx
        exact fun y w' ρ' hv g => hp.pan e v m' y a w' ρ' (he.mono g.sub) hke hv hd g hx
      | ok v m' =>
        rw [hev] at hx
        intro y w' ρ' hv g
        exact execOps_K hW hc hM hr l l' (i0 + 1) hl' h2 hk2 ((he.mono g.sub).putD hdst hv) (fun p hp' => (putD_keeps hk1 p hp').trans (hke p hp')) (by rw [put_defers]; exact hd) g.mr hx (later g)

theorem tr_seq {code : Code} {x y : E} (h : trCode Pr names n rs code = some (.seq x y)) : ∃ a b, code = .seq a b ∧ trCode Pr names n rs a = some x ∧ trCode Pr names n rs b = some y := by
  cases code with
  | seq a b =>
    simp only [trCode] at h
    split at h
    · rename_i x' y' h1 h2
      injection h with h; injection h with e1 e2; subst e1 e2
      exact ⟨a, b, rfl, h1, h2⟩
    · cases h
  | region id ops dr => cases dr <;> simp [trCode] at h
  | _ => simp [trCode] at h <;> (try (split at h <;> simp at h))
theorem tr_reg {code : Code} {il : List Op} (h : trCode Pr names n rs code = some (.reg il)) : ∃ id ops, code = .region id ops false ∧ trOps Pr names n ops.toList ops.toList = some il := by
  cases code with
  | region id ops dr =>
    cases dr with
    | false => simp only [trCode, Option.map_eq_some_iff] at h; obtain ⟨x, h1, h2⟩ := h; injection h2 with h2; subst h2; exact ⟨id, ops, rfl, h1⟩
    | true => simp [trCode] at h
  | _ => simp [trCode] at h <;> (try (split at h <;> simp at h))
theorem tr_cond {code : Code} {c : Opd} {x y : E} (h : trCode Pr names n rs code = some (.cond c x y)) : ∃ o a b, code = .cond o a b ∧ trO o = some c ∧ trCode Pr names n rs a = some x ∧ trCode Pr names n rs b = some y := by
  cases code with
  | cond o a b =>
    simp only [trCode] at h
    split at h
    · rename_i c' x' y' h0 h1 h2
      injection h with h; injection h with e0 e1 e2; subst e0 e1 e2
      exact ⟨o, a, b, rfl, h0, h1, h2⟩
    · cases h
  | region id ops dr => cases dr <;> simp [trCode] at h
  | _ => simp [trCode] at h <;> (try (split at h <;> simp at h))
theorem tr_skip {code : Code} (h : trCode Pr names n rs code = some .skip) : code = .skip := by
  cases code with
  | skip => rfl
  | region id ops dr => cases dr <;> simp [trCode] at h
  | _ => simp [trCode] at h <;> (try (split at h <;> simp at h))
theorem tr_ret {code : Code} {rs' : List Rs} (h : trCode Pr names n rs code = some (.ret rs')) : code = .ret ∧ rs' = rs := by
  cases code with
  | ret => simp only [trCode, Option.some.injEq] at h; injection h with h; exact ⟨rfl, h.symm⟩
  | region id ops dr => cases dr <;> simp [trCode] at h
  | _ => simp [trCode] at h <;> (try (split at h <;> simp at h))
/-- a row of operations, by what it comes to -/
theorem reg_K (hW : PtrTOk Pr W) (hc : CallOk Pr call) (hM : MethOk Pr W names) {code : Code} {il : List Op} (h : trCode Pr names n rs code = some (.reg il)) {N : Env → M → X} {r : X} (hr : r ≠ .bad) {Q : Exit → Act → World → Prop} {K : List Mu.P}
    (hk : ∀ o ∈ il, ∀ p ∈ K, o.dst ≠ some p) {e : Env} {m : M} {a : Act} {w : World} {ρ : Rho} (he : ER ρ n e a) (hd : a.defers = D) (hm : MR ρ m w) (hx : execOps W call il e m N = r) (hp : PostK K D n e ρ m w Q r N) : code.wp Pr Q a w := by
  obtain ⟨id, ops, rfl, h1⟩ := tr_reg h
  refine Go.wp_region ?_
  rw [List.range_eq_range']
  exact execOps_K hW hc hM hr ops.toList il 0 (fun i o ho => by rw [Nat.zero_add, ← Array.getElem?_toList]; exact ho) h1 hk he (fun _ _ => rfl) hd hm hx hp
end

/-- the k-th part of a row of pieces of code -/
def spine : Nat → Code → Code
  | 0, .seq a _ => a
  | k + 1, .seq _ b => spine k b
  | _, c => c
def regOps : Code → Option (List (Go.Op × Option Nat × Option (Nat × Bool)))
  | .region _ ops false => some (ops.toList.map fun o => (o.op, o.dst, o.guard))
  | _ => none
end Mu
