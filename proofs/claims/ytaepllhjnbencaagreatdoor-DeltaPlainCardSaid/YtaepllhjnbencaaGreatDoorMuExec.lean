/- The small code does what the model's code does. -/
import Derived.Test.YtaepllhjnbencaaGreatDoorMuDrawn
import Derived.LoopN
set_option linter.unusedVariables false
set_option linter.unusedSimpArgs false
namespace Mu
open Go (Value World Addr Program IntKind Sem Result Obj TypeDesc TypeInfo Operand Oper Ending Calls Act Exit Code)

section
variable {P : Program} {names : List String} {W : Prg} {call : Nat → List V → M → R} {n : Nat} {rs : List Rs} {D : List Go.Deferred}

/-- what has to be so behind a piece of code -/
structure Post (D : List Go.Deferred) (n : Nat) (rs : List Rs) (ρ : Rho) (m : M) (w : World) (Q : Exit → Act → World → Prop) (r : X) (N : Env → M → X) : Prop where
  norm : ∀ e' m' a' w' ρ', ER ρ' n e' a' → a'.defers = D → Good ρ m w ρ' m' w' → N e' m' = r → Q .normal a' w'
  exit : ∀ id keep e' m' a' w' ρ', ER ρ' n e' a' → a'.defers = D → Good ρ m w ρ' m' w' → .exit id keep (vals e' keep) m' = r → Q (.exit id) a' w'
  ret : ∀ e' m' a' w' ρ', ER ρ' n e' a' → a'.defers = D → Good ρ m w ρ' m' w' → retX (results e' m' rs) m' = r → Q .ret a' w'
  pan : ∀ v m' x a' w' ρ', VR ρ' v x → a'.defers = D → Good ρ m w ρ' m' w' → .pan v m' = r → Q (.panic [{ v := x, recovered := false }]) a' w'

theorem Post.later {ρ ρ1 : Rho} {m m1 : M} {w w1 : World} {Q : Exit → Act → World → Prop} {r : X} {N : Env → M → X} (h : Post D n rs ρ m w Q r N) (hg : Good ρ m w ρ1 m1 w1) : Post D n rs ρ1 m1 w1 Q r N where
  norm := fun e' m' a' w' ρ' he hd g hr => h.norm e' m' a' w' ρ' he hd (hg.trans g) hr
  exit := fun id keep e' m' a' w' ρ' he hd g hr => h.exit id keep e' m' a' w' ρ' he hd (hg.trans g) hr
  ret := fun e' m' a' w' ρ' he hd g hr => h.ret e' m' a' w' ρ' he hd (hg.trans g) hr
  pan := fun v m' x a' w' ρ' he hd g hr => h.pan v m' x a' w' ρ' he hd (hg.trans g) hr

theorem withE_vals {ρ : Rho} {a : Act} {e : Env} (he : ER ρ n e a) (k : Env → X) : ∀ (keep : List Mu.P) (e0 : Env), ER ρ n e0 a → ∃ e1, ER ρ n e1 a ∧ withE keep (vals e keep) e0 k = k e1
  | [], e0, h0 => ⟨e0, h0, rfl⟩
  | p :: ps, e0, h0 => by
    simp only [vals, withE, take1]
    refine withE_vals he k ps _ ⟨he.size, fun t v hv => ?_⟩
    by_cases e1 : p = key t
    · subst e1
      rw [T.get_set_same] at hv
      injection hv with hv
      subst hv
      exact he.ev (x := .tmp t) rfl
    · rw [T.get_set_ne _ _ _ _ e1] at hv
      exact h0.tmp t v hv

theorem ER.nil {ρ : Rho} {a : Act} {e : Env} (he : ER ρ n e a) : ER ρ n .nil a := ⟨he.size, fun t v hv => by rw [T.get_nil] at hv; cases hv⟩

theorem gd_some {g : Option Bool} {x y r : X} (h : gd g x y = r) (hr : r ≠ .bad) : ∃ b, g = some b ∧ (if b then x else y) = r := by
  cases g with
  | none => exact absurd h.symm hr
  | some b => cases b <;> exact ⟨_, rfl, h⟩

theorem execOps_sound (hW : PtrTOk P W) (hc : CallOk P call) (hM : MethOk P W names) {ops : Array Oper} {N : Env → M → X} {r : X} (hr : r ≠ .bad) {Q : Exit → Act → World → Prop} :
    ∀ (l : List Oper) (il : List Op) (i0 : Nat), (∀ i o, l[i]? = some o → ops[i0 + i]? = some o) → trOps P names n ops.toList l = some il →
      ∀ {e : Env} {m : M} {a : Act} {w : World} {ρ : Rho}, ER ρ n e a → a.defers = D → MR ρ m w → execOps W call il e m N = r → Post D n rs ρ m w Q r N → Go.wpOps P ops Q (List.range' i0 l.length) a w
  | [], il, i0, hl, ht, e, m, a, w, ρ, he, hd, hm, hx, hp => by
    simp only [trOps, Option.some.injEq] at ht
    subst ht
    simp only [List.length_nil, List.range'_zero, Go.wpOps]
    exact hp.norm e m a w ρ he hd (Good.refl hm) hx
  | o :: l, il, i0, hl, ht, e, m, a, w, ρ, he, hd, hm, hx, hp => by
    simp only [trOps] at ht
    split at ht
    case h_2 => cases ht
    rename_i x l' h1 h2
    injection ht with ht
    subst ht
    obtain ⟨hka, hdst, hg⟩ := trOp_inv h1
    have ho : ops[i0]? = some o := by simpa using hl 0 o (by simp)
    have hl' : ∀ i o, l[i]? = some o → ops[i0 + 1 + i]? = some o := fun i o hi => by
      have := hl (i + 1) o (by simpa using hi)
      rwa [show i0 + 1 + i = i0 + (i + 1) by omega]
    simp only [List.length_cons, List.range'_succ, Go.wpOps, ho]
    simp only [execOps] at hx
    obtain ⟨b, hb, hx⟩ := gd_some hx hr
    have hwant := wanted_sound he hg hb
    cases b with
    | false =>
      simp only [hwant, Bool.false_eq_true, if_false] at hx ⊢
      exact execOps_sound hW hc hM hr l l' (i0 + 1) hl' h2 (he.putD hdst (v := .tup []) (by simp [VR, VRL, Go.undef])) (by rw [put_defers]; exact hd) hm hx hp
    | true =>
      simp only [hwant, if_true] at hx ⊢
      rcases hka with ⟨hk, hargs⟩ | hnv
      case inr =>
        rw [hnv, evK_never] at hx
        exact absurd hx.symm hr
      refine .inl ?_
      refine op_sound hW hc hM hk (he.evs hargs) hm ?_
      cases hev : evK W call m x.k (evs e x.args) with
      | bad => rw [hev] at hx; exact absurd hx.symm hr
      | pan v m' =>
        rw [hev] at hx
        exact fun y w' ρ' hv g => hp.pan v m' y a w' ρ' hv hd g hx
      | ok v m' =>
        rw [hev] at hx
        intro y w' ρ' hv g
        exact execOps_sound hW hc hM hr l l' (i0 + 1) hl' h2 ((he.mono g.sub).putD hdst hv) (by rw [put_defers]; exact hd) g.mr hx (hp.later g)

/-- the drawn regions are as they have to be -/
def dOk : Cmd → Bool
  | .drawn l => staticOk l
  | .seq a b | .cond _ a b | .condJ _ _ a b => dOk a && dOk b
  | .block _ _ c | .loop _ c => dOk c
  | _ => true

theorem cnd_some {v : V} {x y r : X} (h : cnd v x y = r) (hr : r ≠ .bad) : ∃ b, v = .bool b ∧ (if b then x else y) = r := by
  unfold cnd at h
  split at h
  · exact ⟨true, rfl, h⟩
  · exact ⟨false, rfl, h⟩
  · exact absurd h.symm hr

theorem exec_sound (hmix : P.follows .mixedOrders = true) (hW : PtrTOk P W) (hc : CallOk P call) (hM : MethOk P W names) {fuel : Nat} :
    ∀ (c : Cmd) {code : Code} (hcode : trCode P names n rs code = some (er c)) (hdo : dOk c = true) {e : Env} {m : M} {a : Act} {w : World} {ρ : Rho} {N : Env → M → X} {r : X} {Q : Exit → Act → World → Prop},
      ER ρ n e a → a.defers = D → MR ρ m w → exec W call fuel c e m N = r → r ≠ .bad → Post D n rs ρ m w Q r N → code.wp P Q a w := by
  intro c
  induction c with
  | skip =>
    intro code hcode hdo e m a w ρ N r Q he hd hm hx hr hp
    cases code with
    | skip => exact Go.wp_skip (hp.norm e m a w ρ he hd (Good.refl hm) hx)
    | region id ops dr => cases dr <;> simp [trCode, er] at hcode
    | _ => simp [trCode, er] at hcode <;> (try (split at hcode <;> simp at hcode))
  | reg l =>
    intro code hcode hdo e m a w ρ N r Q he hd hm hx hr hp
    cases code with
    | region id ops dr =>
      cases dr with
      | false =>
        simp only [trCode, er, Option.map_eq_some_iff] at hcode
        obtain ⟨il, h1, h2⟩ := hcode
        injection h2 with h2
        subst h2
        refine Go.wp_region ?_
        rw [List.range_eq_range']
        exact execOps_sound hW hc hM hr ops.toList il 0 (fun i o ho => by rw [Nat.zero_add, ← Array.getElem?_toList]; exact ho) h1 he hd hm hx hp
      | true => simp [trCode, er] at hcode
    | _ => simp [trCode, er] at hcode <;> (try (split at hcode <;> simp at hcode))
  | drawn l =>
    intro code hcode hdo e m a w ρ N r Q he hd hm hx hr hp
    cases code with
    | region id ops dr =>
      cases dr with
      | false => simp [trCode, er] at hcode
      | true =>
        simp only [trCode, er, Option.map_eq_some_iff] at hcode
        obtain ⟨il, h1, h2⟩ := hcode
        injection h2 with h2 h3
        subst h2
        refine Go.wp_region_any hmix ?_
        have hg : Good ρ m w ρ m { w with drawn := w.drawn + 1 } := Good.tick hm
        refine drawn_sound hW hc hM h1 h3 hdo hx hr he hg.mr fun e' m' a' w' ρ' he' hd' hg' hn => ?_
        exact hp.norm e' m' a' w' ρ' he' (hd'.trans hd) (hg.trans hg') hn
    | _ => simp [trCode, er] at hcode <;> (try (split at hcode <;> simp at hcode))
  | seq c1 c2 ih1 ih2 =>
    intro code hcode hdo e m a w ρ N r Q he hd hm hx hr hp
    cases code with
    | seq x y =>
      simp only [trCode, er] at hcode
      split at hcode
      case h_2 => cases hcode
      rename_i x' y' h1 h2
      injection hcode with hcode
      injection hcode with e1 e2
      subst e1 e2
      simp only [dOk, Bool.and_eq_true] at hdo
      refine Go.wp_seq (ih1 h1 hdo.1 he hd hm hx hr ⟨?_, ?_, ?_, ?_⟩)
      · intro e' m' a' w' ρ' he' hd' g hn
        exact ih2 h2 hdo.2 he' hd' g.mr hn hr (hp.later g)
      · exact fun id keep e' m' a' w' ρ' he' hd' g hn => hp.exit id keep e' m' a' w' ρ' he' hd' g hn
      · exact fun e' m' a' w' ρ' he' hd' g hn => hp.ret e' m' a' w' ρ' he' hd' g hn
      · exact fun v m' x a' w' ρ' he' hd' g hn => hp.pan v m' x a' w' ρ' he' hd' g hn
    | region id ops dr => cases dr <;> simp [trCode, er] at hcode
    | _ => simp [trCode, er] at hcode <;> (try (split at hcode <;> simp at hcode))
  | cond o c1 c2 ih1 ih2 =>
    intro code hcode hdo e m a w ρ N r Q he hd hm hx hr hp
    cases code with
    | cond o' x y =>
      simp only [trCode, er] at hcode
      split at hcode
      case h_2 => cases hcode
      rename_i o1 x' y' h0 h1 h2
      injection hcode with hcode
      injection hcode with e0 e1 e2
      subst e0 e1 e2
      simp only [dOk, Bool.and_eq_true] at hdo
      simp only [exec] at hx
      obtain ⟨b, hb, hx⟩ := cnd_some hx hr
      have hv := he.ev h0
      rw [hb] at hv
      have hv := vrl_bool hv
      refine Go.wp_cond hv ?_
      cases b
      · exact ih2 h2 hdo.2 he hd hm hx hr hp
      · exact ih1 h1 hdo.1 he hd hm hx hr hp
    | region id ops dr => cases dr <;> simp [trCode, er] at hcode
    | _ => simp [trCode, er] at hcode <;> (try (split at hcode <;> simp at hcode))
  | condJ o keep c1 c2 ih1 ih2 =>
    intro code hcode hdo e m a w ρ N r Q he hd hm hx hr hp
    cases code with
    | cond o' x y =>
      simp only [trCode, er] at hcode
      split at hcode
      case h_2 => cases hcode
      rename_i o1 x' y' h0 h1 h2
      injection hcode with hcode
      injection hcode with e0 e1 e2
      subst e0 e1 e2
      simp only [dOk, Bool.and_eq_true] at hdo
      simp only [exec] at hx
      generalize hr1 : cnd (ev e o1) (exec W call fuel c1 e m fun e m => .norm (vals e keep) m) (exec W call fuel c2 e m fun e m => .norm (vals e keep) m) = r1 at hx
      have hr1' : r1 ≠ .bad := by rintro rfl; exact hr hx.symm
      obtain ⟨b, hb, hr1⟩ := cnd_some hr1 hr1'
      have hv := he.ev h0
      rw [hb] at hv
      have hv := vrl_bool hv
      refine Go.wp_cond hv ?_
      have hp1 : Post D n rs ρ m w Q r1 fun e m => .norm (vals e keep) m := by
        refine ⟨?_, ?_, ?_, ?_⟩
        · intro e' m' a' w' ρ' he' hd' g hn
          subst hn
          simp only [X.join] at hx
          obtain ⟨e2, he2, hk⟩ := withE_vals he' (fun e => N e m') keep .nil he'.nil
          rw [hk] at hx
          exact hp.norm e2 m' a' w' ρ' he2 hd' g hx
        · intro id ks e' m' a' w' ρ' he' hd' g hn
          subst hn
          exact hp.exit id ks e' m' a' w' ρ' he' hd' g hx
        · intro e' m' a' w' ρ' he' hd' g hn
          refine hp.ret e' m' a' w' ρ' he' hd' g ?_
          rw [hn, ← hx]
          cases hres : results e' m' rs with
          | none => rw [hres] at hn; exact absurd hn.symm hr1'
          | some l => rw [hres] at hn; subst hn; rfl
        · intro v m' x a' w' ρ' he' hd' g hn
          subst hn
          exact hp.pan v m' x a' w' ρ' he' hd' g hx
      cases b
      · exact ih2 h2 hdo.2 he hd hm hr1 hr1' hp1
      · exact ih1 h1 hdo.1 he hd hm hr1 hr1' hp1
    | region id ops dr => cases dr <;> simp [trCode, er] at hcode
    | _ => simp [trCode, er] at hcode <;> (try (split at hcode <;> simp at hcode))
  | block id keep c ih =>
    intro code hcode hdo e m a w ρ N r Q he hd hm hx hr hp
    cases code with
    | block id' x =>
      simp only [trCode, er, Option.map_eq_some_iff] at hcode
      obtain ⟨x', h1, h2⟩ := hcode
      injection h2 with e1 e2
      subst e1 e2
      simp only [dOk] at hdo
      simp only [exec] at hx
      generalize hr1 : exec W call fuel c e m (fun e m => .norm (vals e keep) m) = r1 at hx
      have hr1' : r1 ≠ .bad := by rintro rfl; exact hr hx.symm
      refine Go.wp_block (ih h1 hdo he hd hm hr1 hr1' ⟨?_, ?_, ?_, ?_⟩)
      · intro e' m' a' w' ρ' he' hd' g hn
        subst hn
        simp only [X.blk] at hx
        obtain ⟨e2, he2, hk⟩ := withE_vals he' (fun e => N e m') keep .nil he'.nil
        rw [hk] at hx
        exact hp.norm e2 m' a' w' ρ' he2 hd' g hx
      · intro i ks e' m' a' w' ρ' he' hd' g hn
        subst hn
        simp only [X.blk] at hx
        simp only [Go.Exit.inBlock]
        split at hx
        · rename_i hi
          rw [if_pos hi]
          obtain ⟨e2, he2, hk⟩ := withE_vals he' (fun e => N e m') ks .nil he'.nil
          rw [hk] at hx
          exact hp.norm e2 m' a' w' ρ' he2 hd' g hx
        · rename_i hi
          rw [if_neg hi]
          exact hp.exit i ks e' m' a' w' ρ' he' hd' g hx
      · intro e' m' a' w' ρ' he' hd' g hn
        refine hp.ret e' m' a' w' ρ' he' hd' g ?_
        rw [hn, ← hx]
        cases hres : results e' m' rs with
        | none => rw [hres] at hn; exact absurd hn.symm hr1'
        | some l => rw [hres] at hn; subst hn; rfl
      · intro v m' x a' w' ρ' he' hd' g hn
        subst hn
        exact hp.pan v m' x a' w' ρ' he' hd' g hx
    | region id ops dr => cases dr <;> simp [trCode, er] at hcode
    | _ => simp [trCode, er] at hcode <;> (try (split at hcode <;> simp at hcode))
  | loop keep c ih =>
    intro code hcode hdo e m a w ρ N r Q he hd hm hx hr hp
    cases code with
    | loop x =>
      simp only [trCode, er, Option.map_eq_some_iff] at hcode
      obtain ⟨x', h1, h2⟩ := hcode
      injection h2 with e2
      subst e2
      simp only [dOk] at hdo
      simp only [exec] at hx
      have key : ∀ (k : Nat) (e : Env) (m : M) (a : Act) (w : World) (ρ : Rho), ER ρ n e a → a.defers = D → MR ρ m w → Post D n rs ρ m w Q r N →
          loopV keep (fun e m => exec W call fuel c e m fun e m => .norm (vals e keep) m) k (vals e keep) m = r → Go.Code.rounds P x Q k a w := by
        intro k
        induction k with
        | zero => intro e m a w ρ he hd hm hp hx; exact absurd hx.symm hr
        | succ k ihk =>
          intro e m a w ρ he hd hm hp hx
          simp only [loopV] at hx
          obtain ⟨e2, he2, hk⟩ := withE_vals he (fun e => exec W call fuel c e m fun e m => .norm (vals e keep) m) keep .nil he.nil
          rw [hk] at hx
          generalize hr1 : exec W call fuel c e2 m (fun e m => .norm (vals e keep) m) = r1 at hx
          have hr1' : r1 ≠ .bad := by rintro rfl; exact hr hx.symm
          rw [Go.rounds_succ]
          refine ih h1 hdo he2 hd hm hr1 hr1' ⟨?_, ?_, ?_, ?_⟩
          · intro e' m' a' w' ρ' he' hd' g hn
            subst hn
            exact ihk e' m' a' w' ρ' he' hd' g.mr (hp.later g) hx
          · intro i ks e' m' a' w' ρ' he' hd' g hn
            subst hn
            exact hp.exit i ks e' m' a' w' ρ' he' hd' g hx
          · intro e' m' a' w' ρ' he' hd' g hn
            refine hp.ret e' m' a' w' ρ' he' hd' g ?_
            rw [hn, ← hx]
            cases hres : results e' m' rs with
            | none => rw [hres] at hn; exact absurd hn.symm hr1'
            | some l => rw [hres] at hn; subst hn; rfl
          · intro v m' x a' w' ρ' he' hd' g hn
            subst hn
            exact hp.pan v m' x a' w' ρ' he' hd' g hx
      exact Go.wp_loop_rounds fuel (key fuel e m a w ρ he hd hm hp hx)
    | region id ops dr => cases dr <;> simp [trCode, er] at hcode
    | _ => simp [trCode, er] at hcode <;> (try (split at hcode <;> simp at hcode))
  | exit id keep =>
    intro code hcode hdo e m a w ρ N r Q he hd hm hx hr hp
    cases code with
    | exit id' =>
      simp only [trCode, er, Option.some.injEq] at hcode
      injection hcode with e1
      subst e1
      exact Go.wp_exit (hp.exit id' keep e m a w ρ he hd (Good.refl hm) hx)
    | region id ops dr => cases dr <;> simp [trCode, er] at hcode
    | _ => simp [trCode, er] at hcode <;> (try (split at hcode <;> simp at hcode))
  | never =>
    intro code hcode hdo e m a w ρ N r Q he hd hm hx hr hp
    exact absurd hx.symm hr
  | ret rs' =>
    intro code hcode hdo e m a w ρ N r Q he hd hm hx hr hp
    cases code with
    | ret =>
      simp only [trCode, er, Option.some.injEq] at hcode
      injection hcode with e1
      subst e1
      exact Go.wp_ret (hp.ret e m a w ρ he hd (Good.refl hm) hx)
    | region id ops dr => cases dr <;> simp [trCode, er] at hcode
    | _ => simp [trCode, er] at hcode <;> (try (split at hcode <;> simp at hcode))
end
end Mu
