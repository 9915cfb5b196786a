/- A function that defers a function which recovers (of one shape): what it comes to, all together. -/
import Derived.Test.YtaepllhjnbencaaGreatDoorMuDefer
set_option linter.unusedVariables false
set_option linter.unusedSimpArgs false
set_option maxHeartbeats 4000000
namespace Mu
open Go (Value World Addr Program IntKind Sem Result Obj TypeDesc TypeInfo Operand Oper Ending Calls Act Exit Code)
def noDst (K : List Mu.P) (l : List Op) : Bool := l.all fun o => match o.dst with | some d => !memP d K | none => true
theorem noDst_ok {K : List Mu.P} {l : List Op} (h : noDst K l = true) : ∀ o ∈ l, ∀ p ∈ K, o.dst ≠ some p := by
  intro o ho p hp hd
  have := List.all_eq_true.1 h o ho
  rw [hd] at this
  simp only [Bool.not_eq_true'] at this
  have h2 := memP_iff.2 hp
  rw [h2] at this
  cases this
def rsInB (K : List Mu.P) : List Rs → Bool
  | [] => true
  | .tmp p :: r => memP p K && rsInB K r
  | .cell p _ _ :: r => memP p K && rsInB K r
theorem rsInB_ok {K : List Mu.P} : ∀ {l : List Rs}, rsInB K l = true → rsIn K l
  | [], _ => trivial
  | .tmp p :: r, h => by simp only [rsInB, Bool.and_eq_true] at h; exact ⟨memP_iff.1 h.1, rsInB_ok h.2⟩
  | .cell p _ _ :: r, h => by simp only [rsInB, Bool.and_eq_true] at h; exact ⟨memP_iff.1 h.1, rsInB_ok h.2⟩
section
variable {Pr : Program} {names : List String} {W : Prg}
theorem pDefer_sound (ok : Ok Pr W names) (k : Nat) {f g : Nat} {fn gn : IFn} (hf : FnFact Pr names f fn) (hg : FnFact Pr names g gn) {o0 o1 o2 o3 o4 o5 o6 c0 : List Op} {cnd2 : Opd} {crest : Cmd} {t2 t3 t8 u2 u5 : Nat}
    (hfb : fn.body = .seq (.reg o0) (.seq (.reg o1) (.seq (.reg o2) (.seq (.reg o3) (.seq (.seq (.reg o4) (.cond cnd2 (.reg o5) .skip)) (.seq (.reg o6) (.ret fn.rs)))))))
    (hgb : gn.body = .seq (.reg c0) crest) (hgrs : gn.rs = [])
    (h2 : ∀ F code, Pr.funcs[f]? = some F → F.body = some code → t2 < F.ntmps ∧ t3 < F.ntmps ∧ t8 < F.ntmps ∧ regOps (spine 2 code) = some [(.makeFunc (.func g) #[] #[.tmp t2, .tmp t3], some t8, none), (.defer ⟨.value (.tmp t8), #[], #[]⟩, none, none)])
    (h0 : ∀ G code, Pr.funcs[g]? = some G → G.body = some code → u2 < G.ntmps ∧ u5 < G.ntmps ∧ 2 ≤ G.ntmps ∧ regOps (spine 0 code) = some [(.call ⟨.builtin .recover, #[], #[]⟩, some u5, none), (.assign (.tmp u5), some u2, none)])
    (hu : 2 ≤ u2 ∧ 2 ≤ u5 ∧ u2 ≠ u5) (hrs : rsIn [key t2, key t3] fn.rs) (ht8 : t8 ≠ t2 ∧ t8 ≠ t3)
    (hk3 : ∀ o ∈ o3, ∀ p ∈ [key t2, key t3], o.dst ≠ some p) (hk4 : ∀ o ∈ o4, ∀ p ∈ [key t2, key t3], o.dst ≠ some p) (hk5 : ∀ o ∈ o5, ∀ p ∈ [key t2, key t3], o.dst ≠ some p) (hk6 : ∀ o ∈ o6, ∀ p ∈ [key t2, key t3], o.dst ≠ some p) :
    ∀ (args : List V) (m : M), args.length = fn.np → pDefer W (callF W k) k fn gn g (key t2) (key t3) (key t8) (key u2) args m ≠ .bad → ∀ (ρ : Rho) (w : World) (xs : Array Value), VRL ρ args xs.toList → MR ρ m w →
      (Go.callFunc f xs).run Pr w = .ok (.enter f xs) w ∧ Calls Pr f xs w (Res ρ m w (pDefer W (callF W k) k fn gn g (key t2) (key t3) (key t8) (key u2) args m)) := by
  intro args m hnp hne ρ w xs hv hm
  obtain ⟨F, code, f1, f2, f3, f4, f5, f6, f7⟩ := hf.ex
  obtain ⟨G, gcode, g1, g2, g3, g4, g5, g6, g7⟩ := hg.ex
  refine ⟨f3 xs w, ?_⟩
  have hc := callF_ok ok k
  -- what it comes to
  unfold pDefer at hne ⊢
  generalize hX : deferX W (callF W k) k fn gn g (key t2) (key t3) (key t8) (key u2) args m = X0 at hne ⊢
  have hX' : ∃ v vs mf, X0 = .ret (v :: vs) mf := by
    cases X0 with
    | ret l mf => cases l with
      | nil => exact absurd rfl hne
      | cons v vs => exact ⟨v, vs, mf, rfl⟩
    | _ => exact absurd rfl hne
  obtain ⟨v1, vs1, mf, rfl⟩ := hX'
  clear hne
  simp only
  -- the code's parts
  rw [hfb] at f6
  simp only [er] at f6
  obtain ⟨a0, b0, rfl, k0, fa⟩ := tr_seq f6
  obtain ⟨a1, b1, rfl, k1, fb⟩ := tr_seq fa
  obtain ⟨a2, b2, rfl, k2, fc⟩ := tr_seq fb
  obtain ⟨a3, b3, rfl, k3, fd⟩ := tr_seq fc
  obtain ⟨a45, b45, rfl, k45, fe⟩ := tr_seq fd
  obtain ⟨a4, a5, rfl, k4, k5⟩ := tr_seq k45
  obtain ⟨cop, a5t, a5f, rfl, kc, k5t, k5f⟩ := tr_cond k5
  have := tr_skip k5f
  subst this
  obtain ⟨a6, b6, rfl, k6, ff⟩ := tr_seq fe
  obtain ⟨rfl, _⟩ := tr_ret ff
  obtain ⟨q2, q3, q8, hreg2⟩ := h2 F _ f1 f2
  simp only [spine] at hreg2
  refine Go.calls_of_wp_defers f1 f2 ?_
  simp only [deferX, hfb, cspine, opsC, hgb] at hX
  have hr : (X.ret (v1 :: vs1) mf) ≠ .bad := by intro h; cases h
  -- the first two rows
  refine Go.wp_seq (reg_K (K := []) ok.ptrT hc ok.meth k0 hr (by intro o ho p hp; cases hp) (enter_ER hv (by omega)) rfl hm hX ⟨?_, ?_⟩)
  case refine_2 =>
    intro e' v m' x a' w' ρ' he' _ hv' hd' g hn
    cases hn
  intro e1 m1 a1' w1 ρ1 he1 _ hd1 gd1 hX
  refine Go.wp_seq (reg_K (K := []) ok.ptrT hc ok.meth k1 hr (by intro o ho p hp; cases hp) he1 hd1 gd1.mr hX ⟨?_, ?_⟩)
  case refine_2 =>
    intro e' v m' x a' w' ρ' he' _ hv' hd' g hn
    cases hn
  intro e2 m2 a2' w2 ρ2 he2 _ hd2 gd2 hX
  -- the row that defers
  obtain ⟨id2, ops2, rfl, _⟩ := tr_reg k2
  refine Go.wp_seq (reg2_sound ok k q8 hreg2 he2 hd2 gd2.mr ?_)
  intro a3' w3 ρ3 cc he3 hd3 hcc gd3
  generalize hcap : [ev e2 (.tmp (key t2)), ev e2 (.tmp (key t3))] = caps at hX he3 hcc
  have hcl : caps.length = 2 := by rw [← hcap]; rfl
  generalize he3' : (T.set (V.fn g [] caps) (key t8) e2) = e3 at hX he3
  have hke3 : ∀ p ∈ [key t2, key t3], e3.get p = e2.get p := by
    intro p hp
    rw [← he3']
    refine T.get_set_ne _ _ _ _ ?_
    simp only [List.mem_cons, List.not_mem_nil, or_false] at hp
    rcases hp with rfl | rfl
    · intro h; exact ht8.1 (key_inj h)
    · intro h; exact ht8.2 (key_inj h)
  have gA : Good ρ m w ρ3 m2 w3 := (gd1.trans gd2).trans gd3
  generalize hY : exec W (callF W k) k ((Cmd.reg o3).seq (((Cmd.reg o4).seq (Cmd.cond cnd2 (Cmd.reg o5) Cmd.skip)).seq ((Cmd.reg o6).seq (Cmd.ret fn.rs)))) e3 m2 (fun e m => retX (results e m fn.rs) m) = Y at hX
  have hYr : Y ≠ .bad := by rintro rfl; cases hX
  -- how it ends: by a return
  have fin : ∀ (l : List V) (m' : M) (e' : Env) (a' : Act) (w' : World) (ρ' : Rho), Y = .ret l m' → ER ρ' F.ntmps e' a' → (∀ p ∈ [key t2, key t3], e'.get p = e3.get p) → a'.defers = [{ target := .fn (.func g) cc, args := #[] }] → Good ρ3 m2 w3 ρ' m' w' →
      Go.bodyPostD Pr F (Res ρ m w (.ok (tupled (v1 :: vs1)) mf)) .ret a' w' := by
    intro l m' e' a' w' ρ' hy he' hke' hd' gd'
    rw [hy] at hX
    simp only [finX] at hX
    simp only [Go.bodyPostD, hd']
    refine Go.leaves_cons (by intro h; cases h) ?_ ((clo_sound ok k hg hgb hgrs h0 hu (hcc.mono gd'.sub) hcl (x := .inil) (y := .nilIface) (by simp [VR]) (.inl ⟨rfl, rfl⟩) gd'.mr hX).mono ?_)
    · have := g3 (#[] ++ cc) w'
      simpa [Go.invoke] using this
    · rintro en u' w'' ⟨⟨xv, rfl⟩, hset, ρ'', gd'', hres⟩
      simp only
      rw [hset]
      have hres' : results e' mf fn.rs = some (v1 :: vs1) := by rw [← hres]; exact results_same (fun p hp => (hke' p hp).trans (hke3 p hp)) hrs
      obtain ⟨xr, r1, r2⟩ := run_results (he'.mono gd''.sub) gd''.mr f5 hres'
      exact ⟨xr, r1, ρ'', r2, (gA.trans gd').trans gd''⟩
  -- or by a panic
  have finP : ∀ (v : V) (m' : M) (e' : Env) (x : Value) (a' : Act) (w' : World) (ρ' : Rho), Y = .pan v m' → ER ρ' F.ntmps e' a' → (∀ p ∈ [key t2, key t3], e'.get p = e3.get p) → VR ρ' v x → a'.defers = [{ target := .fn (.func g) cc, args := #[] }] → Good ρ3 m2 w3 ρ' m' w' →
      Go.bodyPostD Pr F (Res ρ m w (.ok (tupled (v1 :: vs1)) mf)) (.panic [{ v := x, recovered := false }]) a' w' := by
    intro v m' e' x a' w' ρ' hy he' hke' hvx hd' gd'
    rw [hy] at hX
    simp only [finX] at hX
    simp only [Go.bodyPostD, hd']
    refine Go.leaves_cons (by intro h; cases h) ?_ ((clo_sound ok k hg hgb hgrs h0 hu (hcc.mono gd'.sub) hcl (x := v) (y := x) hvx (.inr rfl) gd'.mr hX).mono ?_)
    · have := g3 (#[] ++ cc) w'
      simpa [Go.invoke] using this
    · rintro en u' w'' ⟨⟨xv, rfl⟩, hset, ρ'', gd'', hres⟩
      simp only
      rw [hset]
      have hres' : results e' mf fn.rs = some (v1 :: vs1) := by rw [← hres]; exact results_same (fun p hp => (hke' p hp).trans (hke3 p hp)) hrs
      obtain ⟨xr, r1, r2⟩ := run_results (he'.mono gd''.sub) gd''.mr f5 hres'
      exact ⟨xr, r1, ρ'', r2, (gA.trans gd').trans gd''⟩
  clear hX
  simp only [exec] at hY
  have tail : ∀ (e : Env) (mm : M) (a : Act) (w' : World) (ρ' : Rho), ER ρ' F.ntmps e a → (∀ p ∈ [key t2, key t3], e.get p = e3.get p) → a.defers = [{ target := .fn (.func g) cc, args := #[] }] → Good ρ3 m2 w3 ρ' mm w' →
      execOps W (callF W k) o6 e mm (fun e m => retX (results e m fn.rs) m) = Y → (a6.seq Code.ret).wp Pr (Go.bodyPostD Pr F (Res ρ m w (.ok (tupled (v1 :: vs1)) mf))) a w' := by
    intro e mm a w' ρ' he hke hd gd hx
    refine Go.wp_seq (reg_K (K := [key t2, key t3]) ok.ptrT hc ok.meth k6 hYr hk6 he hd gd.mr hx ⟨?_, ?_⟩)
    · intro e' m' a' w'' ρ'' he' hke' hd' gd' hn
      refine Go.wp_ret ?_
      cases hres : results e' m' fn.rs with
      | none => rw [hres] at hn; exact absurd hn.symm hYr
      | some l => rw [hres] at hn; exact fin l m' e' a' w'' ρ'' hn.symm he' (fun p hp => (hke' p hp).trans (hke p hp)) hd' (gd.trans gd')
    · intro e' v m' x a' w'' ρ'' he' hke' hv' hd' gd' hn
      exact finP v m' e' x a' w'' ρ'' hn.symm he' (fun p hp => (hke' p hp).trans (hke p hp)) hv' hd' (gd.trans gd')
  refine Go.wp_seq (reg_K (K := [key t2, key t3]) ok.ptrT hc ok.meth k3 hYr hk3 he3 hd3 gA.mr hY ⟨?_, ?_⟩)
  case refine_2 =>
    intro e' v m' x a' w'' ρ'' he' hke' hv' hd' gd' hn
    exact finP v m' e' x a' w'' ρ'' hn.symm he' hke' hv' hd' gd'
  intro e4 m4 a4' w4 ρ4 he4 hke4 hd4 gd4 hY
  refine Go.wp_seq (Go.wp_seq (reg_K (K := [key t2, key t3]) ok.ptrT hc ok.meth k4 hYr hk4 he4 hd4 gd4.mr hY ⟨?_, ?_⟩))
  case refine_2 =>
    intro e' v m' x a' w'' ρ'' he' hke' hv' hd' gd' hn
    exact finP v m' e' x a' w'' ρ'' hn.symm he' (fun p hp => (hke' p hp).trans (hke4 p hp)) hv' hd' (gd4.trans gd')
  intro e5 m5 a5' w5 ρ5 he5 hke5 hd5 gd5 hY
  obtain ⟨b, hb, hY⟩ := cnd_some hY hYr
  have hvb := he5.ev kc
  rw [hb] at hvb
  have hvb := vrl_bool hvb
  refine Go.wp_cond hvb ?_
  cases b with
  | false =>
    refine Go.wp_skip ?_
    exact tail e5 m5 a5' w5 ρ5 he5 (fun p hp => (hke5 p hp).trans (hke4 p hp)) hd5 (gd4.trans gd5) hY
  | true =>
    refine reg_K (K := [key t2, key t3]) ok.ptrT hc ok.meth k5t hYr hk5 he5 hd5 gd5.mr hY ⟨?_, ?_⟩
    · intro e' m' a' w'' ρ'' he' hke' hd' gd' hn
      exact tail e' m' a' w'' ρ'' he' (fun p hp => (hke' p hp).trans ((hke5 p hp).trans (hke4 p hp))) hd' ((gd4.trans gd5).trans gd') hn
    · intro e' v m' x a' w'' ρ'' he' hke' hv' hd' gd' hn
      exact finP v m' e' x a' w'' ρ'' hn.symm he' (fun p hp => (hke' p hp).trans ((hke5 p hp).trans (hke4 p hp))) hv' hd' ((gd4.trans gd5).trans gd')
end
end Mu
