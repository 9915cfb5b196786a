/- A function that defers a function which recovers (of one shape): its parts. -/
import Derived.Test.YtaepllhjnbencaaGreatDoorMuDefer0
set_option linter.unusedVariables false
set_option linter.unusedSimpArgs false
set_option maxHeartbeats 4000000
namespace Mu
open Go (Value World Addr Program IntKind Sem Result Obj TypeDesc TypeInfo Operand Oper Ending Calls Act Exit Code)
def cspine : Nat → Cmd → Cmd
  | 0, .seq a _ => a
  | k + 1, .seq _ b => cspine k b
  | _, c => c
def opsC : Cmd → List Op
  | .reg l => l
  | _ => []
/-- what the deferred function's rest, given what was recovered, leaves as the results -/
def cloX (W : Prg) (call : Nat → List V → M → R) (n : Nat) (crest : Cmd) (caps : List V) (q : Mu.P) (e2 : Env) (rs : List Rs) (x : V) (m : M) : X :=
  exec W call n crest (T.set x q (mkEnv caps 0 .nil)) m fun _ m' => retX (results e2 m' rs) m'
def finX (W : Prg) (call : Nat → List V → M → R) (n : Nat) (crest : Cmd) (caps : List V) (q : Mu.P) (e2 : Env) (rs : List Rs) : X → X
  | .ret _ m => cloX W call n crest caps q e2 rs .inil m
  | .pan v m => cloX W call n crest caps q e2 rs v m
  | _ => .bad
def deferX (W : Prg) (call : Nat → List V → M → R) (n : Nat) (fn gn : IFn) (g : Nat) (p2 p3 p8 q : Mu.P) (args : List V) (m : M) : X :=
  execOps W call (opsC (cspine 0 fn.body)) (mkEnv args 0 .nil) m fun e m => execOps W call (opsC (cspine 1 fn.body)) e m fun e m =>
    finX W call n (match gn.body with | .seq _ b => b | c => c) [ev e (.tmp p2), ev e (.tmp p3)] q e fn.rs
      (exec W call n (match fn.body with | .seq _ (.seq _ (.seq _ b)) => b | c => c) (T.set (V.fn g [] [ev e (.tmp p2), ev e (.tmp p3)]) p8 e) m fun e m => retX (results e m fn.rs) m)
/-- what a function that defers so answers -/
def pDefer (W : Prg) (call : Nat → List V → M → R) (n : Nat) (fn gn : IFn) (g : Nat) (p2 p3 p8 q : Mu.P) (args : List V) (m : M) : R :=
  match deferX W call n fn gn g p2 p3 p8 q args m with
  | .ret (v :: vs) m' => .ok (tupled (v :: vs)) m'
  | _ => .bad

def rsIn (K : List Mu.P) : List Rs → Prop
  | [] => True
  | .tmp p :: r => p ∈ K ∧ rsIn K r
  | .cell p _ _ :: r => p ∈ K ∧ rsIn K r
theorem results_same {K : List Mu.P} {e e' : Env} {m : M} (h : ∀ p ∈ K, e'.get p = e.get p) : ∀ {rs : List Rs}, rsIn K rs → results e' m rs = results e m rs
  | [], _ => rfl
  | .tmp p :: r, hr => by
    simp only [rsIn] at hr
    simp only [results, ev, h p hr.1, results_same h hr.2]
  | .cell p a n :: r, hr => by
    simp only [rsIn] at hr
    simp only [results, ev, h p hr.1, results_same h hr.2]

section
variable {Pr : Program} {names : List String} {W : Prg}
/-- the deferred function: what recover hands it is either nothing or what the frame panicked with -/
theorem clo_sound (ok : Ok Pr W names) (k : Nat) {g : Nat} {gn : IFn} (hg : FnFact Pr names g gn) {c0 : List Op} {crest : Cmd} {u2 u5 : Nat} (hgb : gn.body = .seq (.reg c0) crest) (hgrs : gn.rs = [])
    (h0 : ∀ G code, Pr.funcs[g]? = some G → G.body = some code → u2 < G.ntmps ∧ u5 < G.ntmps ∧ 2 ≤ G.ntmps ∧ regOps (spine 0 code) = some [(.call ⟨.builtin .recover, #[], #[]⟩, some u5, none), (.assign (.tmp u5), some u2, none)])
    (hu : 2 ≤ u2 ∧ 2 ≤ u5 ∧ u2 ≠ u5) {ρ : Rho} {m : M} {w : World} {e2 : Env} {rs : List Rs} {caps : List V} {cvs : Array Value} (hcv : VRL ρ caps cvs.toList) (hcl : caps.length = 2) {x : V} {y : Value} (hxy : VR ρ x y) {u : Go.FrameMode}
    (hmode : (u = .returning ∧ y = .nilIface) ∨ u = .panicking [{ v := y, recovered := false }]) (hm : MR ρ m w) {v1 : V} {vs1 : List V} {mf : M} (hX : cloX W (callF W k) k crest caps (key u2) e2 rs x m = .ret (v1 :: vs1) mf) :
    Go.CallsD Pr g cvs u w fun en u' w' => (∃ xv, en = .returned xv) ∧ Go.settle u' = .returning ∧ ∃ ρ', Good ρ m w ρ' mf w' ∧ results e2 mf rs = some (v1 :: vs1) := by
  obtain ⟨G, gcode, g1, g2, g3, g4, g5, g6, g7⟩ := hg.ex
  have hc := callF_ok ok k
  rw [hgb] at g6
  simp only [er] at g6
  obtain ⟨d0, drest, rfl, kg0, kgr⟩ := tr_seq g6
  obtain ⟨v2, v5, vn2, hreg0⟩ := h0 G _ g1 g2
  simp only [spine] at hreg0
  have hdr : dOk crest = true := by rw [hgb] at g7; simp only [dOk, Bool.and_eq_true] at g7; exact g7.2
  obtain ⟨id2, ops2, rfl, _⟩ := tr_reg kg0
  simp only [regOps, Option.some.injEq] at hreg0
  have hops2 : ∃ x y, ops2 = #[x, y] ∧ x.op = .call ⟨.builtin .recover, #[], #[]⟩ ∧ x.dst = some u5 ∧ x.guard = none ∧ y.op = .assign (.tmp u5) ∧ y.dst = some u2 ∧ y.guard = none := by
    have hl : ops2.toList.length = 2 := by have := congrArg List.length hreg0; simpa using this
    match hh : ops2.toList, hl with
    | [x, y], _ =>
      rw [hh] at hreg0
      simp only [List.map_cons, List.map_nil, List.cons.injEq, Prod.mk.injEq, and_true] at hreg0
      exact ⟨x, y, arr_two hh, hreg0.1.1, hreg0.1.2.1, hreg0.1.2.2, hreg0.2.1, hreg0.2.2.1, hreg0.2.2.2⟩
  obtain ⟨x2, y2, rfl, x2o, x2d, x2g, y2o, y2d, y2g⟩ := hops2
  have hcs : cvs.size = 2 := by have := hcv.length; simp at this; omega
  refine Go.callsD_of_wpS g1 g2 fun c₀ cs hu0 => ?_
  refine Go.wpS_seq (Go.wpS_region ?_)
  have hrange : List.range (#[x2, y2] : Array Oper).size = [0, 1] := rfl
  rw [hrange]
  -- what recover answers
  have hx0 : (#[x2, y2] : Array Oper)[0]? = some x2 := rfl
  have hx1 : (#[x2, y2] : Array Oper)[1]? = some y2 := rfl
  have hwx : ∀ s, Go.Region.wanted x2 s = true := fun s => by simp [Go.Region.wanted, x2g]
  have hwy : ∀ s, Go.Region.wanted y2 s = true := fun s => by simp [Go.Region.wanted, y2g]
  have hex : ∀ (ρ' : Operand → Value), (Go.execOp ρ' x2).run Pr w = .ok .recover w := by
    intro ρ'
    simp only [Go.execOp, x2o, Go.resolve]
    rfl
  have hey : ∀ (ρ' : Operand → Value), (Go.execOp ρ' y2).run Pr w = .ok (.value (ρ' (.tmp u5))) w := by
    intro ρ'
    simp only [Go.execOp, y2o]
    rfl
  -- what is so behind it
  have key : ∀ (cs' : List Go.Frame) (u' : Go.FrameMode), cs' = { c₀ with mode := u' } :: cs → Go.settle u' = .returning →
      Go.wpOpsS Pr #[x2, y2] (Go.Exit.thenS (drest.wpS Pr (Go.bodyPostS Pr G c₀ cs fun en u' w' => (∃ xv, en = .returned xv) ∧ Go.settle u' = .returning ∧ ∃ ρ', Good ρ m w ρ' mf w' ∧ results e2 mf rs = some (v1 :: vs1))) (Go.bodyPostS Pr G c₀ cs fun en u' w' => (∃ xv, en = .returned xv) ∧ Go.settle u' = .returning ∧ ∃ ρ', Good ρ m w ρ' mf w' ∧ results e2 mf rs = some (v1 :: vs1))) [1]
        (Act.put { tmps := cvs ++ Array.replicate (G.ntmps - cvs.size) Go.undef, defers := [] } (some u5) y) cs' w := by
    intro cs' u' hcs' hset
    simp only [Go.wpOpsS, hx1, hwy, if_true, hey, Oper.upon, y2d]
    have hev : (Act.put { tmps := cvs ++ Array.replicate (G.ntmps - cvs.size) Go.undef, defers := [] } (some u5) y).eval (.tmp u5) = y := by
      simp only [Act.eval, Act.put]
      rw [Array.getD_eq_getD_getElem?]
      simp only [Array.getElem?_setIfInBounds, if_true, Array.size_append, Array.size_replicate]
      rw [if_pos (by omega)]
      rfl
    rw [hev]
    refine Go.wpS_of_wp ?_
    have hER : ER ρ G.ntmps (T.set x (Mu.key u2) (mkEnv caps 0 .nil)) ((Act.put { tmps := cvs ++ Array.replicate (G.ntmps - cvs.size) Go.undef, defers := [] } (some u5) y).put (some u2) y) := by
      have h1 := enter_ER hcv (n := G.ntmps) (by omega)
      refine ER.put ?_ v2 hxy
      refine ⟨by simpa [Act.put] using h1.size, fun t v hv => ?_⟩
      have hk := mkEnv_get caps 0 .nil t
      rw [hv] at hk
      split at hk
      · rename_i ht
        have := h1.tmp t v hv
        have hne : u5 ≠ t := by omega
        simpa [Act.eval, Act.put, Array.getElem?_setIfInBounds_ne hne, Array.getD_eq_getD_getElem?] using this
      · rw [T.get_nil] at hk; cases hk
    refine exec_sound ok.mix ok.ptrT hc ok.meth (rs := gn.rs) (D := []) crest kgr hdr hER rfl hm hX (by intro h; cases h) ⟨?_, ?_, ?_, ?_⟩
    · intro e' m' a' w' ρ' he' hd' gd hn
      simp only [Go.bodyPostS]
      refine ⟨hd', u', hcs', ?_⟩
      rw [hgrs] at g5
      obtain ⟨xv, r1, _⟩ := run_results he' gd.mr g5 (vs := []) rfl
      refine ⟨xv, r1, ⟨xv, rfl⟩, hset, ρ', ?_⟩
      cases hres : results e2 m' rs with
      | none => rw [hres] at hn; cases hn
      | some l =>
        rw [hres] at hn
        simp only [retX] at hn
        injection hn with n1 n2
        subst n1 n2
        exact ⟨gd, hres⟩
    · intro id keep e' m' a' w' ρ' he' hd' gd hn
      cases hn
    · intro e' m' a' w' ρ' he' hd' gd hn
      rw [hgrs] at hn
      simp only [results, retX] at hn
      injection hn with n1
      cases n1
    · intro v m' x' a' w' ρ' hv' hd' gd hn
      cases hn
  unfold Go.wpOpsS
  simp only [hx0, hwx, if_true, hex, x2d]
  rcases hmode with ⟨hu1, hy⟩ | hu1
  · have : Go.recoverD (c₀ :: cs) = none := by simp [Go.recoverD, hu0, hu1]
    rw [this]
    simp only
    have hk := key (c₀ :: cs) u (by subst hu0; rfl) (by rw [hu1]; rfl)
    rw [hy] at hk
    exact hk
  · have : Go.recoverD (c₀ :: cs) = some (y, { c₀ with mode := .panicking [{ v := y, recovered := true }] } :: cs) := by simp [Go.recoverD, hu0, hu1]
    rw [this]
    simp only
    have hk := key ({ c₀ with mode := .panicking [{ v := y, recovered := true }] } :: cs) (.panicking [{ v := y, recovered := true }]) rfl rfl
    exact hk
/-- the row that defers -/
theorem reg2_sound (ok : Ok Pr W names) (k : Nat) {g t2 t3 t8 n : Nat} {id : Nat} {ops : Array Oper} (h8 : t8 < n)
    (hreg : regOps (.region id ops false) = some [(.makeFunc (.func g) #[] #[.tmp t2, .tmp t3], some t8, none), (.defer ⟨.value (.tmp t8), #[], #[]⟩, none, none)])
    {ρ : Rho} {e : Env} {a : Act} {m : M} {w : World} (he : ER ρ n e a) (hd : a.defers = []) (hm : MR ρ m w) {Q : Exit → Act → World → Prop}
    (next : ∀ (a3 : Act) (w3 : World) (ρ3 : Rho) (cc : Array Value), ER ρ3 n (T.set (V.fn g [] [ev e (.tmp (key t2)), ev e (.tmp (key t3))]) (key t8) e) a3 → a3.defers = [{ target := .fn (.func g) cc, args := #[] }] →
      VRL ρ3 [ev e (.tmp (key t2)), ev e (.tmp (key t3))] cc.toList → Good ρ m w ρ3 m w3 → Q .normal a3 w3) : (Code.region id ops false).wp Pr Q a w := by
  have hc := callF_ok ok k
  simp only [regOps, Option.some.injEq] at hreg
  have hops2 : ∃ x y, ops = #[x, y] ∧ x.op = .makeFunc (.func g) #[] #[.tmp t2, .tmp t3] ∧ x.dst = some t8 ∧ x.guard = none ∧ y.op = .defer ⟨.value (.tmp t8), #[], #[]⟩ ∧ y.dst = none ∧ y.guard = none := by
    have hl : ops.toList.length = 2 := by have := congrArg List.length hreg; simpa using this
    match hh : ops.toList, hl with
    | [x, y], _ =>
      rw [hh] at hreg
      simp only [List.map_cons, List.map_nil, List.cons.injEq, Prod.mk.injEq, and_true] at hreg
      exact ⟨x, y, arr_two hh, hreg.1.1, hreg.1.2.1, hreg.1.2.2, hreg.2.1, hreg.2.2.1, hreg.2.2.2⟩
  obtain ⟨x2, y2, rfl, x2o, x2d, x2g, y2o, y2d, y2g⟩ := hops2
  have hwx : ∀ s, Go.Region.wanted x2 s = true := fun s => by simp [Go.Region.wanted, x2g]
  have hwy : ∀ s, Go.Region.wanted y2 s = true := fun s => by simp [Go.Region.wanted, y2g]
  have hx0 : (#[x2, y2] : Array Oper)[0]? = some x2 := rfl
  have hx1 : (#[x2, y2] : Array Oper)[1]? = some y2 := rfl
  have hrange : List.range (#[x2, y2] : Array Oper).size = [0, 1] := rfl
  refine Go.wp_region ?_
  rw [hrange]
  unfold Go.wpOps
  simp only [hx0, hwx, if_true]
  refine .inl ?_
  have hvs : VRL ρ [ev e (.tmp (key t2)), ev e (.tmp (key t3))] (x2.op.operands.toList.map a.eval) := by
    rw [x2o]
    simp only [Go.Op.operands, VRL]
    exact ⟨_, _, rfl, he.ev (x := .tmp t2) rfl, _, _, rfl, he.ev (x := .tmp t3) rfl, rfl⟩
  refine op_sound ok.ptrT hc ok.meth (k := .mkFunc g 0) (by rw [x2o]; rfl) hvs hm ?_
  have hev : evK W (callF W k) m (.mkFunc g 0) [ev e (.tmp (key t2)), ev e (.tmp (key t3))] = .ok (.fn g [] [ev e (.tmp (key t2)), ev e (.tmp (key t3))]) m := by
    simp only [evK, Nat.zero_le, if_true, List.take_zero, List.drop_zero]
  rw [hev]
  intro y w' ρ' hv gd
  rw [x2d]
  have hv2 := hv
  simp only [VR] at hv2
  obtain ⟨ca, cc, rfl, hca, hcc⟩ := hv2
  have hca0 : ca = #[] := by simp only [VRL] at hca; cases ca; simp at hca; rw [hca]
  subst hca0
  have he3 := (he.mono gd.sub).put h8 hv
  generalize hq3 : a.put (some t8) (.func (.func g) #[] cc) = a3 at he3
  have hd3 : a3.defers = [] := by subst hq3; rw [put_defers]; exact hd
  have he8 : a3.eval (.tmp t8) = .func (.func g) #[] cc := by
    have hsz := he.size
    subst hq3
    simp only [Act.eval, Act.put]
    rw [Array.getD_eq_getD_getElem?]
    simp only [Array.getElem?_setIfInBounds, if_true]
    rw [if_pos (by omega)]
    rfl
  unfold Go.wpOps
  simp only [hx1, hwy, if_true]
  refine .inl ?_
  have hexy : (Go.execOp a3.eval y2).run Pr w' = .ok (.defer { target := .fn (.func g) cc, args := #[] }) w' := by
    have h1 : Go.execOp a3.eval y2 = (do pure (.defer (← Go.resolve a3.eval ⟨.value (.tmp t8), #[], #[]⟩ y2.type)) : Sem Go.Next) := by
      simp only [Go.execOp, y2o]
    rw [h1]
    simp [Go.resolve, he8, Go.Deferred.ofValue]
  simp only [Oper.wp, hexy, Oper.upon, y2d]
  unfold Go.wpOps
  exact next _ w' ρ' cc ⟨by simpa [Act.put] using he3.size, fun t v hv => by simpa [Act.put, Act.eval] using he3.tmp t v hv⟩ (by simp [Act.put, hd3]) hcc gd
end
end Mu
