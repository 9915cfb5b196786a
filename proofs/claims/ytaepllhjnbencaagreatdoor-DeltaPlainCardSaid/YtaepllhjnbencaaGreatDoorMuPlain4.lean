/- DeltaPlain's function: true, whatever the state. Condition: the state fits into a memory; there is fuel. -/
import Derived.Test.YtaepllhjnbencaaGreatDoorMuSame
set_option linter.unusedVariables false
set_option linter.unusedSimpArgs false
set_option maxRecDepth 100000
set_option maxHeartbeats 4000000
namespace Go.Proofs.YtaepllhjnbencaaGreatDoor.Ir
open Mu
attribute [local irreducible] R.to R.sure guarded pureD readD effD allocD ifX cnd take1 blkF joinF loopF retX gd callF exec2 M.get
theorem Own2.rest {lo : Nat} {J : Fz} {m : M} {v1 v2 : V} {s : State} (h : Own2 lo J m v1 v2 s) : ∃ J', Gro lo J J' ∧ Froz J' m ∧ R' J' (.agg [v1, v2]) (.agg (encState s)) := by
  obtain ⟨cs1, m1, r1⟩ := h.r1
  obtain ⟨cs2, m2, r2⟩ := h.r2
  obtain ⟨J1, g1, f1, w1, hJ⟩ := m1.gro h.fz (fun db ex e => h.n1 db ex e) r1
  obtain ⟨J2, g2, f2, w2, _⟩ := m2.gro f1 (fun db ex e => by
    rcases hJ db with q | ⟨ex', q⟩
    · rw [q]; exact h.n2 db ex e
    · exact absurd rfl (h.ap db ex' db ex q e)) (r2.mono g1.le)
  exact ⟨J2, g1.trans g2 (Nat.le_refl _), f2, R'.mkState (w1.mono g2.le) w2⟩
theorem c_twin {k : Nat} {I : Fz} {m : M} {v : V} {s : State} (hf : Froz I m) (hv : R' I v (.agg (encState s))) (hs : s.Fits) (hk : s.ss.length + s.ws.length < k) :
    ∃ v' m' J, callF W1 (k + 3) 14 [v] m = .ok v' m' ∧ Ext m m' ∧ Gro m.n I J ∧ Froz J m' ∧ R' J v' (.agg (encState s)) := by
  obtain ⟨u1, u2, rfl, hu1, hu2⟩ := hv.state
  have key : RetE (fun l m' => ∃ v' J, l = [v'] ∧ Ext m m' ∧ Gro m.n I J ∧ Froz J m' ∧ R' J v' (.agg (encState s))) (D14 W1 (callF W1 (k + 2)) (k + 2) (.agg [u1, u2]) m) := by
    generalize hQ : RetE (fun l m' => ∃ v' J, l = [v'] ∧ Ext m m' ∧ Gro m.n I J ∧ Froz J m' ∧ R' J v' (.agg (encState s))) = Q
    unfold D14
    refine t_ok (k_box rfl rfl) ?_
    refine t_ok rfl ?_
    generalize hm3 : (m.new (.cells [u1, u2] .rw 25)).new (.cells [.snil, .snil] .rw 25) = m3
    have e3 : Ext m m3 := by rw [← hm3]; exact (Ext.new _ _).push _
    have n3 : m3.n = m.n + 2 := by rw [← hm3]; simp
    have g1 : m3.get m.n = some (.cells [u1, u2] .rw 25) := by rw [← hm3]; exact (M.get_new_ne _ _ _ (by simp)).trans (M.get_new_same _ _)
    have g2 : m3.get (m.n + 1) = some (.cells [.snil, .snil] .rw 25) := by rw [← hm3]; exact M.get_new_same (m.new _) _
    simp only [M.n_new]
    refine t_ok (k_load g1 rfl) ?_
    obtain ⟨v1, v2, m4, J, h4, e4, le0, own⟩ := c_Copy (k := k) (hf.ext e3) hv hs hk
    refine t_ok (k_call h4) ?_
    have n4 := e4.n
    refine t_ok (k_put (cs' := [v1, v2]) (e4.some (by omega) g2) rfl rfl rfl (by simp) rfl) ?_
    refine ret_of (resV_cell (M.get_put_same _ _ _) rfl resV_nil) ?_
    obtain ⟨J', gr, fz, hr⟩ := own.rest
    have gr2 : Gro m3.n I J' := le0.trans gr (Nat.le_refl _)
    subst hQ
    exact RetE.mk ⟨_, J', rfl, (e3.trans e4).put (by omega) _, gr2.lower (by omega), fz.put (gr2.none hf (by omega) (by omega)) _, hr⟩
  obtain ⟨l, m', h1, v', J, rfl, h2, h3, h4, h5⟩ := callE prim14 get14 rfl (D14_eq W1 (callF W1 (k + 2)) (k + 2) (.agg [u1, u2]) m) key
  exact ⟨v', m', J, h1, h2, h3, h4, h5⟩
theorem plainS_fits {s : State} (hs : s.Fits) : (plainS s).Fits :=
  ⟨by simpa [plainS] using hs.ss, by simpa [plainS] using hs.ws, by intro x hx; simp only [plainS, List.mem_map] at hx; obtain ⟨y, hy, rfl⟩ := hx; exact hs.links y hy, by intro x hx; simp only [plainS, List.mem_map] at hx; obtain ⟨y, hy, rfl⟩ := hx; exact hs.cells y hy⟩
theorem works_true {n : Nat} {m : M} : callF W1 (n + 1) 15 [] m = .ok (.bool true) m := by
  have h : W1.prims 15 = some pTrue := by kernel_rfl
  rw [callF_prim h]
  rfl
theorem c_DeltaPlain {k : Nat} {I : Fz} {m : M} {v : V} {s : State} (hf : Froz I m) (hv : R' I v (.agg (encState s))) (hs : s.Fits) (hk : s.ss.length + s.ws.length < k) (hka : ∀ x ∈ s.ss, x.links.length < k) (hkb : ∀ x ∈ s.ws, x.cells.length < k) :
    ∃ m', callF W1 (k + 4) 7 [v] m = .ok (.bool true) m' := by
  obtain ⟨u1, u2, rfl, hu1, hu2⟩ := hv.state
  have key : RetE (fun l m' => l = [.bool true]) (D7 W1 (callF W1 (k + 3)) (k + 3) (.agg [u1, u2]) m) := by
    generalize hQ : RetE (fun l m' => l = [.bool true]) = Q
    unfold D7
    refine t_ok (k_box rfl rfl) ?_
    generalize hm1 : m.new (.cells [u1, u2] .rw 25) = m1
    have e1 : Ext m m1 := by rw [← hm1]; exact Ext.new _ _
    have n1 : m1.n = m.n + 1 := by rw [← hm1]; simp
    have g1 : m1.get m.n = some (.cells [u1, u2] .rw 25) := by rw [← hm1]; exact M.get_new_same _ _
    refine t_ok (k_load g1 rfl) ?_
    obtain ⟨vm, m2, J1, h2, e2, gr1, f2, rm⟩ := c_twin (k := k) (hf.ext e1) hv hs hk
    obtain ⟨p1, p2, rfl, hp1, hp2⟩ := rm.state
    refine t_ok (k_call h2) ?_
    refine t_ok rfl ?_
    refine t_ok (k_put (cs' := [p1, p2]) (M.get_new_same _ _) rfl rfl rfl (by simp) rfl) ?_
    have n2 := e2.n
    generalize hm3 : (m2.new (.cells [.snil, .snil] .rw 25)).put m2.n (.cells [p1, p2] .rw 25) = m3
    have e3 : Ext m2 m3 := by rw [← hm3]; exact (Ext.new _ _).put (Nat.le_refl _) _
    have n3 : m3.n = m2.n + 1 := by rw [← hm3]; simp
    have g2 : m3.get m2.n = some (.cells [p1, p2] .rw 25) := by rw [← hm3]; exact M.get_put_same _ _ _
    have g1' := (e2.trans e3).some (by omega) g1
    have f3 := f2.ext e3
    have hle1 := gr1.le
    have cP : V.clean (.agg [p1, p2]) = true := by simp [V.clean, V.cleanL, hp1.lstCells.2, hp2.lstCells.2]
    have cU : V.clean (.agg [u1, u2]) = true := by simp [V.clean, V.cleanL, hu1.lstCells.2, hu2.lstCells.2]
    refine e_yes rfl cp_nil (k_call (works_true (n := k + 2))) ?_
    refine r_yes rfl (k_load g2 rfl) (ch_early rfl) ?_
    obtain ⟨q, m4, J2, h4, e4, gr2, f4, rq⟩ := c_Plain (k := k) f3 rm hs hk
    refine e_yes rfl (cp_rd (k_load g2 rfl) cP cp_nil) (k_call h4) ?_
    have n4 := e4.n
    have g1'' := e4.some (by omega) g1'
    have g2'' := e4.some (by omega) g2
    refine r_yes rfl (k_load g1'' rfl) (ch_again (k_load g1' rfl) cU (ch_early rfl)) ?_
    have hu : R' J2 (.agg [u1, u2]) (.agg (encState s)) := R'.mono gr2.le (R'.mono hle1 hv)
    obtain ⟨q', m5, J3, h5, e5, gr3, f5, rq'⟩ := c_RefPlain (k := k) f4 hu hs hk
    refine e_yes rfl (cp_rd (k_load g1'' rfl) cU (cp_late rfl cp_nil)) (k_call h5) ?_
    have hpl : ∀ x ∈ (plainS s).ss, x.links.length < k + 2 := by intro x hx; simp only [plainS, List.mem_map] at hx; obtain ⟨y, hy, rfl⟩ := hx; have := hka y hy; simp only [plainSess]; omega
    have hpw : ∀ x ∈ (plainS s).ws, x.cells.length < k + 2 := by intro x hx; simp only [plainS, List.mem_map] at hx; obtain ⟨y, hy, rfl⟩ := hx; have := hkb y hy; simp only [plainWin]; omega
    obtain ⟨m6, h6, e6⟩ := c_same (k := k + 2) f5 (R'.mono gr3.le rq) rq' (plainS_fits hs) (by simp [plainS]; omega) hpl hpw
    refine e_yes rfl (cp_late rfl (cp_late rfl cp_nil)) (k_call h6) ?_
    refine p_yes rfl rfl ?_
    have e56 := e5.trans e6
    have n5 := e5.n
    have n6 := e6.n
    have h1 := e56.some (by omega) g1''
    have h2 := e56.some (by omega) g2''
    refine r_yes rfl (k_load h2 rfl) (ch_early rfl) ?_
    refine r_yes rfl (k_load h1 rfl) (ch_early rfl) ?_
    have f6 := f5.ext e6
    obtain ⟨m7, h7, e7⟩ := c_same (k := k + 2) (v := .agg [p1, p2]) (w := .agg [u1, u2]) f6 (R'.mono (gr2.le.trans gr3.le) rm) (R'.mono gr3.le hu) hs (by omega) (fun x hx => by have := hka x hx; omega) (fun x hx => by have := hkb x hx; omega)
    refine e_yes rfl (cp_rd (k_load h1 rfl) cU (cp_rd (k_load h2 rfl) cP (cp_late rfl (cp_late rfl cp_nil)))) (k_call h7) ?_
    refine p_yes rfl rfl ?_
    refine x_if (cp_late rfl (cp_late rfl (cp_late rfl (cp_late rfl cp_nil)))) ?_
    subst hQ
    exact RetE.mk rfl
  obtain ⟨l, m', h1, rfl⟩ := callE prim7 get7 rfl (D7_eq W1 (callF W1 (k + 3)) (k + 3) (.agg [u1, u2]) m) key
  exact ⟨m', h1⟩
end Go.Proofs.YtaepllhjnbencaaGreatDoor.Ir
