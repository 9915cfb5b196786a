/- The law's same, of two states that are the same: true. Condition: they fit into a memory; there is fuel. -/
import Derived.Test.YtaepllhjnbencaaGreatDoorMuPlain3
set_option linter.unusedVariables false
set_option linter.unusedSimpArgs false
set_option maxRecDepth 100000
set_option maxHeartbeats 4000000
namespace Go.Proofs.YtaepllhjnbencaaGreatDoor.Ir
open Mu
attribute [local irreducible] R.to R.sure guarded pureD readD effD allocD ifX cnd take1 blkF joinF loopF retX gd callF exec2 M.get
theorem c_same {k : Nat} {I : Fz} {m : M} {v w : V} {s : State} (hf : Froz I m) (hv : R' I v (.agg (encState s))) (hw : R' I w (.agg (encState s))) (hs : s.Fits) (hk : s.ss.length + s.ws.length < k) (hk2a : ∀ x ∈ s.ss, x.links.length < k) (hk2b : ∀ x ∈ s.ws, x.cells.length < k) :
    ∃ m', callF W1 (k + 1) 18 [v, w] m = .ok (.bool true) m' ∧ Ext m m' := by
  obtain ⟨u1, u2, rfl, hu1, hu2⟩ := hv.state
  obtain ⟨w1, w2, rfl, hw1, hw2⟩ := hw.state
  have key : RetE (fun l m' => l = [.bool true] ∧ Ext m m') (D18 W1 (callF W1 k) k (.agg [u1, u2]) (.agg [w1, w2]) m) := by
    generalize hQ : RetE (fun l m' => l = [.bool true] ∧ Ext m m') = Q
    unfold D18
    refine t_ok (k_box rfl rfl) ?_
    refine t_ok (k_box rfl rfl) ?_
    generalize hm3 : (m.new (.cells [u1, u2] .rw 25)).new (.cells [w1, w2] .rw 25) = m3
    have e3 : Ext m m3 := by rw [← hm3]; exact (Ext.new _ _).push _
    have n3 : m3.n = m.n + 2 := by rw [← hm3]; simp
    have g1 : m3.get m.n = some (.cells [u1, u2] .rw 25) := by rw [← hm3]; exact (M.get_new_ne _ _ _ (by simp)).trans (M.get_new_same _ _)
    have g2 : m3.get (m.n + 1) = some (.cells [w1, w2] .rw 25) := by rw [← hm3]; exact M.get_new_same (m.new _) _
    simp only [M.n_new]
    clear hm3
    obtain ⟨_, z1, _⟩ := hu1.slice hf encSess_len (by omega)
    obtain ⟨_, z2, _⟩ := hw1.slice hf encSess_len (by omega)
    obtain ⟨_, z3, _⟩ := hu2.slice hf encWin_len (by omega)
    obtain ⟨_, z4, _⟩ := hw2.slice hf encWin_len (by omega)
    refine t_ok rfl ?_
    refine t_ok (k_load g1 rfl) ?_
    refine t_ok z1.lenL' ?_
    refine t_ok rfl ?_
    refine t_ok (k_load g2 rfl) ?_
    refine t_ok z2.lenL' ?_
    refine t_ok (k_eqInt (c := true) (by simp)) ?_
    refine g_yes rfl rfl ?_
    refine g_yes rfl (k_load g1 rfl) ?_
    refine g_yes rfl z3.lenL' ?_
    refine g_yes rfl rfl ?_
    refine g_yes rfl (k_load g2 rfl) ?_
    refine g_yes rfl z4.lenL' ?_
    refine g_yes rfl (k_eqInt (c := true) (by simp)) ?_
    refine t_ok rfl ?_
    refine c_no ?_
    refine blk ?_
    refine loop_wf (fun st : List Sess × List Sess => [.ptr m.n 0, .ptr (m.n + 1) 0, .int .i64 (.ofNat st.1.length)])
      (fun st m' => s.ss = st.1 ++ st.2 ∧ Ext m m' ∧ m3.n ≤ m'.n ∧ m'.get m.n = some (.cells [u1, u2] .rw 25) ∧ m'.get (m.n + 1) = some (.cells [w1, w2] .rw 25))
      (fun st => st.2.length) ?_ ([], s.ss) m3 _ (by simp only; omega) ⟨rfl, e3, Nat.le_refl _, g1, g2⟩
    rintro ⟨l1, l2⟩ m10 k1 ⟨hl, ex, nx, d1, d2⟩ ihl
    simp only at hl ihl
    have hmn := ex.n
    iterate 3 refine t1 ?_
    have fz := hf.ext ex
    obtain ⟨csu, hslu, hru⟩ := hu1.slice fz encSess_len (by omega)
    obtain ⟨csw, hslw, hrw⟩ := hw1.slice fz encSess_len (by omega)
    refine t_ok rfl ?_
    refine t_ok (k_load d1 rfl) ?_
    refine t_ok hslu.lenL' ?_
    cases l2 with
    | nil =>
      have hll : s.ss.length = l1.length := by rw [hl]; simp
      have g : decide (Int.ofNat l1.length < Int.ofNat s.ss.length) = false := by rw [hll]; simp
      refine t_ok (k_lss g) ?_
      refine c_no ?_
      refine l_exit ?_
      refine b_exit ?_
      iterate 2 refine t1 ?_
      refine blk ?_
      refine loop_wf (fun st : List Win × List Win => [.ptr m.n 0, .ptr (m.n + 1) 0, .int .i64 (.ofNat st.1.length)])
        (fun st m' => s.ws = st.1 ++ st.2 ∧ Ext m m' ∧ m3.n ≤ m'.n ∧ m'.get m.n = some (.cells [u1, u2] .rw 25) ∧ m'.get (m.n + 1) = some (.cells [w1, w2] .rw 25))
        (fun st => st.2.length) ?_ ([], s.ws) m10 _ (by simp only; omega) ⟨rfl, ex, nx, d1, d2⟩
      rintro ⟨l1, l2⟩ m10 k1 ⟨hl, ex, nx, d1, d2⟩ ihl
      simp only at hl ihl
      have hmn := ex.n
      iterate 3 refine t1 ?_
      have fz := hf.ext ex
      obtain ⟨csu, hslu, hru⟩ := hu2.slice fz encWin_len (by omega)
      obtain ⟨csw, hslw, hrw⟩ := hw2.slice fz encWin_len (by omega)
      refine t_ok rfl ?_
      refine t_ok (k_load d1 rfl) ?_
      refine t_ok hslu.lenL' ?_
      cases l2 with
      | nil =>
        have hll : s.ws.length = l1.length := by rw [hl]; simp
        have g : decide (Int.ofNat l1.length < Int.ofNat s.ws.length) = false := by rw [hll]; simp
        refine t_ok (k_lss g) ?_
        refine c_no ?_
        refine l_exit ?_
        refine b_exit ?_
        subst hQ
        exact RetE.mk ⟨rfl, ex⟩
      | cons x l2 =>
        have hll : l1.length < s.ws.length := by rw [hl]; simp
        have g : decide (Int.ofNat l1.length < Int.ofNat s.ws.length) = true := by simp; omega
        refine t_ok (k_lss g) ?_
        refine c_yes ?_
        refine blk ?_
        rw [hl] at hru hrw
        obtain ⟨A, c, B, rfl, hA, hc, rA, rc, rB⟩ := RL.cut hru encWin_len
        obtain ⟨A', c', B', rfl, hA', hc', rA', rc', rB'⟩ := RL.cut hrw encWin_len
        obtain ⟨vl, rfl, hvl⟩ := rc.win
        obtain ⟨wl, rfl, hwl⟩ := rc'.win
        obtain ⟨b, o, hidx, hblt, ⟨all, own, t, hg, hpv, _⟩, _⟩ := hslu.elem (W := W1) (call := callF W1 k) hA hc (by omega) .i64
        obtain ⟨b', o', hidx', hblt', ⟨all', own', t', hg', hpv', _⟩, _⟩ := hslw.elem (W := W1) (call := callF W1 k) hA' hc' (by omega) .i64
        refine p_yes rfl rfl ?_
        refine r_yes rfl (k_load d1 rfl) ch_nil ?_
        refine p_yes rfl (hidx _) ?_
        refine r_yes rfl (k_load hg hpv) ch_nil ?_
        refine p_yes rfl rfl ?_
        refine r_yes rfl (k_load d2 rfl) ch_nil ?_
        refine p_yes rfl (hidx' _) ?_
        refine r_yes rfl (k_load hg' hpv') ch_nil ?_
        refine a_yes rfl ?_
        refine a_yes rfl ?_
        generalize hm12 : (m10.new (.cells [.int .i64 (.ofNat 0), .str [], .snil, .int .i64 (.ofNat 0), .int .i64 (.ofNat 0), .bool false] .rw 66)).new (.cells [.int .i64 (.ofNat 0), .str [], .snil, .int .i64 (.ofNat 0), .int .i64 (.ofNat 0), .bool false] .rw 66) = m12
        have e12 : Ext m10 m12 := by rw [← hm12]; exact (Ext.new _ _).push _
        have n12 : m12.n = m10.n + 2 := by rw [← hm12]; simp
        have q1 : m12.get m10.n = some (.cells [.int .i64 (.ofNat 0), .str [], .snil, .int .i64 (.ofNat 0), .int .i64 (.ofNat 0), .bool false] .rw 66) := by rw [← hm12]; exact (M.get_new_ne _ _ _ (by simp)).trans (M.get_new_same _ _)
        have q2 : m12.get (m10.n + 1) = some (.cells [.int .i64 (.ofNat 0), .str [], .snil, .int .i64 (.ofNat 0), .int .i64 (.ofNat 0), .bool false] .rw 66) := by rw [← hm12]; exact M.get_new_same (m10.new _) _
        simp only [M.n_new]
        have r1 := e12.some (by omega) d1
        have r2 := e12.some (by omega) d2
        have r3 := e12.some hblt hg
        have r4 := e12.some hblt' hg'
        have cA : V.clean (.agg [vi x.id, .str x.name, vl, vi x.act, vi x.last, .bool x.zoom]) = true := by simp [V.clean, V.cleanL, hvl.lstCells.2]
        have cB : V.clean (.agg [vi x.id, .str x.name, wl, vi x.act, vi x.last, .bool x.zoom]) = true := by simp [V.clean, V.cleanL, hwl.lstCells.2]
        refine e_yes rfl (cp_bl q2 rfl (cp_bl q1 rfl (cp_rd (k_load r4 hpv') cB (cp_rd (k_load r2 rfl) hw2.lstCells.2 (cp_rd (k_load r3 hpv) cA (cp_rd (k_load r1 rfl) hu2.lstCells.2 cp_nil)))))) (k_put (cs' := [vi x.id, .str x.name, vl, vi x.act, vi x.last, .bool x.zoom]) q1 rfl rfl rfl (by simp) rfl) ?_
        generalize hm13 : m12.put m10.n (.cells [vi x.id, .str x.name, vl, vi x.act, vi x.last, .bool x.zoom] .rw 66) = m13
        have e13 : Ext m10 m13 := by rw [← hm13]; exact e12.put (Nat.le_refl _) _
        have n13 : m13.n = m12.n := by rw [← hm13]; rfl
        have q3 : m13.get (m10.n + 1) = some (.cells [.int .i64 (.ofNat 0), .str [], .snil, .int .i64 (.ofNat 0), .int .i64 (.ofNat 0), .bool false] .rw 66) := by rw [← hm13]; exact (M.get_put_ne _ _ _ _ (by omega)).trans q2
        have q4 : m13.get m10.n = some (.cells [vi x.id, .str x.name, vl, vi x.act, vi x.last, .bool x.zoom] .rw 66) := by rw [← hm13]; exact M.get_put_same _ _ _
        refine e_yes rfl (cp_bllate rfl (cp_bllate rfl (cp_rd (k_load (e13.some hblt' hg') hpv') cB (cp_rd (k_load (e13.some (by omega) d2) rfl) hw2.lstCells.2 (cp_late rfl (cp_late rfl cp_nil)))))) (k_put (cs' := [vi x.id, .str x.name, wl, vi x.act, vi x.last, .bool x.zoom]) q3 rfl rfl rfl (by simp) rfl) ?_
        refine x_if (cp_bllate rfl (cp_bllate rfl (cp_late rfl (cp_late rfl (cp_late rfl (cp_late rfl cp_nil)))))) ?_
        generalize hm14 : m13.put (m10.n + 1) (.cells [vi x.id, .str x.name, wl, vi x.act, vi x.last, .bool x.zoom] .rw 66) = m14
        have e14 : Ext m10 m14 := by rw [← hm14]; exact e13.put (by omega) _
        have n14 : m14.n = m13.n := by rw [← hm14]; rfl
        have hy : m14.get (m10.n + 1) = some (.cells [vi x.id, .str x.name, wl, vi x.act, vi x.last, .bool x.zoom] .rw 66) := by rw [← hm14]; exact M.get_put_same _ _ _
        have hx : m14.get m10.n = some (.cells [vi x.id, .str x.name, vl, vi x.act, vi x.last, .bool x.zoom] .rw 66) := by rw [← hm14]; exact (M.get_put_ne _ _ _ _ (by omega)).trans q4
        obtain ⟨csx, hxl, hxr⟩ := hvl.slice (fz.ext e14) encCell_len (by omega)
        obtain ⟨csy, hyl, hyr⟩ := hwl.slice (fz.ext e14) encCell_len (by omega)
        refine t_ok rfl ?_
        refine t_ok (k_load hx rfl) ?_
        refine t_ok rfl ?_
        refine t_ok (k_load hy rfl) ?_
        refine t_ok (k_eqInt (c := true) (by simp)) ?_
        refine g_yes rfl rfl ?_
        refine g_yes rfl (k_load hx rfl) ?_
        refine g_yes rfl rfl ?_
        refine g_yes rfl (k_load hy rfl) ?_
        refine g_yes rfl (k_eqStr (c := true) (by simp)) ?_
        refine t_ok rfl ?_
        refine g_yes rfl rfl ?_
        refine g_yes rfl (k_load hx rfl) ?_
        refine g_yes rfl rfl ?_
        refine g_yes rfl (k_load hy rfl) ?_
        refine g_yes rfl (k_eqInt (c := true) (by simp)) ?_
        refine t_ok rfl ?_
        refine g_yes rfl rfl ?_
        refine g_yes rfl (k_load hx rfl) ?_
        refine g_yes rfl rfl ?_
        refine g_yes rfl (k_load hy rfl) ?_
        refine g_yes rfl (k_eqInt (c := true) (by simp)) ?_
        refine t_ok rfl ?_
        refine g_yes rfl rfl ?_
        refine g_yes rfl (k_load hx rfl) ?_
        refine g_yes rfl rfl ?_
        refine g_yes rfl (k_load hy rfl) ?_
        refine g_yes rfl (k_eql (b := true) (by simp [evEq, eqBase])) ?_
        refine t_ok rfl ?_
        refine g_yes rfl rfl ?_
        refine g_yes rfl (k_load hx rfl) ?_
        refine g_yes rfl hxl.lenL' ?_
        refine g_yes rfl rfl ?_
        refine g_yes rfl (k_load hy rfl) ?_
        refine g_yes rfl hyl.lenL' ?_
        refine g_yes rfl (k_eqInt (c := true) (by simp)) ?_
        refine t_ok rfl ?_
        refine c_no ?_
        refine blk ?_
        refine loop_wf (fun st : List Cell × List Cell => [.ptr m.n 0, .ptr (m.n + 1) 0, .int .i64 (.ofNat l1.length), .ptr m10.n 0, .ptr (m10.n + 1) 0, .int .i64 (.ofNat st.1.length)])
          (fun st m' => x.cells = st.1 ++ st.2 ∧ m' = m14) (fun st => st.2.length) ?_ ([], x.cells) m14 _ (by have := hk2b x (by rw [hl]; simp); simp only; omega) ⟨rfl, rfl⟩
        rintro ⟨j1, j2⟩ m15 k2 ⟨hj, rfl⟩ ihj
        simp only at hj ihj
        iterate 6 refine t1 ?_
        refine t_ok rfl ?_
        refine t_ok (k_load hx rfl) ?_
        refine t_ok hxl.lenL' ?_
        cases j2 with
        | nil =>
          have hll2 : x.cells.length = j1.length := by rw [hj]; simp
          have g : decide (Int.ofNat j1.length < Int.ofNat x.cells.length) = false := by rw [hll2]; simp
          refine t_ok (k_lss g) ?_
          refine c_no ?_
          refine l_exit ?_
          refine b_exit ?_
          iterate 3 refine t1 ?_
          refine b_norm ?_
          iterate 3 refine t1 ?_
          refine t_ok (k_addN (a := l1.length) (b := 1) (by have := hs.ws; omega)) ?_
          refine l_norm ?_
          have := ihl (l1 ++ [x], l2) m15 (by simp) ⟨by rw [hl]; simp, ex.trans e14, by omega, e14.some (by omega) d1, e14.some (by omega) d2⟩
          simpa using this
        | cons y j2 =>
          have hll2 : j1.length < x.cells.length := by rw [hj]; simp
          have g : decide (Int.ofNat j1.length < Int.ofNat x.cells.length) = true := by simp; omega
          refine t_ok (k_lss g) ?_
          refine c_yes ?_
          refine blk ?_
          rw [hj] at hxr hyr
          obtain ⟨D, d, E, rfl, hD, hd, rD, rd, rE⟩ := RL.cut hxr encCell_len
          obtain ⟨D', d', E', rfl, hD', hd', rD', rd', rE'⟩ := RL.cut hyr encCell_len
          have hdc := rd.cell
          have hdc' := rd'.cell
          subst hdc hdc'
          obtain ⟨ib, io, iidx, iblt, ⟨iall, iown, it, ig, ipv, _⟩, _⟩ := hxl.elem (W := W1) (call := callF W1 k) hD hd (by omega) .i64
          obtain ⟨ib', io', iidx', iblt', ⟨iall', iown', it', ig', ipv', _⟩, _⟩ := hyl.elem (W := W1) (call := callF W1 k) hD' hd' (by omega) .i64
          refine p_yes rfl rfl ?_
          refine r_yes rfl (k_load hx rfl) ch_nil ?_
          refine p_yes rfl (iidx _) ?_
          refine r_yes rfl (k_load ig ipv) ch_nil ?_
          refine p_yes rfl rfl ?_
          refine r_yes rfl (k_load hy rfl) ch_nil ?_
          refine p_yes rfl (iidx' _) ?_
          refine r_yes rfl (k_load ig' ipv') ch_nil ?_
          have heq : evEq W1.ptrT (.struct [(0, .int), (1, .int), (2, .int), (3, .int), (4, .int), (5, .int), (6, .int)]) (.agg (cellV y)) (.agg (cellV y)) m15 = some true := by simp [evEq, eqFields, eqBase, cellV]
          refine r_yes rfl (k_eql heq) ch_nil ?_
          refine x_if (cp_rd (k_eql heq) rfl (cp_rd (k_load ig' ipv') rfl (cp_rd (k_load hy rfl) hwl.lstCells.2 (cp_rd (k_load ig ipv) rfl (cp_rd (k_load hx rfl) hvl.lstCells.2 cp_nil))))) ?_
          refine c_no ?_
          refine b_norm ?_
          iterate 6 refine t1 ?_
          refine t_ok (k_addN (a := j1.length) (b := 1) (by have := hs.cells x (by rw [hl]; simp); omega)) ?_
          refine l_norm ?_
          have := ihj (j1 ++ [y], j2) m15 (by simp) ⟨by rw [hj]; simp, rfl⟩
          simpa using this

    | cons x l2 =>
      have hll : l1.length < s.ss.length := by rw [hl]; simp
      have g : decide (Int.ofNat l1.length < Int.ofNat s.ss.length) = true := by simp; omega
      refine t_ok (k_lss g) ?_
      refine c_yes ?_
      refine blk ?_
      rw [hl] at hru hrw
      obtain ⟨A, c, B, rfl, hA, hc, rA, rc, rB⟩ := RL.cut hru encSess_len
      obtain ⟨A', c', B', rfl, hA', hc', rA', rc', rB'⟩ := RL.cut hrw encSess_len
      obtain ⟨vl, rfl, hvl⟩ := rc.sess
      obtain ⟨wl, rfl, hwl⟩ := rc'.sess
      obtain ⟨b, o, hidx, hblt, ⟨all, own, t, hg, hpv, _⟩, _⟩ := hslu.elem (W := W1) (call := callF W1 k) hA hc (by omega) .i64
      obtain ⟨b', o', hidx', hblt', ⟨all', own', t', hg', hpv', _⟩, _⟩ := hslw.elem (W := W1) (call := callF W1 k) hA' hc' (by omega) .i64
      refine p_yes rfl rfl ?_
      refine r_yes rfl (k_load d1 rfl) ch_nil ?_
      refine p_yes rfl (hidx _) ?_
      refine r_yes rfl (k_load hg hpv) ch_nil ?_
      refine p_yes rfl rfl ?_
      refine r_yes rfl (k_load d2 rfl) ch_nil ?_
      refine p_yes rfl (hidx' _) ?_
      refine r_yes rfl (k_load hg' hpv') ch_nil ?_
      refine a_yes rfl ?_
      refine a_yes rfl ?_
      generalize hm12 : (m10.new (.cells [.int .i64 (.ofNat 0), .str [], .snil, .int .i64 (.ofNat 0), .int .i64 (.ofNat 0)] .rw 60)).new (.cells [.int .i64 (.ofNat 0), .str [], .snil, .int .i64 (.ofNat 0), .int .i64 (.ofNat 0)] .rw 60) = m12
      have e12 : Ext m10 m12 := by rw [← hm12]; exact (Ext.new _ _).push _
      have n12 : m12.n = m10.n + 2 := by rw [← hm12]; simp
      have q1 : m12.get m10.n = some (.cells [.int .i64 (.ofNat 0), .str [], .snil, .int .i64 (.ofNat 0), .int .i64 (.ofNat 0)] .rw 60) := by rw [← hm12]; exact (M.get_new_ne _ _ _ (by simp)).trans (M.get_new_same _ _)
      have q2 : m12.get (m10.n + 1) = some (.cells [.int .i64 (.ofNat 0), .str [], .snil, .int .i64 (.ofNat 0), .int .i64 (.ofNat 0)] .rw 60) := by rw [← hm12]; exact M.get_new_same (m10.new _) _
      simp only [M.n_new]
      have r1 := e12.some (by omega) d1
      have r2 := e12.some (by omega) d2
      have r3 := e12.some hblt hg
      have r4 := e12.some hblt' hg'
      have cA : V.clean (.agg [vi x.id, .str x.name, vl, vi x.cur, vi x.last]) = true := by simp [V.clean, V.cleanL, hvl.lstCells.2]
      have cB : V.clean (.agg [vi x.id, .str x.name, wl, vi x.cur, vi x.last]) = true := by simp [V.clean, V.cleanL, hwl.lstCells.2]
      refine e_yes rfl (cp_bl q2 rfl (cp_bl q1 rfl (cp_rd (k_load r4 hpv') cB (cp_rd (k_load r2 rfl) hw1.lstCells.2 (cp_rd (k_load r3 hpv) cA (cp_rd (k_load r1 rfl) hu1.lstCells.2 cp_nil)))))) (k_put (cs' := [vi x.id, .str x.name, vl, vi x.cur, vi x.last]) q1 rfl rfl rfl (by simp) rfl) ?_
      generalize hm13 : m12.put m10.n (.cells [vi x.id, .str x.name, vl, vi x.cur, vi x.last] .rw 60) = m13
      have e13 : Ext m10 m13 := by rw [← hm13]; exact e12.put (Nat.le_refl _) _
      have n13 : m13.n = m12.n := by rw [← hm13]; rfl
      have q3 : m13.get (m10.n + 1) = some (.cells [.int .i64 (.ofNat 0), .str [], .snil, .int .i64 (.ofNat 0), .int .i64 (.ofNat 0)] .rw 60) := by rw [← hm13]; exact (M.get_put_ne _ _ _ _ (by omega)).trans q2
      have q4 : m13.get m10.n = some (.cells [vi x.id, .str x.name, vl, vi x.cur, vi x.last] .rw 60) := by rw [← hm13]; exact M.get_put_same _ _ _
      refine e_yes rfl (cp_bllate rfl (cp_bllate rfl (cp_rd (k_load (e13.some hblt' hg') hpv') cB (cp_rd (k_load (e13.some (by omega) d2) rfl) hw1.lstCells.2 (cp_late rfl (cp_late rfl cp_nil)))))) (k_put (cs' := [vi x.id, .str x.name, wl, vi x.cur, vi x.last]) q3 rfl rfl rfl (by simp) rfl) ?_
      refine x_if (cp_bllate rfl (cp_bllate rfl (cp_late rfl (cp_late rfl (cp_late rfl (cp_late rfl cp_nil)))))) ?_
      generalize hm14 : m13.put (m10.n + 1) (.cells [vi x.id, .str x.name, wl, vi x.cur, vi x.last] .rw 60) = m14
      have e14 : Ext m10 m14 := by rw [← hm14]; exact e13.put (by omega) _
      have n14 : m14.n = m13.n := by rw [← hm14]; rfl
      have hy : m14.get (m10.n + 1) = some (.cells [vi x.id, .str x.name, wl, vi x.cur, vi x.last] .rw 60) := by rw [← hm14]; exact M.get_put_same _ _ _
      have hx : m14.get m10.n = some (.cells [vi x.id, .str x.name, vl, vi x.cur, vi x.last] .rw 60) := by rw [← hm14]; exact (M.get_put_ne _ _ _ _ (by omega)).trans q4
      obtain ⟨csx, hxl, hxr⟩ := hvl.slice (fz.ext e14) encLnk_len (by omega)
      obtain ⟨csy, hyl, hyr⟩ := hwl.slice (fz.ext e14) encLnk_len (by omega)
      refine t_ok rfl ?_
      refine t_ok (k_load hx rfl) ?_
      refine t_ok rfl ?_
      refine t_ok (k_load hy rfl) ?_
      refine t_ok (k_eqInt (c := true) (by simp)) ?_
      refine g_yes rfl rfl ?_
      refine g_yes rfl (k_load hx rfl) ?_
      refine g_yes rfl rfl ?_
      refine g_yes rfl (k_load hy rfl) ?_
      refine g_yes rfl (k_eqStr (c := true) (by simp)) ?_
      refine t_ok rfl ?_
      refine g_yes rfl rfl ?_
      refine g_yes rfl (k_load hx rfl) ?_
      refine g_yes rfl rfl ?_
      refine g_yes rfl (k_load hy rfl) ?_
      refine g_yes rfl (k_eqInt (c := true) (by simp)) ?_
      refine t_ok rfl ?_
      refine g_yes rfl rfl ?_
      refine g_yes rfl (k_load hx rfl) ?_
      refine g_yes rfl rfl ?_
      refine g_yes rfl (k_load hy rfl) ?_
      refine g_yes rfl (k_eqInt (c := true) (by simp)) ?_
      refine t_ok rfl ?_
      refine g_yes rfl rfl ?_
      refine g_yes rfl (k_load hx rfl) ?_
      refine g_yes rfl hxl.lenL' ?_
      refine g_yes rfl rfl ?_
      refine g_yes rfl (k_load hy rfl) ?_
      refine g_yes rfl hyl.lenL' ?_
      refine g_yes rfl (k_eqInt (c := true) (by simp)) ?_
      refine t_ok rfl ?_
      refine c_no ?_
      refine blk ?_
      refine loop_wf (fun st : List Lnk × List Lnk => [.ptr m.n 0, .ptr (m.n + 1) 0, .int .i64 (.ofNat l1.length), .ptr m10.n 0, .ptr (m10.n + 1) 0, .int .i64 (.ofNat st.1.length)])
        (fun st m' => x.links = st.1 ++ st.2 ∧ m' = m14) (fun st => st.2.length) ?_ ([], x.links) m14 _ (by have := hk2a x (by rw [hl]; simp); simp only; omega) ⟨rfl, rfl⟩
      rintro ⟨j1, j2⟩ m15 k2 ⟨hj, rfl⟩ ihj
      simp only at hj ihj
      iterate 6 refine t1 ?_
      refine t_ok rfl ?_
      refine t_ok (k_load hx rfl) ?_
      refine t_ok hxl.lenL' ?_
      cases j2 with
      | nil =>
        have hll2 : x.links.length = j1.length := by rw [hj]; simp
        have g : decide (Int.ofNat j1.length < Int.ofNat x.links.length) = false := by rw [hll2]; simp
        refine t_ok (k_lss g) ?_
        refine c_no ?_
        refine l_exit ?_
        refine b_exit ?_
        iterate 3 refine t1 ?_
        refine b_norm ?_
        iterate 3 refine t1 ?_
        refine t_ok (k_addN (a := l1.length) (b := 1) (by have := hs.ss; omega)) ?_
        refine l_norm ?_
        have := ihl (l1 ++ [x], l2) m15 (by simp) ⟨by rw [hl]; simp, ex.trans e14, by omega, e14.some (by omega) d1, e14.some (by omega) d2⟩
        simpa using this
      | cons y j2 =>
        have hll2 : j1.length < x.links.length := by rw [hj]; simp
        have g : decide (Int.ofNat j1.length < Int.ofNat x.links.length) = true := by simp; omega
        refine t_ok (k_lss g) ?_
        refine c_yes ?_
        refine blk ?_
        rw [hj] at hxr hyr
        obtain ⟨D, d, E, rfl, hD, hd, rD, rd, rE⟩ := RL.cut hxr encLnk_len
        obtain ⟨D', d', E', rfl, hD', hd', rD', rd', rE'⟩ := RL.cut hyr encLnk_len
        have hdc := rd.lnk
        have hdc' := rd'.lnk
        subst hdc hdc'
        obtain ⟨ib, io, iidx, iblt, ⟨iall, iown, it, ig, ipv, _⟩, _⟩ := hxl.elem (W := W1) (call := callF W1 k) hD hd (by omega) .i64
        obtain ⟨ib', io', iidx', iblt', ⟨iall', iown', it', ig', ipv', _⟩, _⟩ := hyl.elem (W := W1) (call := callF W1 k) hD' hd' (by omega) .i64
        refine p_yes rfl rfl ?_
        refine r_yes rfl (k_load hx rfl) ch_nil ?_
        refine p_yes rfl (iidx _) ?_
        refine r_yes rfl (k_load ig ipv) ch_nil ?_
        refine p_yes rfl rfl ?_
        refine r_yes rfl (k_load hy rfl) ch_nil ?_
        refine p_yes rfl (iidx' _) ?_
        refine r_yes rfl (k_load ig' ipv') ch_nil ?_
        have heq : evEq W1.ptrT (.struct [(0, .int), (1, .int)]) (.agg [vi y.ix, vi y.win]) (.agg [vi y.ix, vi y.win]) m15 = some true := by simp [evEq, eqFields, eqBase, cellV]
        refine r_yes rfl (k_eql heq) ch_nil ?_
        refine x_if (cp_rd (k_eql heq) rfl (cp_rd (k_load ig' ipv') rfl (cp_rd (k_load hy rfl) hwl.lstCells.2 (cp_rd (k_load ig ipv) rfl (cp_rd (k_load hx rfl) hvl.lstCells.2 cp_nil))))) ?_
        refine c_no ?_
        refine b_norm ?_
        iterate 6 refine t1 ?_
        refine t_ok (k_addN (a := j1.length) (b := 1) (by have := hs.links x (by rw [hl]; simp); omega)) ?_
        refine l_norm ?_
        have := ihj (j1 ++ [y], j2) m15 (by simp) ⟨by rw [hj]; simp, rfl⟩
        simpa using this
  obtain ⟨l, m', h1, rfl, h2⟩ := callE prim18 get18 rfl (D18_eq W1 (callF W1 k) k (.agg [u1, u2]) (.agg [w1, w2]) m) key
  exact ⟨m', h1, h2⟩
end Go.Proofs.YtaepllhjnbencaaGreatDoor.Ir
