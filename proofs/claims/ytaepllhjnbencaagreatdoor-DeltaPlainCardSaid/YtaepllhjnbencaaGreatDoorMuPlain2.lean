/- delta.clone: the same state, in rows of one's own, and what lies in them rests. Condition: it fits into a memory; there is fuel. -/
import Derived.Test.YtaepllhjnbencaaGreatDoorMuPlain1
set_option linter.unusedVariables false
set_option linter.unusedSimpArgs false
set_option maxRecDepth 100000
set_option maxHeartbeats 4000000
namespace Go.Proofs.YtaepllhjnbencaaGreatDoor.Ir
open Mu
attribute [local irreducible] R.to R.sure guarded pureD readD effD allocD ifX cnd take1 blkF joinF loopF retX gd callF exec2 M.get
/-- a state whose two rows are one's own, and all in them rests -/
structure Own2 (lo : Nat) (J : Fz) (m : M) (v1 v2 : V) (s : State) : Prop where
  fz : Froz J m
  r1 : ∃ cs, Mine lo m v1 5 60 cs s.ss.length ∧ RL J cs (s.ss.flatMap encSess)
  r2 : ∃ cs, Mine lo m v2 6 66 cs s.ws.length ∧ RL J cs (s.ws.flatMap encWin)
  n1 : ∀ db ex, v1 = .sl db 0 s.ss.length s.ss.length 5 ex → J db = none
  n2 : ∀ db ex, v2 = .sl db 0 s.ws.length s.ws.length 6 ex → J db = none
  ap : ∀ db ex db' ex', v1 = .sl db 0 s.ss.length s.ss.length 5 ex → v2 = .sl db' 0 s.ws.length s.ws.length 6 ex' → db ≠ db'
theorem c_clone {k : Nat} {I : Fz} {m : M} {v : V} {s : State} (hf : Froz I m) (hv : R' I v (.agg (encState s))) (hs : s.Fits) (hk : s.ss.length + s.ws.length < k) :
    ∃ v1 v2 m' J, callF W1 (k + 2) 70 [v] m = .ok (.agg [v1, v2]) m' ∧ Ext m m' ∧ Gro m.n I J ∧ Own2 m.n J m' v1 v2 s := by
  obtain ⟨u1, u2, rfl, hu1, hu2⟩ := hv.state
  obtain ⟨q1, q2⟩ := hu1.lstCells
  obtain ⟨q3, q4⟩ := hu2.lstCells
  have key : RetE (fun l m' => ∃ v1 v2 J, l = [.agg [v1, v2]] ∧ Ext m m' ∧ Gro m.n I J ∧ Own2 m.n J m' v1 v2 s) (D70 W1 (callF W1 (k + 1)) (k + 1) (.agg [u1, u2]) m) := by
    generalize hQ : RetE (fun l m' => ∃ v1 v2 J, l = [.agg [v1, v2]] ∧ Ext m m' ∧ Gro m.n I J ∧ Own2 m.n J m' v1 v2 s) = Q
    unfold D70
    refine t_ok (k_box rfl rfl) ?_
    refine t_ok rfl ?_
    refine a_yes rfl ?_
    generalize hm3 : ((m.new (.cells [u1, u2] .rw 25)).new (.cells [.snil, .snil] .rw 25)).new (.cells [.snil, .snil] .rw 25) = m3
    have e3 : Ext m m3 := by rw [← hm3]; exact ((Ext.new _ _).push _).push _
    have n3 : m3.n = m.n + 3 := by rw [← hm3]; simp
    have g1 : m3.get m.n = some (.cells [u1, u2] .rw 25) := by rw [← hm3]; exact (M.get_new_ne _ _ _ (by simp only [M.n_new]; omega)).trans ((M.get_new_ne _ _ _ (by simp)).trans (M.get_new_same _ _))
    have g2 : m3.get (m.n + 1) = some (.cells [.snil, .snil] .rw 25) := by rw [← hm3]; exact (M.get_new_ne _ _ _ (by simp)).trans (M.get_new_same (m.new _) _)
    have g3 : m3.get (m.n + 2) = some (.cells [.snil, .snil] .rw 25) := by rw [← hm3]; exact M.get_new_same ((m.new _).new _) _
    simp only [M.n_new, Nat.add_assoc, Nat.reduceAdd]
    refine p_yes rfl rfl ?_
    refine r_yes rfl (k_load g1 rfl) ch_nil ?_
    obtain ⟨cs1, hsl1, hr1⟩ := hu1.slice (hf.ext e3) encSess_len (by omega)
    obtain ⟨v1, m6, h6, e6, mi1⟩ := c_CloneSession (k := k) (m := m3) hsl1 (by have := hs.ss; omega)
    refine e_yes rfl (cp_rd (k_load g1 rfl) q2 (cp_bl g3 rfl cp_nil)) (k_call h6) ?_
    refine p_yes rfl rfl ?_
    have g1' := e6.some (by omega) g1
    have g2' := e6.some (by omega) g2
    have g3' := e6.some (by omega) g3
    refine r_yes rfl (k_load g1' rfl) (ch_again (k_load g1 rfl) q4 ch_nil) ?_
    obtain ⟨cs2, hsl2, hr2⟩ := hu2.slice ((hf.ext e3).ext e6) encWin_len (by omega)
    obtain ⟨v2, m8, h8, e8, mi2⟩ := c_CloneWindow (k := k) (m := m6) hsl2 (by have := hs.ws; omega)
    refine e_yes rfl (cp_rd (k_load g1' rfl) q4 (cp_late rfl (cp_bl g3' rfl cp_nil))) (k_call h8) ?_
    have n6 := e6.n
    have n8 := e8.n
    have g2'' := e8.some (by omega) g2'
    have g3'' := e8.some (by omega) g3'
    refine p_yes rfl (k_build2 mi1.cells mi2.cells) ?_
    refine e_yes rfl (cp_late rfl (cp_late rfl (cp_bl g3'' rfl cp_nil))) (k_put (cs' := [v1, v2]) g3'' rfl rfl rfl (by decide) rfl) ?_
    refine x_if (cp_late rfl (cp_late rfl (cp_bllate rfl cp_nil))) ?_
    generalize hm9 : m8.put (m.n + 2) (.cells [v1, v2] .rw 25) = m9
    have n9 : m9.n = m8.n := by rw [← hm9]; rfl
    have e9 : Ext m m9 := by rw [← hm9]; exact ((e3.trans e6).trans e8).put (by omega) _
    have b2 : m9.get (m.n + 1) = some (.cells [.snil, .snil] .rw 25) := by rw [← hm9]; exact (M.get_put_ne _ _ _ _ (by omega)).trans g2''
    have b3 : m9.get (m.n + 2) = some (.cells [v1, v2] .rw 25) := by rw [← hm9]; exact M.get_put_same _ _ _
    have mi1' : Mine (m.n + 3) m9 v1 5 60 cs1 s.ss.length := (mi1.lo (by omega)).same (by omega) fun b hb hb2 => by rw [← hm9, M.get_put_ne _ _ _ _ (by omega), e8.get _ hb2]
    have mi2' : Mine m6.n m9 v2 6 66 cs2 s.ws.length := mi2.same (by omega) fun b hb hb2 => by rw [← hm9, M.get_put_ne _ _ _ _ (by omega)]
    have hf9 : Froz I m9 := hf.ext e9
    have lt1 : ∀ db ex, v1 = .sl db 0 s.ss.length s.ss.length 5 ex → db < m6.n := by
      intro db ex hv
      rcases mi1.is with ⟨h, _⟩ | ⟨db', ex', h, _, _, h4⟩
      · rw [hv] at h; cases h
      · rw [hv] at h; injection h with h; omega
    have ge1 : ∀ db ex, v1 = .sl db 0 s.ss.length s.ss.length 5 ex → m.n + 3 ≤ db := by
      intro db ex hv
      rcases mi1.is with ⟨h, _⟩ | ⟨db', ex', h, _, h3, h4⟩
      · rw [hv] at h; cases h
      · rw [hv] at h; injection h with h; omega
    have ge2 : ∀ db ex, v2 = .sl db 0 s.ws.length s.ws.length 6 ex → m6.n ≤ db := by
      intro db ex hv
      rcases mi2.is with ⟨h, _⟩ | ⟨db', ex', h, _, h3, h4⟩
      · rw [hv] at h; cases h
      · rw [hv] at h; injection h with h; omega
    have lt2 : ∀ db ex, v2 = .sl db 0 s.ws.length s.ws.length 6 ex → db < m9.n := by
      intro db ex hv
      rcases mi2.is with ⟨h, _⟩ | ⟨db', ex', h, _, h3, h4⟩
      · rw [hv] at h; cases h
      · rw [hv] at h; injection h with h; omega
    have nI1 : ∀ b, m.n ≤ b → I b = none := fun b hb => hf.none_n hb
    clear hm9 hm3 hsl1 hsl2 h6 h8
    refine t_ok rfl ?_
    refine t_ok (k_load b3 rfl) ?_
    refine t_ok mi1'.sli.lenL' ?_
    refine blk ?_
    refine loop_wf (fun st : List Sess × List Sess => [.ptr (m.n + 1) 0, .ptr (m.n + 2) 0, v1, .int .i64 (.ofNat s.ss.length), .int .i64 (.ofNat st.1.length)])
      (fun st m' => s.ss = st.1 ++ st.2 ∧ ∃ J ca cb, Ext m m' ∧ m9.n ≤ m'.n ∧ Gro m9.n I J ∧ Froz J m' ∧ m'.get (m.n + 1) = some (.cells [.snil, .snil] .rw 25) ∧ m'.get (m.n + 2) = some (.cells [v1, v2] .rw 25) ∧
        Mine (m.n + 3) m' v1 5 60 ca s.ss.length ∧ RL J ca (s.ss.flatMap encSess) ∧ Mine m6.n m' v2 6 66 cb s.ws.length ∧ RL J cb (s.ws.flatMap encWin))
      (fun st => st.2.length) ?_ ([], s.ss) m9 _ (by simp only; omega) ⟨rfl, I, cs1, cs2, e9, Nat.le_refl _, Gro.refl _ I, hf9, b2, b3, mi1', hr1, mi2', hr2⟩
    rintro ⟨l1, l2⟩ m10 k1 ⟨hl, J, ca, cb, ex, nx, le, fz, d2, d3, ma, ra, mb, rb⟩ ihl
    simp only at hl ihl
    have hJ : ∀ b, m.n ≤ b → b < m9.n → J b = none := fun b h1 h2 => le.none hf h1 h2
    iterate 5 refine t1 ?_
    cases l2 with
    | nil =>
      have hll : s.ss.length = l1.length := by rw [hl]; simp
      have g : decide (Int.ofNat l1.length < Int.ofNat s.ss.length) = false := by rw [hll]; simp
      refine t_ok (k_lss g) ?_
      refine c_no ?_
      refine l_exit ?_
      refine b_exit ?_
      iterate 2 refine t1 ?_
      refine t_ok rfl ?_
      refine t_ok (k_load d3 rfl) ?_
      refine t_ok mb.sli.lenL' ?_
      refine blk ?_
      refine loop_wf (fun st : List Win × List Win => [.ptr (m.n + 1) 0, .ptr (m.n + 2) 0, v2, .int .i64 (.ofNat s.ws.length), .int .i64 (.ofNat st.1.length)])
        (fun st m' => s.ws = st.1 ++ st.2 ∧ ∃ J ca cb, Ext m m' ∧ m9.n ≤ m'.n ∧ Gro m9.n I J ∧ Froz J m' ∧ m'.get (m.n + 1) = some (.cells [.snil, .snil] .rw 25) ∧ m'.get (m.n + 2) = some (.cells [v1, v2] .rw 25) ∧
          Mine (m.n + 3) m' v1 5 60 ca s.ss.length ∧ RL J ca (s.ss.flatMap encSess) ∧ Mine m6.n m' v2 6 66 cb s.ws.length ∧ RL J cb (s.ws.flatMap encWin))
        (fun st => st.2.length) ?_ ([], s.ws) m10 _ (by simp only; omega) ⟨rfl, J, ca, cb, ex, nx, le, fz, d2, d3, ma, ra, mb, rb⟩
      rintro ⟨l1, l2⟩ m10 k1 ⟨hl, J, ca, cb, ex, nx, le, fz, d2, d3, ma, ra, mb, rb⟩ ihl
      simp only at hl ihl
      have hJ : ∀ b, m.n ≤ b → b < m9.n → J b = none := fun b h1 h2 => le.none hf h1 h2
      iterate 5 refine t1 ?_
      cases l2 with
      | nil =>
        have hll : s.ws.length = l1.length := by rw [hl]; simp
        have g : decide (Int.ofNat l1.length < Int.ofNat s.ws.length) = false := by rw [hll]; simp
        refine t_ok (k_lss g) ?_
        refine c_no ?_
        refine l_exit ?_
        refine b_exit ?_
        iterate 2 refine t1 ?_
        refine t_ok (k_load d3 rfl) ?_
        refine t_ok (k_put (cs' := [v1, v2]) d2 rfl rfl rfl (by decide) rfl) ?_
        refine ret_of (resV_cell (M.get_put_same _ _ _) rfl resV_nil) ?_
        subst hQ
        have hm : m.n ≤ m10.n := ex.n
        refine RetE.mk ⟨v1, v2, J, rfl, ex.put (by omega) _, le.lower (by omega), ⟨fz.put (hJ _ (by omega) (by omega)) _, ⟨ca, (ma.lo (by omega)).same2 (Nat.le_refl _) fun b ex' hb _ => M.get_put_ne _ _ _ _ (by have := ge1 b ex' hb; omega), ra⟩,
          ⟨cb, (mb.lo (by omega)).same2 (Nat.le_refl _) fun b ex' hb _ => M.get_put_ne _ _ _ _ (by have := ge2 b ex' hb; omega), rb⟩,
          fun b ex' hb => hJ b (by have := ge1 b ex' hb; omega) (by have := lt1 b ex' hb; omega), fun b ex' hb => hJ b (by have := ge2 b ex' hb; omega) (lt2 b ex' hb), fun b ex' b' ex'' hb hb' => by have := lt1 b ex' hb; have := ge2 b' ex'' hb'; omega⟩⟩
      | cons x l2 =>
        have hll : l1.length < s.ws.length := by rw [hl]; simp
        have g : decide (Int.ofNat l1.length < Int.ofNat s.ws.length) = true := by simp; omega
        refine t_ok (k_lss g) ?_
        refine c_yes ?_
        refine blk ?_
        have ra' := rb
        rw [hl] at ra'
        obtain ⟨A, c, B, rfl, hA, hc, rA, rc, rB⟩ := RL.cut ra' encWin_len
        obtain ⟨vl, rfl, hvl⟩ := rc.win
        obtain ⟨db, ex1, hv1, hg1, hlo, hhi⟩ : ∃ db ex1, v2 = .sl db 0 s.ws.length s.ws.length 6 ex1 ∧ m10.get db = some (.cells (A ++ ([vi x.id, .str x.name, vl, vi x.act, vi x.last, .bool x.zoom] ++ B)) .rw 66) ∧ m.n + 3 ≤ db ∧ db < m10.n := by
          rcases mb.is with ⟨_, h⟩ | ⟨db, ex1, h1, h2, h3, h4⟩
          · omega
          · exact ⟨db, ex1, h1, h2, by omega, h4⟩
        have hdb9 : db < m9.n := lt2 _ _ hv1
        rw [hv1]
        refine t_ok (k_idx (natOf_ofNat _ _) hll) ?_
        refine t_ok (k_load hg1 (partV_mid (by show A.length = 0 + l1.length * 6; omega) rfl)) ?_
        refine t_ok rfl ?_
        refine t_ok (k_put (cs' := [vi x.id, .str x.name, vl, vi x.act, vi x.last, .bool x.zoom]) (M.get_new_same _ _) rfl rfl rfl (by decide) rfl) ?_
        generalize hm12 : (m10.new (.cells [.int .i64 (.ofNat 0), .str [], .snil, .int .i64 (.ofNat 0), .int .i64 (.ofNat 0), .bool false] .rw 66)).put m10.n (.cells [vi x.id, .str x.name, vl, vi x.act, vi x.last, .bool x.zoom] .rw 66) = m12
        have e12 : Ext m10 m12 := by rw [← hm12]; exact (Ext.new _ _).put (Nat.le_refl _) _
        have n12 : m12.n = m10.n + 1 := by rw [← hm12]; simp
        have hx12 : m12.get m10.n = some (.cells [vi x.id, .str x.name, vl, vi x.act, vi x.last, .bool x.zoom] .rw 66) := by rw [← hm12]; exact M.get_put_same _ _ _
        have d3' := e12.some (by omega) d3
        refine p_yes rfl rfl ?_
        refine r_yes rfl (k_load d3' rfl) ch_nil ?_
        refine p_yes rfl rfl ?_
        refine r_yes rfl (k_load hx12 rfl) ch_nil ?_
        obtain ⟨csl, hsl, hrl⟩ := hvl.slice (fz.ext e12) encCell_len (by omega)
        obtain ⟨w, m13, hcall, e13, mw⟩ := c_CloneCell (k := k) (m := m12) hsl (by have := hs.cells x (by rw [hl]; simp); omega)
        refine e_yes rfl (cp_rd (k_load hx12 rfl) hvl.lstCells.2 (cp_rd (k_load d3' rfl) mb.clean cp_nil)) (k_call hcall) ?_
        have n13 := e13.n
        have e123 := e12.trans e13
        have d3'' := e123.some (by omega) d3
        have d2'' := e123.some (by omega) d2
        have hg1' := e123.some hhi hg1
        refine p_yes rfl (by rw [hv1]; exact k_idx (natOf_ofNat _ _) hll) ?_
        refine p_yes rfl rfl ?_
        refine e_yes rfl (cp_late rfl (cp_rd (k_load d3'' rfl) mb.clean cp_nil)) (k_put (cs' := A ++ ([vi x.id, .str x.name, w, vi x.act, vi x.last, .bool x.zoom] ++ B)) hg1' rfl mw.cells rfl (by simp only [List.length_append, List.length_cons]; omega) (by rw [show (0 + l1.length * 6 + 2) = l1.length * 6 + 2 by omega]; exact splice_mid hA (by simp))) ?_
        refine x_if (cp_late rfl (cp_late rfl cp_nil)) ?_
        generalize hm14 : m13.put db (.cells (A ++ ([vi x.id, .str x.name, w, vi x.act, vi x.last, .bool x.zoom] ++ B)) .rw 66) = m14
        have n14 : m14.n = m13.n := by rw [← hm14]; rfl
        have fz13 := (fz.ext e12).ext e13
        obtain ⟨J', gr', fz', hw, _⟩ := mw.gro fz13 (fun b ex h => by
          rcases mw.is with ⟨h2, _⟩ | ⟨b', ex', h2, _, h3, _⟩
          · rw [h] at h2; cases h2
          · rw [h] at h2; injection h2 with h2; subst h2; exact (fz.ext e12).none_n h3) hrl
        have le' := gr'.le
        have le2 : Gro m9.n I J' := le.trans gr' (by omega)
        have hJ2 : ∀ b, m.n ≤ b → b < m9.n → J' b = none := fun b h1 h2 => le2.none hf h1 h2
        refine b_norm ?_
        iterate 5 refine t1 ?_
        refine t_ok (k_addN (a := l1.length) (b := 1) (by have := hs.ws; omega)) ?_
        refine l_norm ?_
        have hdd : ∀ b, b ≠ db → b < m10.n → m14.get b = m10.get b := by
          intro b hb hlt
          rw [← hm14, M.get_put_ne _ _ _ _ (Ne.symm hb), e123.get b hlt]
        have := ihl (l1 ++ [x], l2) m14 (by simp) ⟨by rw [hl]; simp, J', ca, A ++ ([vi x.id, .str x.name, w, vi x.act, vi x.last, .bool x.zoom] ++ B), ?_, by omega, le2, ?_, ?_, ?_, ?_, ra.mono le', ?_, ?_⟩
        · rw [hv1] at this
          simpa using this
        · refine ⟨by have := ex.n; omega, fun b hb => ?_⟩
          have := ex.n
          rw [hdd b (by omega) (by omega)]
          exact ex.get b hb
        · rw [← hm14]
          exact fz'.put (hJ2 db (by omega) hdb9) _
        · rw [hdd _ (by omega) (by omega)]; exact d2
        · rw [hdd _ (by omega) (by omega)]; exact d3
        · refine ma.same2 (by omega) fun b ex' hb hlt => hdd b ?_ hlt
          have := lt1 b ex' hb
          have := ge2 db ex1 hv1
          omega
        · refine ⟨by simpa using mb.len, .inr ⟨db, ex1, hv1, ?_, by have := ge2 db ex1 hv1; omega, by omega⟩⟩
          rw [← hm14]; exact M.get_put_same _ _ _
        · rw [hl]
          exact RL.glue (rA.mono le') (RL.mkWin hw) (rB.mono le')

    | cons x l2 =>
      have hll : l1.length < s.ss.length := by rw [hl]; simp
      have g : decide (Int.ofNat l1.length < Int.ofNat s.ss.length) = true := by simp; omega
      refine t_ok (k_lss g) ?_
      refine c_yes ?_
      refine blk ?_
      have ra' := ra
      rw [hl] at ra'
      obtain ⟨A, c, B, rfl, hA, hc, rA, rc, rB⟩ := RL.cut ra' encSess_len
      obtain ⟨vl, rfl, hvl⟩ := rc.sess
      obtain ⟨db, ex1, hv1, hg1, hlo, hhi⟩ : ∃ db ex1, v1 = .sl db 0 s.ss.length s.ss.length 5 ex1 ∧ m10.get db = some (.cells (A ++ ([vi x.id, .str x.name, vl, vi x.cur, vi x.last] ++ B)) .rw 60) ∧ m.n + 3 ≤ db ∧ db < m10.n := by
        rcases ma.is with ⟨_, h⟩ | ⟨db, ex1, h1, h2, h3, h4⟩
        · omega
        · exact ⟨db, ex1, h1, h2, by omega, h4⟩
      have hdb9 : db < m9.n := Nat.lt_of_lt_of_le (lt1 _ _ hv1) (by omega)
      rw [hv1]
      refine t_ok (k_idx (natOf_ofNat _ _) hll) ?_
      refine t_ok (k_load hg1 (partV_mid (by show A.length = 0 + l1.length * 5; omega) rfl)) ?_
      refine t_ok rfl ?_
      refine t_ok (k_put (cs' := [vi x.id, .str x.name, vl, vi x.cur, vi x.last]) (M.get_new_same _ _) rfl rfl rfl (by decide) rfl) ?_
      generalize hm12 : (m10.new (.cells [.int .i64 (.ofNat 0), .str [], .snil, .int .i64 (.ofNat 0), .int .i64 (.ofNat 0)] .rw 60)).put m10.n (.cells [vi x.id, .str x.name, vl, vi x.cur, vi x.last] .rw 60) = m12
      have e12 : Ext m10 m12 := by rw [← hm12]; exact (Ext.new _ _).put (Nat.le_refl _) _
      have n12 : m12.n = m10.n + 1 := by rw [← hm12]; simp
      have hx12 : m12.get m10.n = some (.cells [vi x.id, .str x.name, vl, vi x.cur, vi x.last] .rw 60) := by rw [← hm12]; exact M.get_put_same _ _ _
      have d3' := e12.some (by omega) d3
      refine p_yes rfl rfl ?_
      refine r_yes rfl (k_load d3' rfl) ch_nil ?_
      refine p_yes rfl rfl ?_
      refine r_yes rfl (k_load hx12 rfl) ch_nil ?_
      obtain ⟨csl, hsl, hrl⟩ := hvl.slice (fz.ext e12) encLnk_len (by omega)
      obtain ⟨w, m13, hcall, e13, mw⟩ := c_CloneLink (k := k) (m := m12) hsl (by have := hs.links x (by rw [hl]; simp); omega)
      refine e_yes rfl (cp_rd (k_load hx12 rfl) hvl.lstCells.2 (cp_rd (k_load d3' rfl) ma.clean cp_nil)) (k_call hcall) ?_
      have n13 := e13.n
      have e123 := e12.trans e13
      have d3'' := e123.some (by omega) d3
      have d2'' := e123.some (by omega) d2
      have hg1' := e123.some hhi hg1
      refine p_yes rfl (by rw [hv1]; exact k_idx (natOf_ofNat _ _) hll) ?_
      refine p_yes rfl rfl ?_
      refine e_yes rfl (cp_late rfl (cp_rd (k_load d3'' rfl) ma.clean cp_nil)) (k_put (cs' := A ++ ([vi x.id, .str x.name, w, vi x.cur, vi x.last] ++ B)) hg1' rfl mw.cells rfl (by simp only [List.length_append, List.length_cons]; omega) (by rw [show (0 + l1.length * 5 + 2) = l1.length * 5 + 2 by omega]; exact splice_mid hA (by simp))) ?_
      refine x_if (cp_late rfl (cp_late rfl cp_nil)) ?_
      generalize hm14 : m13.put db (.cells (A ++ ([vi x.id, .str x.name, w, vi x.cur, vi x.last] ++ B)) .rw 60) = m14
      have n14 : m14.n = m13.n := by rw [← hm14]; rfl
      have fz13 := (fz.ext e12).ext e13
      obtain ⟨J', gr', fz', hw, _⟩ := mw.gro fz13 (fun b ex h => by
        rcases mw.is with ⟨h2, _⟩ | ⟨b', ex', h2, _, h3, _⟩
        · rw [h] at h2; cases h2
        · rw [h] at h2; injection h2 with h2; subst h2; exact (fz.ext e12).none_n h3) hrl
      have le' := gr'.le
      have le2 : Gro m9.n I J' := le.trans gr' (by omega)
      have hJ2 : ∀ b, m.n ≤ b → b < m9.n → J' b = none := fun b h1 h2 => le2.none hf h1 h2
      refine b_norm ?_
      iterate 5 refine t1 ?_
      refine t_ok (k_addN (a := l1.length) (b := 1) (by have := hs.ss; omega)) ?_
      refine l_norm ?_
      have hdd : ∀ b, b ≠ db → b < m10.n → m14.get b = m10.get b := by
        intro b hb hlt
        rw [← hm14, M.get_put_ne _ _ _ _ (Ne.symm hb), e123.get b hlt]
      have := ihl (l1 ++ [x], l2) m14 (by simp) ⟨by rw [hl]; simp, J', A ++ ([vi x.id, .str x.name, w, vi x.cur, vi x.last] ++ B), cb, ?_, by omega, le2, ?_, ?_, ?_, ?_, ?_, ?_, rb.mono le'⟩
      · rw [hv1] at this
        simpa using this
      · refine ⟨by have := ex.n; omega, fun b hb => ?_⟩
        have := ex.n
        rw [hdd b (by omega) (by omega)]
        exact ex.get b hb
      · rw [← hm14]
        exact fz'.put (hJ2 db (by omega) hdb9) _
      · rw [hdd _ (by omega) (by omega)]; exact d2
      · rw [hdd _ (by omega) (by omega)]; exact d3
      · refine ⟨by simpa using ma.len, .inr ⟨db, ex1, hv1, ?_, hlo, by omega⟩⟩
        rw [← hm14]; exact M.get_put_same _ _ _
      · rw [hl]
        exact RL.glue (rA.mono le') (RL.mkSess hw) (rB.mono le')
      · refine mb.same (by omega) fun b hb hlt => hdd b ?_ hlt
        have := lt1 db ex1 hv1
        omega
  obtain ⟨l, m', h1, v1, v2, J, rfl, h2, h3, h4⟩ := callE prim70 get70 rfl (D70_eq W1 (callF W1 (k + 1)) (k + 1) (.agg [u1, u2]) m) key
  exact ⟨v1, v2, m', J, h1, h2, h3, h4⟩
end Go.Proofs.YtaepllhjnbencaaGreatDoor.Ir
