/- delta.Plain and the document's Plain: the state without what was current or active ahead. Condition: it fits into a memory; there is fuel. -/
import Derived.Test.YtaepllhjnbencaaGreatDoorMuCopy
set_option linter.unusedVariables false
set_option linter.unusedSimpArgs false
set_option maxRecDepth 100000
set_option maxHeartbeats 4000000
namespace Go.Proofs.YtaepllhjnbencaaGreatDoor.Ir
open Mu
attribute [local irreducible] R.to R.sure guarded pureD readD effD allocD ifX cnd take1 blkF joinF loopF retX gd callF exec2 M.get
def plainSess (x : Sess) : Sess := { x with last := -1 }
def plainWin (x : Win) : Win := { x with last := 0 }
def plainS (s : State) : State := ⟨s.ss.map plainSess, s.ws.map plainWin⟩
theorem c_Plain {k : Nat} {I : Fz} {m : M} {v : V} {s : State} (hf : Froz I m) (hv : R' I v (.agg (encState s))) (hs : s.Fits) (hk : s.ss.length + s.ws.length < k) :
    ∃ v' m' J, callF W1 (k + 3) 24 [v] m = .ok v' m' ∧ Ext m m' ∧ Gro m.n I J ∧ Froz J m' ∧ R' J v' (.agg (encState (plainS s))) := by
  obtain ⟨u1, u2, rfl, hu1, hu2⟩ := hv.state
  have key : RetE (fun l m' => ∃ v' J, l = [v'] ∧ Ext m m' ∧ Gro m.n I J ∧ Froz J m' ∧ R' J v' (.agg (encState (plainS s)))) (D24 W1 (callF W1 (k + 2)) (k + 2) (.agg [u1, u2]) m) := by
    generalize hQ : RetE (fun l m' => ∃ v' J, l = [v'] ∧ Ext m m' ∧ Gro m.n I J ∧ Froz J m' ∧ R' J v' (.agg (encState (plainS s)))) = Q
    unfold D24
    refine t_ok (k_box rfl rfl) ?_
    refine t_ok rfl ?_
    generalize hm3 : (m.new (.cells [u1, u2] .rw 25)).new (.cells [.snil, .snil] .rw 25) = m3
    have e3 : Ext m m3 := by rw [← hm3]; exact (Ext.new _ _).push _
    have n3 : m3.n = m.n + 2 := by rw [← hm3]; simp
    have g1 : m3.get m.n = some (.cells [u1, u2] .rw 25) := by rw [← hm3]; exact (M.get_new_ne _ _ _ (by simp)).trans (M.get_new_same _ _)
    have g2 : m3.get (m.n + 1) = some (.cells [.snil, .snil] .rw 25) := by rw [← hm3]; exact M.get_new_same (m.new _) _
    simp only [M.n_new]
    refine t_ok (k_load g1 rfl) ?_
    obtain ⟨v1, v2, m4, J, h4, e4, le0, own⟩ := c_clone (k := k) (hf.ext e3) hv hs hk
    refine t_ok (k_call h4) ?_
    have n4 := e4.n
    have g1' := e4.some (by omega) g1
    have g2' := e4.some (by omega) g2
    refine t_ok (k_put (cs' := [v1, v2]) g1' rfl rfl rfl (by simp) rfl) ?_
    generalize hm9 : m4.put m.n (.cells [v1, v2] .rw 25) = m9
    have n9 : m9.n = m4.n := by rw [← hm9]; rfl
    have e9 : Ext m m9 := by rw [← hm9]; exact (e3.trans e4).put (Nat.le_refl _) _
    have b2 : m9.get (m.n + 1) = some (.cells [.snil, .snil] .rw 25) := by rw [← hm9]; exact (M.get_put_ne _ _ _ _ (by omega)).trans g2'
    have b3 : m9.get m.n = some (.cells [v1, v2] .rw 25) := by rw [← hm9]; exact M.get_put_same _ _ _
    obtain ⟨cs1, mi1, hr1⟩ := own.r1
    obtain ⟨cs2, mi2, hr2⟩ := own.r2
    have lo1 : ∀ db ex, v1 = .sl db 0 s.ss.length s.ss.length 5 ex → m.n + 2 ≤ db := by
      intro db ex hv
      rcases mi1.is with ⟨h, _⟩ | ⟨db', ex', h, _, h3, h4⟩
      · rw [hv] at h; cases h
      · rw [hv] at h; injection h with h; omega
    have lo2 : ∀ db ex, v2 = .sl db 0 s.ws.length s.ws.length 6 ex → m.n + 2 ≤ db := by
      intro db ex hv
      rcases mi2.is with ⟨h, _⟩ | ⟨db', ex', h, _, h3, h4⟩
      · rw [hv] at h; cases h
      · rw [hv] at h; injection h with h; omega
    have hi1 : ∀ db ex, v1 = .sl db 0 s.ss.length s.ss.length 5 ex → db < m4.n := by
      intro db ex hv
      rcases mi1.is with ⟨h, _⟩ | ⟨db', ex', h, _, h3, h4⟩
      · rw [hv] at h; cases h
      · rw [hv] at h; injection h with h; omega
    have hi2 : ∀ db ex, v2 = .sl db 0 s.ws.length s.ws.length 6 ex → db < m4.n := by
      intro db ex hv
      rcases mi2.is with ⟨h, _⟩ | ⟨db', ex', h, _, h3, h4⟩
      · rw [hv] at h; cases h
      · rw [hv] at h; injection h with h; omega
    generalize hlo : m.n + 2 = lo at lo1 lo2
    have hJ1 : J (m.n + 1) = none := le0.none hf (by omega) (by omega)
    have fz9 : Froz J m9 := by rw [← hm9]; exact own.fz.put (le0.none hf (by omega) (by omega)) _
    have mi1 : Mine lo m9 v1 5 60 cs1 s.ss.length := (mi1.lo (by omega)).same2 (by omega) fun b ex' hb _ => by rw [← hm9]; exact M.get_put_ne _ _ _ _ (by have := lo1 b ex' hb; omega)
    have mi2 : Mine lo m9 v2 6 66 cs2 s.ws.length := (mi2.lo (by omega)).same2 (by omega) fun b ex' hb _ => by rw [← hm9]; exact M.get_put_ne _ _ _ _ (by have := lo2 b ex' hb; omega)
    clear hm9 hm3 h4
    refine t_ok rfl ?_
    refine t_ok (k_load b3 rfl) ?_
    refine t_ok mi1.sli.lenL' ?_
    refine blk ?_
    refine loop_wf (fun st : List Sess × List Sess => [.ptr m.n 0, .ptr (m.n + 1) 0, .int .i64 (.ofNat s.ss.length), .int .i64 (.ofNat st.1.length)])
      (fun st m' => s.ss = st.1 ++ st.2 ∧ ∃ ca cb, Ext m m' ∧ m9.n ≤ m'.n ∧ Froz J m' ∧ m'.get (m.n + 1) = some (.cells [.snil, .snil] .rw 25) ∧ m'.get m.n = some (.cells [v1, v2] .rw 25) ∧
        Mine lo m' v1 5 60 ca s.ss.length ∧ RL J ca ((st.1.map plainSess ++ st.2).flatMap encSess) ∧ Mine lo m' v2 6 66 cb s.ws.length ∧ RL J cb (s.ws.flatMap encWin))
      (fun st => st.2.length) ?_ ([], s.ss) m9 _ (by simp only; omega) ⟨rfl, cs1, cs2, e9, Nat.le_refl _, fz9, b2, b3, mi1, by simpa using hr1, mi2, hr2⟩
    rintro ⟨l1, l2⟩ m10 k1 ⟨hl, ca, cb, ex, nx, fz, d2, d3, ma, ra, mb, rb⟩ ihl
    simp only at hl ihl ra rb
    iterate 4 refine t1 ?_
    cases l2 with
    | nil =>
      have hll : s.ss.length = l1.length := by rw [hl]; simp
      have g : decide (Int.ofNat l1.length < Int.ofNat s.ss.length) = false := by rw [hll]; simp
      refine t_ok (k_lss g) ?_
      refine c_no ?_
      refine l_exit ?_
      refine b_exit ?_
      iterate 2 refine t1 ?_
      simp only [List.append_nil] at hl ra rb
      subst hl
      refine t_ok rfl ?_
      refine t_ok (k_load d3 rfl) ?_
      refine t_ok mb.sli.lenL' ?_
      refine blk ?_
      refine loop_wf (fun st : List Win × List Win => [.ptr m.n 0, .ptr (m.n + 1) 0, .int .i64 (.ofNat s.ws.length), .int .i64 (.ofNat st.1.length)])
        (fun st m' => s.ws = st.1 ++ st.2 ∧ ∃ ca cb, Ext m m' ∧ m9.n ≤ m'.n ∧ Froz J m' ∧ m'.get (m.n + 1) = some (.cells [.snil, .snil] .rw 25) ∧ m'.get m.n = some (.cells [v1, v2] .rw 25) ∧
          Mine lo m' v1 5 60 ca s.ss.length ∧ RL J ca ((s.ss.map plainSess).flatMap encSess) ∧ Mine lo m' v2 6 66 cb s.ws.length ∧ RL J cb ((st.1.map plainWin ++ st.2).flatMap encWin))
        (fun st => st.2.length) ?_ ([], s.ws) m10 _ (by simp only; omega) ⟨rfl, ca, cb, ex, nx, fz, d2, d3, ma, ra, mb, by simpa using rb⟩
      rintro ⟨l1, l2⟩ m10 k1 ⟨hl, ca, cb, ex, nx, fz, d2, d3, ma, ra, mb, rb⟩ ihl
      simp only at hl ihl ra rb
      iterate 4 refine t1 ?_
      cases l2 with
      | nil =>
        have hll : s.ws.length = l1.length := by rw [hl]; simp
        have g : decide (Int.ofNat l1.length < Int.ofNat s.ws.length) = false := by rw [hll]; simp
        refine t_ok (k_lss g) ?_
        refine c_no ?_
        refine l_exit ?_
        refine b_exit ?_
        iterate 2 refine t1 ?_
        simp only [List.append_nil] at hl ra rb
        subst hl
        refine t_ok (k_load d3 rfl) ?_
        refine t_ok (k_put (cs' := [v1, v2]) d2 rfl rfl rfl (by decide) rfl) ?_
        refine ret_of (resV_cell (M.get_put_same _ _ _) rfl resV_nil) ?_
        have hmn := ex.n
        generalize hm11 : m10.put (m.n + 1) (.cells [v1, v2] .rw 25) = m11
        have e11 : Ext m m11 := by rw [← hm11]; exact ex.put (by omega) _
        have f11 : Froz J m11 := by rw [← hm11]; exact fz.put hJ1 _
        have ma' : Mine lo m11 v1 5 60 ca s.ss.length := ma.same2 (by rw [← hm11]; exact Nat.le_refl _) fun b ex' hb _ => by rw [← hm11]; exact M.get_put_ne _ _ _ _ (by have := lo1 b ex' hb; omega)
        have mb' : Mine lo m11 v2 6 66 cb s.ws.length := mb.same2 (by rw [← hm11]; exact Nat.le_refl _) fun b ex' hb _ => by rw [← hm11]; exact M.get_put_ne _ _ _ _ (by have := lo2 b ex' hb; omega)
        obtain ⟨J1, le1, fz1, w1, hJ'⟩ := ma'.gro f11 (fun db ex h => own.n1 db ex h) ra
        obtain ⟨J2, le2, fz2, w2, _⟩ := mb'.gro fz1 (fun db ex' h => by
          rcases hJ' db with h1 | ⟨ex'', h1⟩
          · rw [h1]; exact own.n2 db ex' h
          · exact absurd rfl (own.ap db ex'' db ex' h1 h)) (rb.mono le1.le)
        subst hQ
        exact RetE.mk ⟨.agg [v1, v2], J2, rfl, e11, ((le0.trans le1 (by omega)).trans le2 (by omega)).lower (by omega), fz2, R'.mkState (s := plainS s) (by simpa [plainS] using w1.mono le2.le) (by simpa [plainS] using w2)⟩
      | cons x l2 =>
        have hll : l1.length < s.ws.length := by rw [hl]; simp
        have g : decide (Int.ofNat l1.length < Int.ofNat s.ws.length) = true := by simp; omega
        refine t_ok (k_lss g) ?_
        refine c_yes ?_
        refine blk ?_
        obtain ⟨A, c, B, rfl, hA, hc, rA, rc, rB⟩ := RL.cut rb encWin_len
        rw [List.length_map] at hA
        obtain ⟨vl, rfl, hvl⟩ := rc.win
        obtain ⟨db, ex1, hv1, hg1, hlo, hhi⟩ : ∃ db ex1, v2 = .sl db 0 s.ws.length s.ws.length 6 ex1 ∧ m10.get db = some (.cells (A ++ ([vi x.id, .str x.name, vl, vi x.act, vi x.last, .bool x.zoom] ++ B)) .rw 66) ∧ lo ≤ db ∧ db < m10.n := by
          rcases mb.is with ⟨_, h⟩ | ⟨db, ex1, h1, h2, h3, h4⟩
          · omega
          · exact ⟨db, ex1, h1, h2, by omega, h4⟩
        have hb4 := hi2 db ex1 hv1
        refine t_ok rfl ?_
        refine t_ok (k_load d3 rfl) ?_
        rw [hv1]
        refine t_ok (k_idx (natOf_ofNat _ _) hll) ?_
        refine t_ok rfl ?_
        refine t_ok (k_put (cs' := A ++ ([vi x.id, .str x.name, vl, vi x.act, .int .i64 (.ofNat 0), .bool x.zoom] ++ B)) hg1 rfl rfl rfl (by simp only [List.length_append, List.length_cons]; omega) (by rw [show (0 + l1.length * 6 + 4) = l1.length * 6 + 4 by omega]; exact splice_mid hA (by simp))) ?_
        generalize hm14 : m10.put db (.cells (A ++ ([vi x.id, .str x.name, vl, vi x.act, .int .i64 (.ofNat 0), .bool x.zoom] ++ B)) .rw 66) = m14
        have n14 : m14.n = m10.n := by rw [← hm14]; rfl
        have hdd : ∀ b, b ≠ db → m14.get b = m10.get b := fun b hb => by rw [← hm14, M.get_put_ne _ _ _ _ (Ne.symm hb)]
        refine b_norm ?_
        iterate 4 refine t1 ?_
        refine t_ok (k_addN (a := l1.length) (b := 1) (by have := hs.ws; omega)) ?_
        refine l_norm ?_
        have hJd : J db = none := own.n2 db ex1 hv1
        have hmn := ex.n
        have := ihl (l1 ++ [x], l2) m14 (by simp) ⟨by rw [hl]; simp, ca, A ++ ([vi x.id, .str x.name, vl, vi x.act, .int .i64 (.ofNat 0), .bool x.zoom] ++ B), ?_, by omega, ?_, ?_, ?_, ?_, ra, ?_, ?_⟩
        · simpa using this
        · refine ⟨by omega, fun b hb => ?_⟩
          rw [hdd b (by omega)]
          exact ex.get b hb
        · rw [← hm14]
          exact fz.put hJd _
        · rw [hdd _ (by omega)]; exact d2
        · rw [hdd _ (by omega)]; exact d3
        · exact ma.same2 (by omega) fun b ex' hb hlt => hdd b (own.ap b ex' db ex1 hb hv1)
        · refine ⟨by simpa using mb.len, .inr ⟨db, ex1, hv1, ?_, hlo, by omega⟩⟩
          rw [← hm14]; exact M.get_put_same _ _ _
        · have := RL.glue (x := plainWin x) (enc := encWin) rA (RL.mkWin (s := plainWin x) hvl) rB
          simpa [plainWin] using this

    | cons x l2 =>
      have hll : l1.length < s.ss.length := by rw [hl]; simp
      have g : decide (Int.ofNat l1.length < Int.ofNat s.ss.length) = true := by simp; omega
      refine t_ok (k_lss g) ?_
      refine c_yes ?_
      refine blk ?_
      obtain ⟨A, c, B, rfl, hA, hc, rA, rc, rB⟩ := RL.cut ra encSess_len
      rw [List.length_map] at hA
      obtain ⟨vl, rfl, hvl⟩ := rc.sess
      obtain ⟨db, ex1, hv1, hg1, hlo, hhi⟩ : ∃ db ex1, v1 = .sl db 0 s.ss.length s.ss.length 5 ex1 ∧ m10.get db = some (.cells (A ++ ([vi x.id, .str x.name, vl, vi x.cur, vi x.last] ++ B)) .rw 60) ∧ lo ≤ db ∧ db < m10.n := by
        rcases ma.is with ⟨_, h⟩ | ⟨db, ex1, h1, h2, h3, h4⟩
        · omega
        · exact ⟨db, ex1, h1, h2, by omega, h4⟩
      have hb4 := hi1 db ex1 hv1
      refine t_ok rfl ?_
      refine t_ok (k_load d3 rfl) ?_
      rw [hv1]
      refine t_ok (k_idx (natOf_ofNat _ _) hll) ?_
      refine t_ok rfl ?_
      refine t_ok (k_put (cs' := A ++ ([vi x.id, .str x.name, vl, vi x.cur, .int .i64 (.negSucc 0)] ++ B)) hg1 rfl rfl rfl (by simp only [List.length_append, List.length_cons]; omega) (by rw [show (0 + l1.length * 5 + 4) = l1.length * 5 + 4 by omega]; exact splice_mid hA (by simp))) ?_
      generalize hm14 : m10.put db (.cells (A ++ ([vi x.id, .str x.name, vl, vi x.cur, .int .i64 (.negSucc 0)] ++ B)) .rw 60) = m14
      have n14 : m14.n = m10.n := by rw [← hm14]; rfl
      have hdd : ∀ b, b ≠ db → m14.get b = m10.get b := fun b hb => by rw [← hm14, M.get_put_ne _ _ _ _ (Ne.symm hb)]
      refine b_norm ?_
      iterate 4 refine t1 ?_
      refine t_ok (k_addN (a := l1.length) (b := 1) (by have := hs.ss; omega)) ?_
      refine l_norm ?_
      have hJd : J db = none := own.n1 db ex1 hv1
      have hmn := ex.n
      have := ihl (l1 ++ [x], l2) m14 (by simp) ⟨by rw [hl]; simp, A ++ ([vi x.id, .str x.name, vl, vi x.cur, .int .i64 (.negSucc 0)] ++ B), cb, ?_, by omega, ?_, ?_, ?_, ?_, ?_, ?_, rb⟩
      · simpa using this
      · refine ⟨by omega, fun b hb => ?_⟩
        rw [hdd b (by omega)]
        exact ex.get b hb
      · rw [← hm14]
        exact fz.put hJd _
      · rw [hdd _ (by omega)]; exact d2
      · rw [hdd _ (by omega)]; exact d3
      · refine ⟨by simpa using ma.len, .inr ⟨db, ex1, hv1, ?_, hlo, by omega⟩⟩
        rw [← hm14]; exact M.get_put_same _ _ _
      · have := RL.glue (x := plainSess x) (enc := encSess) rA (RL.mkSess (s := plainSess x) hvl) rB
        simpa [plainSess] using this
      · exact mb.same2 (by omega) fun b ex' hb hlt => hdd b (own.ap db ex1 b ex' hv1 hb).symm
  obtain ⟨l, m', h1, v', J, rfl, h2, h3, h4, h5⟩ := callE prim24 get24 rfl (D24_eq W1 (callF W1 (k + 2)) (k + 2) (.agg [u1, u2]) m) key
  exact ⟨v', m', J, h1, h2, h3, h4, h5⟩
theorem c_RefPlain {k : Nat} {I : Fz} {m : M} {v : V} {s : State} (hf : Froz I m) (hv : R' I v (.agg (encState s))) (hs : s.Fits) (hk : s.ss.length + s.ws.length < k) :
    ∃ v' m' J, callF W1 (k + 3) 25 [v] m = .ok v' m' ∧ Ext m m' ∧ Gro m.n I J ∧ Froz J m' ∧ R' J v' (.agg (encState (plainS s))) := by
  obtain ⟨u1, u2, rfl, hu1, hu2⟩ := hv.state
  have key : RetE (fun l m' => ∃ v' J, l = [v'] ∧ Ext m m' ∧ Gro m.n I J ∧ Froz J m' ∧ R' J v' (.agg (encState (plainS s)))) (D25 W1 (callF W1 (k + 2)) (k + 2) (.agg [u1, u2]) m) := by
    generalize hQ : RetE (fun l m' => ∃ v' J, l = [v'] ∧ Ext m m' ∧ Gro m.n I J ∧ Froz J m' ∧ R' J v' (.agg (encState (plainS s)))) = Q
    unfold D25
    refine t_ok (k_box rfl rfl) ?_
    refine t_ok rfl ?_
    generalize hm3 : (m.new (.cells [u1, u2] .rw 25)).new (.cells [.snil, .snil] .rw 25) = m3
    have e3 : Ext m m3 := by rw [← hm3]; exact (Ext.new _ _).push _
    have n3 : m3.n = m.n + 2 := by rw [← hm3]; simp
    have g1 : m3.get m.n = some (.cells [u1, u2] .rw 25) := by rw [← hm3]; exact (M.get_new_ne _ _ _ (by simp)).trans (M.get_new_same _ _)
    have g2 : m3.get (m.n + 1) = some (.cells [.snil, .snil] .rw 25) := by rw [← hm3]; exact M.get_new_same (m.new _) _
    simp only [M.n_new]
    refine t_ok (k_load g1 rfl) ?_
    obtain ⟨v1, v2, m4, J, h4, e4, le0, own⟩ := c_Copy (k := k) (hf.ext e3) hv hs hk
    refine t_ok (k_call h4) ?_
    have n4 := e4.n
    have g1' := e4.some (by omega) g1
    have g2' := e4.some (by omega) g2
    refine t_ok rfl ?_
    refine t_ok (k_put (cs' := [v1, v2]) (M.get_new_same _ _) rfl rfl rfl (by simp) rfl) ?_
    generalize hm9 : (m4.new (.cells [.snil, .snil] .rw 25)).put m4.n (.cells [v1, v2] .rw 25) = m9
    have n9 : m9.n = m4.n + 1 := by rw [← hm9]; simp
    have e49 : Ext m4 m9 := by rw [← hm9]; exact (Ext.new _ _).put (Nat.le_refl _) _
    have e9 : Ext m m9 := (e3.trans e4).trans e49
    have b2 : m9.get (m.n + 1) = some (.cells [.snil, .snil] .rw 25) := e49.some (by omega) g2'
    have b3 : m9.get m4.n = some (.cells [v1, v2] .rw 25) := by rw [← hm9]; exact M.get_put_same _ _ _
    obtain ⟨cs1, mi1, hr1⟩ := own.r1
    obtain ⟨cs2, mi2, hr2⟩ := own.r2
    have lo1 : ∀ db ex, v1 = .sl db 0 s.ss.length s.ss.length 5 ex → m.n + 2 ≤ db := by
      intro db ex hv
      rcases mi1.is with ⟨h, _⟩ | ⟨db', ex', h, _, h3, h4⟩
      · rw [hv] at h; cases h
      · rw [hv] at h; injection h with h; omega
    have lo2 : ∀ db ex, v2 = .sl db 0 s.ws.length s.ws.length 6 ex → m.n + 2 ≤ db := by
      intro db ex hv
      rcases mi2.is with ⟨h, _⟩ | ⟨db', ex', h, _, h3, h4⟩
      · rw [hv] at h; cases h
      · rw [hv] at h; injection h with h; omega
    have hi1 : ∀ db ex, v1 = .sl db 0 s.ss.length s.ss.length 5 ex → db < m4.n := by
      intro db ex hv
      rcases mi1.is with ⟨h, _⟩ | ⟨db', ex', h, _, h3, h4⟩
      · rw [hv] at h; cases h
      · rw [hv] at h; injection h with h; omega
    have hi2 : ∀ db ex, v2 = .sl db 0 s.ws.length s.ws.length 6 ex → db < m4.n := by
      intro db ex hv
      rcases mi2.is with ⟨h, _⟩ | ⟨db', ex', h, _, h3, h4⟩
      · rw [hv] at h; cases h
      · rw [hv] at h; injection h with h; omega
    generalize hlo : m.n + 2 = lo at lo1 lo2
    have hJ1 : J (m.n + 1) = none := le0.none hf (by omega) (by omega)
    have fz9 : Froz J m9 := own.fz.ext e49
    have mi1 : Mine lo m9 v1 5 60 cs1 s.ss.length := (mi1.lo (by omega)).ext e49
    have mi2 : Mine lo m9 v2 6 66 cs2 s.ws.length := (mi2.lo (by omega)).ext e49
    clear hm9 hm3 h4
    refine blk ?_
    refine loop_wf (fun st : List Sess × List Sess => [.ptr (m.n + 1) 0, .ptr m4.n 0, .int .i64 (.ofNat st.1.length)])
      (fun st m' => s.ss = st.1 ++ st.2 ∧ ∃ ca cb, Ext m m' ∧ m9.n ≤ m'.n ∧ Froz J m' ∧ m'.get (m.n + 1) = some (.cells [.snil, .snil] .rw 25) ∧ m'.get m4.n = some (.cells [v1, v2] .rw 25) ∧
        Mine lo m' v1 5 60 ca s.ss.length ∧ RL J ca ((st.1.map plainSess ++ st.2).flatMap encSess) ∧ Mine lo m' v2 6 66 cb s.ws.length ∧ RL J cb (s.ws.flatMap encWin))
      (fun st => st.2.length) ?_ ([], s.ss) m9 _ (by simp only; omega) ⟨rfl, cs1, cs2, e9, Nat.le_refl _, fz9, b2, b3, mi1, by simpa using hr1, mi2, hr2⟩
    rintro ⟨l1, l2⟩ m10 k1 ⟨hl, ca, cb, ex, nx, fz, d2, d3, ma, ra, mb, rb⟩ ihl
    simp only at hl ihl ra rb
    iterate 3 refine t1 ?_
    refine t_ok rfl ?_
    refine t_ok (k_load d3 rfl) ?_
    refine t_ok ma.sli.lenL' ?_
    cases l2 with
    | nil =>
      have hll : s.ss.length = l1.length := by rw [hl]; simp
      have g : decide (Int.ofNat l1.length < Int.ofNat s.ss.length) = false := by rw [hll]; simp
      refine t_ok (k_lss g) ?_
      refine c_no ?_
      refine l_exit ?_
      refine b_exit ?_
      iterate 2 refine t1 ?_
      simp only [List.append_nil] at hl ra rb
      subst hl
      refine blk ?_
      refine loop_wf (fun st : List Win × List Win => [.ptr (m.n + 1) 0, .ptr m4.n 0, .int .i64 (.ofNat st.1.length)])
        (fun st m' => s.ws = st.1 ++ st.2 ∧ ∃ ca cb, Ext m m' ∧ m9.n ≤ m'.n ∧ Froz J m' ∧ m'.get (m.n + 1) = some (.cells [.snil, .snil] .rw 25) ∧ m'.get m4.n = some (.cells [v1, v2] .rw 25) ∧
          Mine lo m' v1 5 60 ca s.ss.length ∧ RL J ca ((s.ss.map plainSess).flatMap encSess) ∧ Mine lo m' v2 6 66 cb s.ws.length ∧ RL J cb ((st.1.map plainWin ++ st.2).flatMap encWin))
        (fun st => st.2.length) ?_ ([], s.ws) m10 _ (by simp only; omega) ⟨rfl, ca, cb, ex, nx, fz, d2, d3, ma, ra, mb, by simpa using rb⟩
      rintro ⟨l1, l2⟩ m10 k1 ⟨hl, ca, cb, ex, nx, fz, d2, d3, ma, ra, mb, rb⟩ ihl
      simp only at hl ihl ra rb
      iterate 3 refine t1 ?_
      refine t_ok rfl ?_
      refine t_ok (k_load d3 rfl) ?_
      refine t_ok mb.sli.lenL' ?_
      cases l2 with
      | nil =>
        have hll : s.ws.length = l1.length := by rw [hl]; simp
        have g : decide (Int.ofNat l1.length < Int.ofNat s.ws.length) = false := by rw [hll]; simp
        refine t_ok (k_lss g) ?_
        refine c_no ?_
        refine l_exit ?_
        refine b_exit ?_
        iterate 2 refine t1 ?_
        simp only [List.append_nil] at hl ra rb
        subst hl
        refine t_ok (k_load d3 rfl) ?_
        refine t_ok (k_put (cs' := [v1, v2]) d2 rfl rfl rfl (by decide) rfl) ?_
        refine ret_of (resV_cell (M.get_put_same _ _ _) rfl resV_nil) ?_
        have hmn := ex.n
        generalize hm11 : m10.put (m.n + 1) (.cells [v1, v2] .rw 25) = m11
        have e11 : Ext m m11 := by rw [← hm11]; exact ex.put (by omega) _
        have f11 : Froz J m11 := by rw [← hm11]; exact fz.put hJ1 _
        have ma' : Mine lo m11 v1 5 60 ca s.ss.length := ma.same2 (by rw [← hm11]; exact Nat.le_refl _) fun b ex' hb _ => by rw [← hm11]; exact M.get_put_ne _ _ _ _ (by have := lo1 b ex' hb; omega)
        have mb' : Mine lo m11 v2 6 66 cb s.ws.length := mb.same2 (by rw [← hm11]; exact Nat.le_refl _) fun b ex' hb _ => by rw [← hm11]; exact M.get_put_ne _ _ _ _ (by have := lo2 b ex' hb; omega)
        obtain ⟨J1, le1, fz1, w1, hJ'⟩ := ma'.gro f11 (fun db ex h => own.n1 db ex h) ra
        obtain ⟨J2, le2, fz2, w2, _⟩ := mb'.gro fz1 (fun db ex' h => by
          rcases hJ' db with h1 | ⟨ex'', h1⟩
          · rw [h1]; exact own.n2 db ex' h
          · exact absurd rfl (own.ap db ex'' db ex' h1 h)) (rb.mono le1.le)
        subst hQ
        exact RetE.mk ⟨.agg [v1, v2], J2, rfl, e11, ((le0.trans le1 (by omega)).trans le2 (by omega)).lower (by omega), fz2, R'.mkState (s := plainS s) (by simpa [plainS] using w1.mono le2.le) (by simpa [plainS] using w2)⟩
      | cons x l2 =>
        have hll : l1.length < s.ws.length := by rw [hl]; simp
        have g : decide (Int.ofNat l1.length < Int.ofNat s.ws.length) = true := by simp; omega
        refine t_ok (k_lss g) ?_
        refine c_yes ?_
        refine blk ?_
        obtain ⟨A, c, B, rfl, hA, hc, rA, rc, rB⟩ := RL.cut rb encWin_len
        rw [List.length_map] at hA
        obtain ⟨vl, rfl, hvl⟩ := rc.win
        obtain ⟨db, ex1, hv1, hg1, hlo, hhi⟩ : ∃ db ex1, v2 = .sl db 0 s.ws.length s.ws.length 6 ex1 ∧ m10.get db = some (.cells (A ++ ([vi x.id, .str x.name, vl, vi x.act, vi x.last, .bool x.zoom] ++ B)) .rw 66) ∧ lo ≤ db ∧ db < m10.n := by
          rcases mb.is with ⟨_, h⟩ | ⟨db, ex1, h1, h2, h3, h4⟩
          · omega
          · exact ⟨db, ex1, h1, h2, by omega, h4⟩
        have hb4 := hi2 db ex1 hv1
        refine t_ok rfl ?_
        refine t_ok (k_load d3 rfl) ?_
        rw [hv1]
        refine t_ok (k_idx (natOf_ofNat _ _) hll) ?_
        refine t_ok rfl ?_
        refine t_ok (k_put (cs' := A ++ ([vi x.id, .str x.name, vl, vi x.act, .int .i64 (.ofNat 0), .bool x.zoom] ++ B)) hg1 rfl rfl rfl (by simp only [List.length_append, List.length_cons]; omega) (by rw [show (0 + l1.length * 6 + 4) = l1.length * 6 + 4 by omega]; exact splice_mid hA (by simp))) ?_
        generalize hm14 : m10.put db (.cells (A ++ ([vi x.id, .str x.name, vl, vi x.act, .int .i64 (.ofNat 0), .bool x.zoom] ++ B)) .rw 66) = m14
        have n14 : m14.n = m10.n := by rw [← hm14]; rfl
        have hdd : ∀ b, b ≠ db → m14.get b = m10.get b := fun b hb => by rw [← hm14, M.get_put_ne _ _ _ _ (Ne.symm hb)]
        refine b_norm ?_
        iterate 3 refine t1 ?_
        refine t_ok (k_addN (a := l1.length) (b := 1) (by have := hs.ws; omega)) ?_
        refine l_norm ?_
        have hJd : J db = none := own.n2 db ex1 hv1
        have hmn := ex.n
        have := ihl (l1 ++ [x], l2) m14 (by simp) ⟨by rw [hl]; simp, ca, A ++ ([vi x.id, .str x.name, vl, vi x.act, .int .i64 (.ofNat 0), .bool x.zoom] ++ B), ?_, by omega, ?_, ?_, ?_, ?_, ra, ?_, ?_⟩
        · simpa using this
        · refine ⟨by omega, fun b hb => ?_⟩
          rw [hdd b (by omega)]
          exact ex.get b hb
        · rw [← hm14]
          exact fz.put hJd _
        · rw [hdd _ (by omega)]; exact d2
        · rw [hdd _ (by omega)]; exact d3
        · exact ma.same2 (by omega) fun b ex' hb hlt => hdd b (own.ap b ex' db ex1 hb hv1)
        · refine ⟨by simpa using mb.len, .inr ⟨db, ex1, hv1, ?_, hlo, by omega⟩⟩
          rw [← hm14]; exact M.get_put_same _ _ _
        · have := RL.glue (x := plainWin x) (enc := encWin) rA (RL.mkWin (s := plainWin x) hvl) rB
          simpa [plainWin] using this

    | cons x l2 =>
      have hll : l1.length < s.ss.length := by rw [hl]; simp
      have g : decide (Int.ofNat l1.length < Int.ofNat s.ss.length) = true := by simp; omega
      refine t_ok (k_lss g) ?_
      refine c_yes ?_
      refine blk ?_
      obtain ⟨A, c, B, rfl, hA, hc, rA, rc, rB⟩ := RL.cut ra encSess_len
      rw [List.length_map] at hA
      obtain ⟨vl, rfl, hvl⟩ := rc.sess
      obtain ⟨db, ex1, hv1, hg1, hlo, hhi⟩ : ∃ db ex1, v1 = .sl db 0 s.ss.length s.ss.length 5 ex1 ∧ m10.get db = some (.cells (A ++ ([vi x.id, .str x.name, vl, vi x.cur, vi x.last] ++ B)) .rw 60) ∧ lo ≤ db ∧ db < m10.n := by
        rcases ma.is with ⟨_, h⟩ | ⟨db, ex1, h1, h2, h3, h4⟩
        · omega
        · exact ⟨db, ex1, h1, h2, by omega, h4⟩
      have hb4 := hi1 db ex1 hv1
      refine t_ok rfl ?_
      refine t_ok (k_load d3 rfl) ?_
      rw [hv1]
      refine t_ok (k_idx (natOf_ofNat _ _) hll) ?_
      refine t_ok rfl ?_
      refine t_ok (k_put (cs' := A ++ ([vi x.id, .str x.name, vl, vi x.cur, .int .i64 (.negSucc 0)] ++ B)) hg1 rfl rfl rfl (by simp only [List.length_append, List.length_cons]; omega) (by rw [show (0 + l1.length * 5 + 4) = l1.length * 5 + 4 by omega]; exact splice_mid hA (by simp))) ?_
      generalize hm14 : m10.put db (.cells (A ++ ([vi x.id, .str x.name, vl, vi x.cur, .int .i64 (.negSucc 0)] ++ B)) .rw 60) = m14
      have n14 : m14.n = m10.n := by rw [← hm14]; rfl
      have hdd : ∀ b, b ≠ db → m14.get b = m10.get b := fun b hb => by rw [← hm14, M.get_put_ne _ _ _ _ (Ne.symm hb)]
      refine b_norm ?_
      iterate 3 refine t1 ?_
      refine t_ok (k_addN (a := l1.length) (b := 1) (by have := hs.ss; omega)) ?_
      refine l_norm ?_
      have hJd : J db = none := own.n1 db ex1 hv1
      have hmn := ex.n
      have := ihl (l1 ++ [x], l2) m14 (by simp) ⟨by rw [hl]; simp, A ++ ([vi x.id, .str x.name, vl, vi x.cur, .int .i64 (.negSucc 0)] ++ B), cb, ?_, by omega, ?_, ?_, ?_, ?_, ?_, ?_, rb⟩
      · simpa using this
      · refine ⟨by omega, fun b hb => ?_⟩
        rw [hdd b (by omega)]
        exact ex.get b hb
      · rw [← hm14]
        exact fz.put hJd _
      · rw [hdd _ (by omega)]; exact d2
      · rw [hdd _ (by omega)]; exact d3
      · refine ⟨by simpa using ma.len, .inr ⟨db, ex1, hv1, ?_, hlo, by omega⟩⟩
        rw [← hm14]; exact M.get_put_same _ _ _
      · have := RL.glue (x := plainSess x) (enc := encSess) rA (RL.mkSess (s := plainSess x) hvl) rB
        simpa [plainSess] using this
      · exact mb.same2 (by omega) fun b ex' hb hlt => hdd b (own.ap db ex1 b ex' hv1 hb).symm
  obtain ⟨l, m', h1, v', J, rfl, h2, h3, h4, h5⟩ := callE prim25 get25 rfl (D25_eq W1 (callF W1 (k + 2)) (k + 2) (.agg [u1, u2]) m) key
  exact ⟨v', m', J, h1, h2, h3, h4, h5⟩
end Go.Proofs.YtaepllhjnbencaaGreatDoor.Ir
