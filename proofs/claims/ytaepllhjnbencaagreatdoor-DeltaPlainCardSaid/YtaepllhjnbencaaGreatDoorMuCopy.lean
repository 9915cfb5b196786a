/- The document's Copy of a state: the same state, in rows of one's own, and what lies in them rests. Condition: it fits into a memory; there is fuel. -/
import Derived.Test.YtaepllhjnbencaaGreatDoorMuPlain2
set_option linter.unusedVariables false
set_option linter.unusedSimpArgs false
set_option maxRecDepth 100000
set_option maxHeartbeats 4000000
namespace Go.Proofs.YtaepllhjnbencaaGreatDoor.Ir
open Mu
attribute [local irreducible] R.to R.sure guarded pureD readD effD allocD ifX cnd take1 blkF joinF loopF retX gd callF exec2 M.get
theorem c_Copy {k : Nat} {I : Fz} {m : M} {v : V} {s : State} (hf : Froz I m) (hv : R' I v (.agg (encState s))) (hs : s.Fits) (hk : s.ss.length + s.ws.length < k) :
    ∃ v1 v2 m' J, callF W1 (k + 2) 32 [v] m = .ok (.agg [v1, v2]) m' ∧ Ext m m' ∧ Gro m.n I J ∧ Own2 m.n J m' v1 v2 s := by
  obtain ⟨u1, u2, rfl, hu1, hu2⟩ := hv.state
  have key : RetE (fun l m' => ∃ v1 v2 J, l = [.agg [v1, v2]] ∧ Ext m m' ∧ Gro m.n I J ∧ Own2 m.n J m' v1 v2 s) (D32 W1 (callF W1 (k + 1)) (k + 1) (.agg [u1, u2]) m) := by
    generalize hQ : RetE (fun l m' => ∃ v1 v2 J, l = [.agg [v1, v2]] ∧ Ext m m' ∧ Gro m.n I J ∧ Own2 m.n J m' v1 v2 s) = Q
    unfold D32
    refine t_ok (k_box rfl rfl) ?_
    refine t_ok rfl ?_
    refine t_ok rfl ?_
    generalize hm3 : ((m.new (.cells [u1, u2] .rw 25)).new (.cells [.snil, .snil] .rw 25)).new (.cells [.snil, .snil] .rw 25) = m3
    have e3 : Ext m m3 := by rw [← hm3]; exact ((Ext.new _ _).push _).push _
    have n3 : m3.n = m.n + 3 := by rw [← hm3]; simp
    have g1 : m3.get m.n = some (.cells [u1, u2] .rw 25) := by rw [← hm3]; exact (M.get_new_ne _ _ _ (by simp only [M.n_new]; omega)).trans ((M.get_new_ne _ _ _ (by simp)).trans (M.get_new_same _ _))
    have g2 : m3.get (m.n + 1) = some (.cells [.snil, .snil] .rw 25) := by rw [← hm3]; exact (M.get_new_ne _ _ _ (by simp)).trans (M.get_new_same (m.new _) _)
    have g3 : m3.get (m.n + 2) = some (.cells [.snil, .snil] .rw 25) := by rw [← hm3]; exact M.get_new_same ((m.new _).new _) _
    simp only [M.n_new, Nat.add_assoc, Nat.reduceAdd]
    clear hm3
    refine blk ?_
    refine loop_wf (fun st : List Sess × List Sess × V × V => [.ptr m.n 0, .ptr (m.n + 1) 0, .ptr (m.n + 2) 0, .int .i64 (.ofNat st.1.length)])
      (fun st m' => s.ss = st.1 ++ st.2.1 ∧ ∃ J ca cb, Ext m m' ∧ m3.n ≤ m'.n ∧ Gro m3.n I J ∧ Froz J m' ∧ m'.get m.n = some (.cells [u1, u2] .rw 25) ∧ m'.get (m.n + 1) = some (.cells [.snil, .snil] .rw 25) ∧ m'.get (m.n + 2) = some (.cells [st.2.2.1, st.2.2.2] .rw 25) ∧
        Acc m3.n m' st.2.2.1 5 60 ca st.1.length ∧ RL J ca (st.1.flatMap encSess) ∧ Acc m3.n m' st.2.2.2 6 66 cb ([] : List Win).length ∧ RL J cb (([] : List Win).flatMap encWin) ∧
        (∀ b o l c x, (st.2.2.1 = .sl b o l c 5 x ∨ st.2.2.2 = .sl b o l c 6 x) → J b = none) ∧ (∀ b o l c x b' o' l' c' x', st.2.2.1 = .sl b o l c 5 x → st.2.2.2 = .sl b' o' l' c' 6 x' → b ≠ b'))
      (fun st => st.2.1.length) ?_ ([], s.ss, .snil, .snil) m3 _ (by simp only; omega) ⟨rfl, I, [], [], e3, Nat.le_refl _, Gro.refl _ I, hf.ext e3, g1, g2, g3, Acc.nil, by simp [RL], Acc.nil, by simp [RL], (by rintro b o l c x (h | h) <;> cases h), (by intro b o l c x b' o' l' c' x' h; cases h)⟩
    rintro ⟨l1, l2, w1, w2⟩ m10 k1 ⟨hl, J, ca, cb, ex, nx, gr, fz, d1, d2, d3, ma, ra, mb, rb, hn, hap⟩ ihl
    simp only at hl ihl d3 ma ra mb rb hn hap
    have hmn := ex.n
    iterate 4 refine t1 ?_
    obtain ⟨csu, hslu, hru⟩ := hu1.slice (hf.ext ex) encSess_len (by omega)
    refine t_ok rfl ?_
    refine t_ok (k_load d1 rfl) ?_
    refine t_ok hslu.lenL' ?_
    cases l2 with
    | nil =>
      have hll : s.ss.length = l1.length := by rw [hl]; simp
      have g : decide (Int.ofNat l1.length < Int.ofNat s.ss.length) = false := by rw [hll]; simp
      refine t_ok (k_lss g) ?_
      refine c_no ?_
      refine l_exit ?_
      refine b_exit ?_
      iterate 3 refine t1 ?_
      simp only [List.append_nil] at hl
      subst hl
      refine blk ?_
      refine loop_wf (fun st : List Win × List Win × V × V => [.ptr m.n 0, .ptr (m.n + 1) 0, .ptr (m.n + 2) 0, .int .i64 (.ofNat st.1.length)])
        (fun st m' => s.ws = st.1 ++ st.2.1 ∧ ∃ J ca cb, Ext m m' ∧ m3.n ≤ m'.n ∧ Gro m3.n I J ∧ Froz J m' ∧ m'.get m.n = some (.cells [u1, u2] .rw 25) ∧ m'.get (m.n + 1) = some (.cells [.snil, .snil] .rw 25) ∧ m'.get (m.n + 2) = some (.cells [st.2.2.1, st.2.2.2] .rw 25) ∧
          Acc m3.n m' st.2.2.1 5 60 ca s.ss.length ∧ RL J ca (s.ss.flatMap encSess) ∧ Acc m3.n m' st.2.2.2 6 66 cb st.1.length ∧ RL J cb (st.1.flatMap encWin) ∧
          (∀ b o l c x, (st.2.2.1 = .sl b o l c 5 x ∨ st.2.2.2 = .sl b o l c 6 x) → J b = none) ∧ (∀ b o l c x b' o' l' c' x', st.2.2.1 = .sl b o l c 5 x → st.2.2.2 = .sl b' o' l' c' 6 x' → b ≠ b'))
        (fun st => st.2.1.length) ?_ ([], s.ws, w1, w2) m10 _ (by simp only; omega) ⟨rfl, J, ca, cb, ex, nx, gr, fz, d1, d2, d3, ma, ra, mb, rb, hn, hap⟩
      rintro ⟨l1, l2, w1, w2⟩ m10 k1 ⟨hl, J, ca, cb, ex, nx, gr, fz, d1, d2, d3, ma, ra, mb, rb, hn, hap⟩ ihl
      simp only at hl ihl d3 ma ra mb rb hn hap
      have hmn := ex.n
      iterate 4 refine t1 ?_
      obtain ⟨csu, hslu, hru⟩ := hu2.slice (hf.ext ex) encWin_len (by omega)
      refine t_ok rfl ?_
      refine t_ok (k_load d1 rfl) ?_
      refine t_ok hslu.lenL' ?_
      cases l2 with
      | nil =>
        have hll : s.ws.length = l1.length := by rw [hl]; simp
        have g : decide (Int.ofNat l1.length < Int.ofNat s.ws.length) = false := by rw [hll]; simp
        refine t_ok (k_lss g) ?_
        refine c_no ?_
        refine l_exit ?_
        refine b_exit ?_
        iterate 2 refine t1 ?_
        simp only [List.append_nil] at hl
        subst hl
        refine t_ok (k_load d3 rfl) ?_
        refine t_ok (k_put (cs' := [w1, w2]) d2 rfl rfl rfl (by simp) rfl) ?_
        refine ret_of (resV_cell (M.get_put_same _ _ _) rfl resV_nil) ?_
        subst hQ
        refine RetE.mk ⟨w1, w2, J, rfl, ex.put (by omega) _, gr.lower (by omega), ⟨fz.put (gr.none hf (by omega) (by omega)) _, ⟨ca, (ma.mine.lo (by omega)).same2 (Nat.le_refl _) fun b ex' hb _ => M.get_put_ne _ _ _ _ (by have := (ma.lt hb).2; omega), ra⟩,
          ⟨cb, (mb.mine.lo (by omega)).same2 (Nat.le_refl _) fun b ex' hb _ => M.get_put_ne _ _ _ _ (by have := (mb.lt hb).2; omega), rb⟩,
          fun b ex' hb => hn _ _ _ _ _ (.inl hb), fun b ex' hb => hn _ _ _ _ _ (.inr hb), fun b ex' b' ex'' hb hb' => hap _ _ _ _ _ _ _ _ _ _ hb hb'⟩⟩
      | cons x l2 =>
        have hll : l1.length < s.ws.length := by rw [hl]; simp
        have g : decide (Int.ofNat l1.length < Int.ofNat s.ws.length) = true := by simp; omega
        refine t_ok (k_lss g) ?_
        refine c_yes ?_
        refine blk ?_
        have hru' := hru
        rw [hl] at hru'
        obtain ⟨A, c, B, rfl, hA, hc, rA, rc, rB⟩ := RL.cut hru' encWin_len
        obtain ⟨vl, rfl, hvl⟩ := rc.win
        obtain ⟨b, o, hidx, hblt, ⟨all, own, t, hg, hpv, _⟩, _⟩ := hslu.elem (W := W1) (call := callF W1 (k + 1)) hA hc (by omega) .i64
        refine t_ok rfl ?_
        refine t_ok (k_load d1 rfl) ?_
        refine t_ok (hidx _) ?_
        refine t_ok (k_load hg hpv) ?_
        refine t_ok rfl ?_
        refine t_ok (k_put (cs' := [vi x.id, .str x.name, vl, vi x.act, vi x.last, .bool x.zoom]) (M.get_new_same _ _) rfl rfl rfl (by simp) rfl) ?_
        generalize hm12 : (m10.new (.cells [.int .i64 (.ofNat 0), .str [], .snil, .int .i64 (.ofNat 0), .int .i64 (.ofNat 0), .bool false] .rw 66)).put m10.n (.cells [vi x.id, .str x.name, vl, vi x.act, vi x.last, .bool x.zoom] .rw 66) = m12
        have e12 : Ext m10 m12 := by rw [← hm12]; exact (Ext.new _ _).put (Nat.le_refl _) _
        have n12 : m12.n = m10.n + 1 := by rw [← hm12]; simp
        have hx12 : m12.get m10.n = some (.cells [vi x.id, .str x.name, vl, vi x.act, vi x.last, .bool x.zoom] .rw 66) := by rw [← hm12]; exact M.get_put_same _ _ _
        refine t_ok rfl ?_
        refine t_ok (k_load hx12 rfl) ?_
        obtain ⟨csl, hsl, hrl⟩ := (hvl.mono gr.le).slice (fz.ext e12) encCell_len (by omega)
        refine t_append (Acc.nil (lo := m12.n)) (by omega) hsl.rd.1 hsl.rd.2 hsl.len (by have := hs.cells x (by rw [hl]; simp); omega) (Nat.le_refl _) ?_
        intro w m13 mw n13 fr13
        simp only [List.nil_append, Nat.zero_add] at mw
        have e13 : Ext m12 m13 := ⟨n13, fun b hb => fr13 b hb (by intro o l c e y h; cases h)⟩
        obtain ⟨J', gr', fz', hw, hJw⟩ := mw.mine.gro ((fz.ext e12).ext e13) (fun b ex' h => by
          rcases mw.is with ⟨h2, _⟩ | ⟨b', h2, _, h3, _⟩
          · rw [h] at h2; cases h2
          · rw [h] at h2; injection h2 with h2; subst h2; exact (fz.ext e12).none_n h3) hrl
        have hx13 := e13.some (by omega) hx12
        refine t_ok rfl ?_
        refine t_ok (k_put (cs' := [vi x.id, .str x.name, w, vi x.act, vi x.last, .bool x.zoom]) hx13 rfl mw.cells rfl (by simp) rfl) ?_
        have e123 := e12.trans e13
        have d3' := e123.some (by omega) d3
        generalize hm14 : m13.put m10.n (.cells [vi x.id, .str x.name, w, vi x.act, vi x.last, .bool x.zoom] .rw 66) = m14
        have e14 : Ext m10 m14 := by rw [← hm14]; exact e123.put (Nat.le_refl _) _
        have n14 : m14.n = m13.n := by rw [← hm14]; rfl
        have hx14 : m14.get m10.n = some (.cells [vi x.id, .str x.name, w, vi x.act, vi x.last, .bool x.zoom] .rw 66) := by rw [← hm14]; exact M.get_put_same _ _ _
        have hJx : J' m10.n = none := (gr'.old _ (by omega)).trans (fz.none_n (Nat.le_refl _))
        have fz14 : Froz J' m14 := by rw [← hm14]; exact fz'.put hJx _
        refine t_ok rfl ?_
        refine t_ok (k_load (e14.some (by omega) d3) rfl) ?_
        refine t_ok (k_load (v := .agg [vi x.id, .str x.name, w, vi x.act, vi x.last, .bool x.zoom]) hx14 rfl) ?_
        refine t_ok (v := .sl m14.n 0 1 1 6 true) (m := m14.new (.cells [vi x.id, .str x.name, w, vi x.act, vi x.last, .bool x.zoom] .rw 66)) (by simp [evK, fill, rep, cellsOf, splice]) ?_
        generalize hm15 : m14.new (.cells [vi x.id, .str x.name, w, vi x.act, vi x.last, .bool x.zoom] .rw 66) = m15
        have e15 : Ext m14 m15 := by rw [← hm15]; exact Ext.new _ _
        have n15 : m15.n = m14.n + 1 := by rw [← hm15]; simp
        have hx15 : m15.get m14.n = some (.cells [vi x.id, .str x.name, w, vi x.act, vi x.last, .bool x.zoom] .rw 66) := by rw [← hm15]; exact M.get_new_same _ _
        have e145 := e14.trans e15
        have fz15 := fz14.ext e15
        have hrd : rdSl 6 (.sl m14.n 0 1 1 6 true) m15 = some [vi x.id, .str x.name, w, vi x.act, vi x.last, .bool x.zoom] := rdSl_of hx15 (by simp) (by simp [slice1])
        refine t_append1 (k := 1) (mb.same e145.n fun b _ hb => e145.get b hb) hrd rfl (by decide) (by have := hs.ws; omega) ?_
        intro m16 hg16 n16 fr16
        have hne : ∀ b, b < m10.n → (∀ o l c e y, w2 ≠ .sl b o l c e y) → m16.get b = m10.get b := fun b hb h => (fr16 b (by omega) h).trans (e145.get b hb)
        have hlow : ∀ b, b < m3.n → ∀ o l c e y, w2 ≠ .sl b o l c e y := fun b hb => mb.ne hb
        have d3'' := (hne _ (by omega) (hlow _ (by omega))).trans d3
        have fz16 : Froz J' m16 := fz15.of (by omega) fun b hb => by
          refine fr16 b ?_ ?_
          · cases h : J' b with
            | none => exact absurd h hb
            | some cs => exact (fz15 b cs h).1
          · intro o l c e y h
            rcases mb.is with ⟨h2, _⟩ | ⟨b', h2, _, h3, h4⟩
            · rw [h2] at h; cases h
            · rw [h2] at h; injection h with q1 q2 q3 q4 q5 q6
              subst q1
              exact hb ((gr'.old _ (by omega)).trans (hn _ _ _ _ _ (.inr h2)))
        refine t_ok rfl ?_
        refine t_ok (k_put (cs' := [w1, .sl m15.n 0 (l1.length + 1) (l1.length + 1) 6 false]) d3'' rfl rfl rfl (by simp) rfl) ?_
        generalize hm17 : m16.put (m.n + 2) (.cells [w1, .sl m15.n 0 (l1.length + 1) (l1.length + 1) 6 false] .rw 25) = m17
        have n17 : m17.n = m16.n := by rw [← hm17]; rfl
        have h17 : ∀ b, b ≠ m.n + 2 → m17.get b = m16.get b := fun b hb => by rw [← hm17]; exact M.get_put_ne _ _ _ _ (Ne.symm hb)
        have gr2 : Gro m3.n I J' := gr.trans gr' (by omega)
        refine b_norm ?_
        iterate 4 refine t1 ?_
        refine t_ok (k_addN (a := l1.length) (b := 1) (by have := hs.ws; omega)) ?_
        refine l_norm ?_
        have hca : RL J' (cb ++ [vi x.id, .str x.name, w, vi x.act, vi x.last, .bool x.zoom]) ((l1 ++ [x]).flatMap encWin) := by
          rw [List.flatMap_append]
          exact (rb.mono gr'.le).append (by simpa using RL.mkWin (s := x) hw)
        have := ihl (l1 ++ [x], l2, w1, (.sl m15.n 0 (l1.length + 1) (l1.length + 1) 6 false)) m17 (by simp) ⟨by rw [hl]; simp, J', ca, cb ++ [vi x.id, .str x.name, w, vi x.act, vi x.last, .bool x.zoom], ?_, by omega, gr2, ?_, ?_, ?_, ?_, ?_, ra.mono gr'.le, ?_, hca, ?_, ?_⟩
        · simpa using this
        · refine ⟨by omega, fun b hb => ?_⟩
          rw [h17 b (by omega), hne b (by omega) (hlow b (by omega))]
          exact ex.get b hb
        · rw [← hm17]
          exact fz16.put (gr2.none hf (by omega) (by omega)) _
        · rw [h17 _ (by omega), hne _ (by omega) (hlow _ (by omega))]; exact d1
        · rw [h17 _ (by omega), hne _ (by omega) (hlow _ (by omega))]; exact d2
        · rw [← hm17]; exact M.get_put_same _ _ _
        · refine ⟨ma.len, ?_⟩
          rcases ma.is with h | ⟨b', h1, h2, h3, h4⟩
          · exact .inl h
          · refine .inr ⟨b', h1, ?_, h3, by omega⟩
            rw [h17 b' (by omega), hne b' h4 (fun o l c e y h => ?_)]
            · exact h2
            · rcases mb.is with ⟨h5, _⟩ | ⟨b'', h5, _⟩
              · rw [h5] at h; cases h
              · have := h5 ▸ h; injection this with q1; subst q1; exact hap _ _ _ _ _ _ _ _ _ _ h1 h5 rfl
        · refine ⟨by simp [mb.len]; omega, .inr ⟨m15.n, by simp, (h17 _ (by omega)).trans hg16, by omega, by omega⟩⟩
        · rintro b o l c x' (h | h)
          · exact (gr'.old _ (by have := (ma.lt h).1; omega)).trans (hn _ _ _ _ _ (.inl h))
          · injection h with h
            subst h
            exact fz15.none_n (Nat.le_refl _)
        · intro b o l c x' b' o' l' c' x'' h h'
          injection h' with h'
          subst h'
          have := (ma.lt h).1
          omega

    | cons x l2 =>
      have hll : l1.length < s.ss.length := by rw [hl]; simp
      have g : decide (Int.ofNat l1.length < Int.ofNat s.ss.length) = true := by simp; omega
      refine t_ok (k_lss g) ?_
      refine c_yes ?_
      refine blk ?_
      have hru' := hru
      rw [hl] at hru'
      obtain ⟨A, c, B, rfl, hA, hc, rA, rc, rB⟩ := RL.cut hru' encSess_len
      obtain ⟨vl, rfl, hvl⟩ := rc.sess
      obtain ⟨b, o, hidx, hblt, ⟨all, own, t, hg, hpv, _⟩, _⟩ := hslu.elem (W := W1) (call := callF W1 (k + 1)) hA hc (by omega) .i64
      refine t_ok rfl ?_
      refine t_ok (k_load d1 rfl) ?_
      refine t_ok (hidx _) ?_
      refine t_ok (k_load hg hpv) ?_
      refine t_ok rfl ?_
      refine t_ok (k_put (cs' := [vi x.id, .str x.name, vl, vi x.cur, vi x.last]) (M.get_new_same _ _) rfl rfl rfl (by simp) rfl) ?_
      generalize hm12 : (m10.new (.cells [.int .i64 (.ofNat 0), .str [], .snil, .int .i64 (.ofNat 0), .int .i64 (.ofNat 0)] .rw 60)).put m10.n (.cells [vi x.id, .str x.name, vl, vi x.cur, vi x.last] .rw 60) = m12
      have e12 : Ext m10 m12 := by rw [← hm12]; exact (Ext.new _ _).put (Nat.le_refl _) _
      have n12 : m12.n = m10.n + 1 := by rw [← hm12]; simp
      have hx12 : m12.get m10.n = some (.cells [vi x.id, .str x.name, vl, vi x.cur, vi x.last] .rw 60) := by rw [← hm12]; exact M.get_put_same _ _ _
      refine t_ok rfl ?_
      refine t_ok (k_load hx12 rfl) ?_
      obtain ⟨csl, hsl, hrl⟩ := (hvl.mono gr.le).slice (fz.ext e12) encLnk_len (by omega)
      refine t_append (Acc.nil (lo := m12.n)) (by omega) hsl.rd.1 hsl.rd.2 hsl.len (by have := hs.links x (by rw [hl]; simp); omega) (Nat.le_refl _) ?_
      intro w m13 mw n13 fr13
      simp only [List.nil_append, Nat.zero_add] at mw
      have e13 : Ext m12 m13 := ⟨n13, fun b hb => fr13 b hb (by intro o l c e y h; cases h)⟩
      obtain ⟨J', gr', fz', hw, hJw⟩ := mw.mine.gro ((fz.ext e12).ext e13) (fun b ex' h => by
        rcases mw.is with ⟨h2, _⟩ | ⟨b', h2, _, h3, _⟩
        · rw [h] at h2; cases h2
        · rw [h] at h2; injection h2 with h2; subst h2; exact (fz.ext e12).none_n h3) hrl
      have hx13 := e13.some (by omega) hx12
      refine t_ok rfl ?_
      refine t_ok (k_put (cs' := [vi x.id, .str x.name, w, vi x.cur, vi x.last]) hx13 rfl mw.cells rfl (by simp) rfl) ?_
      have e123 := e12.trans e13
      have d3' := e123.some (by omega) d3
      generalize hm14 : m13.put m10.n (.cells [vi x.id, .str x.name, w, vi x.cur, vi x.last] .rw 60) = m14
      have e14 : Ext m10 m14 := by rw [← hm14]; exact e123.put (Nat.le_refl _) _
      have n14 : m14.n = m13.n := by rw [← hm14]; rfl
      have hx14 : m14.get m10.n = some (.cells [vi x.id, .str x.name, w, vi x.cur, vi x.last] .rw 60) := by rw [← hm14]; exact M.get_put_same _ _ _
      have hJx : J' m10.n = none := (gr'.old _ (by omega)).trans (fz.none_n (Nat.le_refl _))
      have fz14 : Froz J' m14 := by rw [← hm14]; exact fz'.put hJx _
      refine t_ok rfl ?_
      refine t_ok (k_load (e14.some (by omega) d3) rfl) ?_
      refine t_ok (k_load (v := .agg [vi x.id, .str x.name, w, vi x.cur, vi x.last]) hx14 rfl) ?_
      refine t_ok (v := .sl m14.n 0 1 1 5 true) (m := m14.new (.cells [vi x.id, .str x.name, w, vi x.cur, vi x.last] .rw 60)) (by simp [evK, fill, rep, cellsOf, splice]) ?_
      generalize hm15 : m14.new (.cells [vi x.id, .str x.name, w, vi x.cur, vi x.last] .rw 60) = m15
      have e15 : Ext m14 m15 := by rw [← hm15]; exact Ext.new _ _
      have n15 : m15.n = m14.n + 1 := by rw [← hm15]; simp
      have hx15 : m15.get m14.n = some (.cells [vi x.id, .str x.name, w, vi x.cur, vi x.last] .rw 60) := by rw [← hm15]; exact M.get_new_same _ _
      have e145 := e14.trans e15
      have fz15 := fz14.ext e15
      have hrd : rdSl 5 (.sl m14.n 0 1 1 5 true) m15 = some [vi x.id, .str x.name, w, vi x.cur, vi x.last] := rdSl_of hx15 (by simp) (by simp [slice1])
      refine t_append1 (k := 1) (ma.same e145.n fun b _ hb => e145.get b hb) hrd rfl (by decide) (by have := hs.ss; omega) ?_
      intro m16 hg16 n16 fr16
      have hne : ∀ b, b < m10.n → (∀ o l c e y, w1 ≠ .sl b o l c e y) → m16.get b = m10.get b := fun b hb h => (fr16 b (by omega) h).trans (e145.get b hb)
      have hlow : ∀ b, b < m3.n → ∀ o l c e y, w1 ≠ .sl b o l c e y := fun b hb => ma.ne hb
      have d3'' := (hne _ (by omega) (hlow _ (by omega))).trans d3
      have fz16 : Froz J' m16 := fz15.of (by omega) fun b hb => by
        refine fr16 b ?_ ?_
        · cases h : J' b with
          | none => exact absurd h hb
          | some cs => exact (fz15 b cs h).1
        · intro o l c e y h
          rcases ma.is with ⟨h2, _⟩ | ⟨b', h2, _, h3, h4⟩
          · rw [h2] at h; cases h
          · rw [h2] at h; injection h with q1 q2 q3 q4 q5 q6
            subst q1
            exact hb ((gr'.old _ (by omega)).trans (hn _ _ _ _ _ (.inl h2)))
      refine t_ok rfl ?_
      refine t_ok (k_put (cs' := [.sl m15.n 0 (l1.length + 1) (l1.length + 1) 5 false, w2]) d3'' rfl rfl rfl (by simp) rfl) ?_
      generalize hm17 : m16.put (m.n + 2) (.cells [.sl m15.n 0 (l1.length + 1) (l1.length + 1) 5 false, w2] .rw 25) = m17
      have n17 : m17.n = m16.n := by rw [← hm17]; rfl
      have h17 : ∀ b, b ≠ m.n + 2 → m17.get b = m16.get b := fun b hb => by rw [← hm17]; exact M.get_put_ne _ _ _ _ (Ne.symm hb)
      have gr2 : Gro m3.n I J' := gr.trans gr' (by omega)
      refine b_norm ?_
      iterate 4 refine t1 ?_
      refine t_ok (k_addN (a := l1.length) (b := 1) (by have := hs.ss; omega)) ?_
      refine l_norm ?_
      have hca : RL J' (ca ++ [vi x.id, .str x.name, w, vi x.cur, vi x.last]) ((l1 ++ [x]).flatMap encSess) := by
        rw [List.flatMap_append]
        exact (ra.mono gr'.le).append (by simpa using RL.mkSess (s := x) hw)
      have := ihl (l1 ++ [x], l2, (.sl m15.n 0 (l1.length + 1) (l1.length + 1) 5 false), w2) m17 (by simp) ⟨by rw [hl]; simp, J', ca ++ [vi x.id, .str x.name, w, vi x.cur, vi x.last], cb, ?_, by omega, gr2, ?_, ?_, ?_, ?_, ?_, hca, ?_, rb.mono gr'.le, ?_, ?_⟩
      · simpa using this
      · refine ⟨by omega, fun b hb => ?_⟩
        rw [h17 b (by omega), hne b (by omega) (hlow b (by omega))]
        exact ex.get b hb
      · rw [← hm17]
        exact fz16.put (gr2.none hf (by omega) (by omega)) _
      · rw [h17 _ (by omega), hne _ (by omega) (hlow _ (by omega))]; exact d1
      · rw [h17 _ (by omega), hne _ (by omega) (hlow _ (by omega))]; exact d2
      · rw [← hm17]; exact M.get_put_same _ _ _
      · refine ⟨by simp [ma.len]; omega, .inr ⟨m15.n, by simp, (h17 _ (by omega)).trans hg16, by omega, by omega⟩⟩
      · refine ⟨mb.len, ?_⟩
        rcases mb.is with h | ⟨b', h1, h2, h3, h4⟩
        · exact .inl h
        · refine .inr ⟨b', h1, ?_, h3, by omega⟩
          rw [h17 b' (by omega), hne b' h4 (fun o l c e y h => ?_)]
          · exact h2
          · rcases ma.is with ⟨h5, _⟩ | ⟨b'', h5, _⟩
            · rw [h5] at h; cases h
            · have := h5 ▸ h; injection this with q1; subst q1; exact hap _ _ _ _ _ _ _ _ _ _ h5 h1 rfl
      · rintro b o l c x' (h | h)
        · injection h with h
          subst h
          exact fz15.none_n (Nat.le_refl _)
        · exact (gr'.old _ (by have := (mb.lt h).1; omega)).trans (hn _ _ _ _ _ (.inr h))
      · intro b o l c x' b' o' l' c' x'' h h'
        injection h with h
        subst h
        have := (mb.lt h').1
        omega
  obtain ⟨l, m', h1, v1, v2, J, rfl, h2, h3, h4⟩ := callE prim32 get32 rfl (D32_eq W1 (callF W1 (k + 1)) (k + 1) (.agg [u1, u2]) m) key
  exact ⟨v1, v2, m', J, h1, h2, h3, h4⟩
end Go.Proofs.YtaepllhjnbencaaGreatDoor.Ir
