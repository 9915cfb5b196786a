/- StoreNews answers true for every configuration: its two stores, and what it asks of them. No condition. -/
import Derived.Test.YtkceoangoobbkaaGreatDoorMuNews1
set_option linter.unusedVariables false
set_option linter.unusedSimpArgs false
set_option maxRecDepth 100000
set_option maxHeartbeats 4000000
namespace Go.Proofs.YtkceoangoobbkaaGreatDoor.Ir
open Mu
attribute [local irreducible] R.to R.sure guarded pureD readD effD allocD ifX cnd take1 blkF joinF loopF retX gd callF exec2 M.get
theorem A9_n (w h t : Int) (m : M) : (A9 w h t m).n = m.n + 8 := rfl
theorem A9_ext (w h t : Int) (m : M) : Ext m (A9 w h t m) := ((((((((Ext.refl m).push _).push _).push _).push _).push _).push _).push _).push _
/-- a new store, empty, lies there -/
structure NewAt (w h t : Int) (b : Nat) (m : M) : Prop where
  lt : b + 7 < m.n
  st : m.get (b + 7) = some (.cells (c3 w h t ++ [.ptr (b + 2) 0, .ptr (b + 4) 0, .ptr (b + 6) 0]) .rw 54)
  s : m.get (b + 2) = some (.cells [.map (b + 1), .int .i64 0] .rw 94)
  sm : m.get (b + 1) = some (.map [])
  w : m.get (b + 4) = some (.cells [.map (b + 3), .int .i64 0] .rw 98)
  wm : m.get (b + 3) = some (.map [])
theorem NewAt.ext {w h t : Int} {b : Nat} {m m' : M} (hn : NewAt w h t b m) (e : Ext m m') : NewAt w h t b m' := by
  have h1 := hn.lt
  have h2 := e.n
  exact ⟨by omega, e.some hn.lt hn.st, e.some (by omega) hn.s, e.some (by omega) hn.sm, e.some (by omega) hn.w, e.some (by omega) hn.wm⟩
theorem A9_new (w h t : Int) (m : M) : NewAt w h t m.n (A9 w h t m) := by
  refine ⟨?_, ?_, ?_, ?_, ?_, ?_⟩
  · rw [A9_n]; omega
  all_goals unfold A9
  all_goals exact (by first | assumption | exact M.get_new_same _ _ | exact M.get_put_same _ _ _ | ((repeat (first | refine (M.get_new_ne _ _ _ (by first | omega | (simp only [M.n_new, M.n_put]; omega))).trans ?_ | refine (M.get_put_ne _ _ _ _ (by first | omega | (simp only [M.n_new, M.n_put]; omega))).trans ?_ | refine (Ext.get (by assumption) _ (by first | omega | (simp only [M.n_new, M.n_put]; omega))).trans ?_)); first | assumption | exact M.get_new_same _ _ | exact M.get_put_same _ _ _))
theorem ids0 {k : Nat} (hk : k = 13 ∨ k = 15) (n b r : Nat) (m : M) {own : Own} {t : Nat} {cs : List V} (h1 : m.get b = some (.cells (.map r :: cs) own t)) (h2 : m.get r = some (.map [])) : callF W1 (n + 1) k [.ptr b 0] m = .ok .snil m := by
  rcases hk with rfl | rfl
  all_goals
    rw [callF_prim (p := pIds 3) (by kernel_rfl)]
    simp [pIds, loadAt, h1, h2, partV, opt, keysI]
theorem st7 (w h t : Int) (b n : Nat) (m : M) (hn : NewAt w h t b m) : ∃ m', callF W1 (n + 3) 7 [.ptr (b + 7) 0] m = .ok (.agg [.snil, .snil]) m' ∧ Ext m m' := by
  have hb := hn.lt
  have e1 := hn.st
  have e2 := hn.s
  have e3 := hn.sm
  have e4 := hn.w
  have e5 := hn.wm
  have l1 : decide ((0 : Int) < 0) = false := rfl
  refine call_of (l := [.agg [.snil, .snil]]) (T := fun m' => Ext m m') prim7 get7 rfl (D7_eq W1 (callF W1 (n + 2)) (n + 2) (.ptr (b + 7) 0) m) ?_
  generalize hQ : Rets [.agg [.snil, .snil]] (fun m' => Ext m m') = Q
  unfold D7
  repeat (first
    | refine c_yes ?_
    | refine c_no ?_
    | refine t1 ?_
    | refine blk ?_
    | refine loop1 ?_
    | refine l_norm ?_
    | refine l_exit ?_
    | refine l_ret ?_
    | refine b_norm ?_
    | refine b_exit ?_
    | refine b_out (by decide) ?_
    | refine b_ret ?_
    | refine join ?_
    | refine j_norm ?_
    | refine j_ret ?_
    | refine j_exit ?_
    | refine g_no rfl ?_
    | refine t_ok (k_call (ids0 (.inl rfl) _ _ _ _ (by first | assumption | exact M.get_new_same _ _ | exact M.get_put_same _ _ _ | ((repeat (first | refine (M.get_new_ne _ _ _ (by first | omega | (simp only [M.n_new, M.n_put]; omega))).trans ?_ | refine (M.get_put_ne _ _ _ _ (by first | omega | (simp only [M.n_new, M.n_put]; omega))).trans ?_ | refine (Ext.get (by assumption) _ (by first | omega | (simp only [M.n_new, M.n_put]; omega))).trans ?_)); first | assumption | exact M.get_new_same _ _ | exact M.get_put_same _ _ _)) (by first | assumption | exact M.get_new_same _ _ | exact M.get_put_same _ _ _ | ((repeat (first | refine (M.get_new_ne _ _ _ (by first | omega | (simp only [M.n_new, M.n_put]; omega))).trans ?_ | refine (M.get_put_ne _ _ _ _ (by first | omega | (simp only [M.n_new, M.n_put]; omega))).trans ?_ | refine (Ext.get (by assumption) _ (by first | omega | (simp only [M.n_new, M.n_put]; omega))).trans ?_)); first | assumption | exact M.get_new_same _ _ | exact M.get_put_same _ _ _)))) ?_
    | refine t_ok (k_call (ids0 (.inr rfl) _ _ _ _ (by first | assumption | exact M.get_new_same _ _ | exact M.get_put_same _ _ _ | ((repeat (first | refine (M.get_new_ne _ _ _ (by first | omega | (simp only [M.n_new, M.n_put]; omega))).trans ?_ | refine (M.get_put_ne _ _ _ _ (by first | omega | (simp only [M.n_new, M.n_put]; omega))).trans ?_ | refine (Ext.get (by assumption) _ (by first | omega | (simp only [M.n_new, M.n_put]; omega))).trans ?_)); first | assumption | exact M.get_new_same _ _ | exact M.get_put_same _ _ _)) (by first | assumption | exact M.get_new_same _ _ | exact M.get_put_same _ _ _ | ((repeat (first | refine (M.get_new_ne _ _ _ (by first | omega | (simp only [M.n_new, M.n_put]; omega))).trans ?_ | refine (M.get_put_ne _ _ _ _ (by first | omega | (simp only [M.n_new, M.n_put]; omega))).trans ?_ | refine (Ext.get (by assumption) _ (by first | omega | (simp only [M.n_new, M.n_put]; omega))).trans ?_)); first | assumption | exact M.get_new_same _ _ | exact M.get_put_same _ _ _)))) ?_
    | refine t_ok (k_load (by first | assumption | exact M.get_new_same _ _ | exact M.get_put_same _ _ _ | ((repeat (first | refine (M.get_new_ne _ _ _ (by first | omega | (simp only [M.n_new, M.n_put]; omega))).trans ?_ | refine (M.get_put_ne _ _ _ _ (by first | omega | (simp only [M.n_new, M.n_put]; omega))).trans ?_ | refine (Ext.get (by assumption) _ (by first | omega | (simp only [M.n_new, M.n_put]; omega))).trans ?_)); first | assumption | exact M.get_new_same _ _ | exact M.get_put_same _ _ _)) (by first | (simp only [Nat.zero_mul, Nat.mul_one, Nat.one_mul, Nat.reduceMul, partV, cond_true, cond_false, splice, slice1, List.take_succ_cons, List.take_zero, List.take_nil, List.drop_succ_cons, List.drop_zero, List.drop_nil, List.nil_append, List.cons_append, List.append_nil, List.length_cons, List.length_nil, Nat.zero_add, Nat.add_zero, Nat.reduceAdd, Nat.reduceLeDiff, ↓reduceIte, Nat.le_refl, List.getElem?_cons_zero, List.getElem?_cons_succ]; done) | (simp only [Nat.zero_mul, Nat.mul_one, Nat.one_mul, Nat.reduceMul, partV, cond_true, cond_false, splice, slice1, List.take_succ_cons, List.take_zero, List.take_nil, List.drop_succ_cons, List.drop_zero, List.drop_nil, List.nil_append, List.cons_append, List.append_nil, List.length_cons, List.length_nil, Nat.zero_add, Nat.add_zero, Nat.reduceAdd, Nat.reduceLeDiff, ↓reduceIte, Nat.le_refl, List.getElem?_cons_zero, List.getElem?_cons_succ]; rfl) | rfl)) ?_
    | refine t_ok (k_put (by first | assumption | exact M.get_new_same _ _ | exact M.get_put_same _ _ _ | ((repeat (first | refine (M.get_new_ne _ _ _ (by first | omega | (simp only [M.n_new, M.n_put]; omega))).trans ?_ | refine (M.get_put_ne _ _ _ _ (by first | omega | (simp only [M.n_new, M.n_put]; omega))).trans ?_ | refine (Ext.get (by assumption) _ (by first | omega | (simp only [M.n_new, M.n_put]; omega))).trans ?_)); first | assumption | exact M.get_new_same _ _ | exact M.get_put_same _ _ _)) rfl rfl rfl (by first | decide | (simp only [Nat.zero_mul, Nat.mul_one, Nat.one_mul, Nat.reduceMul, partV, cond_true, cond_false, splice, slice1, List.take_succ_cons, List.take_zero, List.take_nil, List.drop_succ_cons, List.drop_zero, List.drop_nil, List.nil_append, List.cons_append, List.append_nil, List.length_cons, List.length_nil, Nat.zero_add, Nat.add_zero, Nat.reduceAdd, Nat.reduceLeDiff, ↓reduceIte, Nat.le_refl, List.getElem?_cons_zero, List.getElem?_cons_succ]; done) | (simp only [Nat.zero_mul, Nat.mul_one, Nat.one_mul, Nat.reduceMul, partV, cond_true, cond_false, splice, slice1, List.take_succ_cons, List.take_zero, List.take_nil, List.drop_succ_cons, List.drop_zero, List.drop_nil, List.nil_append, List.cons_append, List.append_nil, List.length_cons, List.length_nil, Nat.zero_add, Nat.add_zero, Nat.reduceAdd, Nat.reduceLeDiff, ↓reduceIte, Nat.le_refl, List.getElem?_cons_zero, List.getElem?_cons_succ]; omega)) (by first | (simp only [Nat.zero_mul, Nat.mul_one, Nat.one_mul, Nat.reduceMul, partV, cond_true, cond_false, splice, slice1, List.take_succ_cons, List.take_zero, List.take_nil, List.drop_succ_cons, List.drop_zero, List.drop_nil, List.nil_append, List.cons_append, List.append_nil, List.length_cons, List.length_nil, Nat.zero_add, Nat.add_zero, Nat.reduceAdd, Nat.reduceLeDiff, ↓reduceIte, Nat.le_refl, List.getElem?_cons_zero, List.getElem?_cons_succ]; done) | (simp only [Nat.zero_mul, Nat.mul_one, Nat.one_mul, Nat.reduceMul, partV, cond_true, cond_false, splice, slice1, List.take_succ_cons, List.take_zero, List.take_nil, List.drop_succ_cons, List.drop_zero, List.drop_nil, List.nil_append, List.cons_append, List.append_nil, List.length_cons, List.length_nil, Nat.zero_add, Nat.add_zero, Nat.reduceAdd, Nat.reduceLeDiff, ↓reduceIte, Nat.le_refl, List.getElem?_cons_zero, List.getElem?_cons_succ]; rfl) | rfl)) ?_
    | refine t_ok (k_addN (by omega)) ?_
    | refine t_ok (k_idxArr (natOf_ofNat _ _) (by decide)) ?_
    | refine t_ok (k_idx (natOf_ofNat _ _) (by omega)) ?_
    | refine t_ok (k_idxArr (natOf_ofNat _ _) (by omega)) ?_
    | refine t_ok (k_lss (by assumption)) ?_
    | refine t_ok (k_leq (by assumption)) ?_
    | refine t_ok (k_gtr (by assumption)) ?_
    | refine t_ok (k_geq (by assumption)) ?_
    | refine t_ok (k_eqInt (by assumption)) ?_
    | refine t_ok (k_eqStr (by assumption)) ?_
    | refine t_ok rfl ?_
    | refine g_yes rfl (k_call (ids0 (.inl rfl) _ _ _ _ (by first | assumption | exact M.get_new_same _ _ | exact M.get_put_same _ _ _ | ((repeat (first | refine (M.get_new_ne _ _ _ (by first | omega | (simp only [M.n_new, M.n_put]; omega))).trans ?_ | refine (M.get_put_ne _ _ _ _ (by first | omega | (simp only [M.n_new, M.n_put]; omega))).trans ?_ | refine (Ext.get (by assumption) _ (by first | omega | (simp only [M.n_new, M.n_put]; omega))).trans ?_)); first | assumption | exact M.get_new_same _ _ | exact M.get_put_same _ _ _)) (by first | assumption | exact M.get_new_same _ _ | exact M.get_put_same _ _ _ | ((repeat (first | refine (M.get_new_ne _ _ _ (by first | omega | (simp only [M.n_new, M.n_put]; omega))).trans ?_ | refine (M.get_put_ne _ _ _ _ (by first | omega | (simp only [M.n_new, M.n_put]; omega))).trans ?_ | refine (Ext.get (by assumption) _ (by first | omega | (simp only [M.n_new, M.n_put]; omega))).trans ?_)); first | assumption | exact M.get_new_same _ _ | exact M.get_put_same _ _ _)))) ?_
    | refine g_yes rfl (k_call (ids0 (.inr rfl) _ _ _ _ (by first | assumption | exact M.get_new_same _ _ | exact M.get_put_same _ _ _ | ((repeat (first | refine (M.get_new_ne _ _ _ (by first | omega | (simp only [M.n_new, M.n_put]; omega))).trans ?_ | refine (M.get_put_ne _ _ _ _ (by first | omega | (simp only [M.n_new, M.n_put]; omega))).trans ?_ | refine (Ext.get (by assumption) _ (by first | omega | (simp only [M.n_new, M.n_put]; omega))).trans ?_)); first | assumption | exact M.get_new_same _ _ | exact M.get_put_same _ _ _)) (by first | assumption | exact M.get_new_same _ _ | exact M.get_put_same _ _ _ | ((repeat (first | refine (M.get_new_ne _ _ _ (by first | omega | (simp only [M.n_new, M.n_put]; omega))).trans ?_ | refine (M.get_put_ne _ _ _ _ (by first | omega | (simp only [M.n_new, M.n_put]; omega))).trans ?_ | refine (Ext.get (by assumption) _ (by first | omega | (simp only [M.n_new, M.n_put]; omega))).trans ?_)); first | assumption | exact M.get_new_same _ _ | exact M.get_put_same _ _ _)))) ?_
    | refine g_yes rfl (k_load (by first | assumption | exact M.get_new_same _ _ | exact M.get_put_same _ _ _ | ((repeat (first | refine (M.get_new_ne _ _ _ (by first | omega | (simp only [M.n_new, M.n_put]; omega))).trans ?_ | refine (M.get_put_ne _ _ _ _ (by first | omega | (simp only [M.n_new, M.n_put]; omega))).trans ?_ | refine (Ext.get (by assumption) _ (by first | omega | (simp only [M.n_new, M.n_put]; omega))).trans ?_)); first | assumption | exact M.get_new_same _ _ | exact M.get_put_same _ _ _)) (by first | (simp only [Nat.zero_mul, Nat.mul_one, Nat.one_mul, Nat.reduceMul, partV, cond_true, cond_false, splice, slice1, List.take_succ_cons, List.take_zero, List.take_nil, List.drop_succ_cons, List.drop_zero, List.drop_nil, List.nil_append, List.cons_append, List.append_nil, List.length_cons, List.length_nil, Nat.zero_add, Nat.add_zero, Nat.reduceAdd, Nat.reduceLeDiff, ↓reduceIte, Nat.le_refl, List.getElem?_cons_zero, List.getElem?_cons_succ]; done) | (simp only [Nat.zero_mul, Nat.mul_one, Nat.one_mul, Nat.reduceMul, partV, cond_true, cond_false, splice, slice1, List.take_succ_cons, List.take_zero, List.take_nil, List.drop_succ_cons, List.drop_zero, List.drop_nil, List.nil_append, List.cons_append, List.append_nil, List.length_cons, List.length_nil, Nat.zero_add, Nat.add_zero, Nat.reduceAdd, Nat.reduceLeDiff, ↓reduceIte, Nat.le_refl, List.getElem?_cons_zero, List.getElem?_cons_succ]; rfl) | rfl)) ?_
    | refine g_yes rfl (k_lss (by assumption)) ?_
    | refine g_yes rfl (k_leq (by assumption)) ?_
    | refine g_yes rfl (k_gtr (by assumption)) ?_
    | refine g_yes rfl (k_geq (by assumption)) ?_
    | refine g_yes rfl (k_eqInt (by assumption)) ?_
    | refine g_yes rfl (k_eqStr (by assumption)) ?_
    | refine g_yes rfl rfl ?_
    | refine ret_of (resV_cell (by first | assumption | exact M.get_new_same _ _ | exact M.get_put_same _ _ _ | ((repeat (first | refine (M.get_new_ne _ _ _ (by first | omega | (simp only [M.n_new, M.n_put]; omega))).trans ?_ | refine (M.get_put_ne _ _ _ _ (by first | omega | (simp only [M.n_new, M.n_put]; omega))).trans ?_ | refine (Ext.get (by assumption) _ (by first | omega | (simp only [M.n_new, M.n_put]; omega))).trans ?_)); first | assumption | exact M.get_new_same _ _ | exact M.get_put_same _ _ _)) (by first | (simp only [Nat.zero_mul, Nat.mul_one, Nat.one_mul, Nat.reduceMul, partV, cond_true, cond_false, splice, slice1, List.take_succ_cons, List.take_zero, List.take_nil, List.drop_succ_cons, List.drop_zero, List.drop_nil, List.nil_append, List.cons_append, List.append_nil, List.length_cons, List.length_nil, Nat.zero_add, Nat.add_zero, Nat.reduceAdd, Nat.reduceLeDiff, ↓reduceIte, Nat.le_refl, List.getElem?_cons_zero, List.getElem?_cons_succ]; done) | (simp only [Nat.zero_mul, Nat.mul_one, Nat.one_mul, Nat.reduceMul, partV, cond_true, cond_false, splice, slice1, List.take_succ_cons, List.take_zero, List.take_nil, List.drop_succ_cons, List.drop_zero, List.drop_nil, List.nil_append, List.cons_append, List.append_nil, List.length_cons, List.length_nil, Nat.zero_add, Nat.add_zero, Nat.reduceAdd, Nat.reduceLeDiff, ↓reduceIte, Nat.le_refl, List.getElem?_cons_zero, List.getElem?_cons_succ]; rfl) | rfl) resV_nil) ?_)
  subst hQ
  exact Rets.mk (by repeat (first | exact Ext.refl _ | refine Ext.push ?_ _ | refine Ext.put ?_ (by first | omega | (simp only [M.n_new, M.n_put]; omega)) _ | refine Ext.trans ?_ (by assumption)))
theorem cfg5 (w h t : Int) (b n : Nat) (m : M) (hn : NewAt w h t b m) : ∃ m', callF W1 (n + 1) 5 [.ptr (b + 7) 0] m = .ok (.agg (c3 w h t)) m' ∧ Ext m m' := by
  have hb := hn.lt
  have e1 := hn.st
  refine call_of (l := [.agg (c3 w h t)]) (T := fun m' => Ext m m') prim5 get5 rfl (D5_eq W1 (callF W1 n) n (.ptr (b + 7) 0) m) ?_
  generalize hQ : Rets [.agg (c3 w h t)] (fun m' => Ext m m') = Q
  unfold D5
  repeat (first
    | refine c_yes ?_
    | refine c_no ?_
    | refine t1 ?_
    | refine blk ?_
    | refine b_norm ?_
    | refine b_exit ?_
    | refine b_out (by decide) ?_
    | refine b_ret ?_
    | refine join ?_
    | refine j_norm ?_
    | refine j_ret ?_
    | refine j_exit ?_
    | refine g_no rfl ?_
    | refine t_ok (k_load (by first | assumption | exact M.get_new_same _ _ | exact M.get_put_same _ _ _ | ((repeat (first | refine (M.get_new_ne _ _ _ (by first | omega | (simp only [M.n_new, M.n_put]; omega))).trans ?_ | refine (M.get_put_ne _ _ _ _ (by first | omega | (simp only [M.n_new, M.n_put]; omega))).trans ?_ | refine (Ext.get (by assumption) _ (by first | omega | (simp only [M.n_new, M.n_put]; omega))).trans ?_)); first | assumption | exact M.get_new_same _ _ | exact M.get_put_same _ _ _)) (by first | (simp only [Nat.zero_mul, Nat.mul_one, Nat.one_mul, Nat.reduceMul, partV, cond_true, cond_false, splice, slice1, List.take_succ_cons, List.take_zero, List.take_nil, List.drop_succ_cons, List.drop_zero, List.drop_nil, List.nil_append, List.cons_append, List.append_nil, List.length_cons, List.length_nil, Nat.zero_add, Nat.add_zero, Nat.reduceAdd, Nat.reduceLeDiff, ↓reduceIte, Nat.le_refl, List.getElem?_cons_zero, List.getElem?_cons_succ]; done) | (simp only [Nat.zero_mul, Nat.mul_one, Nat.one_mul, Nat.reduceMul, partV, cond_true, cond_false, splice, slice1, List.take_succ_cons, List.take_zero, List.take_nil, List.drop_succ_cons, List.drop_zero, List.drop_nil, List.nil_append, List.cons_append, List.append_nil, List.length_cons, List.length_nil, Nat.zero_add, Nat.add_zero, Nat.reduceAdd, Nat.reduceLeDiff, ↓reduceIte, Nat.le_refl, List.getElem?_cons_zero, List.getElem?_cons_succ]; rfl) | rfl)) ?_
    | refine t_ok (k_put (by first | assumption | exact M.get_new_same _ _ | exact M.get_put_same _ _ _ | ((repeat (first | refine (M.get_new_ne _ _ _ (by first | omega | (simp only [M.n_new, M.n_put]; omega))).trans ?_ | refine (M.get_put_ne _ _ _ _ (by first | omega | (simp only [M.n_new, M.n_put]; omega))).trans ?_ | refine (Ext.get (by assumption) _ (by first | omega | (simp only [M.n_new, M.n_put]; omega))).trans ?_)); first | assumption | exact M.get_new_same _ _ | exact M.get_put_same _ _ _)) rfl rfl rfl (by first | decide | (simp only [Nat.zero_mul, Nat.mul_one, Nat.one_mul, Nat.reduceMul, partV, cond_true, cond_false, splice, slice1, List.take_succ_cons, List.take_zero, List.take_nil, List.drop_succ_cons, List.drop_zero, List.drop_nil, List.nil_append, List.cons_append, List.append_nil, List.length_cons, List.length_nil, Nat.zero_add, Nat.add_zero, Nat.reduceAdd, Nat.reduceLeDiff, ↓reduceIte, Nat.le_refl, List.getElem?_cons_zero, List.getElem?_cons_succ]; done) | (simp only [Nat.zero_mul, Nat.mul_one, Nat.one_mul, Nat.reduceMul, partV, cond_true, cond_false, splice, slice1, List.take_succ_cons, List.take_zero, List.take_nil, List.drop_succ_cons, List.drop_zero, List.drop_nil, List.nil_append, List.cons_append, List.append_nil, List.length_cons, List.length_nil, Nat.zero_add, Nat.add_zero, Nat.reduceAdd, Nat.reduceLeDiff, ↓reduceIte, Nat.le_refl, List.getElem?_cons_zero, List.getElem?_cons_succ]; omega)) (by first | (simp only [Nat.zero_mul, Nat.mul_one, Nat.one_mul, Nat.reduceMul, partV, cond_true, cond_false, splice, slice1, List.take_succ_cons, List.take_zero, List.take_nil, List.drop_succ_cons, List.drop_zero, List.drop_nil, List.nil_append, List.cons_append, List.append_nil, List.length_cons, List.length_nil, Nat.zero_add, Nat.add_zero, Nat.reduceAdd, Nat.reduceLeDiff, ↓reduceIte, Nat.le_refl, List.getElem?_cons_zero, List.getElem?_cons_succ]; done) | (simp only [Nat.zero_mul, Nat.mul_one, Nat.one_mul, Nat.reduceMul, partV, cond_true, cond_false, splice, slice1, List.take_succ_cons, List.take_zero, List.take_nil, List.drop_succ_cons, List.drop_zero, List.drop_nil, List.nil_append, List.cons_append, List.append_nil, List.length_cons, List.length_nil, Nat.zero_add, Nat.add_zero, Nat.reduceAdd, Nat.reduceLeDiff, ↓reduceIte, Nat.le_refl, List.getElem?_cons_zero, List.getElem?_cons_succ]; rfl) | rfl)) ?_
    | refine t_ok rfl ?_
    | refine g_yes rfl (k_load (by first | assumption | exact M.get_new_same _ _ | exact M.get_put_same _ _ _ | ((repeat (first | refine (M.get_new_ne _ _ _ (by first | omega | (simp only [M.n_new, M.n_put]; omega))).trans ?_ | refine (M.get_put_ne _ _ _ _ (by first | omega | (simp only [M.n_new, M.n_put]; omega))).trans ?_ | refine (Ext.get (by assumption) _ (by first | omega | (simp only [M.n_new, M.n_put]; omega))).trans ?_)); first | assumption | exact M.get_new_same _ _ | exact M.get_put_same _ _ _)) (by first | (simp only [Nat.zero_mul, Nat.mul_one, Nat.one_mul, Nat.reduceMul, partV, cond_true, cond_false, splice, slice1, List.take_succ_cons, List.take_zero, List.take_nil, List.drop_succ_cons, List.drop_zero, List.drop_nil, List.nil_append, List.cons_append, List.append_nil, List.length_cons, List.length_nil, Nat.zero_add, Nat.add_zero, Nat.reduceAdd, Nat.reduceLeDiff, ↓reduceIte, Nat.le_refl, List.getElem?_cons_zero, List.getElem?_cons_succ]; done) | (simp only [Nat.zero_mul, Nat.mul_one, Nat.one_mul, Nat.reduceMul, partV, cond_true, cond_false, splice, slice1, List.take_succ_cons, List.take_zero, List.take_nil, List.drop_succ_cons, List.drop_zero, List.drop_nil, List.nil_append, List.cons_append, List.append_nil, List.length_cons, List.length_nil, Nat.zero_add, Nat.add_zero, Nat.reduceAdd, Nat.reduceLeDiff, ↓reduceIte, Nat.le_refl, List.getElem?_cons_zero, List.getElem?_cons_succ]; rfl) | rfl)) ?_
    | refine g_yes rfl rfl ?_
    | refine ret_of (resV_cell (by first | assumption | exact M.get_new_same _ _ | exact M.get_put_same _ _ _ | ((repeat (first | refine (M.get_new_ne _ _ _ (by first | omega | (simp only [M.n_new, M.n_put]; omega))).trans ?_ | refine (M.get_put_ne _ _ _ _ (by first | omega | (simp only [M.n_new, M.n_put]; omega))).trans ?_ | refine (Ext.get (by assumption) _ (by first | omega | (simp only [M.n_new, M.n_put]; omega))).trans ?_)); first | assumption | exact M.get_new_same _ _ | exact M.get_put_same _ _ _)) (by first | (simp only [Nat.zero_mul, Nat.mul_one, Nat.one_mul, Nat.reduceMul, partV, cond_true, cond_false, splice, slice1, List.take_succ_cons, List.take_zero, List.take_nil, List.drop_succ_cons, List.drop_zero, List.drop_nil, List.nil_append, List.cons_append, List.append_nil, List.length_cons, List.length_nil, Nat.zero_add, Nat.add_zero, Nat.reduceAdd, Nat.reduceLeDiff, ↓reduceIte, Nat.le_refl, List.getElem?_cons_zero, List.getElem?_cons_succ]; done) | (simp only [Nat.zero_mul, Nat.mul_one, Nat.one_mul, Nat.reduceMul, partV, cond_true, cond_false, splice, slice1, List.take_succ_cons, List.take_zero, List.take_nil, List.drop_succ_cons, List.drop_zero, List.drop_nil, List.nil_append, List.cons_append, List.append_nil, List.length_cons, List.length_nil, Nat.zero_add, Nat.add_zero, Nat.reduceAdd, Nat.reduceLeDiff, ↓reduceIte, Nat.le_refl, List.getElem?_cons_zero, List.getElem?_cons_succ]; rfl) | rfl) resV_nil) ?_)
  subst hQ
  exact Rets.mk (by repeat (first | exact Ext.refl _ | refine Ext.push ?_ _ | refine Ext.put ?_ (by first | omega | (simp only [M.n_new, M.n_put]; omega)) _ | refine Ext.trans ?_ (by assumption)))
theorem same6 (n : Nat) (m : M) : ∃ m', callF W1 (n + 3) 6 [.agg [.snil, .snil], .agg [.snil, .snil]] m = .ok (.bool true) m' ∧ Ext m m' := by
  have l1 : decide ((0 : Int) < 0) = false := rfl
  have l2 : decide ((0 : Int) = 0) = true := rfl
  refine call_of (l := [.bool true]) (T := fun m' => Ext m m') prim6 get6 rfl (D6_eq W1 (callF W1 (n + 2)) (n + 2) (.agg [.snil, .snil]) (.agg [.snil, .snil]) m) ?_
  generalize hQ : Rets [.bool true] (fun m' => Ext m m') = Q
  unfold D6
  repeat (first
    | refine c_yes ?_
    | refine c_no ?_
    | refine t1 ?_
    | refine blk ?_
    | refine loop1 ?_
    | refine l_norm ?_
    | refine l_exit ?_
    | refine l_ret ?_
    | refine b_norm ?_
    | refine b_exit ?_
    | refine b_out (by decide) ?_
    | refine b_ret ?_
    | refine join ?_
    | refine j_norm ?_
    | refine j_ret ?_
    | refine j_exit ?_
    | refine g_no rfl ?_
    | refine t_ok (k_load (by first | assumption | exact M.get_new_same _ _ | exact M.get_put_same _ _ _ | ((repeat (first | refine (M.get_new_ne _ _ _ (by first | omega | (simp only [M.n_new, M.n_put]; omega))).trans ?_ | refine (M.get_put_ne _ _ _ _ (by first | omega | (simp only [M.n_new, M.n_put]; omega))).trans ?_ | refine (Ext.get (by assumption) _ (by first | omega | (simp only [M.n_new, M.n_put]; omega))).trans ?_)); first | assumption | exact M.get_new_same _ _ | exact M.get_put_same _ _ _)) (by first | (simp only [Nat.zero_mul, Nat.mul_one, Nat.one_mul, Nat.reduceMul, partV, cond_true, cond_false, splice, slice1, List.take_succ_cons, List.take_zero, List.take_nil, List.drop_succ_cons, List.drop_zero, List.drop_nil, List.nil_append, List.cons_append, List.append_nil, List.length_cons, List.length_nil, Nat.zero_add, Nat.add_zero, Nat.reduceAdd, Nat.reduceLeDiff, ↓reduceIte, Nat.le_refl, List.getElem?_cons_zero, List.getElem?_cons_succ]; done) | (simp only [Nat.zero_mul, Nat.mul_one, Nat.one_mul, Nat.reduceMul, partV, cond_true, cond_false, splice, slice1, List.take_succ_cons, List.take_zero, List.take_nil, List.drop_succ_cons, List.drop_zero, List.drop_nil, List.nil_append, List.cons_append, List.append_nil, List.length_cons, List.length_nil, Nat.zero_add, Nat.add_zero, Nat.reduceAdd, Nat.reduceLeDiff, ↓reduceIte, Nat.le_refl, List.getElem?_cons_zero, List.getElem?_cons_succ]; rfl) | rfl)) ?_
    | refine t_ok (k_addN (by omega)) ?_
    | refine t_ok (k_idxArr (natOf_ofNat _ _) (by decide)) ?_
    | refine t_ok (k_idx (natOf_ofNat _ _) (by omega)) ?_
    | refine t_ok (k_idxArr (natOf_ofNat _ _) (by omega)) ?_
    | refine t_ok (k_lss (by assumption)) ?_
    | refine t_ok (k_leq (by assumption)) ?_
    | refine t_ok (k_gtr (by assumption)) ?_
    | refine t_ok (k_geq (by assumption)) ?_
    | refine t_ok (k_eqInt (by assumption)) ?_
    | refine t_ok (k_eqStr (by assumption)) ?_
    | refine t_ok rfl ?_
    | refine g_yes rfl (k_load (by first | assumption | exact M.get_new_same _ _ | exact M.get_put_same _ _ _ | ((repeat (first | refine (M.get_new_ne _ _ _ (by first | omega | (simp only [M.n_new, M.n_put]; omega))).trans ?_ | refine (M.get_put_ne _ _ _ _ (by first | omega | (simp only [M.n_new, M.n_put]; omega))).trans ?_ | refine (Ext.get (by assumption) _ (by first | omega | (simp only [M.n_new, M.n_put]; omega))).trans ?_)); first | assumption | exact M.get_new_same _ _ | exact M.get_put_same _ _ _)) (by first | (simp only [Nat.zero_mul, Nat.mul_one, Nat.one_mul, Nat.reduceMul, partV, cond_true, cond_false, splice, slice1, List.take_succ_cons, List.take_zero, List.take_nil, List.drop_succ_cons, List.drop_zero, List.drop_nil, List.nil_append, List.cons_append, List.append_nil, List.length_cons, List.length_nil, Nat.zero_add, Nat.add_zero, Nat.reduceAdd, Nat.reduceLeDiff, ↓reduceIte, Nat.le_refl, List.getElem?_cons_zero, List.getElem?_cons_succ]; done) | (simp only [Nat.zero_mul, Nat.mul_one, Nat.one_mul, Nat.reduceMul, partV, cond_true, cond_false, splice, slice1, List.take_succ_cons, List.take_zero, List.take_nil, List.drop_succ_cons, List.drop_zero, List.drop_nil, List.nil_append, List.cons_append, List.append_nil, List.length_cons, List.length_nil, Nat.zero_add, Nat.add_zero, Nat.reduceAdd, Nat.reduceLeDiff, ↓reduceIte, Nat.le_refl, List.getElem?_cons_zero, List.getElem?_cons_succ]; rfl) | rfl)) ?_
    | refine g_yes rfl (k_lss (by assumption)) ?_
    | refine g_yes rfl (k_leq (by assumption)) ?_
    | refine g_yes rfl (k_gtr (by assumption)) ?_
    | refine g_yes rfl (k_geq (by assumption)) ?_
    | refine g_yes rfl (k_eqInt (by assumption)) ?_
    | refine g_yes rfl (k_eqStr (by assumption)) ?_
    | refine g_yes rfl rfl ?_)
  subst hQ
  exact Rets.mk (((Ext.refl m).push _).push _)
end Go.Proofs.YtkceoangoobbkaaGreatDoor.Ir
