/- slices.Clone: the same elements, in a row of one's own. Condition: their bytes are no more than 2^47. -/
import Derived.Test.YtaepllhjnbencaaGreatDoorMuDirP
import Derived.Test.YtaepllhjnbencaaGreatDoorMuState
set_option linter.unusedVariables false
set_option linter.unusedSimpArgs false
set_option maxRecDepth 100000
set_option maxHeartbeats 4000000
namespace Go.Proofs.YtaepllhjnbencaaGreatDoor.Ir
open Mu
attribute [local irreducible] R.to R.sure guarded pureD readD effD allocD ifX cnd take1 blkF joinF loopF retX gd callF exec2 M.get
theorem c_CloneSession {k n : Nat} {m : M} {v : V} {cs : List V} (h : Sli m v 5 cs n) (hb : n * 64 ≤ 140737488355328) : ∃ v' m', callF W1 (k + 1) 101 [v] m = .ok v' m' ∧ Ext m m' ∧ Mine m.n m' v' 5 60 cs n := by
  have key : RetE (fun l m' => ∃ v', l = [v'] ∧ Ext m m' ∧ Mine m.n m' v' 5 60 cs n) (D101 W1 (callF W1 k) k v m) := by
    generalize hQ : RetE (fun l m' => ∃ v', l = [v'] ∧ Ext m m' ∧ Mine m.n m' v' 5 60 cs n) = Q
    unfold D101
    rcases h.is with ⟨rfl, rfl⟩ | ⟨b, o, cap, ex, own, t, all, rfl, _⟩
    · refine t_ok (k_eql (b := true) rfl) ?_
      refine c_yes ?_
      subst hQ
      exact RetE.mk ⟨_, rfl, Ext.refl _, h.len, .inl ⟨rfl, rfl⟩⟩
    · refine t_ok (k_eql (b := false) rfl) ?_
      refine c_no ?_
      refine t_ok rfl ?_
      obtain ⟨v', m', h1, h2, h3⟩ := clone_append (W := W1) (call := callF W1 k) (t := 60) h hb
      refine t_ok h1 ?_
      subst hQ
      exact RetE.mk ⟨_, rfl, h2, h3⟩
  obtain ⟨l, m', h1, v', rfl, h2, h3⟩ := callE prim101 get101 rfl (D101_eq W1 (callF W1 k) k v m) key
  exact ⟨v', m', h1, h2, h3⟩
theorem c_CloneWindow {k n : Nat} {m : M} {v : V} {cs : List V} (h : Sli m v 6 cs n) (hb : n * 72 ≤ 140737488355328) : ∃ v' m', callF W1 (k + 1) 102 [v] m = .ok v' m' ∧ Ext m m' ∧ Mine m.n m' v' 6 66 cs n := by
  have key : RetE (fun l m' => ∃ v', l = [v'] ∧ Ext m m' ∧ Mine m.n m' v' 6 66 cs n) (D102 W1 (callF W1 k) k v m) := by
    generalize hQ : RetE (fun l m' => ∃ v', l = [v'] ∧ Ext m m' ∧ Mine m.n m' v' 6 66 cs n) = Q
    unfold D102
    rcases h.is with ⟨rfl, rfl⟩ | ⟨b, o, cap, ex, own, t, all, rfl, _⟩
    · refine t_ok (k_eql (b := true) rfl) ?_
      refine c_yes ?_
      subst hQ
      exact RetE.mk ⟨_, rfl, Ext.refl _, h.len, .inl ⟨rfl, rfl⟩⟩
    · refine t_ok (k_eql (b := false) rfl) ?_
      refine c_no ?_
      refine t_ok rfl ?_
      obtain ⟨v', m', h1, h2, h3⟩ := clone_append (W := W1) (call := callF W1 k) (t := 66) h hb
      refine t_ok h1 ?_
      subst hQ
      exact RetE.mk ⟨_, rfl, h2, h3⟩
  obtain ⟨l, m', h1, v', rfl, h2, h3⟩ := callE prim102 get102 rfl (D102_eq W1 (callF W1 k) k v m) key
  exact ⟨v', m', h1, h2, h3⟩
theorem c_CloneLink {k n : Nat} {m : M} {v : V} {cs : List V} (h : Sli m v 2 cs n) (hb : n * 16 ≤ 140737488355328) : ∃ v' m', callF W1 (k + 1) 103 [v] m = .ok v' m' ∧ Ext m m' ∧ Mine m.n m' v' 2 73 cs n := by
  have key : RetE (fun l m' => ∃ v', l = [v'] ∧ Ext m m' ∧ Mine m.n m' v' 2 73 cs n) (D103 W1 (callF W1 k) k v m) := by
    generalize hQ : RetE (fun l m' => ∃ v', l = [v'] ∧ Ext m m' ∧ Mine m.n m' v' 2 73 cs n) = Q
    unfold D103
    rcases h.is with ⟨rfl, rfl⟩ | ⟨b, o, cap, ex, own, t, all, rfl, _⟩
    · refine t_ok (k_eql (b := true) rfl) ?_
      refine c_yes ?_
      subst hQ
      exact RetE.mk ⟨_, rfl, Ext.refl _, h.len, .inl ⟨rfl, rfl⟩⟩
    · refine t_ok (k_eql (b := false) rfl) ?_
      refine c_no ?_
      refine t_ok rfl ?_
      obtain ⟨v', m', h1, h2, h3⟩ := clone_append (W := W1) (call := callF W1 k) (t := 73) h hb
      refine t_ok h1 ?_
      subst hQ
      exact RetE.mk ⟨_, rfl, h2, h3⟩
  obtain ⟨l, m', h1, v', rfl, h2, h3⟩ := callE prim103 get103 rfl (D103_eq W1 (callF W1 k) k v m) key
  exact ⟨v', m', h1, h2, h3⟩
theorem c_CloneCell {k n : Nat} {m : M} {v : V} {cs : List V} (h : Sli m v 7 cs n) (hb : n * 56 ≤ 140737488355328) : ∃ v' m', callF W1 (k + 1) 104 [v] m = .ok v' m' ∧ Ext m m' ∧ Mine m.n m' v' 7 82 cs n := by
  have key : RetE (fun l m' => ∃ v', l = [v'] ∧ Ext m m' ∧ Mine m.n m' v' 7 82 cs n) (D104 W1 (callF W1 k) k v m) := by
    generalize hQ : RetE (fun l m' => ∃ v', l = [v'] ∧ Ext m m' ∧ Mine m.n m' v' 7 82 cs n) = Q
    unfold D104
    rcases h.is with ⟨rfl, rfl⟩ | ⟨b, o, cap, ex, own, t, all, rfl, _⟩
    · refine t_ok (k_eql (b := true) rfl) ?_
      refine c_yes ?_
      subst hQ
      exact RetE.mk ⟨_, rfl, Ext.refl _, h.len, .inl ⟨rfl, rfl⟩⟩
    · refine t_ok (k_eql (b := false) rfl) ?_
      refine c_no ?_
      refine t_ok rfl ?_
      obtain ⟨v', m', h1, h2, h3⟩ := clone_append (W := W1) (call := callF W1 k) (t := 82) h hb
      refine t_ok h1 ?_
      subst hQ
      exact RetE.mk ⟨_, rfl, h2, h3⟩
  obtain ⟨l, m', h1, v', rfl, h2, h3⟩ := callE prim104 get104 rfl (D104_eq W1 (callF W1 k) k v m) key
  exact ⟨v', m', h1, h2, h3⟩
end Go.Proofs.YtaepllhjnbencaaGreatDoor.Ir
