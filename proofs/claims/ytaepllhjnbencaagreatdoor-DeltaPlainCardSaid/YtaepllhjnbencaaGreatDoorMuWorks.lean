/- plan.body as a function that is known; the program in which it is so. -/
import Derived.Test.YtaepllhjnbencaaGreatDoorMuOkf
import Derived.Test.YtaepllhjnbencaaGreatDoorMuDefer2
import Derived.Test.YtaepllhjnbencaaGreatDoorMuClosed
set_option linter.unusedVariables false
set_option maxRecDepth 100000
namespace Go.Proofs.YtaepllhjnbencaaGreatDoor.Ir
open Mu
open Go (Value World Addr Program)
/-- plan.body -/
def pBody (args : List V) (m : M) : R :=
  match args with
  | [.str s] => pDefer W (callF W (s.length + 100)) (s.length + 100) F156 F196 196 (key 2) (key 3) (key 8) (key 2) [.str s] m
  | _ => .bad
theorem body_ok : PrimFact (156, pBody) := by
  intro args m hne ρ w xs hv hm
  change pBody args m ≠ .bad at hne
  change FnRuns Tryz.prog 156 xs w (Res ρ m w (pBody args m))
  unfold pBody at hne ⊢
  split at hne
  case h_2 => exact absurd rfl hne
  rename_i s
  have h := pDefer_sound ok (s.length + 100) fact156 fact196 (t2 := 2) (t3 := 3) (t8 := 8) (u2 := 2) (u5 := 5) rfl rfl rfl
    (by
      intro F code h1 h2
      have e1 : F = Tryz.f156 := Option.some.inj (h1.symm.trans Tryz.func156)
      subst e1
      have e2 : code = Tryz.f156.body.getD .skip := by rw [h2]; rfl
      subst e2
      exact ⟨of_decide_eq_true (by kernel_rfl), of_decide_eq_true (by kernel_rfl), of_decide_eq_true (by kernel_rfl), by kernel_rfl⟩)
    (by
      intro F code h1 h2
      have e1 : F = Tryz.f196 := Option.some.inj (h1.symm.trans Tryz.func196)
      subst e1
      have e2 : code = Tryz.f196.body.getD .skip := by rw [h2]; rfl
      subst e2
      exact ⟨of_decide_eq_true (by kernel_rfl), of_decide_eq_true (by kernel_rfl), of_decide_eq_true (by kernel_rfl), by kernel_rfl⟩)
    (by decide) (rsInB_ok (by kernel_rfl)) (by decide)
    (noDst_ok (by kernel_rfl)) (noDst_ok (by kernel_rfl)) (noDst_ok (by kernel_rfl)) (noDst_ok (by kernel_rfl)) [.str s] m rfl hne ρ w xs hv hm
  unfold FnRuns
  rw [h.1]
  exact h.2
/-- the program, plan.body being known -/
def W2 : Prg := ⟨W.fns, fun f => if f = 156 then some pBody else W.prims f, W.meth, W.ptrT, W.lies⟩
theorem ok2 : Ok Tryz.prog W2 names := by
  refine ⟨ok.mix, ⟨ok.ptrT.ptr, ok.ptrT.lies⟩, meth_ok _, ?_, ok.fns⟩
  intro f p hp
  by_cases h : f = 156
  · subst h
    have : W2.prims 156 = some pBody := by kernel_rfl
    rw [this] at hp
    injection hp with hp
    subst hp
    exact body_ok
  · have : W2.prims f = W.prims f := if_neg h
    rw [this] at hp
    exact ok.prims f p hp
end Go.Proofs.YtaepllhjnbencaaGreatDoor.Ir
