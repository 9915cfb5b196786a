/- The closed run works(): true. -/
import Derived.Test.YtaepllhjnbencaaGreatDoorMuWorks
set_option linter.unusedVariables false
set_option maxRecDepth 100000
namespace Go.Proofs.YtaepllhjnbencaaGreatDoor.Ir
open Mu
theorem works_runs : isT (callF W2 3000 15 [] ⟨.nil, 0⟩) = true := by decide +kernel
def W1 : Prg := ⟨W.fns, fun f => if f = 15 then some pTrue else W2.prims f, W.meth, W.ptrT, W.lies⟩
theorem ok1 : Ok Tryz.prog W1 names := by
  refine ⟨ok.mix, ⟨ok.ptrT.ptr, ok.ptrT.lies⟩, meth_ok _, ?_, ok.fns⟩
  intro f p hp
  by_cases h : f = 15
  · subst h
    have : W1.prims 15 = some pTrue := by kernel_rfl
    rw [this] at hp
    injection hp with hp
    subst hp
    exact closed_ok ok2 works_runs
  · have : W1.prims f = W2.prims f := if_neg h
    rw [this] at hp
    exact ok2.prims f p hp
end Go.Proofs.YtaepllhjnbencaaGreatDoor.Ir
