/- The numbers that layer 7 names: the printed function of StoreConsts answers true, with twelve rounds of its loop. No condition. -/
import Derived.Test.YtkceoangoobbkaaPStoreConstsx1
import Derived.KernelRfl
namespace Go.Proofs.Ytkceoangoobbkaa.Pure
open Go.RowKit Go.Proofs.Ytkceoangoobbkaa.PStoreConsts Go.Proofs.YtkceoangoobbkaaW.PrintWords Go.Proofs.YtkceoangoobbkaaW.PrintLast

theorem StoreConsts : mullionlaw07_StoreConsts.Pure := ⟨20, by kernel_rfl⟩

end Go.Proofs.Ytkceoangoobbkaa.Pure
