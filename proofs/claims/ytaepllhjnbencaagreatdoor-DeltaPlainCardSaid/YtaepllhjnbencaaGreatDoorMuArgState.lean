/- A state that came in: it lies in the abstract memory as a plain value. -/
import Derived.Test.YtaepllhjnbencaaGreatDoorMuArgs
import Derived.Test.YtaepllhjnbencaaGreatDoorMuState
import Derived.Test.YtaepllhjnbencaaGreatDoorProg
import Derived.KernelRfl
set_option linter.unusedVariables false
set_option linter.unusedSimpArgs false
set_option maxRecDepth 100000
namespace Go.Proofs.YtaepllhjnbencaaGreatDoor.Ir
open Mu
open Go (Value World Addr Program IntKind TypeId DataW MemPlace Field Lit)
theorem oInt : Opens Tryz.prog 3 SInt := opens_int (by kernel_rfl)
theorem oStr : Opens Tryz.prog 9 SStr := opens_str (by kernel_rfl)
theorem oBool : Opens Tryz.prog 4 SBool := opens_bool (by kernel_rfl)
/-- plain values that are read of rows -/
theorem lst_of {α : Type} {enc : α → List U} {ok : α → Prop} {es by_ : Nat} {S : List U → Prop} (h : ∀ us, S us → ∃ a, us = enc a ∧ ok a) {us : List U} (hs : SLst es by_ S us) : ∃ l : List α, us = [.lst es (l.flatMap enc)] ∧ (∀ a ∈ l, ok a) ∧ l.length * by_ ≤ 140737488351232 := by
  obtain ⟨uss, h1, h2, rfl⟩ := hs
  have : ∃ l : List α, uss = l.map enc ∧ ∀ a ∈ l, ok a := by
    clear h2
    induction uss with
    | nil => exact ⟨[], rfl, by simp⟩
    | cons u r ih =>
      obtain ⟨l, h3, h4⟩ := ih fun x hx => h1 x (List.mem_cons_of_mem _ hx)
      obtain ⟨a, h5, h6⟩ := h u (h1 u (List.mem_cons_self ..)).1
      exact ⟨a :: l, by rw [h3, h5]; rfl, by intro b hb; rcases List.mem_cons.1 hb with rfl | hb; exact h6; exact h4 b hb⟩
  obtain ⟨l, rfl, h4⟩ := this
  refine ⟨l, ?_, h4, by simpa using h2⟩
  rw [List.flatMap_def]
def SLnk : List U → Prop := SAll [SInt, SInt]
theorem oLnk : Opens Tryz.prog 73 SLnk := opens_struct Tryz.underlying73 (show Fields Tryz.prog 0 [_, _] [SInt, SInt] _ from ⟨by kernel_rfl, oInt, by kernel_rfl, oInt, (show _ = _ by kernel_rfl)⟩)
theorem SLnk.inv (us : List U) (h : SLnk us) : ∃ a, us = encLnk a ∧ Lnk.Wf a := by
  simp only [SLnk, SAll] at h
  obtain ⟨_, _, rfl, ⟨a, a1, a2, rfl⟩, _, _, rfl, ⟨b, b1, b2, rfl⟩, rfl⟩ := h
  exact ⟨⟨a, b⟩, rfl, ⟨a1, a2⟩, ⟨b1, b2⟩⟩
def SCell : List U → Prop := SAll [SInt, SInt, SInt, SInt, SInt, SInt, SInt]
theorem oCell : Opens Tryz.prog 82 SCell := opens_struct Tryz.underlying82 (show Fields Tryz.prog 0 [_, _, _, _, _, _, _] [SInt, SInt, SInt, SInt, SInt, SInt, SInt] _ from ⟨by kernel_rfl, oInt, by kernel_rfl, oInt, by kernel_rfl, oInt, by kernel_rfl, oInt, by kernel_rfl, oInt, by kernel_rfl, oInt, by kernel_rfl, oInt, (show _ = _ by kernel_rfl)⟩)
theorem SCell.inv (us : List U) (h : SCell us) : ∃ a, us = encCell a ∧ CellWf a := by
  simp only [SCell, SAll] at h
  obtain ⟨_, _, rfl, ⟨a, a1, a2, rfl⟩, _, _, rfl, ⟨b, b1, b2, rfl⟩, _, _, rfl, ⟨c, c1, c2, rfl⟩, _, _, rfl, ⟨d, d1, d2, rfl⟩, _, _, rfl, ⟨e, e1, e2, rfl⟩, _, _, rfl, ⟨f, f1, f2, rfl⟩, _, _, rfl, ⟨g, g1, g2, rfl⟩, rfl⟩ := h
  exact ⟨⟨a, b, c, d, e, f, g⟩, rfl, ⟨a1, a2⟩, ⟨b1, b2⟩, ⟨c1, c2⟩, ⟨d1, d2⟩, ⟨e1, e2⟩, ⟨f1, f2⟩, ⟨g1, g2⟩⟩
theorem oLnks : Opens Tryz.prog 58 (SLst 2 16 SLnk) := opens_slice (by kernel_rfl) (by kernel_rfl) (by kernel_rfl) (by decide) oLnk
theorem oCells : Opens Tryz.prog 64 (SLst 7 56 SCell) := opens_slice (by kernel_rfl) (by kernel_rfl) (by kernel_rfl) (by decide) oCell
def SSess : List U → Prop := SAll [SInt, SStr, SLst 2 16 SLnk, SInt, SInt]
theorem oSess : Opens Tryz.prog 60 SSess := opens_struct Tryz.underlying60 (show Fields Tryz.prog 0 [_, _, _, _, _] [SInt, SStr, SLst 2 16 SLnk, SInt, SInt] _ from ⟨by kernel_rfl, oInt, by kernel_rfl, oStr, by kernel_rfl, oLnks, by kernel_rfl, oInt, by kernel_rfl, oInt, (show _ = _ by kernel_rfl)⟩)
theorem SSess.inv (us : List U) (h : SSess us) : ∃ a, us = encSess a ∧ Sess.Wf a := by
  simp only [SSess, SAll] at h
  obtain ⟨_, _, rfl, ⟨a, a1, a2, rfl⟩, _, _, rfl, ⟨b, b1, rfl⟩, _, _, rfl, hc, _, _, rfl, ⟨d, d1, d2, rfl⟩, _, _, rfl, ⟨e, e1, e2, rfl⟩, rfl⟩ := h
  obtain ⟨c, rfl, c1, c2⟩ := lst_of SLnk.inv hc
  exact ⟨⟨a, b, c, d, e⟩, rfl, ⟨⟨a1, a2⟩, b1, c1, c2, ⟨d1, d2⟩, ⟨e1, e2⟩⟩⟩
def SWin : List U → Prop := SAll [SInt, SStr, SLst 7 56 SCell, SInt, SInt, SBool]
theorem oWin : Opens Tryz.prog 66 SWin := opens_struct Tryz.underlying66 (show Fields Tryz.prog 0 [_, _, _, _, _, _] [SInt, SStr, SLst 7 56 SCell, SInt, SInt, SBool] _ from ⟨by kernel_rfl, oInt, by kernel_rfl, oStr, by kernel_rfl, oCells, by kernel_rfl, oInt, by kernel_rfl, oInt, by kernel_rfl, oBool, (show _ = _ by kernel_rfl)⟩)
theorem SWin.inv (us : List U) (h : SWin us) : ∃ a, us = encWin a ∧ Win.Wf a := by
  simp only [SWin, SAll] at h
  obtain ⟨_, _, rfl, ⟨a, a1, a2, rfl⟩, _, _, rfl, ⟨b, b1, rfl⟩, _, _, rfl, hc, _, _, rfl, ⟨d, d1, d2, rfl⟩, _, _, rfl, ⟨e, e1, e2, rfl⟩, _, _, rfl, ⟨f, rfl⟩, rfl⟩ := h
  obtain ⟨c, rfl, c1, c2⟩ := lst_of SCell.inv hc
  exact ⟨⟨a, b, c, d, e, f⟩, rfl, ⟨⟨a1, a2⟩, b1, c1, c2, ⟨d1, d2⟩, ⟨e1, e2⟩⟩⟩
theorem oSesss : Opens Tryz.prog 22 (SLst 5 64 SSess) := opens_slice (by kernel_rfl) (by kernel_rfl) (by kernel_rfl) (by decide) oSess
theorem oWins : Opens Tryz.prog 23 (SLst 6 72 SWin) := opens_slice (by kernel_rfl) (by kernel_rfl) (by kernel_rfl) (by decide) oWin
def SState : List U → Prop := SAll [SLst 5 64 SSess, SLst 6 72 SWin]
theorem oState : Opens Tryz.prog 25 SState := opens_struct Tryz.underlying25 (show Fields Tryz.prog 0 [_, _] [SLst 5 64 SSess, SLst 6 72 SWin] _ from ⟨by kernel_rfl, oSesss, by kernel_rfl, oWins, (show _ = _ by kernel_rfl)⟩)
theorem SState.inv (us : List U) (h : SState us) : ∃ a, us = encState a ∧ State.Wf a := by
  simp only [SState, SAll] at h
  obtain ⟨_, _, rfl, ha, _, _, rfl, hb, rfl⟩ := h
  obtain ⟨a, rfl, a1, a2⟩ := lst_of SSess.inv ha
  obtain ⟨b, rfl, b1, b2⟩ := lst_of SWin.inv hb
  exact ⟨⟨a, b⟩, rfl, ⟨a1, b1, a2, b2⟩⟩
end Go.Proofs.YtaepllhjnbencaaGreatDoor.Ir
