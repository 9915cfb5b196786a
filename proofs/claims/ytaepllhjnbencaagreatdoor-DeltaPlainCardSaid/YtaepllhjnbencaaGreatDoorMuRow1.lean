/- What all rows of this seat share: the memory at the start, arguments that came in, what a call leaves. -/
import Derived.Test.YtaepllhjnbencaaGreatDoorMuArgState
import Derived.Test.YtaepllhjnbencaaGreatDoorMuWorks2
import Derived.Test.YtaepllhjnbencaaGreatDoorTie
import Derived.Test.YtaepllhjnbencaaGreatDoorCards
import Derived.ProofKit
import Derived.OpenShut
import Derived.LaidMore
import Derived.Lay
import Derived.SevenTiedAt
import Derived.Stop.Joined
import Derived.Below
import Derived.Carry
namespace Go.Proofs.YtaepllhjnbencaaGreatDoor
open Go.ChangeShapes Go.WideShapes Go.ChangeAt Go.RowKit
open Go (Value World)
set_option linter.unusedVariables false
set_option maxRecDepth 100000
theorem below_ro {w w' : World} {ρ ρ' : Mu.Rho} {m m' : Mu.M} (g : Mu.Good ρ m w ρ' m' w') (hro : ∀ b, ¬ Mu.owns m b) : Below w.heap.size w w' :=
  ⟨g.os, g.tape, g.output, g.hsize, fun k hk => g.frame k hk (by rintro ⟨b, L, hb, ho, _⟩; exact hro b ho)⟩
theorem own : ownKnob Tryz.prog.godebug = none := by kernel_rfl
theorem laidOut : laidOutB Tryz.prog = true := by kernel_rfl
/-- nothing lies in the abstract memory yet -/
theorem ro0 (W : World) : Mu.RO (fun _ => none) ⟨.nil, 0⟩ (fun _ => none) W :=
  ⟨⟨fun _ _ h => (by cases h), fun _ _ h => (by cases h), fun _ _ _ _ h => (by cases h), fun _ _ h => (by cases h)⟩, fun _ _ h => (by cases h), fun b h => by
    unfold Mu.owns at h
    have : (⟨.nil, 0⟩ : Mu.M).get b = none := Mu.T.get_nil _
    rw [this] at h
    exact h⟩
/-- an argument that came in, of a type of several cells -/
theorem arg_open {P : Program} {t : TypeId} {S : List Mu.U → Prop} (ho : Mu.Opens P t S) {H : Type} {enc : TypeId × Value → H} {W : World} (hne : Mu.NE W) {v : Value} {cs : Array Value} (hv : v = .agg cs) {d : DataW H} {p : List MemPlace}
    (h : DataW.Trod enc P W 0 (fun _ => true) true t v d p) (hw : ∀ k ∈ DataW.weights P t d, k ≤ reachBytes) (ρ : Mu.Rho) (m : Mu.M) (I : Mu.Fz) (hr : Mu.RO ρ m I W) :
    ∃ (ρ' : Mu.Rho) (m' : Mu.M) (I' : Mu.Fz) (x : Mu.V) (us : List Mu.U), Mu.RO ρ' m' I' W ∧ Mu.Sub ρ ρ' ∧ Mu.Ext m m' ∧ Mu.Le I I' ∧ Mu.VR ρ' x v ∧ Mu.R' I' x (.agg us) ∧ S us := by
  obtain ⟨fuel, hf⟩ := h
  subst hv
  obtain ⟨ρ', m', I', vs, us, h1, h2, h3, h4, h5, h6, h7⟩ := ho hne hf hw ρ m I hr
  exact ⟨ρ', m', I', .agg vs, us, h1, h2, h3, h4, by simp only [Mu.VR]; exact ⟨cs, rfl, h5⟩, by simp only [Mu.R']; exact ⟨vs, rfl, h6⟩, h7⟩
end Go.Proofs.YtaepllhjnbencaaGreatDoor
