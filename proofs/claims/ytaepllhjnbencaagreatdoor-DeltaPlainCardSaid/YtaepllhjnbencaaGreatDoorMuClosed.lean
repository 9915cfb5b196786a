/- A closed run that was carried out once, from the empty memory, is had in every memory. -/
import Derived.Test.YtaepllhjnbencaaGreatDoorMuFn
set_option linter.unusedVariables false
set_option linter.unusedSimpArgs false
namespace Mu
open Go (Value World Addr Program IntKind Sem Result Obj TypeDesc TypeInfo Operand Oper Ending Calls Act Exit Code)
theorem FnRuns.mono {P : Program} {f : Nat} {xs : Array Value} {w : World} {Q Q' : Ending → World → Prop} (h : FnRuns P f xs w Q) (hq : ∀ en w', Q en w' → Q' en w') : FnRuns P f xs w Q' := by
  unfold FnRuns at h ⊢
  revert h
  generalize Sem.run P (Go.callFunc f xs) w = r
  intro h
  rcases r with ⟨b, w'⟩ | b
  · cases b with
    | value v => exact hq _ _ h
    | enter g ys => exact Go.Calls.mono h hq
    | _ => exact False.elim h
  · cases b <;> first | exact hq _ _ h | exact False.elim h
def pTrue : List V → M → R
  | [], m => .ok (.bool true) m
  | _, _ => .bad
def isT : R → Bool | .ok (.bool b) _ => b | _ => false
theorem closed_ok {P : Program} {W : Prg} {names : List String} (ok : Ok P W names) {n f : Nat} (h : isT (callF W n f [] ⟨.nil, 0⟩) = true) :
    ∀ (args : List V) (m : M), pTrue args m ≠ .bad → ∀ (ρ : Rho) (w : World) (xs : Array Value), VRL ρ args xs.toList → MR ρ m w → FnRuns P f xs w (Res ρ m w (pTrue args m)) := by
  intro args m hne ρ w xs hv hm
  cases args with
  | cons a r => exact absurd rfl hne
  | nil =>
    have hx : xs = #[] := by
      simp only [VRL] at hv
      cases xs; simp at hv; subst hv; rfl
    subst hx
    have hm0 : MR (fun _ => none) ⟨.nil, 0⟩ w := ⟨fun _ _ h => (by cases h), fun _ _ h => (by cases h), fun _ _ _ _ h => (by cases h), fun _ _ h => (by cases h)⟩
    cases hr : callF W n f [] ⟨.nil, 0⟩ with
    | bad => rw [hr] at h; cases h
    | pan v m' => rw [hr] at h; cases h
    | ok v m' =>
      rw [hr] at h
      have hb : v = .bool true := by
        cases v <;> first | (cases h; done) | (simp only [isT] at h; subst h; rfl)
      subst hb
      have h1 := callF_ok ok n f [] ⟨.nil, 0⟩ (by rw [hr]; intro h; cases h) (fun _ => none) w #[] (by simp [VRL]) hm0
      rw [hr] at h1
      refine h1.mono fun en w' he => ?_
      cases en with
      | returned x =>
        obtain ⟨ρ', e1, g⟩ := he
        refine ⟨ρ, ?_, ?_⟩
        · simp only [VR] at e1 ⊢; exact e1
        · have hf : ∀ r, r < w.heap.size → w'.heap[r]? = w.heap[r]? := fun r hr => g.frame r hr (by rintro ⟨b, L, hb, _⟩; cases hb)
          refine ⟨⟨hm.dom, fun b L hb y hy => ?_, hm.inj, fun b L hb => Nat.lt_of_lt_of_le (hm.size b L hb) g.hsize⟩, Sub.refl _, fun b h1 h2 => absurd h1 h2, Nat.le_refl _, g.os, g.tape, g.output, g.hsize, fun r hr _ => hf r hr, fun r hi => .inl hi⟩
          have h2 := hm.blk b L hb y hy
          cases y <;> simp only [BR] at h2 ⊢ <;> (try rw [hf _ (hm.size b L hb)]) <;> exact h2
      | _ => exact he.elim
end Mu
