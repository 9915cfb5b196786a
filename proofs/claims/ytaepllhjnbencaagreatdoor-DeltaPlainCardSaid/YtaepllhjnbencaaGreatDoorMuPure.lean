/- What an operation that only computes, or only reads, does to the memory: nothing. -/
import Derived.Test.YtaepllhjnbencaaGreatDoorMuCode
set_option linter.unusedVariables false
set_option linter.unusedSimpArgs false
namespace Mu
def isPure : Kind → Bool
  | .move | .pick | .build .. | .nilCheck | .bin _ | .not | .convInt _ | .convSame | .mkIface _ | .mkFunc .. | .slStr .. | .slSlice .. | .fieldAddr _ | .field .. | .idxSlice _ | .idxArr .. | .idxStr | .idxAgg .. | .assertT .. | .extract _ | .lenS | .lenL | .cap | .sliceData | .min | .max => true
  | _ => false
def isRead : Kind → Bool
  | .load .. | .eql .. | .convBytesStr | .lookup .. | .slArr .. | .lenM | .toUns | .fromUns _ => true
  | k => isPure k

def R.at (r : R) (m : M) : R :=
  match r with
  | .ok v _ => .ok v m
  | .pan v _ => .pan v m
  | .bad => .bad

theorem opt_at (x : Option V) (m m' : M) : opt x m' = (opt x m).at m' := by cases x <;> rfl
theorem binInt_at (op : IB) (k) (a b : Int) (m m' : M) : binInt op k a b m' = (binInt op k a b m).at m' := by
  cases op <;> simp only [binInt] <;> (try split) <;> rfl
theorem evBin_at (op : IB) (x y : V) (m m' : M) : evBin op x y m' = (evBin op x y m).at m' := by
  unfold evBin
  split <;> (try split) <;> (try rfl)
  exact binInt_at ..

variable (W : Prg) (call : Nat → List V → M → R)
theorem evK_at {k : Kind} (hk : isPure k = true) (vs : List V) (m m' : M) : evK W call m' k vs = (evK W call m k vs).at m' := by
  unfold evK
  split <;> (try (cases hk; done)) <;> (try exact opt_at ..) <;> (try exact evBin_at ..) <;> (try rfl)
  all_goals (repeat' split) <;> (try rfl) <;> (try exact opt_at ..) <;> (try (simp_all [R.at]; done))
  all_goals (cases ‹Bool› <;> rfl)

theorem opt_mem {x : Option V} {m m' : M} {v : V} (h : opt x m = .ok v m') : m' = m := by
  cases x <;> simp only [opt] at h <;> cases h; rfl

theorem evK_mem {k : Kind} (hk : isRead k = true) (vs : List V) (m m' : M) {v : V} (h : evK W call m k vs = .ok v m') : m' = m := by
  by_cases hp : isPure k = true
  · have := evK_at W call hp vs m m
    rw [h] at this
    simp only [R.at] at this
    injection this
  · unfold evK at h
    split at h <;> (try (cases hk; done)) <;> (try (exact absurd rfl hp)) <;> (try (cases h; done))
    all_goals try simp only [loadAt] at h
    all_goals (repeat' split at h)
    all_goals first
      | (cases h; done)
      | exact opt_mem h
      | (injection h with h1 h2; exact h2.symm)

/-! ### Values that are told to be the same are the same -/
mutual
theorem beq_eq : ∀ {a b : V}, V.beq a b = true → a = b
  | .bool a, .bool b, h => by simp [V.beq] at h; rw [h]
  | .int k a, .int k' b, h => by simp [V.beq] at h; rw [h.1, h.2]
  | .str a, .str b, h => by simp [V.beq] at h; rw [h]
  | .pnil, .pnil, _ => rfl
  | .ptr b o, .ptr b' o', h => by simp [V.beq] at h; rw [h.1, h.2]
  | .snil, .snil, _ => rfl
  | .sl b o l c e x, .sl b' o' l' c' e' x', h => by simp [V.beq] at h; obtain ⟨⟨⟨⟨⟨h1, h2⟩, h3⟩, h4⟩, h5⟩, h6⟩ := h; rw [h1, h2, h3, h4, h5, h6]
  | .mnil, .mnil, _ => rfl
  | .map b, .map b', h => by simp [V.beq] at h; rw [h]
  | .fn f a c, .fn f' a' c', h => by
    simp only [V.beq, Bool.and_eq_true] at h
    rw [Nat.eq_of_beq_eq_true h.1.1, beqL_eq h.1.2, beqL_eq h.2]
  | .fnil, .fnil, _ => rfl
  | .iface t v, .iface t' v', h => by
    simp only [V.beq, Bool.and_eq_true] at h
    rw [Nat.eq_of_beq_eq_true h.1, beq_eq h.2]
  | .inil, .inil, _ => rfl
  | .agg a, .agg b, h => by simp only [V.beq] at h; rw [beqL_eq h]
  | .tup a, .tup b, h => by simp only [V.beq] at h; rw [beqL_eq h]
theorem beqL_eq : ∀ {a b : List V}, V.beqL a b = true → a = b
  | [], [], _ => rfl
  | a :: x, b :: y, h => by
    simp only [V.beqL, Bool.and_eq_true] at h
    rw [beq_eq h.1, beqL_eq h.2]
end
end Mu
