/- Plain values, and how they lie in blocks that nobody writes any more. -/
import Derived.Test.YtaepllhjnbencaaGreatDoorMuLoop
set_option linter.unusedVariables false
set_option linter.unusedSimpArgs false
namespace Mu
open Go (IntKind)
inductive U
  | int (k : IntKind) (n : Int)
  | bool (b : Bool)
  | str (s : List Nat)
  | lst (es : Nat) (cs : List U)
  | agg (cs : List U)

/-- the blocks that stay as they are -/
abbrev Fz := Nat → Option (List V)
mutual
def R' (I : Fz) : V → U → Prop
  | v, .int k n => v = .int k n
  | v, .bool b => v = .bool b
  | v, .str s => v = .str s
  | v, .lst es cs => (v = .snil ∧ cs = []) ∨ ∃ b o n cap ex all, v = .sl b o n cap es ex ∧ I b = some all ∧ cs.length = n * es ∧ o + n * es ≤ all.length ∧ RL I ((all.drop o).take (n * es)) cs
  | v, .agg cs => ∃ vs, v = .agg vs ∧ RL I vs cs
def RL (I : Fz) : List V → List U → Prop
  | vs, [] => vs = []
  | vs, u :: us => ∃ v vr, vs = v :: vr ∧ R' I v u ∧ RL I vr us
end
def Le (I J : Fz) : Prop := ∀ b cs, I b = some cs → J b = some cs
theorem Le.refl (I : Fz) : Le I I := fun _ _ h => h
theorem Le.trans {I J K : Fz} (h : Le I J) (k : Le J K) : Le I K := fun b cs e => k b cs (h b cs e)
mutual
theorem R'.mono {I J : Fz} (h : Le I J) : ∀ {v : V} {u : U}, R' I v u → R' J v u
  | v, .int _ _, k => by simpa only [R'] using k
  | v, .bool _, k => by simpa only [R'] using k
  | v, .str _, k => by simpa only [R'] using k
  | v, .lst es cs, k => by
    simp only [R'] at k ⊢
    rcases k with k | ⟨b, o, n, cap, ex, all, k1, k2, k3, k4, k5⟩
    · exact .inl k
    · exact .inr ⟨b, o, n, cap, ex, all, k1, h _ _ k2, k3, k4, RL.mono h k5⟩
  | v, .agg cs, k => by
    simp only [R'] at k ⊢
    obtain ⟨vs, k1, k2⟩ := k
    exact ⟨vs, k1, RL.mono h k2⟩
theorem RL.mono {I J : Fz} (h : Le I J) : ∀ {vs : List V} {us : List U}, RL I vs us → RL J vs us
  | vs, [], k => by simpa only [RL] using k
  | vs, u :: us, k => by
    simp only [RL] at k ⊢
    obtain ⟨v, vr, k1, k2, k3⟩ := k
    exact ⟨v, vr, k1, R'.mono h k2, RL.mono h k3⟩
end
theorem RL.length {I : Fz} : ∀ {vs : List V} {us : List U}, RL I vs us → vs.length = us.length
  | vs, [], k => by simp only [RL] at k; subst k; rfl
  | vs, u :: us, k => by
    simp only [RL] at k
    obtain ⟨v, vr, rfl, _, k3⟩ := k
    simp only [List.length_cons, RL.length k3]
theorem RL.append {I : Fz} : ∀ {vs : List V} {us : List U} {ws : List V} {xs : List U}, RL I vs us → RL I ws xs → RL I (vs ++ ws) (us ++ xs)
  | vs, [], ws, xs, k, h => by simp only [RL] at k; subst k; simpa using h
  | vs, u :: us, ws, xs, k, h => by
    simp only [RL] at k
    obtain ⟨v, vr, rfl, k2, k3⟩ := k
    simp only [List.cons_append, RL]
    exact ⟨v, vr ++ ws, rfl, k2, k3.append h⟩
theorem RL.split {I : Fz} : ∀ {us : List U} {xs : List U} {vs : List V}, RL I vs (us ++ xs) → ∃ a b, vs = a ++ b ∧ RL I a us ∧ RL I b xs
  | [], xs, vs, k => ⟨[], vs, rfl, by simp only [RL], k⟩
  | u :: us, xs, vs, k => by
    simp only [List.cons_append, RL] at k
    obtain ⟨v, vr, rfl, k2, k3⟩ := k
    obtain ⟨a, b, rfl, h1, h2⟩ := RL.split k3
    exact ⟨v :: a, b, rfl, by simp only [RL]; exact ⟨v, a, rfl, k2, h1⟩, h2⟩
theorem RL.drop {I : Fz} {us : List U} {vs : List V} (h : RL I vs us) (i : Nat) : RL I (vs.drop i) (us.drop i) := by
  rw [← List.take_append_drop i us] at h
  obtain ⟨a, b, rfl, h1, h2⟩ := h.split
  have := h1.length
  by_cases hi : i ≤ us.length
  · rw [List.length_take, Nat.min_eq_left hi] at this
    rw [List.drop_append_of_le_length (by omega), List.drop_eq_nil_of_le (by omega), List.nil_append]
    exact h2
  · rw [List.length_take, Nat.min_eq_right (by omega)] at this
    have e : us.drop i = [] := List.drop_eq_nil_of_le (by omega)
    rw [e] at h2 ⊢
    simp only [RL] at h2 ⊢
    subst h2
    exact List.drop_eq_nil_of_le (by simp; omega)
theorem RL.take {I : Fz} {us : List U} {vs : List V} (h : RL I vs us) (i : Nat) : RL I (vs.take i) (us.take i) := by
  rw [← List.take_append_drop i us] at h
  obtain ⟨a, b, rfl, h1, h2⟩ := h.split
  have := h1.length
  by_cases hi : i ≤ us.length
  · rw [List.length_take, Nat.min_eq_left hi] at this
    rw [List.take_append_of_le_length (by omega), List.take_of_length_le (by omega)]
    exact h1
  · rw [List.length_take, Nat.min_eq_right (by omega)] at this
    have e : us.drop i = [] := List.drop_eq_nil_of_le (by omega)
    rw [e] at h2
    simp only [RL] at h2
    subst h2
    rw [List.append_nil, List.take_of_length_le (by omega)]
    exact h1
theorem RL.get {I : Fz} {us : List U} {vs : List V} (h : RL I vs us) {i : Nat} {u : U} (hu : us[i]? = some u) : ∃ v, vs[i]? = some v ∧ R' I v u := by
  have hd := h.drop i
  obtain ⟨hi, rfl⟩ := List.getElem?_eq_some_iff.1 hu
  rw [List.drop_eq_getElem_cons hi] at hd
  simp only [RL] at hd
  obtain ⟨v, vr, e, h1, h2⟩ := hd
  refine ⟨v, ?_, h1⟩
  have : (vs.drop i)[0]? = some v := by rw [e]; rfl
  simpa using this
/-- the memory holds the blocks that stay -/
def Froz (I : Fz) (m : M) : Prop := ∀ b cs, I b = some cs → b < m.n ∧ ∃ own t, m.get b = some (.cells cs own t)
theorem Froz.ext {I : Fz} {m m' : M} (h : Froz I m) (e : Ext m m') : Froz I m' := fun b cs hb => by
  obtain ⟨h1, own, t, h2⟩ := h b cs hb
  exact ⟨Nat.lt_of_lt_of_le h1 e.n, own, t, (e.get b h1).trans h2⟩
theorem Froz.new {I : Fz} {m : M} (h : Froz I m) (x : Blk) : Froz I (m.new x) := h.ext (Ext.new m x)
theorem Froz.put {I : Fz} {m : M} (h : Froz I m) {b : Nat} (hb : I b = none) (x : Blk) : Froz I (m.put b x) := fun c cs hc => by
  obtain ⟨h1, own, t, h2⟩ := h c cs hc
  have : b ≠ c := by rintro rfl; rw [hb] at hc; cases hc
  exact ⟨h1, own, t, (M.get_put_ne _ _ _ _ this).trans h2⟩
theorem Froz.none_n {I : Fz} {m : M} (h : Froz I m) {b : Nat} (hb : m.n ≤ b) : I b = none := by
  cases e : I b with
  | none => rfl
  | some cs => exact absurd (h b cs e).1 (by omega)
def Fz.add (I : Fz) (b : Nat) (cs : List V) : Fz := fun c => if c = b then some cs else I c
theorem Fz.add_same (I : Fz) (b : Nat) (cs : List V) : I.add b cs b = some cs := by simp [Fz.add]
theorem Fz.add_ne (I : Fz) {b c : Nat} (cs : List V) (h : c ≠ b) : I.add b cs c = I c := by simp [Fz.add, h]
theorem Le.add {I : Fz} {b : Nat} (hb : I b = none) (cs : List V) : Le I (I.add b cs) := fun c ds hc => by
  have : c ≠ b := by rintro rfl; rw [hb] at hc; cases hc
  rw [Fz.add_ne _ _ this]; exact hc
theorem Froz.add {I : Fz} {m : M} (h : Froz I m) {b : Nat} {cs : List V} {own : Own} {t : Nat} (hb : m.get b = some (.cells cs own t)) (hn : b < m.n) : Froz (I.add b cs) m := fun c ds hc => by
  by_cases e : c = b
  · subst e
    rw [Fz.add_same] at hc
    injection hc with hc
    subst hc
    exact ⟨hn, own, t, hb⟩
  · rw [Fz.add_ne _ _ e] at hc
    exact h c ds hc
/-- a slice that lies in blocks that stay -/
theorem R'.sli {I : Fz} {m : M} {v : V} {es n : Nat} {us : List U} (h : R' I v (.lst es us)) (hf : Froz I m) (hn : us.length = n * es) (hes : 0 < es) : ∃ cs, Sli m v es cs n ∧ RL I cs us := by
  simp only [R'] at h
  rcases h with ⟨rfl, rfl⟩ | ⟨b, o, k, cap, ex, all, rfl, h2, h3, h4, h5⟩
  · have : n = 0 := by
      simp only [List.length_nil] at hn
      exact (Nat.mul_eq_zero.1 hn.symm).resolve_right (by omega)
    subst this
    exact ⟨[], ⟨by simp, .inl ⟨rfl, rfl⟩⟩, by simp only [RL]⟩
  · have hk : k = n := Nat.eq_of_mul_eq_mul_right hes (h3.symm.trans hn)
    subst hk
    obtain ⟨h6, own, t, h7⟩ := hf b all h2
    exact ⟨_, ⟨by rw [List.length_take, List.length_drop]; omega, .inr ⟨b, o, cap, ex, own, t, all, rfl, h7, h6, rfl, h4⟩⟩, h5⟩
theorem R'.int {I : Fz} {v : V} {k : IntKind} {n : Int} (h : R' I v (.int k n)) : v = .int k n := by simpa only [R'] using h
theorem R'.bool {I : Fz} {v : V} {b : Bool} (h : R' I v (.bool b)) : v = .bool b := by simpa only [R'] using h
theorem R'.str {I : Fz} {v : V} {s : List Nat} (h : R' I v (.str s)) : v = .str s := by simpa only [R'] using h
theorem R'.agg {I : Fz} {v : V} {us : List U} (h : R' I v (.agg us)) : ∃ vs, v = .agg vs ∧ RL I vs us := by simpa only [R'] using h
theorem RL.cons {I : Fz} {vs : List V} {u : U} {us : List U} (h : RL I vs (u :: us)) : ∃ v vr, vs = v :: vr ∧ R' I v u ∧ RL I vr us := by simpa only [RL] using h
theorem RL.nil {I : Fz} {vs : List V} (h : RL I vs []) : vs = [] := by simpa only [RL] using h
/-- a slice made by appending may be let rest -/
theorem Acc.rest {lo : Nat} {I : Fz} {m : M} {v : V} {es t n : Nat} {cs : List V} {us : List U} (h : Acc lo m v es t cs n) (hf : Froz I m) (hI : ∀ b, lo ≤ b → (∀ o l c e y, v ≠ .sl b o l c e y) ∨ I b = none) (hr : RL I cs us) : ∃ J, Le I J ∧ Froz J m ∧ R' J v (.lst es us) := by
  have hl := h.len
  rcases h.is with ⟨rfl, rfl⟩ | ⟨db, rfl, h2, h3, h4⟩
  · refine ⟨I, Le.refl I, hf, ?_⟩
    have : us = [] := List.eq_nil_of_length_eq_zero (by rw [← hr.length, hl]; simp)
    simp only [R']
    exact .inl ⟨trivial, this⟩
  · have hn : I db = none := (hI db h3).resolve_left fun h => h 0 n n es false rfl
    refine ⟨I.add db cs, Le.add hn cs, hf.add h2 h4, ?_⟩
    simp only [R']
    refine .inr ⟨db, 0, n, n, false, cs, rfl, Fz.add_same _ _ _, by rw [← hr.length, hl], by omega, ?_⟩
    rw [List.drop_zero, List.take_of_length_le (by omega)]
    exact hr.mono (Le.add hn cs)
end Mu
