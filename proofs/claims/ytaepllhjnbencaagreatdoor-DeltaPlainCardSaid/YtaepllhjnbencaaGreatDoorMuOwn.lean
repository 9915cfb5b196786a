/- Rows of elements of one's own, as plain values. -/
import Derived.Test.YtaepllhjnbencaaGreatDoorMuRep
set_option linter.unusedVariables false
set_option linter.unusedSimpArgs false
namespace Mu
open Go (IntKind)
theorem Froz.of {I : Fz} {m m' : M} (h : Froz I m) (hn : m.n ≤ m'.n) (e : ∀ b, I b ≠ none → m'.get b = m.get b) : Froz I m' := fun b cs hb => by
  obtain ⟨h1, own, t, h2⟩ := h b cs hb
  exact ⟨by omega, own, t, (e b (by rw [hb]; simp)).trans h2⟩
/-- more blocks rest, none of them from below n -/
structure Gro (n : Nat) (I J : Fz) : Prop where
  le : Le I J
  old : ∀ b, b < n → J b = I b
theorem Gro.refl (n : Nat) (I : Fz) : Gro n I I := ⟨Le.refl I, fun _ _ => rfl⟩
theorem Gro.trans {n n' : Nat} {I J K : Fz} (h : Gro n I J) (k : Gro n' J K) (hn : n ≤ n') : Gro n I K := ⟨h.le.trans k.le, fun b hb => (k.old b (by omega)).trans (h.old b hb)⟩
theorem Gro.lower {n n' : Nat} {I J : Fz} (h : Gro n I J) (hn : n' ≤ n) : Gro n' I J := ⟨h.le, fun b hb => h.old b (by omega)⟩
theorem Gro.none {n : Nat} {I J : Fz} {m : M} (h : Gro n I J) (hf : Froz I m) {b : Nat} (h1 : m.n ≤ b) (h2 : b < n) : J b = none := (h.old b h2).trans (hf.none_n h1)
/-- a slice that nobody else has, its row from block lo on -/
structure Mine (lo : Nat) (m : M) (v : V) (es t : Nat) (cs : List V) (n : Nat) : Prop where
  len : cs.length = n * es
  is : (v = .snil ∧ n = 0) ∨ ∃ db ex, v = .sl db 0 n n es ex ∧ m.get db = some (.cells cs .rw t) ∧ lo ≤ db ∧ db < m.n
theorem Acc.mine {lo : Nat} {m : M} {v : V} {es t n : Nat} {cs : List V} (h : Acc lo m v es t cs n) : Mine lo m v es t cs n := by
  refine ⟨h.len, ?_⟩
  rcases h.is with h1 | ⟨db, h1, h2, h3, h4⟩
  · exact .inl h1
  · exact .inr ⟨db, false, h1, h2, h3, h4⟩
theorem Mine.sli {lo : Nat} {m : M} {v : V} {es t n : Nat} {cs : List V} (h : Mine lo m v es t cs n) : Sli m v es cs n := by
  refine ⟨h.len, ?_⟩
  rcases h.is with h1 | ⟨db, ex, h1, h2, h3, h4⟩
  · exact .inl h1
  · refine .inr ⟨db, 0, n, ex, .rw, t, cs, h1, h2, h4, ?_, ?_⟩
    · rw [List.drop_zero, List.take_of_length_le (by rw [h.len]; exact Nat.le_refl _)]
    · rw [h.len]; omega
theorem Mine.lo {lo lo' : Nat} {m : M} {v : V} {es t n : Nat} {cs : List V} (h : Mine lo m v es t cs n) (hl : lo' ≤ lo) : Mine lo' m v es t cs n := by
  refine ⟨h.len, ?_⟩
  rcases h.is with h1 | ⟨db, ex, h1, h2, h3, h4⟩
  · exact .inl h1
  · exact .inr ⟨db, ex, h1, h2, by omega, h4⟩
theorem Mine.same {lo : Nat} {m m' : M} {v : V} {es t n : Nat} {cs : List V} (h : Mine lo m v es t cs n) (hn : m.n ≤ m'.n) (e : ∀ b, lo ≤ b → b < m.n → m'.get b = m.get b) : Mine lo m' v es t cs n := by
  refine ⟨h.len, ?_⟩
  rcases h.is with h1 | ⟨db, ex, h1, h2, h3, h4⟩
  · exact .inl h1
  · exact .inr ⟨db, ex, h1, (e db h3 h4).trans h2, h3, by omega⟩
theorem Mine.same2 {lo : Nat} {m m' : M} {v : V} {es t n : Nat} {cs : List V} (h : Mine lo m v es t cs n) (hn : m.n ≤ m'.n) (e : ∀ b ex, v = .sl b 0 n n es ex → b < m.n → m'.get b = m.get b) : Mine lo m' v es t cs n := by
  refine ⟨h.len, ?_⟩
  rcases h.is with h1 | ⟨db, ex, h1, h2, h3, h4⟩
  · exact .inl h1
  · exact .inr ⟨db, ex, h1, (e db ex h1 h4).trans h2, h3, by omega⟩
theorem Mine.ext {lo : Nat} {m m' : M} {v : V} {es t n : Nat} {cs : List V} (h : Mine lo m v es t cs n) (e : Ext m m') : Mine lo m' v es t cs n := h.same e.n fun b _ hb => e.get b hb
theorem Mine.clean {lo : Nat} {m : M} {v : V} {es t n : Nat} {cs : List V} (h : Mine lo m v es t cs n) : v.clean = true := by
  rcases h.is with ⟨rfl, _⟩ | ⟨db, ex, rfl, _⟩ <;> rfl
theorem Mine.cells {lo : Nat} {m : M} {v : V} {es t n : Nat} {cs : List V} (h : Mine lo m v es t cs n) : cellsOf v = some [v] := by
  rcases h.is with ⟨rfl, _⟩ | ⟨db, ex, rfl, _⟩ <;> rfl
/-- it may be let rest -/
theorem Mine.rest {lo : Nat} {I : Fz} {m : M} {v : V} {es t n : Nat} {cs : List V} {us : List U} (h : Mine lo m v es t cs n) (hf : Froz I m) (hI : ∀ db ex, v = .sl db 0 n n es ex → I db = none) (hr : RL I cs us) :
    ∃ J, Le I J ∧ Froz J m ∧ R' J v (.lst es us) ∧ (∀ b, J b = none ∨ I b = J b ∨ ∃ ex, v = .sl b 0 n n es ex) := by
  have hl := h.len
  rcases h.is with ⟨rfl, rfl⟩ | ⟨db, ex, rfl, h2, h3, h4⟩
  · refine ⟨I, Le.refl I, hf, ?_, fun b => .inr (.inl rfl)⟩
    have : us = [] := List.eq_nil_of_length_eq_zero (by rw [← hr.length, hl]; simp)
    simp only [R']
    exact .inl ⟨trivial, this⟩
  · have hn : I db = none := hI db ex rfl
    refine ⟨I.add db cs, Le.add hn cs, hf.add h2 h4, ?_, fun b => ?_⟩
    · simp only [R']
      refine .inr ⟨db, 0, n, n, ex, cs, rfl, Fz.add_same _ _ _, by rw [← hr.length, hl], by omega, ?_⟩
      rw [List.drop_zero, List.take_of_length_le (by omega)]
      exact hr.mono (Le.add hn cs)
    · by_cases hb : b = db
      · subst hb; exact .inr (.inr ⟨ex, rfl⟩)
      · exact .inr (.inl (Fz.add_ne _ _ hb).symm)
/-- it may be let rest -/
theorem Mine.gro {lo : Nat} {I : Fz} {m : M} {v : V} {es t n : Nat} {cs : List V} {us : List U} (h : Mine lo m v es t cs n) (hf : Froz I m) (hI : ∀ db ex, v = .sl db 0 n n es ex → I db = none) (hr : RL I cs us) :
    ∃ J, Gro lo I J ∧ Froz J m ∧ R' J v (.lst es us) ∧ (∀ b, J b = I b ∨ ∃ ex, v = .sl b 0 n n es ex) := by
  obtain ⟨J, h1, h2, h3, h4⟩ := h.rest hf hI hr
  have h5 : ∀ b, J b = I b ∨ ∃ ex, v = .sl b 0 n n es ex := by
    intro b
    rcases h4 b with h | h | h
    · cases hb : I b with
      | none => exact .inl h
      | some cs => exact absurd (h1 b cs hb) (by rw [h]; simp)
    · exact .inl h.symm
    · exact .inr h
  refine ⟨J, ⟨h1, fun b hb => ?_⟩, h2, h3, h5⟩
  rcases h5 b with h6 | ⟨ex, h6⟩
  · exact h6
  · rcases h.is with ⟨h7, _⟩ | ⟨db, ex', h7, _, h8, _⟩
    · rw [h6] at h7; cases h7
    · rw [h6] at h7; injection h7 with h7; omega
/-! ### An element of a row -/
theorem splice_mid {A c B : List V} {i f : Nat} {x : V} (hA : A.length = i) (hf : f < c.length) : splice (A ++ (c ++ B)) (i + f) [x] = A ++ (splice c f [x] ++ B) := by
  subst hA
  simp only [splice, List.length_cons, List.length_nil]
  have h1 : (A ++ (c ++ B)).take (A.length + f) = A ++ c.take f := by
    rw [List.take_append, List.take_of_length_le (by omega), Nat.add_sub_cancel_left, List.take_append_of_le_length (by omega)]
  have h2 : (A ++ (c ++ B)).drop (A.length + f + (0 + 1)) = c.drop (f + (0 + 1)) ++ B := by
    rw [List.drop_append, List.drop_eq_nil_of_le (by omega), List.nil_append, show A.length + f + (0 + 1) - A.length = f + 1 by omega, List.drop_append_of_le_length (by omega)]
  rw [h1, h2]
  simp [List.append_assoc]
theorem partV_mid {A c B : List V} {i es : Nat} (hA : A.length = i) (hc : c.length = es) : partV true i es (A ++ (c ++ B)) = some (.agg c) := by
  subst hA hc
  simp only [partV, cond_true, slice1]
  rw [if_pos (by simp)]
  rw [List.drop_left, List.take_left]
theorem partV_mid1 {A c B : List V} {i f : Nat} {x : V} (hA : A.length = i) (hc : c[f]? = some x) : partV false (i + f) 1 (A ++ (c ++ B)) = some x := by
  subst hA
  have hf : f < c.length := (List.getElem?_eq_some_iff.1 hc).1
  simp only [partV, cond_false]
  rw [List.getElem?_append_right (by omega), Nat.add_sub_cancel_left, List.getElem?_append_left hf, hc]
section
variable {α : Type} {enc : α → List U} {es : Nat}
theorem flat_len (he : ∀ x, (enc x).length = es) : ∀ l : List α, (l.flatMap enc).length = l.length * es
  | [] => by simp
  | x :: r => by simp only [List.flatMap_cons, List.length_append, he, flat_len he r, List.length_cons]; rw [Nat.succ_mul]; omega
/-- the row, cut at an element -/
theorem RL.cut {I : Fz} {cs : List V} {l1 l2 : List α} {x : α} (h : RL I cs ((l1 ++ x :: l2).flatMap enc)) (he : ∀ x, (enc x).length = es) :
    ∃ A c B, cs = A ++ (c ++ B) ∧ A.length = l1.length * es ∧ c.length = es ∧ RL I A (l1.flatMap enc) ∧ RL I c (enc x) ∧ RL I B (l2.flatMap enc) := by
  rw [List.flatMap_append, List.flatMap_cons] at h
  obtain ⟨A, r, rfl, h1, h2⟩ := h.split
  obtain ⟨c, B, rfl, h3, h4⟩ := h2.split
  exact ⟨A, c, B, rfl, by rw [h1.length, flat_len he], by rw [h3.length, he], h1, h3, h4⟩
theorem RL.glue {I : Fz} {A c B : List V} {l1 l2 : List α} {x : α} (h1 : RL I A (l1.flatMap enc)) (h2 : RL I c (enc x)) (h3 : RL I B (l2.flatMap enc)) : RL I (A ++ (c ++ B)) ((l1 ++ x :: l2).flatMap enc) := by
  rw [List.flatMap_append, List.flatMap_cons]
  exact h1.append (h2.append h3)
end
/-- a slice of elements that nobody writes any more -/
theorem R'.slice {α : Type} {enc : α → List U} {es : Nat} {I : Fz} {m : M} {v : V} {l : List α} (h : R' I v (.lst es (l.flatMap enc))) (hf : Froz I m) (he : ∀ x, (enc x).length = es) (hes : 0 < es) : ∃ cs, Sli m v es cs l.length ∧ RL I cs (l.flatMap enc) :=
  h.sli hf (flat_len he l) hes
section
variable {W : Prg} {call : Nat → List V → M → R} {m m' : M}
theorem Sli.lenL' {v : V} {es n : Nat} {cs : List V} (h : Sli m v es cs n) : evK W call m' .lenL [v] = .ok (.int .i64 (.ofNat n)) m' := by
  rcases h.is with ⟨rfl, rfl⟩ | ⟨b, o, cap, ex, own, t, all, rfl, _⟩ <;> rfl
theorem Sli.clean {v : V} {es n : Nat} {cs : List V} (h : Sli m v es cs n) : v.clean = true := by
  rcases h.is with ⟨rfl, _⟩ | ⟨b, o, cap, ex, own, t, all, rfl, _⟩ <;> rfl
theorem Sli.cells {v : V} {es n : Nat} {cs : List V} (h : Sli m v es cs n) : cellsOf v = some [v] := by
  rcases h.is with ⟨rfl, _⟩ | ⟨b, o, cap, ex, own, t, all, rfl, _⟩ <;> rfl
end
theorem R'.clean {I : Fz} : ∀ {v : V} {u : U}, R' I v u → v.clean = true ∨ ∃ us, u = .agg us
  | v, .int _ _, h => .inl (by rw [h.int]; rfl)
  | v, .bool _, h => .inl (by rw [h.bool]; rfl)
  | v, .str _, h => .inl (by rw [h.str]; rfl)
  | v, .lst es cs, h => by
    simp only [R'] at h
    rcases h with ⟨rfl, _⟩ | ⟨b, o, n, cap, ex, all, rfl, _⟩ <;> exact .inl rfl
  | v, .agg us, h => .inr ⟨us, rfl⟩
theorem R'.lstCells {I : Fz} {v : V} {es : Nat} {us : List U} (h : R' I v (.lst es us)) : cellsOf v = some [v] ∧ v.clean = true := by
  simp only [R'] at h
  rcases h with ⟨rfl, _⟩ | ⟨b, o, n, cap, ex, all, rfl, _⟩ <;> exact ⟨rfl, rfl⟩
/-- an element of a slice: where it lies -/
theorem Sli.elem {W : Prg} {call : Nat → List V → M → R} {m : M} {v : V} {es n : Nat} {A c B : List V} {i : Nat} (h : Sli m v es (A ++ (c ++ B)) n) (hA : A.length = i * es) (hc : c.length = es) (hes : 0 < es) (k : IntKind) :
    ∃ b o, (∀ m', evK W call m' (.idxSlice es) [v, .int k (.ofNat i)] = .ok (.ptr b o) m') ∧ b < m.n ∧ (∃ all own t, m.get b = some (.cells all own t) ∧ partV true o es all = some (.agg c) ∧ ∀ f x, c[f]? = some x → partV false (o + f) 1 all = some x) ∧ i < n := by
  have hl := h.len
  simp only [List.length_append, hA, hc] at hl
  have hi : i < n := by
    have h1 : i * es + es ≤ n * es := by omega
    have h2 : (i + 1) * es ≤ n * es := by rw [Nat.succ_mul]; exact h1
    exact Nat.le_of_mul_le_mul_right h2 hes
  rcases h.is with ⟨rfl, rfl⟩ | ⟨b, o, cap, ex, own, t, all, rfl, h2, h3, h4, h5⟩
  · omega
  · have hle : (i + 1) * es ≤ n * es := Nat.mul_le_mul_right es hi
    rw [Nat.succ_mul] at hle
    refine ⟨b, o + i * es, fun m' => k_idx (natOf_ofNat _ _) hi, h3, ⟨all, own, t, h2, ?_, fun f x hf => ?_⟩, hi⟩
    · have : slice1 all (o + i * es) es = c := by
        have h6 : ((all.drop o).take (n * es)).drop (i * es) = c ++ B := by rw [h4, ← hA, List.drop_left]
        have h7 : (((all.drop o).take (n * es)).drop (i * es)).take es = c := by rw [h6, ← hc, List.take_left]
        rw [← h7]
        simp only [slice1]
        rw [List.drop_take, List.take_take, List.drop_drop, Nat.min_eq_left (by omega)]
      simp only [partV, cond_true, this]
      rw [if_pos (by omega)]
    · have hfl : f < c.length := (List.getElem?_eq_some_iff.1 hf).1
      simp only [partV, cond_false]
      have h6 : ((all.drop o).take (n * es))[i * es + f]? = some x := by
        rw [h4, List.getElem?_append_right (by omega), hA, Nat.add_sub_cancel_left, List.getElem?_append_left hfl, hf]
      rw [List.getElem?_take] at h6
      split at h6
      · rw [List.getElem?_drop] at h6
        rw [show o + i * es + f = o + (i * es + f) by omega]
        exact h6
      · cases h6
/-- append to a slice that was just made, of no element -/
theorem clone_append {W : Prg} {call : Nat → List V → M → R} {m : M} {v : V} {es t n by_ : Nat} {cs : List V} (h : Sli m v es cs n) (hb : n * by_ ≤ 140737488355328) :
    ∃ v' m', evK W call (m.new (.cells [] .rw t)) (.append t es by_) [.sl m.n 0 0 0 es true, v] = .ok v' m' ∧ Ext m m' ∧ Mine m.n m' v' es t cs n := by
  have h2 := h.ext (Ext.new m (.cells [] .rw t))
  obtain ⟨r1, r2⟩ := h2.rd
  have hl := h.len
  simp only [evK, evAppend, r1, r2, if_true]
  by_cases hn : n = 0
  · subst hn
    rw [if_pos rfl]
    have : cs = [] := List.eq_nil_of_length_eq_zero (by omega)
    subst this
    exact ⟨_, _, rfl, Ext.new _ _, ⟨by simp, .inr ⟨m.n, true, rfl, M.get_new_same _ _, Nat.le_refl _, by simp⟩⟩⟩
  · rw [if_neg hn, if_neg (by rw [Nat.zero_add]; omega)]
    simp only [M.get_new_same, Nat.zero_add, Nat.zero_mul, Nat.add_zero]
    rw [if_neg (by omega), if_pos (by simp), cond_true]
    refine ⟨_, _, rfl, (Ext.new _ _).push _, ⟨hl, .inr ⟨m.n + 1, false, rfl, ?_, by omega, by simp⟩⟩⟩
    have : slice1 ([] : List V) 0 0 ++ cs = cs := by simp [slice1]
    rw [this]
    exact M.get_new_same (m.new (.cells [] .rw t)) _
theorem k_build2 {W : Prg} {call : Nat → List V → M → R} {m : M} {a b z1 z2 : V} (ha : cellsOf a = some [a]) (hb : cellsOf b = some [b]) : evK W call m (.build [z1, z2] [(0, 1), (1, 1)]) [a, b] = .ok (.agg [a, b]) m := by
  simp [evK, fill, ha, hb, splice]
theorem k_getB {m : M} {b : Nat} {x y : Option Blk} (h : m.get b = x) (k : x = y) : m.get b = y := h.trans k
theorem Acc.append1 {W : Prg} {call : Nat → List V → M → R} {m : M} {lo : Nat} {v x : V} {es t n k by_ : Nat} {cs new : List V} (h : Acc lo m v es t cs n) (hx : rdSl es x m = some new) (hl : lenV x = k) (hk : 0 < k) (hb : (n + k) * by_ ≤ 140737488355328) :
    ∃ m', evK W call m (.append t es by_) [v, x] = .ok (.sl m.n 0 (n + k) (n + k) es false) m' ∧ m'.get m.n = some (.cells (cs ++ new) .rw t) ∧ m'.n = m.n + 1 ∧ (∀ b, b < m.n → (∀ o l c e y, v ≠ .sl b o l c e y) → m'.get b = m.get b) := by
  rcases h.is with ⟨rfl, rfl⟩ | ⟨db, rfl, h2, h3, h4⟩
  · have hc : cs = [] := List.eq_nil_of_length_eq_zero (by rw [h.len]; simp)
    subst hc
    simp only [evK, evAppend, hx, hl]
    rw [Nat.zero_add] at hb
    rw [if_neg (by omega), if_neg (by omega)]
    exact ⟨_, by rw [Nat.zero_add], by simpa using M.get_new_same _ _, by simp, fun b hb' _ => M.get_new_ne _ _ _ (by omega)⟩
  · have hln : cs.length = n * es := h.len
    simp only [evK, evAppend, hx, hl, if_true]
    rw [if_neg (by omega), if_neg (by omega)]
    simp only [h2]
    have hz : 0 + n * es = cs.length := by omega
    rw [if_neg (by omega), if_pos (by omega), cond_false, if_pos ⟨by trivial, hz, by trivial⟩]
    refine ⟨_, rfl, ?_, by simp, fun b hb' hne => ?_⟩
    · have e1 : (m.put db .dead).n = m.n := rfl
      have : slice1 cs 0 (n * es) = cs := by
        simp only [slice1, List.drop_zero]
        exact List.take_of_length_le (by omega)
      rw [this]
      exact M.get_new_same (m.put db .dead) _
    · have hbd : db ≠ b := fun e => hne 0 n n es false (by rw [e])
      rw [M.get_new_ne _ _ _ (by simp; omega), M.get_put_ne _ _ _ _ hbd]
theorem t_append1 {Q : X → Prop} {W : Prg} {call : Nat → List V → M → R} {m : M} {F : V → M → X} {lo : Nat} {v x : V} {es t n k by_ : Nat} {cs new : List V} (h : Acc lo m v es t cs n) (hx : rdSl es x m = some new) (hl : lenV x = k) (hk : 0 < k) (hb : (n + k) * by_ ≤ 140737488355328)
    (hq : ∀ m', m'.get m.n = some (.cells (cs ++ new) .rw t) → m'.n = m.n + 1 → (∀ b, b < m.n → (∀ o l c e y, v ≠ .sl b o l c e y) → m'.get b = m.get b) → Q (F (.sl m.n 0 (n + k) (n + k) es false) m')) : Q ((evK W call m (.append t es by_) [v, x]).to F) := by
  obtain ⟨m', h1, h2, h3, h4⟩ := h.append1 (W := W) (call := call) hx hl hk hb
  exact t_ok h1 (hq m' h2 h3 h4)
theorem Acc.lt {lo : Nat} {m : M} {v : V} {es t n : Nat} {cs : List V} (h : Acc lo m v es t cs n) {b o l c e : Nat} {y : Bool} (hv : v = .sl b o l c e y) : b < m.n ∧ lo ≤ b := by
  rcases h.is with ⟨h, _⟩ | ⟨db, h, _, h1, h2⟩
  · rw [hv] at h; cases h
  · rw [hv] at h; injection h with h; omega
end Mu
