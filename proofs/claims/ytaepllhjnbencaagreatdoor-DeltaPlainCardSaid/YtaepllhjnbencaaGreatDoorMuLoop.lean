/- Loops in the direct style, rows of cells, and what a call leaves as it was. -/
import Derived.Test.YtaepllhjnbencaaGreatDoorMuGo
set_option linter.unusedVariables false
set_option linter.unusedSimpArgs false
namespace Mu
section
variable {Q : X → Prop}
/-- a loop, by what holds of its state ahead of each round, and what falls -/
theorem loop_wf {σ : Type} {B : List V → M → X} (vs : σ → List V) (I : σ → M → Prop) (μ : σ → Nat)
    (step : ∀ s m n, I s m → (∀ s' m', μ s' < μ s → I s' m' → Q (loopF B n (vs s') m')) → InLoop Q B n (B (vs s) m)) :
    ∀ (s : σ) (m : M) (fuel : Nat), μ s < fuel → I s m → Q (loopF B fuel (vs s) m) := by
  intro s m fuel
  induction fuel generalizing s m with
  | zero => intro h; omega
  | succ n ih =>
    intro h hi
    exact loop1 (step s m n hi fun s' m' h1 h2 => ih s' m' (by omega) h2)
end

/-! ### Rows -/
/-- elements, each of so many cells, one behind the other -/
def flat {α : Type} (f : α → List V) : List α → List V
  | [] => []
  | x :: r => f x ++ flat f r
section
variable {α : Type} {f : α → List V} {k : Nat}
theorem flat_length (hf : ∀ x, (f x).length = k) : ∀ l : List α, (flat f l).length = l.length * k
  | [] => by simp [flat]
  | x :: r => by simp only [flat, List.length_append, hf, flat_length hf r, List.length_cons]; rw [Nat.succ_mul]; omega
theorem flat_append (a b : List α) : flat f (a ++ b) = flat f a ++ flat f b := by
  induction a with
  | nil => rfl
  | cons x r ih => simp only [List.cons_append, flat, ih, List.append_assoc]
theorem flat_get (hf : ∀ x, (f x).length = k) : ∀ (l : List α) (i : Nat) (x : α), l[i]? = some x → ((flat f l).drop (i * k)).take k = f x
  | [], i, x, h => by simp at h
  | y :: r, 0, x, h => by
    simp only [List.getElem?_cons_zero, Option.some.injEq] at h
    subst h
    simp only [flat, Nat.zero_mul, List.drop_zero]
    rw [List.take_append_of_le_length (by rw [hf]; exact Nat.le_refl _), List.take_of_length_le (by rw [hf]; exact Nat.le_refl _)]
  | y :: r, i + 1, x, h => by
    simp only [List.getElem?_cons_succ] at h
    rw [← flat_get hf r i x h, flat]
    rw [show (i + 1) * k = (f y).length + i * k by rw [hf, Nat.succ_mul]; omega, List.drop_append, List.drop_eq_nil_of_le (by omega), List.nil_append, Nat.add_sub_cancel_left]
end
/-- a slice whose elements these are -/
structure Sli (m : M) (v : V) (es : Nat) (cs : List V) (n : Nat) : Prop where
  len : cs.length = n * es
  is : (v = .snil ∧ n = 0) ∨ ∃ b o cap ex own t all, v = .sl b o n cap es ex ∧ m.get b = some (.cells all own t) ∧ b < m.n ∧ (all.drop o).take (n * es) = cs ∧ o + n * es ≤ all.length
theorem Sli.ext {m m' : M} {v : V} {es : Nat} {cs : List V} {n : Nat} (h : Sli m v es cs n) (e : Ext m m') : Sli m' v es cs n := by
  refine ⟨h.len, ?_⟩
  rcases h.is with h1 | ⟨b, o, cap, ex, own, t, all, h1, h2, h3, h4, h5⟩
  · exact .inl h1
  · exact .inr ⟨b, o, cap, ex, own, t, all, h1, e.some h3 h2, Nat.lt_of_lt_of_le h3 e.n, h4, h5⟩
section
variable {W : Prg} {call : Nat → List V → M → R} {m : M}
theorem Sli.lenL {v : V} {es n : Nat} {cs : List V} (h : Sli m v es cs n) : evK W call m .lenL [v] = .ok (.int .i64 (.ofNat n)) m := by
  rcases h.is with ⟨rfl, rfl⟩ | ⟨b, o, cap, ex, own, t, all, rfl, _⟩ <;> rfl
theorem Sli.at {v : V} {es n i : Nat} {cs : List V} (h : Sli m v es cs n) (hes : 0 < es) (hi : i < n) (k : Go.IntKind) : ∃ b o, evK W call m (.idxSlice es) [v, .int k (.ofNat i)] = .ok (.ptr b o) m ∧
    (∀ f u, f < es → cs[i * es + f]? = some u → evK W call m (.load false 1) [.ptr b (o + f)] = .ok u m) ∧
    evK W call m (.load true es) [.ptr b o] = .ok (.agg ((cs.drop (i * es)).take es)) m := by
  rcases h.is with ⟨rfl, rfl⟩ | ⟨b, o, cap, ex, own, t, all, rfl, h2, h3, h4, h5⟩
  · omega
  · have hle : (i + 1) * es ≤ n * es := Nat.mul_le_mul_right es hi
    rw [Nat.succ_mul] at hle
    have hl := h.len
    refine ⟨b, o + i * es, k_idx (natOf_ofNat _ _) hi, fun f u hf hu => k_load h2 ?_, k_load h2 ?_⟩
    · simp only [partV, cond_false]
      rw [← h4, List.getElem?_take] at hu
      split at hu
      · rw [List.getElem?_drop] at hu
        rw [show o + i * es + f = o + (i * es + f) by omega]
        exact hu
      · cases hu
    · simp only [partV, cond_true]
      rw [if_pos (by omega)]
      congr 1
      rw [← h4]
      simp only [slice1]
      rw [List.drop_take, List.take_take, List.drop_drop, Nat.min_eq_left (by omega)]
theorem Sli.rd {v : V} {es n : Nat} {cs : List V} (h : Sli m v es cs n) : rdSl es v m = some cs ∧ lenV v = n := by
  rcases h.is with ⟨rfl, rfl⟩ | ⟨b, o, cap, ex, own, t, all, rfl, h2, h3, h4, h5⟩
  · have := h.len
    rw [Nat.zero_mul] at this
    rw [List.eq_nil_of_length_eq_zero this]
    exact ⟨rfl, rfl⟩
  · refine ⟨?_, rfl⟩
    simp only [rdSl, if_true, h2, slice1, if_pos h5, h4]
end
/-- a slice that was made by appending from nothing, its row from block lo on -/
structure Acc (lo : Nat) (m : M) (v : V) (es t : Nat) (cs : List V) (n : Nat) : Prop where
  len : cs.length = n * es
  is : (v = .snil ∧ n = 0) ∨ ∃ db, v = .sl db 0 n n es false ∧ m.get db = some (.cells cs .rw t) ∧ lo ≤ db ∧ db < m.n
theorem Acc.nil {lo : Nat} {m : M} {es t : Nat} : Acc lo m .snil es t [] 0 := ⟨by simp, .inl ⟨rfl, rfl⟩⟩
theorem Acc.sli {lo : Nat} {m : M} {v : V} {es t n : Nat} {cs : List V} (h : Acc lo m v es t cs n) : Sli m v es cs n := by
  refine ⟨h.len, ?_⟩
  rcases h.is with h1 | ⟨db, h1, h2, h3, h4⟩
  · exact .inl h1
  · refine .inr ⟨db, 0, n, false, .rw, t, cs, h1, h2, h4, ?_, ?_⟩
    · rw [List.drop_zero, List.take_of_length_le (by rw [h.len]; exact Nat.le_refl _)]
    · rw [h.len]; omega
theorem Acc.same {lo : Nat} {m m' : M} {v : V} {es t n : Nat} {cs : List V} (h : Acc lo m v es t cs n) (hn : m.n ≤ m'.n) (e : ∀ b, lo ≤ b → b < m.n → m'.get b = m.get b) : Acc lo m' v es t cs n := by
  refine ⟨h.len, ?_⟩
  rcases h.is with h1 | ⟨db, h1, h2, h3, h4⟩
  · exact .inl h1
  · exact .inr ⟨db, h1, (e db h3 h4).trans h2, h3, by omega⟩
section
variable {W : Prg} {call : Nat → List V → M → R} {m : M}
theorem Acc.append {lo : Nat} {v x : V} {es t n k : Nat} {cs new : List V} (h : Acc lo m v es t cs n) (hes : 0 < es) (hx : rdSl es x m = some new) (hl : lenV x = k) (hnew : new.length = k * es) {by_ : Nat} (hb : (n + k) * by_ ≤ 140737488355328) (hlo : lo ≤ m.n) :
    ∃ v' m', evK W call m (.append t es by_) [v, x] = .ok v' m' ∧ Acc lo m' v' es t (cs ++ new) (n + k) ∧ m.n ≤ m'.n ∧ (∀ b, b < m.n → (∀ o l c e y, v ≠ .sl b o l c e y) → m'.get b = m.get b) := by
  rcases h.is with ⟨rfl, rfl⟩ | ⟨db, rfl, h2, h3, h4⟩
  · have hc : cs = [] := List.eq_nil_of_length_eq_zero (by rw [h.len]; simp)
    subst hc
    simp only [evK, evAppend, hx, hl]
    by_cases hk : k = 0
    · subst hk
      rw [if_pos rfl]
      have : new = [] := List.eq_nil_of_length_eq_zero (by rw [hnew]; simp)
      subst this
      exact ⟨_, _, rfl, ⟨by simp, .inl ⟨rfl, rfl⟩⟩, Nat.le_refl _, fun _ _ _ => rfl⟩
    · rw [Nat.zero_add] at hb
      rw [if_neg hk, if_neg (by omega)]
      refine ⟨_, _, rfl, ⟨by simp [hnew], .inr ⟨m.n, by simp, by simpa using M.get_new_same _ _, hlo, by simp⟩⟩, by simp, fun b hb' _ => M.get_new_ne _ _ _ (by omega)⟩
  · have hln : cs.length = n * es := h.len
    simp only [evK, evAppend, hx, hl, if_true]
    by_cases hk : k = 0
    · subst hk
      rw [if_pos rfl]
      have : new = [] := List.eq_nil_of_length_eq_zero (by rw [hnew]; simp)
      subst this
      exact ⟨_, _, rfl, ⟨by simp [hln], .inr ⟨db, by simp, by simpa using h2, h3, h4⟩⟩, Nat.le_refl _, fun _ _ _ => rfl⟩
    · rw [if_neg hk, if_neg (by omega)]
      simp only [h2]
      have hz : 0 + n * es = cs.length := by omega
      rw [if_neg (by omega), if_pos (by omega), cond_false, if_pos ⟨by trivial, hz, by trivial⟩]
      refine ⟨_, _, rfl, ⟨?_, .inr ⟨m.n, rfl, ?_, hlo, by simp⟩⟩, by simp, fun b hb' hne => ?_⟩
      · rw [List.length_append, hnew, hln, Nat.add_mul]
      · have e1 : (m.put db .dead).n = m.n := rfl
        have : slice1 cs 0 (n * es) = cs := by
          simp only [slice1, List.drop_zero]
          exact List.take_of_length_le (by omega)
        rw [this]
        exact M.get_new_same (m.put db .dead) _
      · have hbd : db ≠ b := fun e => hne 0 n n es false (by rw [e])
        rw [M.get_new_ne _ _ _ (by simp; omega), M.get_put_ne _ _ _ _ hbd]
end
end Mu
namespace Mu
/-- it returns values of which that is so -/
def RetE (T : List V → M → Prop) (x : X) : Prop := ∃ l m', x = .ret l m' ∧ T l m'
theorem RetE.mk {T : List V → M → Prop} {l : List V} {m : M} (h : T l m) : RetE T (.ret l m) := ⟨l, m, rfl, h⟩
theorem callE {W : Prg} {n f : Nat} {fn : IFn} {args : List V} {m : M} {x : X} {T : List V → M → Prop} (hp : W.prims f = none) (hf : W.fns.get (key f) = some fn) (hn : args.length = fn.np)
    (h : exec2 W (callF W n) n fn.body (mkEnv args 0 .nil) m (fun e m => retX (results e m fn.rs) m) = x) (hx : RetE T x) : ∃ l m', callF W (n + 1) f args m = .ok (tupled l) m' ∧ T l m' := by
  obtain ⟨l, m', rfl, ht⟩ := hx
  exact ⟨l, m', callF_dir hp hf hn h rfl (by intro h; cases h), ht⟩
theorem k_extract {W : Prg} {call : Nat → List V → M → R} {m : M} {vs : List V} {i : Nat} {v : V} (h : vs[i]? = some v) : evK W call m (.extract i) [.tup vs] = .ok v m := by
  simp only [evK, h, opt]
theorem k_assertY {W : Prg} {call : Nat → List V → M → R} {m : M} {t : Nat} {zero v : V} : evK W call m (.assertT t zero true) [.iface t v] = .ok (.tup [v, .bool true]) m := by
  simp only [evK, if_true, cond_true]
theorem k_assertN {W : Prg} {call : Nat → List V → M → R} {m : M} {t t' : Nat} {zero v : V} (h : t ≠ t') : evK W call m (.assertT t zero true) [.iface t' v] = .ok (.tup [zero, .bool false]) m := by
  simp only [evK, if_neg h, cond_true]
theorem k_assert1 {W : Prg} {call : Nat → List V → M → R} {m : M} {t : Nat} {zero v : V} : evK W call m (.assertT t zero false) [.iface t v] = .ok v m := by
  simp only [evK, if_true, cond_false]
end Mu
namespace Mu
section
variable {Q : X → Prop} {W : Prg} {call : Nat → List V → M → R} {m : M}
theorem e_append {c : Bool} {g : Option Bool} {F : V → M → X} {lo : Nat} {v x : V} {es t n k : Nat} {cs new : List V} (hg : g = some true) (hp : c = true) (h : Acc lo m v es t cs n) (hes : 0 < es) (hx : rdSl es x m = some new) (hl : lenV x = k) (hnew : new.length = k * es) {by_ : Nat} (hb : (n + k) * by_ ≤ 140737488355328) (hlo : lo ≤ m.n)
    (hq : ∀ v' m', Acc lo m' v' es t (cs ++ new) (n + k) → m.n ≤ m'.n → (∀ b, b < m.n → (∀ o l c e y, v ≠ .sl b o l c e y) → m'.get b = m.get b) → Q (F v' m')) : Q (effD c g (evK W call m (.append t es by_) [v, x]) m F) := by
  obtain ⟨v', m', e1, e2, e3, e4⟩ := h.append (W := W) (call := call) hes hx hl hnew hb hlo
  exact e_yes hg hp e1 (hq v' m' e2 e3 e4)
theorem t_append {F : V → M → X} {lo : Nat} {v x : V} {es t n k : Nat} {cs new : List V} (h : Acc lo m v es t cs n) (hes : 0 < es) (hx : rdSl es x m = some new) (hl : lenV x = k) (hnew : new.length = k * es) {by_ : Nat} (hb : (n + k) * by_ ≤ 140737488355328) (hlo : lo ≤ m.n)
    (hq : ∀ v' m', Acc lo m' v' es t (cs ++ new) (n + k) → m.n ≤ m'.n → (∀ b, b < m.n → (∀ o l c e y, v ≠ .sl b o l c e y) → m'.get b = m.get b) → Q (F v' m')) : Q ((evK W call m (.append t es by_) [v, x]).to F) := by
  obtain ⟨v', m', e1, e2, e3, e4⟩ := h.append (W := W) (call := call) hes hx hl hnew hb hlo
  exact t_ok e1 (hq v' m' e2 e3 e4)
theorem Acc.ne {lo : Nat} {v : V} {es t n : Nat} {cs : List V} (h : Acc lo m v es t cs n) {b : Nat} (hb : b < lo) : ∀ o l c e y, v ≠ .sl b o l c e y := by
  intro o l c e y hv
  rcases h.is with ⟨h, _⟩ | ⟨db, h, _, hlo, _⟩
  · rw [hv] at h; cases h
  · rw [hv] at h; injection h with h; omega
end
end Mu
namespace Mu
theorem rdSl_of {m : M} {b o len cap es t : Nat} {ex : Bool} {cs new : List V} {own : Own} (hm : m.get b = some (.cells cs own t)) (h : o + len * es ≤ cs.length) (hs : slice1 cs o (len * es) = new) : rdSl es (.sl b o len cap es ex) m = some new := by
  subst hs
  simp only [rdSl, if_true, hm, if_pos h]
end Mu
namespace Mu
theorem Acc.clean {lo : Nat} {m : M} {v : V} {es t n : Nat} {cs : List V} (h : Acc lo m v es t cs n) : v.clean = true := by
  rcases h.is with ⟨rfl, _⟩ | ⟨db, rfl, _⟩ <;> rfl
end Mu
namespace Mu
theorem Acc.cells {lo : Nat} {m : M} {v : V} {es t n : Nat} {cs : List V} (h : Acc lo m v es t cs n) : cellsOf v = some [v] := by
  rcases h.is with ⟨rfl, _⟩ | ⟨db, rfl, _⟩ <;> rfl
end Mu
namespace Mu
theorem k_idxStr {W : Prg} {call : Nat → List V → M → R} {m : M} {s : List Nat} {iv : V} {i c : Nat} (hi : natOf iv = some i) (h : s[i]? = some c) : evK W call m .idxStr [.str s, iv] = .ok (.int .u8 (Int.ofNat c)) m := by
  simp only [evK, hi, h]
theorem k_lenS {W : Prg} {call : Nat → List V → M → R} {m : M} {s : List Nat} : evK W call m .lenS [.str s] = .ok (.int .i64 (.ofNat s.length)) m := rfl
theorem k_subN {W : Prg} {call : Nat → List V → M → R} {m : M} {a b : Nat} (h : b ≤ a) (h2 : a < 9223372036854775808) : evK W call m (.bin .sub) [.int .i64 (.ofNat a), .int .i64 (.ofNat b)] = .ok (.int .i64 (.ofNat (a - b))) m := by
  refine k_sub ?_
  rw [show (Int.ofNat a - Int.ofNat b) = Int.ofNat (a - b) by simp only [Int.ofNat_eq_natCast]; omega]
  exact wrap_i64 (by simp only [Int.ofNat_eq_natCast]; omega) (by simp only [Int.ofNat_eq_natCast]; omega)
end Mu
namespace Mu
theorem Sli.tail {W : Prg} {call : Nat → List V → M → R} {m : M} {v : V} {es n : Nat} {cs : List V} (h : Sli m v es cs (n + 1)) : ∃ v', evK W call m (.slSlice es true false false) [v, .int .i64 (.ofNat 1)] = .ok v' m ∧ Sli m v' es (cs.drop es) n := by
  rcases h.is with ⟨_, h0⟩ | ⟨b, o, cap, ex, own, t, all, rfl, h2, h3, h4, h5⟩
  · omega
  · have hl := h.len
    rw [Nat.succ_mul] at hl h5
    refine ⟨.sl b (o + 1 * es) (n + 1 - 1) (cap - 1) es (ex || false), ?_, ?_, ?_⟩
    · simp only [evK, bnds, if_true, bnds3, bnd, topOf, natOf_ofNat, if_pos (show 1 ≤ n + 1 by omega)]
    · rw [List.length_drop]; omega
    · refine .inr ⟨b, o + 1 * es, cap - 1, _, own, t, all, rfl, h2, h3, ?_, by omega⟩
      rw [← h4, Nat.one_mul, List.drop_take, List.drop_drop, Nat.succ_mul, Nat.add_sub_cancel]
end Mu
