/- Each operation of the small code does what the model's does: sums, comparisons. -/
import Derived.Test.YtaepllhjnbencaaGreatDoorMuOps1
set_option linter.unusedVariables false
set_option linter.unusedSimpArgs false
namespace Mu
open Go (Value World Addr Program IntKind Sem Result Obj TypeDesc TypeInfo Operand Oper)

theorem bytes_inj {a b : ByteArray} (h : a.data.toList.map UInt8.toNat = b.data.toList.map UInt8.toNat) : a.data.toList = b.data.toList := by
  generalize a.data.toList = x at h
  generalize b.data.toList = y at h
  induction x generalizing y with
  | nil => cases y <;> simp_all
  | cons c r ih =>
    cases y with
    | nil => simp at h
    | cons d s =>
      simp only [List.map_cons, List.cons.injEq] at h
      rw [UInt8.toNat.inj h.1, ih s h.2]

theorem str_eq (a b : ByteArray) : (a.toList == b.toList) = decide (a.data.toList.map UInt8.toNat = b.data.toList.map UInt8.toNat) := by
  rw [Go.ByteArray.toList_eq, Go.ByteArray.toList_eq]
  by_cases h : a.data.toList = b.data.toList
  · simp [h]
  · have h2 : ¬ (a.data.toList.map UInt8.toNat = b.data.toList.map UInt8.toNat) := fun e => h (bytes_inj e)
    rw [decide_eq_false h2]
    simpa using h

theorem bytesLess_eq : ∀ (x y : List UInt8), Go.Op.bytesLess x y = ltStr (x.map UInt8.toNat) (y.map UInt8.toNat)
  | [], [] => rfl
  | [], _ :: _ => rfl
  | _ :: _, [] => rfl
  | a :: x, b :: y => by
    simp only [Go.Op.bytesLess, List.map_cons, ltStr, bytesLess_eq x y]
    have h1 : decide (a < b) = decide (a.toNat < b.toNat) := by simp [UInt8.lt_iff_toNat_lt]
    have h2 : (a == b) = decide (a.toNat = b.toNat) := by
      by_cases h : a = b
      · simp [h]
      · have : ¬ a.toNat = b.toNat := fun e => h (UInt8.toNat.inj e)
        simp [h, this]
    rw [h1, h2]

theorem str_lt (a b : ByteArray) : Go.Op.bytesLess a.toList b.toList = ltStr (a.data.toList.map UInt8.toNat) (b.data.toList.map UInt8.toNat) := by
  rw [Go.ByteArray.toList_eq, Go.ByteArray.toList_eq, bytesLess_eq]

theorem str_len {bs : ByteArray} {s : List Nat} (h : bs.data.toList.map UInt8.toNat = s) : s.length = bs.size := by
  rw [← h, List.length_map, Array.length_toList]; rfl

section
variable {P : Program} {names : List String} {o : Oper} {a : Go.Act} {ρ : Rho} {m : M} {w : World} (W : Prg) (call : Nat → List V → M → R)

theorem run_eqGuard_not (op : Go.BinOp) (h : op ≠ .eql ∧ op ≠ .neq) (t : Nat) (x y : Operand) (u v : Value) : (Go.eqGuard op t x y u v).run P w = .ok () w := by
  obtain ⟨h1, h2⟩ := h
  cases op <;> first | exact absurd rfl h1 | exact absurd rfl h2 | rfl

theorem run_binInt (op : Go.BinOp) (t : Nat) {k0 : IntKind} (hd : P.underlying t = some (.int k0)) {ib : IB} (hi : binT P op t = some ib) (hsh : ¬ (op = .shl ∨ op = .shr)) (k : IntKind) (n1 n2 : Int)
    {c : V} (h : binInt ib k n1 n2 m = .ok c m) : ∃ z, (Go.binOp op t (.int k n1) (.int k n2)).run P w = .ok z w ∧ VR ρ c z := by
  cases op <;> simp only [binT, hd, Option.some.injEq, reduceCtorEq] at hi <;> subst hi <;> simp only [binInt] at h
  case shl => simp at hsh
  case shr => simp at hsh
  case quo =>
    split at h
    · cases h
    · rename_i h0
      injection h with h _
      subst h
      exact ⟨_, by simp [Go.binOp, Go.Op.intDiv, h0]; rfl, by simp [VR]⟩
  case rem =>
    split at h
    · cases h
    · rename_i h0
      injection h with h _
      subst h
      exact ⟨_, by simp [Go.binOp, Go.Op.intDiv, h0]; rfl, by simp [VR]⟩
  all_goals
    injection h with h _
    subst h
    exact ⟨_, by simp only [Go.binOp, ne_eq, not_true_eq_false, if_false, Go.Op.intArith, Go.Op.intBits, Go.Op.intCmp]; rfl, by simp [VR]⟩

theorem evBin_int (op : Go.BinOp) (t : Nat) {k0 : IntKind} (hd : P.underlying t = some (.int k0)) {ib : IB} (hi : binT P op t = some ib) (hsh : ¬ (op = .shl ∨ op = .shr)) (k1 k2 : IntKind) (n1 n2 : Int) :
    evBin ib (.int k1 n1) (.int k2 n2) m = if k1 = k2 then binInt ib k1 n1 n2 m else .bad := by
  cases op <;> simp only [binT, hd, Option.some.injEq, reduceCtorEq] at hi <;> subst hi <;> first | rfl | (simp at hsh)

theorem binInt_same {ib : IB} {k : IntKind} {n1 n2 : Int} : (∃ c, binInt ib k n1 n2 m = .ok c m) ∨ binInt ib k n1 n2 m = .bad := by
  cases ib <;> simp only [binInt] <;> first | exact .inl ⟨_, rfl⟩ | exact .inr rfl | exact .inr trivial | (split <;> first | exact .inl ⟨_, rfl⟩ | exact .inr rfl)

theorem evBin_int_ne (op : Go.BinOp) (t : Nat) {k0 : IntKind} (hd : P.underlying t = some (.int k0)) {ib : IB} (hi : binT P op t = some ib) (v u : V) (h : ∀ k n k' n', ¬ (v = .int k n ∧ u = .int k' n')) :
    evBin ib v u m = .bad := by
  cases op <;> simp only [binT, hd, Option.some.injEq, reduceCtorEq] at hi <;> subst hi <;> cases v <;> cases u <;> first | rfl | (exact absurd ⟨rfl, rfl⟩ (h _ _ _ _))

theorem done_bin_int (op : Go.BinOp) (t : Nat) (x y : Operand) (yt : Nat) {k0 : IntKind} (hd : P.underlying t = some (.int k0)) {ib : IB} (hi : binT P op t = some ib)
    {v u : V} (hv : VR ρ v (a.eval x)) (hu : VR ρ u (a.eval y))
    (fin : ∀ (c : V) (z : Value), (Go.binOp op t (a.eval x) (a.eval y)).run P w = .ok z w → VR ρ c z → Done P o a ρ m w (.ok c m)) : Done P o a ρ m w (evBin ib v u m) := by
  by_cases hints : ∃ k n k' n', v = .int k n ∧ u = .int k' n'
  · obtain ⟨k1, n1, k2, n2, rfl, rfl⟩ := hints
    have e1 := vr_int hv
    have e2 := vr_int hu
    rw [e1, e2] at fin
    by_cases hsh : op = .shl ∨ op = .shr
    · rcases hsh with rfl | rfl
      · simp only [binT, hd, Option.some.injEq] at hi
        subst hi
        simp only [evBin]
        split
        · simp [Done]
        · rename_i hb
          exact fin _ (.int k1 (k1.wrap (n1 * 2 ^ (min n2.toNat k1.bits)))) (by simp only [Go.binOp, Go.Op.shift, if_neg hb]; rfl) (by simp [VR])
      · simp only [binT, hd, Option.some.injEq] at hi
        subst hi
        simp only [evBin]
        split
        · simp [Done]
        · rename_i hb
          exact fin _ (.int k1 (n1.fdiv (2 ^ (min n2.toNat k1.bits)))) (by simp only [Go.binOp, Go.Op.shift, if_neg hb]; rfl) (by simp [VR])
    · rw [evBin_int op t hd hi hsh]
      split
      · rename_i hk
        subst hk
        rcases binInt_same (m := m) (ib := ib) (k := k1) (n1 := n1) (n2 := n2) with ⟨c, hc⟩ | hc
        · rw [hc]
          obtain ⟨z, h1, h2⟩ := run_binInt (P := P) (w := w) (ρ := ρ) op t hd hi hsh k1 n1 n2 hc
          exact fin c z h1 h2
        · rw [hc]; simp [Done]
      · simp [Done]
  · rw [evBin_int_ne op t hd hi v u (fun k n k' n' h => hints ⟨k, n, k', n', h⟩)]
    simp [Done]

theorem evBin_str_ne (op : Go.BinOp) (t : Nat) (hd : P.underlying t = some .string) {ib : IB} (hi : binT P op t = some ib) (v u : V) (h : ∀ s s', ¬ (v = .str s ∧ u = .str s')) :
    evBin ib v u m = .bad := by
  cases op <;> simp only [binT, hd, Option.some.injEq, reduceCtorEq] at hi <;> subst hi <;> cases v <;> cases u <;> first
    | rfl
    | (exact absurd ⟨rfl, rfl⟩ (h _ _))
    | (simp only [evBin, binInt, ite_self])

theorem done_bin_str (op : Go.BinOp) (t : Nat) (x y : Operand) (yt : Nat) (hd : P.underlying t = some .string) {ib : IB} (hi : binT P op t = some ib)
    {v u : V} (hv : VR ρ v (a.eval x)) (hu : VR ρ u (a.eval y))
    (fin : ∀ (c : V) (z : Value), (Go.binOp op t (a.eval x) (a.eval y)).run P w = .ok z w → VR ρ c z → Done P o a ρ m w (.ok c m)) : Done P o a ρ m w (evBin ib v u m) := by
  by_cases hstrs : ∃ s s', v = .str s ∧ u = .str s'
  · obtain ⟨s1, s2, rfl, rfl⟩ := hstrs
    obtain ⟨b1, e1, e3⟩ := vr_str hv
    obtain ⟨b2, e2, e4⟩ := vr_str hu
    rw [e1, e2] at fin
    have l1 := str_len e3
    have l2 := str_len e4
    subst e3 e4
    by_cases ha : op = .add
    · subst ha
      simp only [binT, hd, Option.some.injEq] at hi
      subst hi
      simp only [evBin]
      split
      · rename_i hl
        refine fin _ (.string (b1 ++ b2)) ?_ (by simp only [VR]; exact ⟨_, rfl, by simp⟩)
        have : ¬ (((b1.size + b2.size : Nat) : Int) > IntKind.i64.max) := by
          rw [l1, l2] at hl
          have h9 : IntKind.i64.max = 9223372036854775807 := by decide
          rw [h9]
          omega
        simp only [Go.binOp, Go.Op.stringOp]
        rw [if_neg this]
        rfl
      · simp [Done]
    · cases op <;> simp only [binT, hd, Option.some.injEq, reduceCtorEq] at hi <;> subst hi <;> simp only [evBin] <;> first
        | exact fin _ _ (by simp only [Go.binOp, Go.Op.stringOp]; rfl) (by simp only [VR, str_eq, str_lt])
        | (simp at ha)
  · rw [evBin_str_ne op t hd hi v u (fun s s' h => hstrs ⟨s, s', h⟩)]
    simp [Done]

theorem done_bin (op : Go.BinOp) (t : Nat) (x y : Operand) (yt : Nat) {ib : IB} (hi : binT P op t = some ib) (ho : o.op = .binOp op t x y yt) {vs : List V}
    (hvs : VRL ρ vs (o.op.operands.toList.map a.eval)) (hm : MR ρ m w) : Done P o a ρ m w (evK W call m (.bin ib) vs) := by
  have hop : o.op.operands = #[x, y] := by rw [ho]; rfl
  rw [hop] at hvs
  obtain ⟨v, u, rfl, hv, hu⟩ := hvs.two_inv
  have hne : op ≠ .eql ∧ op ≠ .neq := by
    unfold binT at hi
    constructor <;> (rintro rfl; revert hi; cases P.underlying t with
      | none => simp
      | some d => cases d <;> simp)
  have hg := fun u v => run_eqGuard_not (P := P) (w := w) op hne t x y u v
  have hrun : (Go.execOp a.eval o).run P w = ((Go.binOp op t (a.eval x) (a.eval y)).run P w).andThen fun v w' => .ok (.value v) w' := by
    simp only [Go.execOp, ho, Sem.run_bind, hg, Result.andThen_ok, Sem.run_pure]
  simp only [evK]
  have fin : ∀ (c : V) (z : Value), (Go.binOp op t (a.eval x) (a.eval y)).run P w = .ok z w → VR ρ c z → Done P o a ρ m w (.ok c m) := fun c z hz hc =>
    Done.value (by rw [hrun, hz]; rfl) hc hm
  cases hd : P.underlying t with
  | none => simp [binT, hd] at hi
  | some d =>
    cases d with
    | int k0 => exact done_bin_int op t x y yt hd hi hv hu fin
    | string => exact done_bin_str op t x y yt hd hi hv hu fin
    | _ => simp [binT, hd] at hi

/-! equality -/
def Plain2 (u v : Value) : Prop := match u, v with | .nilIface, .nilIface => False | .agg _, .agg _ => False | _, _ => True
theorem run_eqGuard_other (op : Go.BinOp) (t : Nat) (x y : Operand) (u v : Value) (h : Plain2 u v) :
    (Go.eqGuard op t x y u v).run P w = .ok () w := by
  unfold Go.eqGuard
  cases op <;> first
    | rfl
    | (simp only [Bool.not_true, Bool.false_eq_true, if_false]; cases u <;> cases v <;> first | rfl | exact h.elim)

theorem eqBase_sound {t : Nat} {b : EqB} (hb : eqBaseT P t = some b) {x y : V} {r : Bool} (he : eqBase b x y = some r) {u v : Value} (hx : VR ρ x u) (hy : VR ρ y v) (d : Nat) :
    (Go.Op.equalIn (d + 1) t u v).run P w = .ok r w ∧ (Go.binOp .eql t u v).run P w = .ok (.bool r) w ∧ (Go.binOp .neq t u v).run P w = .ok (.bool (!r)) w ∧
      Plain2 u v := by
  cases hd : P.underlying t with
  | none => simp [eqBaseT, hd] at hb
  | some d0 =>
    cases d0 with
    | int k0 =>
      simp [eqBaseT, hd] at hb
      subst hb
      cases x <;> cases y <;> simp only [eqBase, reduceCtorEq] at he
      rename_i k1 n1 k2 n2
      have e1 := vr_int hx
      have e2 := vr_int hy
      subst e1 e2
      split at he
      · rename_i hk
        subst hk
        injection he with he
        subst he
        refine ⟨?_, ?_, ?_, trivial⟩
        · simp [Go.run_equalIn_int w d t k1 k0 n1 n2 hd]
          by_cases h : n1 = n2 <;> simp [h]
        · simp [Go.binOp, Go.Op.intCmp]
          by_cases h : n1 = n2 <;> simp [h]
        · simp [Go.binOp, Go.Op.intCmp]
          by_cases h : n1 = n2 <;> simp [h]
      · cases he
    | string =>
      simp [eqBaseT, hd] at hb
      subst hb
      cases x <;> cases y <;> simp only [eqBase, reduceCtorEq] at he
      obtain ⟨b1, e1, e3⟩ := vr_str hx
      obtain ⟨b2, e2, e4⟩ := vr_str hy
      subst e1 e2 e3 e4
      injection he with he
      subst he
      refine ⟨?_, ?_, ?_, trivial⟩
      · simp [Go.run_equalIn_string w d t b1 b2 hd, str_eq]
      · simp [Go.binOp, Go.Op.stringOp, str_eq]
      · simp [Go.binOp, Go.Op.stringOp, str_eq]
    | bool =>
      simp [eqBaseT, hd] at hb
      subst hb
      cases x <;> cases y <;> simp only [eqBase, reduceCtorEq] at he
      have e1 := vrl_bool hx
      have e2 := vrl_bool hy
      subst e1 e2
      injection he with he
      subst he
      refine ⟨?_, ?_, ?_, trivial⟩
      · simp [Go.run_equalIn_bool' w d t _ _ hd]
      · simp [Go.binOp, Go.Op.equal, Go.Op.maxDepth, Go.run_equalIn_bool' w 9999 t _ _ hd]
      · simp [Go.binOp, Go.Op.equal, Go.Op.maxDepth, Go.run_equalIn_bool' w 9999 t _ _ hd]
    | _ => simp [eqBaseT, hd] at hb

theorem run_part {t off : Nat} {b : EqB} (hb : eqBaseT P t = some b) {cs : Array Value} {v : Value} (hv : cs[off]? = some v) : (Go.part t cs off).run P w = .ok v w := by
  cases hd : P.underlying t with
  | none => simp [eqBaseT, hd] at hb
  | some d0 =>
    have : (Go.isAgg t).run P w = .ok false w := by
      cases d0 <;> simp [eqBaseT, hd] at hb <;> simp [Go.isAgg, Go.run_underlying hd]
    simp [Go.part, this, hv]

theorem eqFields_sound : ∀ (fs : List Go.Field) {ds : List (Nat × EqB)} (hd : eqFieldsT P fs = some ds) {xs ys : List V} {r : Bool} (he : eqFields xs ys ds = some r) {us vs : Array Value}
    (hx : VRC ρ xs us.toList) (hy : VRC ρ ys vs.toList) (d : Nat), (Go.Op.eqFields (d + 1) us vs fs).run P w = .ok r w
  | [], ds, hd, xs, ys, r, he, us, vs, hx, hy, d => by
    simp [eqFieldsT] at hd
    subst hd
    simp [eqFields] at he
    subst he
    simp [Go.Op.eqFields]
  | f :: fs, ds, hd, xs, ys, r, he, us, vs, hx, hy, d => by
    simp only [eqFieldsT] at hd
    split at hd
    · cases hd
    · rename_i hname
      cases h1 : eqBaseT P f.type with
      | none => simp [h1] at hd
      | some b =>
        cases h2 : eqFieldsT P fs with
        | none => simp [h1, h2] at hd
        | some ds' =>
          simp [h1, h2] at hd
          subst hd
          simp only [eqFields] at he
          cases hxo : xs[f.offset]? with
          | none => simp [hxo] at he
          | some x =>
            cases hyo : ys[f.offset]? with
            | none => simp [hxo, hyo] at he
            | some y =>
              simp only [hxo, hyo] at he
              obtain ⟨u, k1, k2, _⟩ := hx.get _ _ hxo
              obtain ⟨v, g1, g2, _⟩ := hy.get _ _ hyo
              have k1' : us[f.offset]? = some u := by simpa using k1
              have g1' : vs[f.offset]? = some v := by simpa using g1
              cases hb : eqBase b x y with
              | none => simp [hb] at he
              | some r1 =>
                have hrun := (eqBase_sound (P := P) (w := w) h1 hb k2 g2 d).1
                simp only [hb] at he
                simp only [Go.Op.eqFields, hname, ne_eq, not_false_eq_true, if_true, Sem.run_bind, run_part h1 k1', run_part h1 g1', Result.andThen_ok, hrun]
                cases r1 with
                | true =>
                  simp only at he
                  simpa using eqFields_sound fs h2 he hx hy d
                | false =>
                  simp only at he
                  injection he with he
                  subst he
                  simp

theorem isRw_cells {b : Nat} (h : isRw b m = true) : ∃ cs t, m.get b = some (.cells cs .rw t) := by
  unfold isRw at h
  cases hg : m.get b with
  | none => simp [hg] at h
  | some x =>
    cases x with
    | cells cs own t => cases own <;> simp [hg] at h; exact ⟨cs, t, rfl⟩
    | _ => simp [hg] at h

theorem eqPtr_sound (hm : MR ρ m w) {t e n : Nat} (hd : P.underlying t = some (.pointer e)) (hn : sizeT P e = some n) (h0 : n ≠ 0) {x y : V} {r : Bool} (he : eqPtr m x y = some r) {u v : Value}
    (hx : VR ρ x u) (hy : VR ρ y v) (d : Nat) : (Go.Op.equalIn (d + 1) t u v).run P w = .ok r w ∧ (∃ p, u = .pointer p) ∧ (∃ p, v = .pointer p) := by
  have hsz : (Go.sizeOf e).run P w = .ok n w := by
    unfold sizeT at hn
    cases hi : P.info? e with
    | none => simp [hi] at hn
    | some i => simp [hi] at hn; simp [Go.sizeOf, Go.typeInfo, hi, hn]
  cases x <;> cases y <;> simp only [eqPtr, reduceCtorEq] at he
  · simp only [VR] at hx hy
    subst hx hy
    injection he with he
    subst he
    exact ⟨by simp [Go.Op.equalIn, Go.run_underlying hd], ⟨_, rfl⟩, ⟨_, rfl⟩⟩
  · simp only [VR] at hx hy
    obtain ⟨L, h1, h2⟩ := hy
    subst hx h2
    injection he with he
    subst he
    exact ⟨by simp [Go.Op.equalIn, Go.run_underlying hd], ⟨_, rfl⟩, ⟨_, rfl⟩⟩
  · simp only [VR] at hx hy
    obtain ⟨L, h1, h2⟩ := hx
    subst hy h2
    injection he with he
    subst he
    exact ⟨by simp [Go.Op.equalIn, Go.run_underlying hd], ⟨_, rfl⟩, ⟨_, rfl⟩⟩
  · rename_i b i b' i'
    simp only [VR] at hx hy
    obtain ⟨L, h1, h2⟩ := hx
    obtain ⟨L', h3, h4⟩ := hy
    subst h2 h4
    refine ⟨?_, ⟨_, rfl⟩, ⟨_, rfl⟩⟩
    have hstep : (Go.Op.equalIn (d + 1) t (.pointer (some ⟨L.blk, L.base + i, none⟩)) (.pointer (some ⟨L'.blk, L'.base + i', none⟩))).run P w =
        (Go.sameAddr ⟨L.blk, L.base + i, none⟩ ⟨L'.blk, L'.base + i', none⟩).run P w := by
      simp [Go.Op.equalIn, Go.run_underlying hd, hsz, h0]
    rw [hstep]
    split at he
    · rename_i hbb
      subst hbb
      rw [h1] at h3
      injection h3 with h3
      subst h3
      injection he with he
      subst he
      simp only [Go.sameAddr, beq_self_eq_true, if_true]
      by_cases hii : i = i'
      · subst hii; simp
      · have : ¬ L.base + i = L.base + i' := by omega
        simp [hii, BEq.beq, this]
    · rename_i hbb
      split at he
      · rename_i hrw
        injection he with he
        subst he
        obtain ⟨cs, t1, hg⟩ := isRw_cells hrw.1
        obtain ⟨cs', t2, hg'⟩ := isRw_cells hrw.2
        obtain ⟨arr, e1, fr, k1, _, _, _, k2, _⟩ := hm.cells h1 hg
        obtain ⟨arr', e2, fr', k3, _, _, _, k4, _⟩ := hm.cells h3 hg'
        have hk2 := k2 rfl
        have hk4 := k4 rfl
        subst hk2 hk4
        have hne := hm.inj b L b' L' h1 h3 (by unfold owns; rw [hg]; simp) (by unfold lives; rw [hg']; trivial) hbb
        have hs1 : w.shape? L.blk = some (e1, arr.size) := by simp [World.shape?, k1]
        have hs2 : w.shape? L'.blk = some (e2, arr'.size) := by simp [World.shape?, k3]
        have hf1 : ∀ j sp, w.frozen? ⟨L.blk, j, sp⟩ = false := fun j sp => by simp [World.frozen?, k1]
        have hf2 : ∀ j sp, w.frozen? ⟨L'.blk, j, sp⟩ = false := fun j sp => by simp [World.frozen?, k3]
        simp [Go.sameAddr, hne, hf1, hf2, Go.noView, Go.viewAt, hs1, hs2, Go.mayBeOne, Go.stringish]
      · cases he

theorem run_eq_nils {t e : Nat} (h : P.underlying t = some (.slice e)) (d : Nat) : (Go.Op.equalIn (d + 1) t (.slice none 0 0) (.slice none 0 0)).run P w = .ok true w ∧
    (∀ p n c, (Go.Op.equalIn (d + 1) t (.slice none 0 0) (.slice (some p) n c)).run P w = .ok false w) ∧ (∀ p n c, (Go.Op.equalIn (d + 1) t (.slice (some p) n c) (.slice none 0 0)).run P w = .ok false w) :=
  ⟨by simp [Go.Op.equalIn, Go.run_underlying h], fun p n c => by simp [Go.Op.equalIn, Go.run_underlying h], fun p n c => by simp [Go.Op.equalIn, Go.run_underlying h]⟩
theorem run_eq_nilm {t k e : Nat} (h : P.underlying t = some (.map k e)) (d : Nat) : (Go.Op.equalIn (d + 1) t (.map none) (.map none)).run P w = .ok true w ∧
    (∀ p, (Go.Op.equalIn (d + 1) t (.map none) (.map (some p))).run P w = .ok false w) ∧ (∀ p, (Go.Op.equalIn (d + 1) t (.map (some p)) (.map none)).run P w = .ok false w) :=
  ⟨by simp [Go.Op.equalIn, Go.run_underlying h], fun p => by simp [Go.Op.equalIn, Go.run_underlying h], fun p => by simp [Go.Op.equalIn, Go.run_underlying h]⟩
theorem run_eq_nilf {t : Nat} {p q : Array Nat} {b : Bool} (h : P.underlying t = some (.func p q b)) (d : Nat) : (Go.Op.equalIn (d + 1) t .nilFunc .nilFunc).run P w = .ok true w ∧
    (∀ p n c, (Go.Op.equalIn (d + 1) t .nilFunc (.func p n c)).run P w = .ok false w) ∧ (∀ p n c, (Go.Op.equalIn (d + 1) t (.func p n c) .nilFunc).run P w = .ok false w) :=
  ⟨by simp [Go.Op.equalIn, Go.run_underlying h], fun p n c => by simp [Go.Op.equalIn, Go.run_underlying h], fun p n c => by simp [Go.Op.equalIn, Go.run_underlying h]⟩
theorem run_eq_ifacenil {t : Nat} {ms : Array (String × Nat)} (h : P.underlying t = some (.interface ms)) (d : Nat) : (Go.Op.equalIn (d + 1) t .nilIface .nilIface).run P w = .ok true w ∧
    (∀ p n, (Go.Op.equalIn (d + 1) t .nilIface (.iface p n)).run P w = .ok false w) ∧ (∀ p n, (Go.Op.equalIn (d + 1) t (.iface p n) .nilIface).run P w = .ok false w) :=
  ⟨by simp [Go.Op.equalIn, Go.run_underlying h], fun p n => by simp [Go.Op.equalIn, Go.run_underlying h], fun p n => by simp [Go.Op.equalIn, Go.run_underlying h]⟩
theorem run_eq_iface {t : Nat} {ms : Array (String × Nat)} (h : P.underlying t = some (.interface ms)) (d : Nat) :
    (∀ (t' : Nat) (u v : Value) (i : TypeInfo), P.info? t' = some i → i.comparable = true → ∀ r, (Go.Op.equalIn d t' u v).run P w = .ok r w → (Go.Op.equalIn (d + 1) t (.iface t' u) (.iface t' v)).run P w = .ok r w) ∧
    (∀ (t1 t2 : Nat) (u v : Value), t1 ≠ t2 → (Go.Op.equalIn (d + 1) t (.iface t1 u) (.iface t2 v)).run P w = .ok false w) :=
  ⟨fun t' u v i hi hc r hr => by simp [Go.Op.equalIn, Go.run_underlying h, Go.typeInfo, hi, hc, hr], fun t1 t2 u v hne => by simp [Go.Op.equalIn, Go.run_underlying h, hne]⟩
theorem run_eqGuard_const (op : Go.BinOp) (t : Nat) (x y : Operand) (h : isNilC x = true ∨ isNilC y = true) : (Go.eqGuard op t x y .nilIface .nilIface).run P w = .ok () w := by
  unfold Go.eqGuard
  cases op <;> first
    | rfl
    | (rcases h with h | h
       · cases x <;> simp [isNilC] at h
         rfl
       · cases y <;> simp [isNilC] at h
         cases x <;> rfl)

/-- the pointer types at which interface values are compared -/
structure PtrTOk (P : Program) (W : Prg) : Prop where
  ptr : ∀ t, W.ptrT t = true → ∃ e n i, P.underlying t = some (.pointer e) ∧ sizeT P e = some n ∧ n ≠ 0 ∧ P.info? t = some i ∧ i.comparable = true
  lies : ∀ t o u s, W.lies t o u = some s → 0 < s ∧ P.cellsOf t = s ∧ Go.liesAt P P.depth t 1 o u 1 = true

theorem done_eql (hW : PtrTOk P W) (neg : Bool) (t : Nat) (x y : Operand) (yt : Nat) {d : EqD} (hd : eqT P t x y = some d) (ho : o.op = .binOp (if neg then .neq else .eql) t x y yt) {vs : List V}
    (hvs : VRL ρ vs (o.op.operands.toList.map a.eval)) (hm : MR ρ m w) : Done P o a ρ m w (evK W call m (.eql d neg) vs) := by
  have hop : o.op.operands = #[x, y] := by rw [ho]; rfl
  rw [hop] at hvs
  obtain ⟨v, u, rfl, hv, hu⟩ := hvs.two_inv
  simp only [evK]
  cases he : evEq W.ptrT d v u m with
  | none => simp [Done]
  | some r =>
    simp only
    suffices h : (Go.eqGuard (if neg then .neq else .eql) t x y (a.eval x) (a.eval y)).run P w = .ok () w ∧
        (Go.binOp (if neg then .neq else .eql) t (a.eval x) (a.eval y)).run P w = .ok (.bool (r ^^ neg)) w by
      refine Done.value (x := .bool (r ^^ neg)) ?_ (by simp [VR]) hm
      simp only [Go.execOp, ho, Sem.run_bind, h.1, h.2, Result.andThen_ok, Sem.run_pure]
    have viaEqual : ∀ {p q : Value} {r : Bool}, (∀ k n k' n', ¬ (p = .int k n ∧ q = .int k' n')) → (∀ s s', ¬ (p = .string s ∧ q = .string s')) →
        (match p with | .int _ _ | .float _ _ | .complex _ _ _ | .string _ => False | _ => True) →
        (Go.Op.equalIn (9999 + 1) t p q).run P w = .ok r w → (Go.binOp (if neg then .neq else .eql) t p q).run P w = .ok (.bool (r ^^ neg)) w := by
      intro p q r _ _ hp hr
      have hr' : (Go.Op.equal t p q).run P w = .ok r w := hr
      cases neg
      · cases p <;> first | exact hp.elim | (simp only [Go.binOp, Bool.false_eq_true, if_false, Sem.run_bind, hr', Result.andThen_ok, Sem.run_pure]; simp)
      · cases p <;> first | exact hp.elim | (simp only [Go.binOp, if_true, Sem.run_bind, hr', Result.andThen_ok, Sem.run_pure]; simp)
    unfold eqT at hd
    cases hdt : P.underlying t with
    | none => simp [hdt] at hd
    | some dt =>
      rw [hdt] at hd
      have base : ∀ b, eqBaseT P t = some b → d = .base b → (Go.eqGuard (if neg then .neq else .eql) t x y (a.eval x) (a.eval y)).run P w = .ok () w ∧
          (Go.binOp (if neg then .neq else .eql) t (a.eval x) (a.eval y)).run P w = .ok (.bool (r ^^ neg)) w := by
        intro b hb hdb
        subst hdb
        simp only [evEq] at he
        obtain ⟨_, h2, h3, h4⟩ := eqBase_sound (P := P) (w := w) hb he hv hu 0
        refine ⟨run_eqGuard_other _ _ _ _ _ _ h4, ?_⟩
        cases neg
        · simpa using h2
        · simpa using h3
      cases dt with
      | int k0 => simp at hd; exact base .int (by simp [eqBaseT, hdt]) hd.symm
      | string => simp at hd; exact base .str (by simp [eqBaseT, hdt]) hd.symm
      | bool => simp at hd; exact base .bool (by simp [eqBaseT, hdt]) hd.symm
      | pointer e =>
        simp only at hd
        cases hn : sizeT P e with
        | none => simp [hn] at hd
        | some n =>
          simp only [hn, Option.bind_some] at hd
          split at hd
          · cases hd
          · rename_i h0
            injection hd with hd
            subst hd
            simp only [evEq] at he
            obtain ⟨h1, ⟨p, h2⟩, ⟨q, h3⟩⟩ := eqPtr_sound hm hdt hn h0 he hv hu 9999
            rw [h2, h3] at h1 ⊢
            exact ⟨run_eqGuard_other _ _ _ _ _ _ trivial, viaEqual (by simp) (by simp) trivial h1⟩
      | slice e =>
        simp only [Option.some.injEq] at hd
        subst hd
        cases v <;> cases u <;> simp only [evEq, reduceCtorEq] at he <;> injection he with he <;> subst he <;> simp only [VR] at hv hu
        · rw [hv, hu]; exact ⟨run_eqGuard_other _ _ _ _ _ _ trivial, viaEqual (by simp) (by simp) trivial (run_eq_nils hdt 9999).1⟩
        · obtain ⟨L, c, p, h1, h2, _⟩ := hu; rw [hv, h2]; exact ⟨run_eqGuard_other _ _ _ _ _ _ trivial, viaEqual (by simp) (by simp) trivial ((run_eq_nils hdt 9999).2.1 _ _ _)⟩
        · obtain ⟨L, c, p, h1, h2, _⟩ := hv; rw [hu, h2]; exact ⟨run_eqGuard_other _ _ _ _ _ _ trivial, viaEqual (by simp) (by simp) trivial ((run_eq_nils hdt 9999).2.2 _ _ _)⟩
      | map k e =>
        simp only [Option.some.injEq] at hd
        subst hd
        cases v <;> cases u <;> simp only [evEq, reduceCtorEq] at he <;> injection he with he <;> subst he <;> simp only [VR] at hv hu
        · rw [hv, hu]; exact ⟨run_eqGuard_other _ _ _ _ _ _ trivial, viaEqual (by simp) (by simp) trivial (run_eq_nilm hdt 9999).1⟩
        · obtain ⟨L, h1, h2⟩ := hu; rw [hv, h2]; exact ⟨run_eqGuard_other _ _ _ _ _ _ trivial, viaEqual (by simp) (by simp) trivial ((run_eq_nilm hdt 9999).2.1 _)⟩
        · obtain ⟨L, h1, h2⟩ := hv; rw [hu, h2]; exact ⟨run_eqGuard_other _ _ _ _ _ _ trivial, viaEqual (by simp) (by simp) trivial ((run_eq_nilm hdt 9999).2.2 _)⟩
      | func p q c =>
        simp only [Option.some.injEq] at hd
        subst hd
        cases v <;> cases u <;> simp only [evEq, reduceCtorEq] at he <;> injection he with he <;> subst he <;> simp only [VR] at hv hu
        · obtain ⟨a', c', h1, _⟩ := hv; rw [hu, h1]; exact ⟨run_eqGuard_other _ _ _ _ _ _ trivial, viaEqual (by simp) (by simp) trivial ((run_eq_nilf hdt 9999).2.2 _ _ _)⟩
        · obtain ⟨a', c', h1, _⟩ := hu; rw [hv, h1]; exact ⟨run_eqGuard_other _ _ _ _ _ _ trivial, viaEqual (by simp) (by simp) trivial ((run_eq_nilf hdt 9999).2.1 _ _ _)⟩
        · rw [hv, hu]; exact ⟨run_eqGuard_other _ _ _ _ _ _ trivial, viaEqual (by simp) (by simp) trivial (run_eq_nilf hdt 9999).1⟩
      | interface ms =>
        simp only [Option.some.injEq] at hd
        subst hd
        cases v <;> cases u <;> simp only [evEq, reduceCtorEq] at he
        · rename_i t1 v1 t2 v2
          simp only [VR] at hv hu
          obtain ⟨u1, h1, h2⟩ := hv
          obtain ⟨u2, h3, h4⟩ := hu
          rw [h1, h3]
          refine ⟨run_eqGuard_other _ _ _ _ _ _ trivial, viaEqual (by simp) (by simp) trivial ?_⟩
          by_cases ht : t1 = t2
          · subst ht
            simp only [if_true] at he
            split at he
            · rename_i hp
              obtain ⟨e, n, i, k1, k2, k3, k4, k5⟩ := hW.ptr t1 hp
              obtain ⟨g1, _⟩ := eqPtr_sound (P := P) (w := w) hm k1 k2 k3 he h2 h4 9998
              exact (run_eq_iface hdt 9999).1 t1 u1 u2 i k4 k5 r g1
            · cases he
          · rw [if_neg ht] at he
            injection he with he
            subst he
            exact (run_eq_iface hdt 9999).2 t1 t2 u1 u2 ht
        · injection he with he
          subst he
          simp only [VR] at hv hu
          obtain ⟨u1, h1, h2⟩ := hv
          rw [h1, hu]
          exact ⟨run_eqGuard_other _ _ _ _ _ _ trivial, viaEqual (by simp) (by simp) trivial ((run_eq_ifacenil hdt 9999).2.2 _ _)⟩
        · injection he with he
          subst he
          simp only [VR] at hv hu
          obtain ⟨u1, h1, h2⟩ := hu
          rw [hv, h1]
          exact ⟨run_eqGuard_other _ _ _ _ _ _ trivial, viaEqual (by simp) (by simp) trivial ((run_eq_ifacenil hdt 9999).2.1 _ _)⟩
        · split at he
          · rename_i hc
            injection he with he
            subst he
            simp only [VR] at hv hu
            rw [hv, hu]
            refine ⟨?_, viaEqual (by simp) (by simp) trivial (run_eq_ifacenil hdt 9999).1⟩
            exact run_eqGuard_const _ _ _ _ (by simpa using hc)
          · cases he
      | struct fs =>
        simp only at hd
        split at hd
        · rename_i hst
          simp only [Option.map_eq_some_iff] at hd
          obtain ⟨ds, hds, rfl⟩ := hd
          cases v <;> cases u <;> simp only [evEq, reduceCtorEq] at he
          rename_i xs ys
          simp only [VR] at hv hu
          obtain ⟨us, h1, h2⟩ := hv
          obtain ⟨vs, h3, h4⟩ := hu
          rw [h1, h3]
          have hfo : P.underlying t = some (.struct (P.fieldsOf t)) := by rw [hdt]; simp [Go.Program.fieldsOf, hdt]
          have hfs : (P.fieldsOf t) = fs := by simp [Go.Program.fieldsOf, hdt]
          refine ⟨Go.run_eqGuard_agg w _ t x y us vs hst.2, viaEqual (by simp) (by simp) trivial ?_⟩
          rw [Go.run_equalIn_struct w 9999 t us vs hfo hst.1, hfs]
          exact eqFields_sound fs.toList hds he h2 h4 9998
        · cases hd
      | _ => simp at hd
end
end Mu
