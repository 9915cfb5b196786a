/- Each operation of the small code does what the model's does: those that only compute. -/
import Derived.Test.YtaepllhjnbencaaGreatDoorMuTr
set_option linter.unusedVariables false
set_option linter.unusedSimpArgs false
namespace Mu
open Go (Value World Addr Program IntKind Sem Result Obj TypeDesc TypeInfo Operand Oper)

/-- what an operation's run has to come to -/
def Done (P : Program) (o : Oper) (a : Go.Act) (ρ : Rho) (m : M) (w : World) : R → Prop
  | .ok v m' => ∃ x w' ρ', ((Go.execOp a.eval o).run P w = .ok (.value x) w' ∨ ((Go.execOp a.eval o).run P w = .ok .skip w' ∧ x = Go.undef)) ∧ VR ρ' v x ∧ Good ρ m w ρ' m' w'
  | .pan v m' => ∃ x w' ρ', (Go.execOp a.eval o).run P w = .halt (.panic x) w' ∧ VR ρ' v x ∧ Good ρ m w ρ' m' w'
  | .bad => True

theorem VRL.nil_inv {ρ : Rho} {vs : List V} (h : VRL ρ vs []) : vs = [] := by
  cases vs with
  | nil => rfl
  | cons x r => simp only [VRL] at h; obtain ⟨_, _, h, _⟩ := h; cases h
theorem VRL.cons_inv {ρ : Rho} {vs : List V} {x : Value} {r : List Value} (h : VRL ρ vs (x :: r)) : ∃ v l, vs = v :: l ∧ VR ρ v x ∧ VRL ρ l r := by
  cases vs with
  | nil => simp only [VRL] at h; cases h
  | cons v l =>
    simp only [VRL] at h
    obtain ⟨x', r', h1, h2, h3⟩ := h
    injection h1 with h1 h4
    subst h1 h4
    exact ⟨v, l, rfl, h2, h3⟩
theorem VRL.one_inv {ρ : Rho} {vs : List V} {x : Value} (h : VRL ρ vs [x]) : ∃ v, vs = [v] ∧ VR ρ v x := by
  obtain ⟨v, l, h1, h2, h3⟩ := h.cons_inv
  have := h3.nil_inv
  subst this
  exact ⟨v, h1, h2⟩
theorem VRL.two_inv {ρ : Rho} {vs : List V} {x y : Value} (h : VRL ρ vs [x, y]) : ∃ v u, vs = [v, u] ∧ VR ρ v x ∧ VR ρ u y := by
  obtain ⟨v, l, h1, h2, h3⟩ := h.cons_inv
  obtain ⟨u, h4, h5⟩ := h3.one_inv
  subst h4
  exact ⟨v, u, h1, h2, h5⟩
theorem VRL.three_inv {ρ : Rho} {vs : List V} {x y z : Value} (h : VRL ρ vs [x, y, z]) : ∃ v u t, vs = [v, u, t] ∧ VR ρ v x ∧ VR ρ u y ∧ VR ρ t z := by
  obtain ⟨v, l, h1, h2, h3⟩ := h.cons_inv
  obtain ⟨u, t, h4, h5, h6⟩ := h3.two_inv
  subst h4
  exact ⟨v, u, t, h1, h2, h5, h6⟩

theorem vrl_bool {ρ : Rho} {b : Bool} {x : Value} (h : VR ρ (.bool b) x) : x = .bool b := by simpa only [VR] using h
theorem vr_int {ρ : Rho} {k : IntKind} {n : Int} {x : Value} (h : VR ρ (.int k n) x) : x = .int k n := by simpa only [VR] using h
theorem vr_str {ρ : Rho} {s : List Nat} {x : Value} (h : VR ρ (.str s) x) : ∃ bs : ByteArray, x = .string bs ∧ bs.data.toList.map UInt8.toNat = s := by simpa only [VR] using h

section
variable {P : Program} {names : List String} {o : Oper} {a : Go.Act} {ρ : Rho} {m : M} {w : World} (W : Prg) (call : Nat → List V → M → R)

/-- a value, the memory as it was -/
theorem Done.value {v : V} {x : Value} (h : (Go.execOp a.eval o).run P w = .ok (.value x) w) (hv : VR ρ v x) (hm : MR ρ m w) : Done P o a ρ m w (.ok v m) :=
  ⟨x, w, ρ, .inl h, hv, Good.refl hm⟩

theorem done_move (x : Operand) (ho : o.op = .move x ∨ o.op = .assign x) {vs : List V} (hvs : VRL ρ vs (o.op.operands.toList.map a.eval)) (hm : MR ρ m w) :
    Done P o a ρ m w (evK W call m .move vs) := by
  have hop : o.op.operands = #[x] := by rcases ho with h | h <;> rw [h] <;> rfl
  rw [hop] at hvs
  obtain ⟨v, rfl, hv⟩ := hvs.one_inv
  simp only [evK]
  refine Done.value ?_ hv hm
  rcases ho with h | h <;> simp [Go.execOp, h]

theorem done_pick (c x y : Operand) (ho : o.op = .pick c x y) {vs : List V} (hvs : VRL ρ vs (o.op.operands.toList.map a.eval)) (hm : MR ρ m w) :
    Done P o a ρ m w (evK W call m .pick vs) := by
  have hop : o.op.operands = #[c, x, y] := by rw [ho]; rfl
  rw [hop] at hvs
  obtain ⟨v, u, t, rfl, hv, hu, ht⟩ := hvs.three_inv
  cases v with
  | bool b =>
    have hc := vrl_bool hv
    simp only [evK]
    cases b
    · exact Done.value (by simp [Go.execOp, ho, hc, Go.asBool]) ht hm
    · exact Done.value (by simp [Go.execOp, ho, hc, Go.asBool]) hu hm
  | _ => simp [evK, Done]

theorem done_not (t : Nat) (x : Operand) (ho : o.op = .unOp .not t x) {vs : List V} (hvs : VRL ρ vs (o.op.operands.toList.map a.eval)) (hm : MR ρ m w) :
    Done P o a ρ m w (evK W call m .not vs) := by
  have hop : o.op.operands = #[x] := by rw [ho]; rfl
  rw [hop] at hvs
  obtain ⟨v, rfl, hv⟩ := hvs.one_inv
  cases v with
  | bool b =>
    have hc := vrl_bool hv
    simp only [evK]
    exact Done.value (x := .bool (!b)) (by simp [Go.execOp, ho, hc, Go.Op.unary]) (by simp [VR]) hm
  | _ => simp [evK, Done]

theorem done_convInt (s d : Nat) (k k0 : IntKind) (hs : P.underlying s = some (.int k0)) (hd : P.underlying d = some (.int k)) (x : Operand) (ho : o.op = .convert s d x) {vs : List V}
    (hvs : VRL ρ vs (o.op.operands.toList.map a.eval)) (hm : MR ρ m w) : Done P o a ρ m w (evK W call m (.convInt k) vs) := by
  have hop : o.op.operands = #[x] := by rw [ho]; rfl
  rw [hop] at hvs
  obtain ⟨v, rfl, hv⟩ := hvs.one_inv
  cases v with
  | int k1 n =>
    have hc := vr_int hv
    simp only [evK]
    exact Done.value (x := .int k (k.wrap n)) (by simp [Go.execOp, ho, hc, Go.convert, Go.run_underlying hs, Go.run_underlying hd, Go.Conv.intToInt]) (by simp [VR]) hm
  | _ => simp [evK, Done]

theorem done_convSame (s d : Nat) (hs : P.underlying s = some .string) (hd : P.underlying d = some .string) (x : Operand) (ho : o.op = .convert s d x) {vs : List V}
    (hvs : VRL ρ vs (o.op.operands.toList.map a.eval)) (hm : MR ρ m w) : Done P o a ρ m w (evK W call m .convSame vs) := by
  have hop : o.op.operands = #[x] := by rw [ho]; rfl
  rw [hop] at hvs
  obtain ⟨v, rfl, hv⟩ := hvs.one_inv
  cases v with
  | str s =>
    obtain ⟨bs, hc, _⟩ := vr_str hv
    simp only [evK]
    exact Done.value (x := a.eval x) (by simp [Go.execOp, ho, hc, Go.convert, Go.run_underlying hs, Go.run_underlying hd]) hv hm
  | _ => simp [evK, Done]

theorem done_mkIface (t : Nat) (x : Operand) (d : TypeDesc) (hd : P.underlying t = some d) (hn : ∀ ms, d ≠ .interface ms) (ho : o.op = .makeInterface t x) {vs : List V}
    (hvs : VRL ρ vs (o.op.operands.toList.map a.eval)) (hm : MR ρ m w) : Done P o a ρ m w (evK W call m (.mkIface t) vs) := by
  have hop : o.op.operands = #[x] := by rw [ho]; rfl
  rw [hop] at hvs
  obtain ⟨v, rfl, hv⟩ := hvs.one_inv
  simp only [evK]
  refine Done.value (x := .iface t (a.eval x)) ?_ (by simp only [VR]; exact ⟨_, rfl, hv⟩) hm
  simp only [Go.execOp, ho, Go.Instr.makeInterface, Sem.run_bind, Go.run_underlying hd, Result.andThen_ok]
  cases d <;> first | rfl | exact absurd rfl (hn _)

theorem done_mkFunc (f : Nat) (first cap : Array Operand) (ho : o.op = .makeFunc (.func f) first cap) {vs : List V}
    (hvs : VRL ρ vs (o.op.operands.toList.map a.eval)) (hm : MR ρ m w) : Done P o a ρ m w (evK W call m (.mkFunc f first.size) vs) := by
  have hop : o.op.operands = first ++ cap := by rw [ho]; rfl
  rw [hop, Array.toList_append, List.map_append] at hvs
  simp only [evK]
  split
  · refine Done.value (x := .func (.func f) (first.map a.eval) (cap.map a.eval)) (by simp [Go.execOp, ho, Go.Instr.makeFunc]) ?_ hm
    simp only [VR]
    refine ⟨_, _, rfl, ?_, ?_⟩
    · have := hvs.take first.size
      rw [List.take_left' (by simp)] at this
      simpa using this
    · have := hvs.drop first.size
      rw [List.drop_left' (by simp)] at this
      simpa using this
  · simp [Done]

theorem done_extract (x : Operand) (i : Nat) (ho : o.op = .extract x i) {vs : List V} (hvs : VRL ρ vs (o.op.operands.toList.map a.eval)) (hm : MR ρ m w) :
    Done P o a ρ m w (evK W call m (.extract i) vs) := by
  have hop : o.op.operands = #[x] := by rw [ho]; rfl
  rw [hop] at hvs
  obtain ⟨v, rfl, hv⟩ := hvs.one_inv
  cases v with
  | tup l =>
    simp only [VR] at hv
    obtain ⟨l', h1, h2⟩ := hv
    simp only [evK, opt]
    cases hg : l[i]? with
    | none => simp [Done]
    | some u =>
      obtain ⟨u', k1, k2⟩ := h2.get i u hg
      have k3 : l'[i]? = some u' := by simpa using k1
      exact Done.value (x := u') (by simp [Go.execOp, ho, h1, Go.Instr.extract, k3]) k2 hm
  | _ => simp [evK, Done]

theorem done_assertT (t0 t : Nat) (x : Operand) (ok : Bool) (d : TypeDesc) (hd : P.underlying t = some d) (hn : ∀ ms, d ≠ .interface ms) {z : V} (hz : zeroV P t = some z)
    (ho : o.op = .typeAssert x t0 t ok) {vs : List V} (hvs : VRL ρ vs (o.op.operands.toList.map a.eval)) (hm : MR ρ m w) : Done P o a ρ m w (evK W call m (.assertT t z ok) vs) := by
  have hop : o.op.operands = #[x] := by rw [ho]; rfl
  rw [hop] at hvs
  obtain ⟨v, rfl, hv⟩ := hvs.one_inv
  have hzz : ∃ i zv, P.info? t = some i ∧ i.zero = some zv ∧ VR ρ z zv := by
    unfold zeroV at hz
    cases h1 : P.info? t with
    | none => simp [h1] at hz
    | some i =>
      simp only [h1, Option.bind_some] at hz
      cases h2 : i.zero with
      | none => simp [h2] at hz
      | some zv =>
        simp only [h2, Option.bind_some] at hz
        exact ⟨i, zv, rfl, h2, trC_sound hz⟩
  obtain ⟨i, zv, hi, hi2, hzv⟩ := hzz
  have hrz : (Go.zeroValue t).run P w = .ok zv w := by simp [Go.zeroValue, Go.typeInfo, hi, hi2]
  have key : ∀ y : Value, (Go.Instr.typeAssert y t0 t ok).run P w = (match y with
      | .nilIface => if ok then .ok (.tuple #[zv, .bool false]) w else (Go.runtimePanic (.typeAssertion (some t0) none t "")).run P w
      | .iface t' v => if t' = t then .ok (if ok then .tuple #[v, .bool true] else v) w else if ok then .ok (.tuple #[zv, .bool false]) w else (Go.runtimePanic (.typeAssertion (some t0) (some t') t "")).run P w
      | _ => (Go.Instr.typeAssert y t0 t ok).run P w) := by
    intro y
    cases y <;> try rfl
    · rename_i t' v
      simp only [Go.Instr.typeAssert, Sem.run_bind, Go.run_underlying hd, Result.andThen_ok]
      cases d <;> first | exact absurd rfl (hn _) | (by_cases e : t' = t <;> cases ok <;> simp [e, hrz])
    · simp only [Go.Instr.typeAssert, Sem.run_bind, Go.run_underlying hd, Result.andThen_ok]
      cases d <;> first | exact absurd rfl (hn _) | (cases ok <;> simp [hrz])
  cases v with
  | iface t' u =>
    simp only [VR] at hv
    obtain ⟨u', h1, h2⟩ := hv
    have k := key (a.eval x)
    rw [h1] at k
    simp only at k
    simp only [evK]
    by_cases e : t = t'
    · subst e
      simp only [if_true] at k ⊢
      cases ok
      · exact Done.value (x := u') (by simp [Go.execOp, ho, h1, k]) h2 hm
      · refine Done.value (x := .tuple #[u', .bool true]) (by simp [Go.execOp, ho, h1, k]) ?_ hm
        simp [VR, VRL, h2]
    · rw [if_neg e]
      rw [if_neg (fun h : t' = t => e h.symm)] at k
      cases ok
      · simp [Done]
      · refine Done.value (x := .tuple #[zv, .bool false]) (by simp [Go.execOp, ho, h1, k]) ?_ hm
        simp [VR, VRL, hzv]
  | inil =>
    simp only [VR] at hv
    have k := key (a.eval x)
    rw [hv] at k
    simp only [evK]
    cases ok
    · simp [Done]
    · refine Done.value (x := .tuple #[zv, .bool false]) (by simp [Go.execOp, ho, hv, k]) ?_ hm
      simp [VR, VRL, hzv]
  | _ => simp [evK, Done]

theorem done_panic (x : Operand) (ho : o.op = .panic x) {vs : List V} (hvs : VRL ρ vs (o.op.operands.toList.map a.eval)) (hm : MR ρ m w) :
    Done P o a ρ m w (evK W call m .panic vs) := by
  have hop : o.op.operands = #[x] := by rw [ho]; rfl
  rw [hop] at hvs
  obtain ⟨v, rfl, hv⟩ := hvs.one_inv
  cases v with
  | iface t u =>
    have hv' := hv
    simp only [VR] at hv
    obtain ⟨u', h1, h2⟩ := hv
    simp only [evK]
    exact ⟨_, w, ρ, by simp [Go.execOp, ho, h1, Go.Instr.panic], h1 ▸ hv', Good.refl hm⟩
  | _ => simp [evK, Done]

theorem done_nilCheck (x : Operand) (ho : o.op = .nilCheck x) {vs : List V} (hvs : VRL ρ vs (o.op.operands.toList.map a.eval)) (hm : MR ρ m w) :
    Done P o a ρ m w (evK W call m .nilCheck vs) := by
  have hop : o.op.operands = #[x] := by rw [ho]; rfl
  rw [hop] at hvs
  obtain ⟨v, rfl, hv⟩ := hvs.one_inv
  cases v with
  | ptr b i =>
    have hv' := hv
    simp only [VR] at hv
    obtain ⟨L, h1, h2⟩ := hv
    simp only [evK]
    exact Done.value (x := a.eval x) (by simp [Go.execOp, ho, h2]) hv' hm
  | fn f c d =>
    have hv' := hv
    simp only [VR] at hv
    obtain ⟨c', d', h1, _⟩ := hv
    simp only [evK]
    exact Done.value (x := a.eval x) (by simp [Go.execOp, ho, h1]) hv' hm
  | iface t u =>
    have hv' := hv
    simp only [VR] at hv
    obtain ⟨u', h1, _⟩ := hv
    simp only [evK]
    exact Done.value (x := a.eval x) (by simp [Go.execOp, ho, h1]) hv' hm
  | _ => simp [evK, Done]
end
end Mu
