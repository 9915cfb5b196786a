/- Each operation of the small code does what the model's does: copy, clear, make, maps. -/
import Derived.Test.YtaepllhjnbencaaGreatDoorMuOps5
set_option linter.unusedVariables false
set_option linter.unusedSimpArgs false
namespace Mu
open Go (Value World Addr Program IntKind Sem Result Obj TypeDesc TypeInfo Operand Oper)

section
variable {P : Program} {names : List String} {o : Oper} {a : Go.Act} {ρ : Rho} {m : M} {w : World} (W : Prg) (call : Nat → List V → M → R)

theorem run_copy {t u e : Nat} (hd : P.underlying t = some (.slice e)) {n : Nat} (hn : sizeT P e = some n) (ty : Nat) {base : Option Addr} {dLen dCap k : Nat} {x : Value} (hlen : (Go.Builtin.lenOf x).run P w = .ok k w)
    {new : Array Value} (hnew : (Go.Builtin.firstCells n (Nat.min k dLen) x).run P w = .ok new w) {w' : World} (hst : (match base with | some p => Go.storeCells p new.toList | none => pure ()).run P w = .ok () w') :
    (Go.Builtin.copy_ #[t, u] ty #[.slice base dLen dCap, x]).run P w = .ok (.int .i64 (Nat.min k dLen : Nat)) w' := by
  have hsz := run_sizeOf' (P := P) (w := w) hn
  cases base with
  | none =>
    simp only [Sem.run_pure, Result.ok.injEq, true_and] at hst
    subst hst
    simp only [Go.Builtin.copy_, List.getElem?_toArray, List.getElem?_cons_zero, List.getElem?_cons_succ, Sem.run_bind, Go.run_underlying hd, Result.andThen_ok, hlen, hsz, hnew, Sem.run_pure, Go.goInt]
  | some p =>
    simp only at hst
    simp only [Go.Builtin.copy_, List.getElem?_toArray, List.getElem?_cons_zero, List.getElem?_cons_succ, Sem.run_bind, Go.run_underlying hd, Result.andThen_ok, hlen, hsz, hnew, hst, Sem.run_pure, Go.goInt]

theorem done_copy {c : Go.Call} {t u e : Nat} (hd : P.underlying t = some (.slice e)) {n : Nat} (hn : sizeT P e = some n) (h0 : 0 < n) (ho : o.op = .call c) (hb : c.callee = .builtin .copy)
    (ht : c.argTypes.toList = [t, u]) {vs : List V} (hvs : VRL ρ vs (o.op.operands.toList.map a.eval)) (hm : MR ρ m w) : Done P o a ρ m w (evK W call m (.copy n) vs) := by
  rw [builtin_operands ho hb] at hvs
  obtain ⟨cs0, hrun⟩ := run_builtin (P := P) (a := a) (w := w) ho hb
  rcases vs with _ | ⟨d, _ | ⟨x, _ | ⟨y, r⟩⟩⟩
  · simp [evK, Done]
  · simp [evK, Done]
  case cons.cons.cons => simp [evK, Done]
  obtain ⟨d', x', h1, hdv, hx⟩ := hvs.two_v
  rw [arr_two h1, arr_two ht] at hrun
  simp only [evK]
  cases hrd : rdSl n x m with
  | none => simp [Done]
  | some l =>
    simp only
    obtain ⟨q1, q2, q3⟩ := rdSl_sound (P := P) hm hrd hx
    have fin : ∀ {v : V} {z : Value} {m' : M} {w' : World} {ρ' : Rho}, (Go.Builtin.copy_ #[t, u] o.type #[d', x']).run P w = .ok z w' → VR ρ' v z → Good ρ m w ρ' m' w' → Done P o a ρ m w (.ok v m') :=
      fun hr hv hg => ⟨_, _, _, .inl (by rw [hrun]; simp [Go.builtin, hr]), hv, hg⟩
    cases d with
    | snil =>
      simp only [VR] at hdv
      subst hdv
      obtain ⟨nw, q4, q5⟩ := q3 0 (Nat.zero_le _)
      have := run_copy (P := P) (w := w) (u := u) (ty := o.type) hd hn (base := none) (dLen := 0) (dCap := 0) q1 (by rw [show Nat.min (lenV x) 0 = 0 from Nat.min_zero _]; exact q4 w rfl) (w' := w) rfl
      refine fin this ?_ (Good.refl hm)
      simp [VR, Nat.min_def]
    | sl b off len cap es ex =>
      simp only [VR] at hdv
      obtain ⟨L, c', p, e1, rfl, hp, hlc, hcc, he1, he2⟩ := hdv
      simp only
      split
      · rename_i hes
        subst hes
        have hle : Nat.min (lenV x) len ≤ lenV x := Nat.min_le_left _ _
        obtain ⟨nw, q4, q5⟩ := q3 _ hle
        replace q4 := q4 w rfl
        have hnwl := q5.length
        simp only [Array.length_toList] at hnwl
        split
        · rename_i hz
          rw [hz] at hnwl
          have hnw0 : nw = #[] := Array.eq_empty_of_size_eq_zero (by simpa using hnwl)
          have := run_copy (P := P) (w := w) (u := u) (ty := o.type) hd hn (base := some p) (dLen := len) (dCap := c') q1 q4 (w' := w) (by rw [hnw0]; rfl)
          rw [hz] at this
          exact fin this (by simp [VR]) (Good.refl hm)
        · rename_i hz
          cases hg : m.get b with
          | none => simp [Done]
          | some blk =>
            cases blk with
            | cells cs own t' =>
              simp only
              split
              · rename_i hcond
                obtain ⟨k1, k2⟩ := hcond
                have hlen0 : len ≠ 0 := by
                  rintro rfl
                  exact hz (Nat.min_zero _)
                have hpp := hp (by omega)
                subst hpp
                have hll : (l.take (Nat.min (lenV x) len * n)).length = Nat.min (lenV x) len * n := by
                  rw [List.length_take, q2]
                  exact Nat.min_eq_left (Nat.mul_le_mul_right n hle)
                have hml : Nat.min (lenV x) len * n ≤ len * n := Nat.mul_le_mul_right n (Nat.min_le_right _ _)
                obtain ⟨w', g1, g2⟩ := hm.store (P := P) (o := off) (l := l.take (Nat.min (lenV x) len * n)) (l' := nw.toList) e1 hg (by rintro rfl; simp [canWrite] at k1) q5 (by omega)
                have := run_copy (P := P) (w := w) (u := u) (ty := o.type) hd hn (base := some ⟨L.blk, L.base + off, none⟩) (dLen := len) (dCap := c') q1 q4 (w' := w') g1
                exact fin this (by simp [VR]) g2
              · simp [Done]
            | _ => simp [Done]
      · simp [Done]
    | _ => simp [Done]

theorem zeroCells_rep {z : List V} {z' : Array Value} (hz : VRC ρ z z'.toList) (h0 : 0 < z.length) (k : Nat) : VRC ρ (rep z k) (Go.Builtin.zeroCells z' k).toList := by
  have hl := hz.length
  simp only [Array.length_toList] at hl
  have := rep_sound hz h0 k (k * z.length) rfl
  simpa [Go.Builtin.zeroCells, hl] using this

theorem done_clear {c : Go.Call} {t e : Nat} (hd : P.underlying t = some (.slice e)) {n : Nat} (hn : sizeT P e = some n) (h0 : 0 < n) {z : List V} (hz : zeroT P e = some z) (hzl : z.length = n) (ho : o.op = .call c)
    (hb : c.callee = .builtin .clear) (ht : c.argTypes.toList = [t]) {vs : List V} (hvs : VRL ρ vs (o.op.operands.toList.map a.eval)) (hm : MR ρ m w) : Done P o a ρ m w (evK W call m (.clear n z) vs) := by
  rw [builtin_operands ho hb] at hvs
  obtain ⟨cs0, hrun⟩ := run_builtin (P := P) (a := a) (w := w) ho hb
  rcases vs with _ | ⟨s, _ | ⟨x, r⟩⟩
  · simp [evK, Done]
  case cons.cons => simp [evK, Done]
  obtain ⟨s', h1, hs⟩ := hvs.one_v
  rw [arr_one h1, arr_one ht] at hrun
  have fin : ∀ {v : V} {z : Value} {m' : M} {w' : World} {ρ' : Rho}, (Go.Builtin.clear_ #[t] o.type #[s']).run P w = .ok z w' → VR ρ' v z → Good ρ m w ρ' m' w' → Done P o a ρ m w (.ok v m') :=
    fun hr hv hg => ⟨_, _, _, .inl (by rw [hrun]; simp [Go.builtin, hr]), hv, hg⟩
  obtain ⟨zv, z1, z2⟩ := zeroT_inv hz
  simp only [evK]
  cases s with
  | snil =>
    simp only [VR] at hs
    subst hs
    exact fin (z := .tuple #[]) (by simp [Go.Builtin.clear_, Go.run_underlying hd]) (by simp [VR, VRL]) (Good.refl hm)
  | sl b off len cap es ex =>
    simp only [VR] at hs
    obtain ⟨L, c', p, e1, rfl, hp, hlc, hcc, he1, he2⟩ := hs
    simp only
    split
    · rename_i hes
      subst hes
      split
      · rename_i hl0
        subst hl0
        exact fin (z := .tuple #[]) (by simp [Go.Builtin.clear_, Go.run_underlying hd]) (by simp [VR, VRL]) (Good.refl hm)
      · rename_i hl0
        cases hg : m.get b with
        | none => simp [Done]
        | some blk =>
          cases blk with
          | cells cs own t' =>
            simp only
            split
            · rename_i hcond
              obtain ⟨k1, k2⟩ := hcond
              have hpp := hp (by omega)
              subst hpp
              obtain ⟨w', g1, g2⟩ := hm.store (P := P) (o := off) (l := rep z len) (l' := (Go.Builtin.zeroCells zv.cells len).toList) e1 hg (by rintro rfl; simp [canWrite] at k1)
                (zeroCells_rep (z2 ρ) (by omega) len) (by rw [rep_length, hzl]; exact k2)
              refine fin (z := .tuple #[]) ?_ (by simp [VR, VRL]) g2
              cases len with
              | zero => exact absurd rfl hl0
              | succ len => simp [Go.Builtin.clear_, Go.run_underlying hd, z1, g1]
            · simp [Done]
          | _ => simp [Done]
    · simp [Done]
  | _ => simp [Done]

theorem strOf_sound : ∀ {l : List V} {s : List Nat} (h : strOf l = some s) {l' : List Value} (hl : VRC ρ l l'), ∃ bs : List UInt8, bs.map UInt8.toNat = s ∧ l' = bs.map fun b => .int .u8 b.toNat
  | [], s, h, l', hl => by
    have := hl.nil_v
    subst this
    simp [strOf] at h
    subst h
    exact ⟨[], rfl, rfl⟩
  | v :: r, s, h, l', hl => by
    simp only [VRC] at hl
    obtain ⟨x, k, rfl, h2, _, h4⟩ := hl
    cases v with
    | int kd n =>
      cases kd with
      | u8 =>
        simp only [strOf] at h
        split at h
        · rename_i hn
          simp only [Option.map_eq_some_iff] at h
          obtain ⟨s', h5, rfl⟩ := h
          obtain ⟨bs, b1, b2⟩ := strOf_sound h5 h4
          have := vr_int h2
          subst this
          refine ⟨UInt8.ofNat n.toNat :: bs, ?_, ?_⟩
          · simp [b1]; omega
          · simp [b2]; omega
        · cases h
      | _ => simp [strOf] at h
    | _ => simp [strOf] at h

theorem run_bytesLoop (f : Value → ByteArray → Sem (ForInStep ByteArray)) (hf : ∀ (b : UInt8) (s : ByteArray), (f (.int .u8 b.toNat) s).run P w = .ok (.yield (s.push b)) w) :
    ∀ (bs : List UInt8) (s : ByteArray), (forIn (m := Sem) (bs.map fun b => Value.int .u8 b.toNat) s f).run P w = .ok ⟨s.data ++ bs.toArray⟩ w
  | [], s => by simp
  | b :: r, s => by
    simp only [List.map_cons, List.forIn_cons, Sem.run_bind, hf, Result.andThen_ok]
    rw [run_bytesLoop f hf r (s.push b)]
    congr 1
    apply ByteArray.ext
    simp [ByteArray.push]

theorem done_convBytesStr (s d : Nat) {e : Nat} (hs : P.underlying s = some (.slice e)) (hd : P.underlying d = some .string) (he : P.underlying e = some (.int .u8)) (x : Operand) (ho : o.op = .convert s d x) {vs : List V}
    (hvs : VRL ρ vs (o.op.operands.toList.map a.eval)) (hm : MR ρ m w) : Done P o a ρ m w (evK W call m .convBytesStr vs) := by
  have hop : o.op.operands = #[x] := by rw [ho]; rfl
  rw [hop] at hvs
  obtain ⟨v, rfl, hv⟩ := hvs.one_inv
  have hrun : ∀ y, a.eval x = y → (∃ p n c, y = .slice p n c) → (Go.execOp a.eval o).run P w = ((Go.Conv.bytesToString y).run P w).andThen fun v w' => .ok (.value v) w' := by
    intro y hy hsl
    obtain ⟨p, n, c, rfl⟩ := hsl
    cases p with
    | none => simp only [Go.execOp, ho, hy, Go.convert, Sem.run_bind, Go.run_underlying hs, Go.run_underlying hd, Go.run_underlying he, Result.andThen_ok, Sem.run_pure]
    | some p => simp only [Go.execOp, ho, hy, Go.convert, Sem.run_bind, Go.run_underlying hs, Go.run_underlying hd, Go.run_underlying he, Result.andThen_ok, Sem.run_pure]
  cases v with
  | snil =>
    simp only [VR] at hv
    simp only [evK]
    refine Done.value (x := .string .empty) ?_ (by simp only [VR]; exact ⟨_, rfl, rfl⟩) hm
    rw [hrun _ hv ⟨_, _, _, rfl⟩]
    rfl
  | sl b off len cap es ex =>
    simp only [evK]
    cases hrd : rdSl 1 (.sl b off len cap es ex) m with
    | none => simp [Done]
    | some l =>
      simp only
      cases hst : strOf l with
      | none => simp [Done]
      | some t =>
        simp only
        obtain ⟨q1, q2, q3⟩ := rdSl_sound (P := P) hm hrd hv
        obtain ⟨nw, q4, q5⟩ := q3 _ (Nat.le_refl _)
        rw [List.take_of_length_le (by omega)] at q5
        obtain ⟨bs, b1, b2⟩ := strOf_sound hst q5
        have hv2 := hv
        simp only [VR] at hv
        obtain ⟨L, c', p, e1, hy, hp, _⟩ := hv
        refine Done.value (x := .string ⟨bs.toArray⟩) ?_ (by simp only [VR]; exact ⟨_, rfl, by simpa using b1⟩) hm
        rw [hrun _ hy ⟨_, _, _, rfl⟩]
        have hq4 := q4 w rfl
        rw [hy] at hq4
        simp only [Go.Builtin.firstCells, Nat.mul_one, lenV] at hq4
        simp only [Go.Conv.bytesToString, Sem.run_bind, hq4, Result.andThen_ok]
        have hnw : nw = (bs.map fun b => Value.int .u8 b.toNat).toArray := by
          apply Array.ext'
          simpa using b2
        rw [hnw, ← Array.forIn_toList]
        rw [run_bytesLoop (P := P) (w := w) _ (fun b s => by simp) bs ByteArray.empty]
        simp
  | _ => simp [evK, Done]

/-! make -/
theorem done_mkSlice (t : Nat) (x y : Operand) {e : Nat} (hd : P.underlying t = some (.slice e)) {n : Nat} (hn : sizeT P e = some n) (h0 : 0 < n) {z : List V} (hz : zeroT P e = some z) (hzl : z.length = n) (hf : fewBytes P e = true)
    (ho : o.op = .makeSlice t x y) {vs : List V} (hvs : VRL ρ vs (o.op.operands.toList.map a.eval)) (hm : MR ρ m w) : Done P o a ρ m w (evK W call m (.mkSlice e n z) vs) := by
  have hop : o.op.operands = #[x, y] := by rw [ho]; rfl
  rw [hop] at hvs
  obtain ⟨v, u, rfl, hv, hu⟩ := hvs.two_inv
  simp only [evK]
  cases hl : natOf v with
  | none => simp [Done]
  | some l =>
    cases hc : natOf u with
    | none => simp [Done]
    | some c =>
      simp only
      split
      · rename_i hcond
        obtain ⟨h1, h2⟩ := hcond
        obtain ⟨k1, rfl⟩ := natOf_int hl
        obtain ⟨k2, rfl⟩ := natOf_int hc
        have e1 := vr_int hv
        have e2 := vr_int hu
        obtain ⟨zv, z1, z2⟩ := zeroT_inv hz
        obtain ⟨i, hi, hib⟩ := fewBytes_inv hf
        have hzs : zv.cells.size = n := by
          have := (z2 (fun _ => none)).length
          simp only [Array.length_toList] at this
          omega
        have hwl : IntKind.i64.wrap (l : Int) = l := by
          unfold big at h2
          simp [IntKind.wrap, IntKind.bits, IntKind.signed]
          omega
        have hwc : IntKind.i64.wrap (c : Int) = c := by
          unfold big at h2
          simp [IntKind.wrap, IntKind.bits, IntKind.signed]
          omega
        have hbytes : (i.bytes : Int) * (c : Int) ≤ 281474976710656 := by
          have : i.bytes * c ≤ 65536 * 2 ^ 31 := Nat.mul_le_mul hib h2
          omega
        have hg := hm.row (rep_sound (z2 ρ) (by omega) c (c * n) (by rw [hzl])) e
        refine ⟨.slice (some ⟨w.heap.size, 0, none⟩) l c, _, _, .inl ?_, ?_, hg⟩
        · have hin : i.size = n := by
            unfold sizeT at hn
            simpa [hi] using hn
          have hb2 : ¬ ((281474976710656 : Int) < (i.bytes : Int) * (c : Int)) := by omega
          have hlc : ¬ ((c : Int) < (l : Int)) := by omega
          have hl0 : ¬ ((l : Int) < 0) := by omega
          have hc0 : ¬ ((c : Int) < 0) := by omega
          have hrun : (Go.Instr.makeSlice t (.int k1 l) (.int k2 c)).run P w = .ok (.slice (some ⟨w.heap.size, 0, none⟩) l c) { w with heap := w.heap.push (.cells ((Array.range (c * n)).map (zv.cells[· % zv.cells.size]!)) e) } := by
            by_cases hcn : c * n = 0
            · obtain rfl : c = 0 := by
                rcases Nat.mul_eq_zero.1 hcn with h | h <;> omega
              obtain rfl : l = 0 := by omega
              have hw0 : IntKind.i64.wrap 0 = 0 := by decide
              have hr0 : Array.range 0 = #[] := rfl
              simp [Go.Instr.makeSlice, Go.run_underlying hd, Go.asInt, Go.asIntOf, Go.typeInfo, hi, hw0, run_sizeOf' hn, Go.newRow, hr0]
            · simp [Go.Instr.makeSlice, Go.run_underlying hd, Go.asInt, Go.asIntOf, Go.typeInfo, hi, hwl, hwc, hb2, hlc, hl0, hc0, run_sizeOf' hn, hcn, Go.newRow, z1]
          simp only [Go.execOp, ho, e1, e2, Sem.run_bind, hrun, Result.andThen_ok, Sem.run_pure]
        · simp only [VR]
          exact ⟨_, c, _, Rho.ext_same _ _ _, rfl, fun _ => rfl, h1, Nat.le_refl _, fun _ => rfl, by simp⟩
      · simp [Done]

/-! maps -/
theorem done_mkMap (t : Nat) (ho : o.op = .makeMap t none) {vs : List V} (hvs : VRL ρ vs (o.op.operands.toList.map a.eval)) (hm : MR ρ m w) : Done P o a ρ m w (evK W call m .mkMap vs) := by
  have hop : o.op.operands = #[] := by rw [ho]; rfl
  rw [hop] at hvs
  have := hvs.nil_inv
  subst this
  simp only [evK]
  have hg := hm.alloc (.map []) (.map #[] 0) 0 (by simp only [BR]; exact ⟨#[], 0, by show (w.heap.push _)[w.heap.size]? = _; rw [Array.getElem?_push_size], by simp [KR], by simp [Stamps]⟩)
  refine ⟨.map (some w.heap.size), _, _, .inl ?_, ?_, hg⟩
  · simp [Go.execOp, ho, Go.Instr.makeMap]
  · simp only [VR]
    exact ⟨_, Rho.ext_same _ _ _, rfl⟩

/-- keys of a map are told apart on both sides alike -/
theorem keyT_inv {t : Nat} {sk : Bool} (h : keyT P t = some sk) : (∃ k, sk = false ∧ P.underlying t = some (.int k)) ∨ (sk = true ∧ P.underlying t = some .string) := by
  unfold keyT at h
  cases hd : P.underlying t with
  | none => simp [hd] at h
  | some d => cases d <;> simp [hd] at h <;> simp [← h]

theorem isKey_inv {sk : Bool} {k : V} (h : isKey sk k = true) : (sk = false ∧ ∃ kd n, k = .int kd n) ∨ (sk = true ∧ ∃ s, k = .str s) := by
  cases sk <;> cases k <;> simp [isKey] at h <;> simp

theorem run_checkKey' (d : Nat) {t : Nat} {sk : Bool} (h : keyT P t = some sk) (empty : Bool) {k : V} {x : Value} (hk : isKey sk k = true) (hx : VR ρ k x) : (Go.Instr.checkKey empty (d + 1) t x).run P w = .ok () w := by
  rcases keyT_inv h with ⟨kd, rfl, hd⟩ | ⟨rfl, hd⟩ <;> rcases isKey_inv hk with ⟨h1, kd', n, rfl⟩ | ⟨h1, s, rfl⟩
  · have := vr_int hx; subst this; simp [Go.Instr.checkKey, Go.run_underlying hd]
  · cases h1
  · cases h1
  · obtain ⟨bs, rfl, _⟩ := vr_str hx; simp [Go.Instr.checkKey, Go.run_underlying hd]

theorem run_checkKey {t : Nat} {sk : Bool} (h : keyT P t = some sk) (empty : Bool) {k : V} {x : Value} (hk : isKey sk k = true) (hx : VR ρ k x) : (Go.Instr.checkKey empty 10000 t x).run P w = .ok () w :=
  run_checkKey' 9999 h empty hk hx

/-- the kind of a key's type, and the key -/
def KeyFits (d : TypeDesc) (k : V) : Prop := (∃ kd, d = .int kd ∧ ∃ kd' n, k = .int kd' n) ∨ (d = .string ∧ ∃ s, k = .str s)

theorem keyFits {t : Nat} {sk : Bool} (h : keyT P t = some sk) {k : V} (hk : isKey sk k = true) : ∃ d, P.underlying t = some d ∧ KeyFits d k := by
  rcases keyT_inv h with ⟨kd, rfl, hd⟩ | ⟨rfl, hd⟩ <;> rcases isKey_inv hk with ⟨h1, kd', n, rfl⟩ | ⟨h1, s, rfl⟩
  · exact ⟨_, hd, .inl ⟨kd, rfl, kd', n, rfl⟩⟩
  · cases h1
  · cases h1
  · exact ⟨_, hd, .inr ⟨rfl, s, rfl⟩⟩

theorem sameNow_sound {d : TypeDesc} {k k' : V} {x x' : Value} {b : Bool} (he : eqKey k k' = some b) (hx : VR ρ k x) (hx' : VR ρ k' x') (hkd : KeyFits d k) :
    Go.Instr.sameNow d x x' = some b ∧ (b = true → k = k') := by
  rcases hkd with ⟨kd, rfl, kd', n, rfl⟩ | ⟨rfl, s, rfl⟩
  · cases k' <;> simp only [eqKey, reduceCtorEq] at he
    split at he
    · rename_i hk
      subst hk
      injection he with he
      subst he
      have e1 := vr_int hx
      have e2 := vr_int hx'
      subst e1 e2
      rename_i n'
      refine ⟨?_, by simp⟩
      simp only [Go.Instr.sameNow, if_true]
      congr 1
    · cases he
  · cases k' <;> simp only [eqKey, reduceCtorEq] at he
    injection he with he
    subst he
    obtain ⟨b1, e1, e3⟩ := vr_str hx
    obtain ⟨b2, e2, e4⟩ := vr_str hx'
    subst e1 e2 e3 e4
    refine ⟨?_, by simp⟩
    simp only [Go.Instr.sameNow]
    congr 1
    rw [← str_eq, Go.beq_toListBytes]

theorem findNow_sound {d : TypeDesc} {k : V} {x : Value} (hx : VR ρ k x) (hkd : KeyFits d k) : ∀ {es : List (V × V)} {l : List Go.MapEntry} (hl : KR ρ es l) {r : Option V} (hr : findK k es = some r) (i : Nat),
    ∃ q, Go.Instr.findNow d x l i = some q ∧ (match r with | none => q = none | some v => ∃ j y, q = some (i + j, y) ∧ VR ρ v y ∧ ∃ e, l[j]? = some e ∧ e.val = y ∧ VR ρ k e.key)
  | [], l, hl, r, hr, i => by
    simp only [KR] at hl
    subst hl
    simp [findK] at hr
    subst hr
    exact ⟨none, rfl, rfl⟩
  | (k', v) :: es, l, hl, r, hr, i => by
    simp only [KR] at hl
    obtain ⟨e, l', rfl, h2, h3, h4⟩ := hl
    simp only [findK] at hr
    cases he : eqKey k k' with
    | none => simp [he] at hr
    | some b =>
      obtain ⟨hs, hs2⟩ := sameNow_sound he hx h2 hkd
      cases b with
      | true =>
        simp only [he, Option.some.injEq] at hr
        subst hr
        have := hs2 rfl
        subst this
        exact ⟨some (i, e.val), by simp [Go.Instr.findNow, hs], 0, e.val, rfl, h3, e, rfl, rfl, h2⟩
      | false =>
        simp only [he] at hr
        obtain ⟨q, q1, q2⟩ := findNow_sound hx hkd h4 hr (i + 1)
        refine ⟨q, by simp [Go.Instr.findNow, hs, q1], ?_⟩
        cases r with
        | none => exact q2
        | some v' =>
          obtain ⟨j, y, e1, e2, e3, e4, e5⟩ := q2
          exact ⟨j + 1, y, by rw [e1]; congr 2; omega, e2, e3, by simpa using e4, e5⟩

theorem findKey_sound {t : Nat} {sk : Bool} (h : keyT P t = some sk) {k : V} {x : Value} (hk : isKey sk k = true) (hx : VR ρ k x) {es : List (V × V)} {l : List Go.MapEntry} (hl : KR ρ es l) {r : Option V} (hr : findK k es = some r) :
    ∃ q, (Go.Instr.findKey t x l).run P w = .ok q w ∧ (match r with | none => q = none | some v => ∃ j y, q = some (j, y) ∧ VR ρ v y ∧ ∃ e, l[j]? = some e ∧ e.val = y ∧ VR ρ k e.key) := by
  obtain ⟨d, hd, hkd⟩ := keyFits h hk
  obtain ⟨q, q1, q2⟩ := findNow_sound hx hkd hl hr 0
  refine ⟨q, by simp [Go.Instr.findKey, Go.run_underlying hd, q1], ?_⟩
  cases r with
  | none => exact q2
  | some v =>
    obtain ⟨j, y, e1, e2⟩ := q2
    exact ⟨j, y, by rw [e1]; simp, e2⟩

theorem zeroV_inv {t : Nat} {z : V} (h : zeroV P t = some z) : ∃ zv, (∀ w : World, (Go.zeroValue t).run P w = .ok zv w) ∧ ∀ ρ, VR ρ z zv := by
  unfold zeroV at h
  cases hi : P.info? t with
  | none => simp [hi] at h
  | some i =>
    simp only [hi, Option.bind_some] at h
    cases hz : i.zero with
    | none => simp [hz] at h
    | some zv =>
      simp only [hz, Option.bind_some] at h
      exact ⟨zv, fun w => by simp [Go.zeroValue, Go.typeInfo, hi, hz], fun ρ => trC_sound h⟩

theorem done_lookup (t : Nat) (x y : Operand) (ok : Bool) {kt e : Nat} (hd : P.underlying t = some (.map kt e)) {sk : Bool} (hk : keyT P kt = some sk) {z : V} (hz : zeroV P e = some z) (ho : o.op = .lookup t x y ok) {vs : List V}
    (hvs : VRL ρ vs (o.op.operands.toList.map a.eval)) (hm : MR ρ m w) : Done P o a ρ m w (evK W call m (.lookup sk z ok) vs) := by
  have hop : o.op.operands = #[x, y] := by rw [ho]; rfl
  rw [hop] at hvs
  obtain ⟨v, k, rfl, hv, hkv⟩ := hvs.two_inv
  obtain ⟨zv, z1, z2⟩ := zeroV_inv hz
  simp only [evK]
  cases v with
  | mnil =>
    simp only [VR] at hv
    simp only
    split
    · rename_i hik
      refine Done.value (x := if ok then .tuple #[zv, .bool false] else zv) ?_ (by cases ok <;> simp [VR, VRL, z2 ρ]) hm
      obtain ⟨q, q1, q2⟩ := findKey_sound (P := P) (w := w) (ρ := ρ) hk hik hkv (es := []) (l := []) (by simp [KR]) (r := none) rfl
      simp only at q2
      subst q2
      cases ok <;> simp [Go.execOp, ho, hv, Go.Instr.lookup, Go.run_underlying hd, run_checkKey hk _ hik hkv, q1, z1]
    · simp [Done]
  | map b =>
    simp only [VR] at hv
    obtain ⟨L, h1, h2⟩ := hv
    simp only
    cases hg : m.get b with
    | none => simp [Done]
    | some blk =>
      cases blk with
      | map es =>
        simp only
        split
        · rename_i hik
          obtain ⟨ents, clock, g1, g2⟩ := hm.map h1 hg
          cases hf : findK k es with
          | none => simp [Done]
          | some r =>
            obtain ⟨q, q1, q2⟩ := findKey_sound (P := P) (w := w) hk hik hkv g2 hf
            cases r with
            | none =>
              simp only at q2 ⊢
              subst q2
              refine Done.value (x := if ok then .tuple #[zv, .bool false] else zv) ?_ (by cases ok <;> simp [VR, VRL, z2 ρ]) hm
              cases ok <;> simp [Go.execOp, ho, h2, Go.Instr.lookup, Go.run_underlying hd, run_getObj_map g1, run_checkKey hk _ hik hkv, q1, z1]
            | some v =>
              obtain ⟨j, y', e1, e2, e3, e4, e5, e6⟩ := q2
              subst e1
              simp only
              refine Done.value (x := if ok then .tuple #[y', .bool true] else y') ?_ (by cases ok <;> simp [VR, VRL, e2]) hm
              cases ok <;> simp [Go.execOp, ho, h2, Go.Instr.lookup, Go.run_underlying hd, run_getObj_map g1, run_checkKey hk _ hik hkv, q1]
        · simp [Done]
      | _ => simp [Done]
  | _ => simp [Done]
end
end Mu
