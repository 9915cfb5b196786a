/- Each operation of the small code does what the model's does: places, slices, strings. -/
import Derived.Test.YtaepllhjnbencaaGreatDoorMuOps2
set_option linter.unusedVariables false
set_option linter.unusedSimpArgs false
namespace Mu
open Go (Value World Addr Program IntKind Sem Result Obj TypeDesc TypeInfo Operand Oper)

section
variable {P : Program} {names : List String} {o : Oper} {a : Go.Act} {ρ : Rho} {m : M} {w : World} (W : Prg) (call : Nat → List V → M → R)

theorem run_sizeOf' {t n : Nat} (h : sizeT P t = some n) : (Go.sizeOf t).run P w = .ok n w := by
  unfold sizeT at h
  cases hi : P.info? t with
  | none => simp [hi] at h
  | some i => simp [hi] at h; simp [Go.sizeOf, Go.typeInfo, hi, h]

theorem run_isAgg' {t : Nat} {b : Bool} (h : isAggT P t = some b) : (Go.isAgg t).run P w = .ok b w := by
  unfold isAggT at h
  cases hu : P.underlying t with
  | none => simp [hu] at h
  | some d =>
    simp [hu] at h
    subst h
    simp only [Go.isAgg, Sem.run_bind, Go.run_underlying hu, Result.andThen_ok]
    cases d <;> rfl

theorem Done.opt {x : Option V} (h : ∀ v, x = some v → Done P o a ρ m w (.ok v m)) : Done P o a ρ m w (opt x m) := by
  cases x with
  | none => simp [Mu.opt, Done]
  | some v => exact h v rfl

theorem partV_sound {t off n : Nat} {b : Bool} (hb : isAggT P t = some b) (hn : sizeT P t = some n) {cs : List V} {cs' : Array Value} (hc : VRC ρ cs cs'.toList) {v : V} (hv : partV b off n cs = some v) :
    ∃ x, (Go.part t cs' off).run P w = .ok x w ∧ VR ρ v x := by
  unfold partV at hv
  cases b
  · simp only [cond_false] at hv
    obtain ⟨x, k1, k2, _⟩ := hc.get _ _ hv
    have k3 : cs'[off]? = some x := by simpa using k1
    exact ⟨x, by simp [Go.part, run_isAgg' hb, k3], k2⟩
  · simp only [cond_true] at hv
    split at hv
    · rename_i h1
      injection hv with hv
      subst hv
      refine ⟨.agg (cs'.extract off (off + n)), by simp [Go.part, run_isAgg' hb, run_sizeOf' hn], ?_⟩
      simp only [VR]
      refine ⟨_, rfl, ?_⟩
      have := hc.slice off n h1
      rwa [Array.toList_extract, List.extract_eq_take_drop, Nat.add_sub_cancel_left]
    · cases hv

theorem done_fieldAddr (t : Nat) (x : Operand) (f : Nat) {fs : Array Go.Field} (hd : P.underlying t = some (.struct fs)) {g : Go.Field} (hg : fs[f]? = some g) {n : Nat} (hn : sizeT P g.type = some n) (h0 : n ≠ 0)
    (ho : o.op = .fieldAddr t x f) {vs : List V} (hvs : VRL ρ vs (o.op.operands.toList.map a.eval)) (hm : MR ρ m w) : Done P o a ρ m w (evK W call m (.fieldAddr g.offset) vs) := by
  have hop : o.op.operands = #[x] := by rw [ho]; rfl
  rw [hop] at hvs
  obtain ⟨v, rfl, hv⟩ := hvs.one_inv
  cases v with
  | ptr b i =>
    simp only [VR] at hv
    obtain ⟨L, h1, h2⟩ := hv
    simp only [evK]
    refine Done.value (x := .pointer (some ⟨L.blk, L.base + (i + g.offset), none⟩)) ?_ (by simp only [VR]; exact ⟨L, h1, rfl⟩) hm
    simp [Go.execOp, ho, h2, Go.Instr.fieldAt, Go.run_underlying hd, hg, Go.Instr.sureAddr, Go.fieldPlace, run_sizeOf' hn, h0, addr_add, Nat.add_assoc]
  | _ => simp [evK, Done]

theorem done_field (t : Nat) (x : Operand) (f : Nat) {fs : Array Go.Field} (hd : P.underlying t = some (.struct fs)) {g : Go.Field} (hg : fs[f]? = some g) {n : Nat} {b : Bool} (hb : isAggT P g.type = some b)
    (hn : sizeT P g.type = some n) (ho : o.op = .field t x f) {vs : List V} (hvs : VRL ρ vs (o.op.operands.toList.map a.eval)) (hm : MR ρ m w) : Done P o a ρ m w (evK W call m (.field b g.offset n) vs) := by
  have hop : o.op.operands = #[x] := by rw [ho]; rfl
  rw [hop] at hvs
  obtain ⟨v, rfl, hv⟩ := hvs.one_inv
  cases v with
  | agg cs =>
    simp only [VR] at hv
    obtain ⟨cs', h1, h2⟩ := hv
    simp only [evK]
    refine Done.opt fun v hv => ?_
    obtain ⟨y, k1, k2⟩ := partV_sound (P := P) (w := w) hb hn h2 hv
    exact Done.value (x := y) (by simp [Go.execOp, ho, h1, Go.Instr.field, Go.run_underlying hd, hg, Go.asAgg, k1]) k2 hm
  | _ => simp [evK, Done]

theorem natOf_int {v : V} {n : Nat} (h : natOf v = some n) : ∃ k, v = .int k (n : Int) := by
  cases v <;> simp only [natOf, reduceCtorEq] at h
  rename_i k i
  split at h
  · cases h
  · injection h with h
    exact ⟨k, by rw [← h, Int.toNat_of_nonneg (by omega)]⟩

theorem done_idxSlice (t : Nat) (x i : Operand) {e : Nat} (hd : P.underlying t = some (.slice e)) {n : Nat} (hn : sizeT P e = some n) (ho : o.op = .indexAddr t x i) {vs : List V}
    (hvs : VRL ρ vs (o.op.operands.toList.map a.eval)) (hm : MR ρ m w) : Done P o a ρ m w (evK W call m (.idxSlice n) vs) := by
  have hop : o.op.operands = #[x, i] := by rw [ho]; rfl
  rw [hop] at hvs
  obtain ⟨v, u, rfl, hv, hu⟩ := hvs.two_inv
  cases v with
  | sl b off len cap es ex =>
    simp only [VR] at hv
    obtain ⟨L, c', p, h1, h2, hp, hlc, hcc, _⟩ := hv
    simp only [evK]
    cases hk : natOf u with
    | none => simp [Done]
    | some j =>
      obtain ⟨k, rfl⟩ := natOf_int hk
      have hj := vr_int hu
      simp only
      split
      · rename_i hlt
        obtain ⟨rfl, hlt⟩ := hlt
        have hp' := hp (by omega)
        subst hp'
        refine Done.value (x := .pointer (some ⟨L.blk, L.base + (off + j * n), none⟩)) ?_ (by simp only [VR]; exact ⟨L, h1, rfl⟩) hm
        have h3 : (0 : Int) ≤ (j : Int) ∧ (j : Int) < (len : Int) := ⟨by omega, by omega⟩
        simp [Go.execOp, ho, h2, hj, Go.Instr.indexAt, Go.asIntOf, Go.run_underlying hd, hlt, run_sizeOf' hn, addr_add, Nat.add_assoc]
      · simp [Done]
  | _ => simp [evK, Done]

theorem done_idxArr (t : Nat) (x i : Operand) {e len : Nat} (hd : P.underlying t = some (.array len e)) {n : Nat} (hn : sizeT P e = some n) (ho : o.op = .indexAddr t x i) {vs : List V}
    (hvs : VRL ρ vs (o.op.operands.toList.map a.eval)) (hm : MR ρ m w) : Done P o a ρ m w (evK W call m (.idxArr n len) vs) := by
  have hop : o.op.operands = #[x, i] := by rw [ho]; rfl
  rw [hop] at hvs
  obtain ⟨v, u, rfl, hv, hu⟩ := hvs.two_inv
  cases v with
  | ptr b off =>
    simp only [VR] at hv
    obtain ⟨L, h1, h2⟩ := hv
    simp only [evK]
    cases hk : natOf u with
    | none => simp [Done]
    | some j =>
      obtain ⟨k, rfl⟩ := natOf_int hk
      have hj := vr_int hu
      simp only
      split
      · rename_i hlt
        refine Done.value (x := .pointer (some ⟨L.blk, L.base + (off + j * n), none⟩)) ?_ (by simp only [VR]; exact ⟨L, h1, rfl⟩) hm
        have h3 : (0 : Int) ≤ (j : Int) ∧ (j : Int) < (len : Int) := ⟨by omega, by omega⟩
        simp [Go.execOp, ho, h2, hj, Go.Instr.indexAt, Go.Instr.sureAddr, Go.asIntOf, Go.run_underlying hd, hlt, run_sizeOf' hn, addr_add, Nat.add_assoc]
      · simp [Done]
  | _ => simp [evK, Done]

theorem str_get {bs : ByteArray} {s : List Nat} (h : bs.data.toList.map UInt8.toNat = s) {i c : Nat} (hc : s[i]? = some c) : ∃ u : UInt8, bs[i]? = some u ∧ u.toNat = c := by
  subst h
  simp only [List.getElem?_map, Option.map_eq_some_iff] at hc
  obtain ⟨u, h1, h2⟩ := hc
  refine ⟨u, ?_, h2⟩
  have h3 : bs.data[i]? = some u := by simpa using h1
  have hlt : i < bs.size := by
    have := (Array.getElem?_eq_some_iff.1 h3).1
    exact this
  rw [getElem?_pos bs i hlt]
  have := (Array.getElem?_eq_some_iff.1 h3).2
  exact congrArg some this

theorem done_idxStr (t : Nat) (x i : Operand) (hd : P.underlying t = some .string) (ho : o.op = .index t x i) {vs : List V}
    (hvs : VRL ρ vs (o.op.operands.toList.map a.eval)) (hm : MR ρ m w) : Done P o a ρ m w (evK W call m .idxStr vs) := by
  have hop : o.op.operands = #[x, i] := by rw [ho]; rfl
  rw [hop] at hvs
  obtain ⟨v, u, rfl, hv, hu⟩ := hvs.two_inv
  cases v with
  | str s =>
    obtain ⟨bs, h1, h2⟩ := vr_str hv
    simp only [evK]
    cases hk : natOf u with
    | none => simp [Done]
    | some j =>
      obtain ⟨k, rfl⟩ := natOf_int hk
      have hj := vr_int hu
      simp only
      cases hc : s[j]? with
      | none => simp [Done]
      | some c =>
        obtain ⟨b, g1, g2⟩ := str_get h2 hc
        refine Done.value (x := .int .u8 c) ?_ (by simp [VR]) hm
        have h3 : (0 : Int) ≤ (j : Int) := by omega
        simp [Go.execOp, ho, h1, hj, Go.Instr.index, Go.asIntOf, Go.run_underlying hd, h3, g1, g2]
  | _ => simp [evK, Done]

theorem done_idxAgg (t : Nat) (x i : Operand) {e len : Nat} (hd : P.underlying t = some (.array len e)) {n : Nat} {b : Bool} (hb : isAggT P e = some b) (hn : sizeT P e = some n) (ho : o.op = .index t x i) {vs : List V}
    (hvs : VRL ρ vs (o.op.operands.toList.map a.eval)) (hm : MR ρ m w) : Done P o a ρ m w (evK W call m (.idxAgg b n len) vs) := by
  have hop : o.op.operands = #[x, i] := by rw [ho]; rfl
  rw [hop] at hvs
  obtain ⟨v, u, rfl, hv, hu⟩ := hvs.two_inv
  cases v with
  | agg cs =>
    simp only [VR] at hv
    obtain ⟨cs', h1, h2⟩ := hv
    simp only [evK]
    cases hk : natOf u with
    | none => simp [Done]
    | some j =>
      obtain ⟨k, rfl⟩ := natOf_int hk
      have hj := vr_int hu
      simp only
      split
      · rename_i hlt
        refine Done.opt fun v hv => ?_
        obtain ⟨y, k1, k2⟩ := partV_sound (P := P) (w := w) hb hn h2 hv
        have h3 : (0 : Int) ≤ (j : Int) ∧ (j : Int) < (len : Int) := ⟨by omega, by omega⟩
        exact Done.value (x := y) (by simp [Go.execOp, ho, h1, hj, Go.Instr.index, Go.asIntOf, Go.run_underlying hd, hlt, run_sizeOf' hn, k1]) k2 hm
      · simp [Done]
  | _ => simp [evK, Done]

/-! slices of slices and strings -/
def bndRel (ρ : Rho) (a : Go.Act) : Option V → Option Operand → Prop
  | none, none => True
  | some v, some x => VR ρ v (a.eval x)
  | _, _ => False

theorem bnds_rel {lo hi mx : Option Operand} {vs : List V} (hvs : VRL ρ vs ((lo.toArray ++ hi.toArray ++ mx.toArray).toList.map a.eval)) {b : Option V × Option V × Option V}
    (hb : bnds lo.isSome hi.isSome mx.isSome vs = some b) : bndRel ρ a b.1 lo ∧ bndRel ρ a b.2.1 hi ∧ bndRel ρ a b.2.2 mx := by
  cases lo <;> cases hi <;> cases mx <;> simp only [Option.isSome, Option.toArray] at hb hvs
  · have := hvs.nil_inv; subst this; simp [bnds] at hb; subst hb; simp [bndRel]
  · obtain ⟨v, rfl, h1⟩ := VRL.one_inv (by simpa using hvs); simp [bnds] at hb
  · obtain ⟨v, rfl, h1⟩ := VRL.one_inv (by simpa using hvs); simp [bnds] at hb; subst hb; simp [bndRel, h1]
  · obtain ⟨v, u, rfl, h1, h2⟩ := VRL.two_inv (by simpa using hvs); simp [bnds] at hb; subst hb; simp [bndRel, h1, h2]
  · obtain ⟨v, rfl, h1⟩ := VRL.one_inv (by simpa using hvs); simp [bnds] at hb; subst hb; simp [bndRel, h1]
  · obtain ⟨v, u, rfl, h1, h2⟩ := VRL.two_inv (by simpa using hvs); simp [bnds] at hb
  · obtain ⟨v, u, rfl, h1, h2⟩ := VRL.two_inv (by simpa using hvs); simp [bnds] at hb; subst hb; simp [bndRel, h1, h2]
  · obtain ⟨v, u, t, rfl, h1, h2, h3⟩ := VRL.three_inv (by simpa using hvs); simp [bnds] at hb; subst hb; simp [bndRel, h1, h2, h3]

theorem run_sliceBound {v : V} {x : Operand} (hv : VR ρ v (a.eval x)) {lim n : Nat} (h : bnd (some v) 0 lim = some n) (code : Go.BoundsCode) (lim' : Nat) (hl : lim ≤ lim') :
    (Go.Instr.sliceBound (a.eval x) lim' code).run P w = .ok n w ∧ n ≤ lim := by
  simp only [bnd] at h
  cases hk : natOf v with
  | none => simp [hk] at h
  | some j =>
    simp only [hk] at h
    split at h
    · rename_i hle
      injection h with h
      subst h
      obtain ⟨k, rfl⟩ := natOf_int hk
      have hj := vr_int hv
      refine ⟨?_, hle⟩
      simp only [Go.Instr.sliceBound, hj, Go.asIntOf, Sem.run_bind, Sem.run_pure, Result.andThen_ok, Sem.run_ite]
      rw [if_pos ⟨by omega, by omega⟩]
      simp
    · cases h

theorem bnd_some {v : V} {d d' lim n : Nat} (h : bnd (some v) d lim = some n) : bnd (some v) d' lim = some n := h

/-- what slicing comes to: real capacity c' at least the abstract one -/
theorem run_bounds {isSlice : Bool} {len cap cap' : Nat} (hcap : cap ≤ cap') {lo hi mx : Option Operand} {b : Option V × Option V × Option V}
    (h1 : bndRel ρ a b.1 lo) (h2 : bndRel ρ a b.2.1 hi) (h3 : bndRel ρ a b.2.2 mx) (hmx : mx.isSome = true → hi.isSome = true) (hlen : len ≤ cap) {l h c : Nat} (hb : bnds3 len cap b = some (l, h, c)) :
    (Go.Instr.sliceBounds isSlice len cap' (lo.map a.eval) (hi.map a.eval) (mx.map a.eval)).run P w = .ok (l, h, if mx.isSome then c else cap') w ∧ l ≤ h ∧ h ≤ c ∧ c ≤ cap ∧ (mx.isSome = false → c = cap) := by
  obtain ⟨b1, b2, b3⟩ := b
  simp only at h1 h2 h3
  unfold bnds3 at hb
  simp only at hb
  cases hc : bnd b3 cap cap with
  | none => simp [hc] at hb
  | some c0 =>
    simp only [hc] at hb
    cases hh : bnd b2 len (topOf b3 c0 cap) with
    | none => simp [hh] at hb
    | some h0 =>
      simp only [hh] at hb
      cases hl : bnd b1 0 h0 with
      | none => simp [hl] at hb
      | some l0 =>
        simp only [hl, Option.some.injEq, Prod.mk.injEq] at hb
        obtain ⟨rfl, rfl, rfl⟩ := hb
        have low : ∀ code, (match lo.map a.eval with | some v => Go.Instr.sliceBound v h0 code | none => pure 0 : Sem Nat).run P w = .ok l0 w ∧ l0 ≤ h0 := by
          intro code
          cases lo with
          | none => cases b1 <;> simp [bndRel] at h1; simp [bnd] at hl; subst hl; exact ⟨rfl, Nat.zero_le _⟩
          | some x => cases b1 <;> simp only [bndRel] at h1; exact run_sliceBound h1 hl code h0 (Nat.le_refl _)
        cases mx with
        | none =>
          cases b3 <;> simp only [bndRel] at h3
          simp only [bnd, Option.some.injEq] at hc
          subst hc
          simp only [topOf] at hh
          have high : (match hi.map a.eval with | some v => Go.Instr.sliceBound v cap' (if isSlice then .sliceAcap else .sliceAlen) | none => pure len : Sem Nat).run P w = .ok h0 w ∧ h0 ≤ cap := by
            cases hi with
            | none => cases b2 <;> simp only [bndRel] at h2; simp only [bnd, Option.some.injEq] at hh; subst hh; exact ⟨rfl, hlen⟩
            | some x => cases b2 <;> simp only [bndRel] at h2; exact run_sliceBound h2 (bnd_some hh) _ cap' hcap
          refine ⟨?_, (low .sliceB).2, high.2, Nat.le_refl _, fun _ => rfl⟩
          have hl' := (low (if (none : Option Value).isSome then .slice3C else .sliceB)).1
          cases hi with
          | none =>
            have hh' := high.1
            simp only [Option.map_none] at hh' hl' ⊢
            simp only [Go.Instr.sliceBounds, Sem.run_bind, Sem.run_pure, Result.andThen_ok] at hh' hl' ⊢
            injection hh' with hh' _
            subst hh'
            cases lo <;> simp at hl' ⊢ <;> simp [hl']
          | some x =>
            have hh' := high.1
            simp only [Option.map_some, Option.map_none] at hh' hl' ⊢
            simp only [Go.Instr.sliceBounds, Sem.run_bind, Sem.run_pure, Result.andThen_ok, hh']
            cases lo <;> simp at hl' ⊢ <;> simp [hl']
        | some y =>
          cases b3 <;> simp only [bndRel] at h3
          rename_i v3
          have hmax := run_sliceBound (P := P) (w := w) h3 (bnd_some hc) (if isSlice then .slice3Acap else .slice3Alen) cap' hcap
          cases hi with
          | none => simp at hmx
          | some x =>
            cases b2 <;> simp only [bndRel] at h2
            rename_i v2
            simp only [topOf] at hh
            have high := run_sliceBound (P := P) (w := w) h2 (bnd_some hh) .slice3B c0 (Nat.le_refl _)
            have hl' := (low .slice3C).1
            refine ⟨?_, (low .slice3C).2, high.2, hmax.2, by simp⟩
            simp only [Option.map_some] at hl' ⊢
            simp only [Go.Instr.sliceBounds, Sem.run_bind, Sem.run_pure, Result.andThen_ok, hmax.1, high.1]
            cases lo <;> simp at hl' ⊢ <;> simp [hl']

theorem extract_str {bs : ByteArray} {s : List Nat} (h : bs.data.toList.map UInt8.toNat = s) (l n : Nat) : (bs.extract l n).data.toList.map UInt8.toNat = (s.take n).drop l := by
  subst h
  rw [ByteArray.data_extract, Array.toList_extract, List.extract_eq_take_drop, List.map_take, List.map_drop, List.drop_take]

theorem done_slStr (t : Nat) (x : Operand) (lo hi : Option Operand) (hd : P.underlying t = some .string) (ho : o.op = .slice t x lo hi none) {vs : List V}
    (hvs : VRL ρ vs (o.op.operands.toList.map a.eval)) (hm : MR ρ m w) : Done P o a ρ m w (evK W call m (.slStr lo.isSome hi.isSome) vs) := by
  have hop : o.op.operands.toList = x :: (lo.toArray ++ hi.toArray ++ (none : Option Operand).toArray).toList := by rw [ho]; simp [Go.Op.operands]
  rw [hop, List.map_cons] at hvs
  obtain ⟨v, r, rfl, hv, hr⟩ := hvs.cons_inv
  cases v with
  | str s =>
    obtain ⟨bs, h1, h2⟩ := vr_str hv
    simp only [evK]
    cases hb : bnds lo.isSome hi.isSome false r with
    | none => simp [Done]
    | some b =>
      obtain ⟨g1, g2, g3⟩ := bnds_rel hr hb
      simp only
      cases hb3 : bnds3 s.length s.length b with
      | none => simp [Done]
      | some q =>
        obtain ⟨l, h, c⟩ := q
        simp only
        have hsz := str_len h2
        obtain ⟨k1, k2, k3, k4, k5⟩ := run_bounds (P := P) (w := w) (isSlice := false) (Nat.le_refl _) g1 g2 g3 (by simp) (Nat.le_refl _) hb3
        refine Done.value (x := .string (bs.extract l h)) ?_ (by simp only [VR]; exact ⟨_, rfl, extract_str h2 l h⟩) hm
        rw [hsz] at k1
        simp [Go.execOp, ho, h1, Go.Instr.sliceAt, Go.Instr.slice, Go.run_underlying hd] at k1 ⊢
        simp [k1]
  | _ => simp [evK, Done]

theorem done_slSlice (t : Nat) (x : Operand) (lo hi mx : Option Operand) {e n : Nat} (hd : P.underlying t = some (.slice e)) (hn : sizeT P e = some n) (h0 : 0 < n) (hmx : mx.isSome = true → hi.isSome = true)
    (ho : o.op = .slice t x lo hi mx) {vs : List V} (hvs : VRL ρ vs (o.op.operands.toList.map a.eval)) (hm : MR ρ m w) : Done P o a ρ m w (evK W call m (.slSlice n lo.isSome hi.isSome mx.isSome) vs) := by
  have hop : o.op.operands.toList = x :: (lo.toArray ++ hi.toArray ++ mx.toArray).toList := by rw [ho]; simp [Go.Op.operands]
  rw [hop, List.map_cons] at hvs
  obtain ⟨v, r, rfl, hv, hr⟩ := hvs.cons_inv
  simp only [evK]
  cases hb : bnds lo.isSome hi.isSome mx.isSome r with
  | none => simp [Done]
  | some b =>
    obtain ⟨g1, g2, g3⟩ := bnds_rel hr hb
    simp only
    cases v with
    | snil =>
      simp only [VR] at hv
      simp only
      cases hb3 : bnds3 0 0 b with
      | none => simp [Done]
      | some q =>
        obtain ⟨l, h, c⟩ := q
        obtain ⟨k1, k2, k3, k4, k5⟩ := run_bounds (P := P) (w := w) (isSlice := true) (Nat.le_refl 0) g1 g2 g3 hmx (Nat.le_refl _) hb3
        have hl : l = 0 := by omega
        have hh : h = 0 := by omega
        have hc : (if mx.isSome = true then c else 0) = 0 := by split <;> omega
        rw [hc, hl, hh] at k1
        refine Done.value (x := .slice none 0 0) ?_ (by simp [VR]) hm
        simp only [Go.execOp, ho, hv, Go.Instr.sliceAt, Go.Instr.slice, Sem.run_bind, Go.run_underlying hd, Result.andThen_ok, k1, run_sizeOf' hn]
        simp
    | sl b0 off len cap es ex =>
      simp only [VR] at hv
      obtain ⟨L, c', p, h1, h2, hp, hlc, hcc, he1, he2⟩ := hv
      simp only
      split
      · rename_i hes
        subst hes
        cases hb3 : bnds3 len cap b with
        | none => simp [Done]
        | some q =>
          obtain ⟨l, h, c⟩ := q
          obtain ⟨k1, k2, k3, k4, k5⟩ := run_bounds (P := P) (w := w) (isSlice := true) hcc g1 g2 g3 hmx hlc hb3
          simp only
          generalize hmm : (if mx.isSome = true then c else c') = mm at k1
          have hmle : c ≤ mm := by rw [← hmm]; split <;> omega
          have hmle' : mm ≤ c' := by rw [← hmm]; split <;> omega
          refine Done.value (x := .slice (if mm = l then some p else (some p).map (·.add (l * n))) (h - l) (mm - l)) ?_ ?_ hm
          · simp only [Go.execOp, ho, h2, Go.Instr.sliceAt, Go.Instr.slice, Sem.run_bind, Go.run_underlying hd, Result.andThen_ok, k1, run_sizeOf' hn]
            simp
          · simp only [VR]
            refine ⟨L, mm - l, if mm = l then p else p.add (l * n), h1, ?_, ?_, by omega, by omega, ?_, ?_⟩
            · by_cases e : mm = l <;> simp [e]
            · intro hne
              have e : ¬ mm = l := by omega
              rw [if_neg e, hp (by omega), addr_add, Nat.add_assoc]
            · intro hx
              rw [← hmm]
              cases hmx' : mx.isSome
              · rw [hmx'] at hx
                have hex : ex = true := by simpa using hx
                have := he1 hex
                have := k5 hmx'
                simp
                omega
              · simp
            · intro hx
              simp only [Bool.or_eq_false_iff] at hx
              have h3 := he2 hx.1
              have h4 := k5 hx.2
              rw [hx.2] at hmm
              simp only [Bool.false_eq_true, if_false] at hmm
              subst hmm
              have h5 : l ≤ c' := by omega
              rw [← h3, Nat.sub_mul]
              have h6 : l * n ≤ c' * n := Nat.mul_le_mul_right n h5
              omega
      · simp [Done]
    | _ => simp [Done]

theorem done_slArr (t : Nat) (x : Operand) (lo hi : Option Operand) {e len n : Nat} (hd : P.underlying t = some (.array len e)) (hn : sizeT P e = some n) (h0 : 0 < n)
    (ho : o.op = .slice t x lo hi none) {vs : List V} (hvs : VRL ρ vs (o.op.operands.toList.map a.eval)) (hm : MR ρ m w) : Done P o a ρ m w (evK W call m (.slArr n len lo.isSome hi.isSome) vs) := by
  have hop : o.op.operands.toList = x :: (lo.toArray ++ hi.toArray ++ (none : Option Operand).toArray).toList := by rw [ho]; simp [Go.Op.operands]
  rw [hop, List.map_cons] at hvs
  obtain ⟨v, r, rfl, hv, hr⟩ := hvs.cons_inv
  cases v with
  | ptr b0 off =>
    simp only [VR] at hv
    obtain ⟨L, h1, h2⟩ := hv
    simp only [evK]
    cases hb : bnds lo.isSome hi.isSome false r with
    | none => simp [Done]
    | some b =>
      obtain ⟨g1, g2, g3⟩ := bnds_rel hr hb
      simp only
      cases hb3 : bnds3 len len b with
      | none => simp [Done]
      | some q =>
        obtain ⟨l, h, c⟩ := q
        obtain ⟨k1, k2, k3, k4, k5⟩ := run_bounds (P := P) (w := w) (isSlice := false) (Nat.le_refl len) g1 g2 g3 (by simp) (Nat.le_refl _) hb3
        simp only [Option.isSome_none, Bool.false_eq_true, if_false] at k1
        simp only
        cases hg : m.get b0 with
        | none => simp [Done]
        | some blk =>
          cases blk with
          | cells cs own ty =>
            simp only
            split
            · refine Done.value (x := .slice (some (if len = l then ⟨L.blk, L.base + off, none⟩ else (⟨L.blk, L.base + off, none⟩ : Addr).add (l * n))) (h - l) (len - l)) ?_ ?_ hm
              · simp only [Go.execOp, ho, h2, Go.Instr.sliceAt, Sem.run_bind, Go.run_underlying hd, Result.andThen_ok, Go.Instr.sureAddr, Sem.run_pure, k1, run_sizeOf' hn]
              · simp only [VR]
                refine ⟨L, len - l, _, h1, rfl, ?_, by omega, by omega, fun _ => rfl, by simp⟩
                intro hne
                have e : ¬ len = l := by omega
                rw [if_neg e, addr_add, Nat.add_assoc]
            · simp [Done]
          | _ => simp [Done]
  | _ => simp [evK, Done]

theorem KR.length : ∀ {es : List (V × V)} {l : List Go.MapEntry}, KR ρ es l → l.length = es.length
  | [], _, h => by simp only [KR] at h; simp [h]
  | (k, v) :: r, _, h => by
    simp only [KR] at h
    obtain ⟨e, r', h1, _, _, h3⟩ := h
    simp [h1, KR.length h3]

theorem MR.map2 (hm : MR ρ m w) {b : Nat} {L : Loc} {es : List (V × V)} (hb : ρ b = some L) (hg : m.get b = some (.map es)) :
    ∃ (ents : Array Go.MapEntry) (clock : Nat), w.heap[L.blk]? = some (.map ents clock) ∧ KR ρ es ents.toList ∧ Stamps ents.toList clock := by
  have := hm.blk b L hb _ hg
  simpa only [BR] using this

theorem MR.map (hm : MR ρ m w) {b : Nat} {L : Loc} {es : List (V × V)} (hb : ρ b = some L) (hg : m.get b = some (.map es)) :
    ∃ (ents : Array Go.MapEntry) (clock : Nat), w.heap[L.blk]? = some (.map ents clock) ∧ KR ρ es ents.toList :=
  let ⟨e, c, h1, h2, _⟩ := hm.map2 hb hg
  ⟨e, c, h1, h2⟩

theorem run_getObj_map {r : Nat} {ents : Array Go.MapEntry} {clock : Nat} (h : w.heap[r]? = some (.map ents clock)) : (Go.getObj r).run P w = .ok (.map ents clock) w := by
  simp [Go.getObj, Sem.run, h]

theorem VRL.nil_v {l : List Value} (h : VRL ρ [] l) : l = [] := by simpa only [VRL] using h
theorem VRL.cons_v {v : V} {r : List V} {l : List Value} (h : VRL ρ (v :: r) l) : ∃ x k, l = x :: k ∧ VR ρ v x ∧ VRL ρ r k := by simpa only [VRL] using h
theorem VRL.one_v {v : V} {l : List Value} (h : VRL ρ [v] l) : ∃ x, l = [x] ∧ VR ρ v x := by
  obtain ⟨x, k, h1, h2, h3⟩ := h.cons_v
  have := h3.nil_v
  subst this
  exact ⟨x, h1, h2⟩
theorem VRL.two_v {v u : V} {l : List Value} (h : VRL ρ [v, u] l) : ∃ x y, l = [x, y] ∧ VR ρ v x ∧ VR ρ u y := by
  obtain ⟨x, k, h1, h2, h3⟩ := h.cons_v
  obtain ⟨y, h4, h5⟩ := h3.one_v
  subst h4
  exact ⟨x, y, h1, h2, h5⟩

theorem run_builtin {c : Go.Call} {b : Go.Builtin} (ho : o.op = .call c) (hb : c.callee = .builtin b) :
    ∃ cs, (Go.execOp a.eval o).run P w = (Go.builtin b c.argTypes o.type cs (c.args.map a.eval)).run P w := by
  refine ⟨c.args.map fun | .const _ => true | _ => false, ?_⟩
  simp only [Go.execOp, ho, Go.resolve, hb, Sem.run_bind, Sem.run_pure, Result.andThen_ok, Go.invoke]
  rfl

theorem builtin_operands {c : Go.Call} {b : Go.Builtin} (ho : o.op = .call c) (hb : c.callee = .builtin b) : o.op.operands.toList.map a.eval = (c.args.map a.eval).toList := by
  rw [ho]
  simp [Go.Op.operands, Go.Call.operands, hb]

theorem arr_one {α : Type} {l : Array α} {x : α} (h : l.toList = [x]) : l = #[x] := by cases l; simp at h; simp [h]
theorem arr_two {α : Type} {l : Array α} {x y : α} (h : l.toList = [x, y]) : l = #[x, y] := by cases l; simp at h; simp [h]

theorem done_lenS {c : Go.Call} {t : Nat} (hd : P.underlying t = some .string) (ho : o.op = .call c) (hb : c.callee = .builtin .len) (ht : c.argTypes.toList = [t]) {vs : List V}
    (hvs : VRL ρ vs (o.op.operands.toList.map a.eval)) (hm : MR ρ m w) : Done P o a ρ m w (evK W call m .lenS vs) := by
  rw [builtin_operands ho hb] at hvs
  rcases vs with _ | ⟨v, _ | ⟨u, r⟩⟩
  · simp [evK, Done]
  · cases v with
    | str s =>
      obtain ⟨x, h1, hv⟩ := hvs.one_v
      obtain ⟨bs, h2, h3⟩ := vr_str hv
      simp only [evK]
      refine Done.value (x := .int .i64 s.length) ?_ (by simp [VR]) hm
      obtain ⟨cs, hrun⟩ := run_builtin (P := P) (a := a) (w := w) ho hb
      rw [hrun, arr_one h1, arr_one ht]
      simp [Go.builtin, Go.Builtin.len_, Go.run_underlying hd, h2, Go.goInt, str_len h3]
    | _ => simp [evK, Done]
  · simp [evK, Done]

theorem done_lenL {c : Go.Call} {t e : Nat} (hd : P.underlying t = some (.slice e)) (ho : o.op = .call c) (hb : c.callee = .builtin .len) (ht : c.argTypes.toList = [t]) {vs : List V}
    (hvs : VRL ρ vs (o.op.operands.toList.map a.eval)) (hm : MR ρ m w) : Done P o a ρ m w (evK W call m .lenL vs) := by
  rw [builtin_operands ho hb] at hvs
  rcases vs with _ | ⟨v, _ | ⟨u, r⟩⟩
  · simp [evK, Done]
  · obtain ⟨x, h1, hv⟩ := hvs.one_v
    cases v with
    | snil =>
      simp only [VR] at hv
      simp only [evK]
      refine Done.value (x := .int .i64 0) ?_ (by simp [VR]) hm
      obtain ⟨cs, hrun⟩ := run_builtin (P := P) (a := a) (w := w) ho hb
      rw [hrun, arr_one h1, arr_one ht]
      simp [Go.builtin, Go.Builtin.len_, Go.run_underlying hd, hv, Go.goInt]
    | sl b off len cap es ex =>
      simp only [VR] at hv
      obtain ⟨L, c', p, h2, h3, _⟩ := hv
      simp only [evK]
      refine Done.value (x := .int .i64 len) ?_ (by simp [VR]) hm
      obtain ⟨cs, hrun⟩ := run_builtin (P := P) (a := a) (w := w) ho hb
      rw [hrun, arr_one h1, arr_one ht]
      simp [Go.builtin, Go.Builtin.len_, Go.run_underlying hd, h3, Go.goInt]
    | _ => simp [evK, Done]
  · simp [evK, Done]

theorem done_lenM {c : Go.Call} {t k e : Nat} (hd : P.underlying t = some (.map k e)) (ho : o.op = .call c) (hb : c.callee = .builtin .len) (ht : c.argTypes.toList = [t]) {vs : List V}
    (hvs : VRL ρ vs (o.op.operands.toList.map a.eval)) (hm : MR ρ m w) : Done P o a ρ m w (evK W call m .lenM vs) := by
  rw [builtin_operands ho hb] at hvs
  rcases vs with _ | ⟨v, _ | ⟨u, r⟩⟩
  · simp [evK, Done]
  · obtain ⟨x, h1, hv⟩ := hvs.one_v
    cases v with
    | mnil =>
      simp only [VR] at hv
      simp only [evK]
      refine Done.value (x := .int .i64 0) ?_ (by simp [VR]) hm
      obtain ⟨cs, hrun⟩ := run_builtin (P := P) (a := a) (w := w) ho hb
      rw [hrun, arr_one h1, arr_one ht]
      simp [Go.builtin, Go.Builtin.len_, Go.run_underlying hd, hv, Go.goInt]
    | map b =>
      simp only [VR] at hv
      obtain ⟨L, h2, h3⟩ := hv
      simp only [evK]
      cases hg : m.get b with
      | none => simp [Done]
      | some blk =>
        cases blk with
        | map es =>
          obtain ⟨ents, clock, g1, g2⟩ := hm.map h2 hg
          have := g2.length
          simp only
          refine Done.value (x := .int .i64 es.length) ?_ (by simp [VR]) hm
          obtain ⟨cs, hrun⟩ := run_builtin (P := P) (a := a) (w := w) ho hb
          rw [hrun, arr_one h1, arr_one ht]
          simp only [Array.length_toList] at this
          simp [Go.builtin, Go.Builtin.len_, Go.run_underlying hd, h3, Go.goInt, run_getObj_map g1, this]
        | _ => simp [Done]
    | _ => simp [evK, Done]
  · simp [evK, Done]

theorem done_cap {c : Go.Call} {t e : Nat} (hd : P.underlying t = some (.slice e)) (ho : o.op = .call c) (hb : c.callee = .builtin .cap) (ht : c.argTypes.toList = [t]) {vs : List V}
    (hvs : VRL ρ vs (o.op.operands.toList.map a.eval)) (hm : MR ρ m w) : Done P o a ρ m w (evK W call m .cap vs) := by
  rw [builtin_operands ho hb] at hvs
  rcases vs with _ | ⟨v, _ | ⟨u, r⟩⟩
  · simp [evK, Done]
  · obtain ⟨x, h1, hv⟩ := hvs.one_v
    cases v with
    | snil =>
      simp only [VR] at hv
      simp only [evK]
      refine Done.value (x := .int .i64 0) ?_ (by simp [VR]) hm
      obtain ⟨cs, hrun⟩ := run_builtin (P := P) (a := a) (w := w) ho hb
      rw [hrun, arr_one h1, arr_one ht]
      simp [Go.builtin, Go.Builtin.cap_, Go.run_underlying hd, hv, Go.goInt]
    | sl b off len cap es ex =>
      simp only [VR] at hv
      obtain ⟨L, c', p, h2, h3, _, _, _, h4, _⟩ := hv
      cases ex
      · simp [evK, Done]
      · simp only [evK]
        refine Done.value (x := .int .i64 cap) ?_ (by simp [VR]) hm
        obtain ⟨cs, hrun⟩ := run_builtin (P := P) (a := a) (w := w) ho hb
        rw [hrun, arr_one h1, arr_one ht]
        simp [Go.builtin, Go.Builtin.cap_, Go.run_underlying hd, h3, Go.goInt, h4 rfl]
    | _ => simp [evK, Done]
  · simp [evK, Done]

theorem minV_sound : ∀ (xs : List V) (x : V) {v : V} (h : minV x xs = some v) {l : List Value} {y : Value} (hx : VR ρ x y) (hl : VRL ρ xs l), ∃ z, (l.foldlM Go.Builtin.min2 y).run P w = .ok z w ∧ VR ρ v z
  | [], x, v, h, l, y, hx, hl => by
    have := hl.nil_v
    subst this
    simp [minV] at h
    subst h
    exact ⟨y, rfl, hx⟩
  | u :: r, x, v, h, l, y, hx, hl => by
    obtain ⟨z, k, rfl, h2, h3⟩ := hl.cons_v
    cases x <;> cases u <;> simp only [minV, reduceCtorEq] at h
    rename_i k1 n1 k2 n2
    have e1 := vr_int hx
    have e2 := vr_int h2
    subst e1 e2
    have := minV_sound r (.int k1 (if n2 < n1 then n2 else n1)) h (y := .int k1 (if n2 < n1 then n2 else n1)) (by simp [VR]) h3
    simpa [List.foldlM_cons, Go.Builtin.min2] using this

theorem maxV_sound : ∀ (xs : List V) (x : V) {v : V} (h : maxV x xs = some v) {l : List Value} {y : Value} (hx : VR ρ x y) (hl : VRL ρ xs l), ∃ z, (l.foldlM Go.Builtin.max2 y).run P w = .ok z w ∧ VR ρ v z
  | [], x, v, h, l, y, hx, hl => by
    have := hl.nil_v
    subst this
    simp [maxV] at h
    subst h
    exact ⟨y, rfl, hx⟩
  | u :: r, x, v, h, l, y, hx, hl => by
    obtain ⟨z, k, rfl, h2, h3⟩ := hl.cons_v
    cases x <;> cases u <;> simp only [maxV, reduceCtorEq] at h
    rename_i k1 n1 k2 n2
    have e1 := vr_int hx
    have e2 := vr_int h2
    subst e1 e2
    have := maxV_sound r (.int k1 (if n2 > n1 then n2 else n1)) h (y := .int k1 (if n2 > n1 then n2 else n1)) (by simp [VR]) h3
    simpa [List.foldlM_cons, Go.Builtin.max2] using this

theorem done_min {c : Go.Call} (ho : o.op = .call c) (hb : c.callee = .builtin .min) {vs : List V} (hvs : VRL ρ vs (o.op.operands.toList.map a.eval)) (hm : MR ρ m w) :
    Done P o a ρ m w (evK W call m .min vs) := by
  rw [builtin_operands ho hb] at hvs
  cases vs with
  | nil => simp [evK, Done]
  | cons x xs =>
    obtain ⟨y, l, h1, h2, h3⟩ := hvs.cons_v
    simp only [evK]
    refine Done.opt fun v hv => ?_
    obtain ⟨z, k1, k2⟩ := minV_sound (P := P) (w := w) xs x hv h2 h3
    refine Done.value (x := z) ?_ k2 hm
    obtain ⟨cs, hrun⟩ := run_builtin (P := P) (a := a) (w := w) ho hb
    rw [hrun]
    simp only [Go.builtin, Go.Builtin.min_, h1, Sem.run_bind, k1, Result.andThen_ok, Sem.run_pure]

theorem done_max {c : Go.Call} (ho : o.op = .call c) (hb : c.callee = .builtin .max) {vs : List V} (hvs : VRL ρ vs (o.op.operands.toList.map a.eval)) (hm : MR ρ m w) :
    Done P o a ρ m w (evK W call m .max vs) := by
  rw [builtin_operands ho hb] at hvs
  cases vs with
  | nil => simp [evK, Done]
  | cons x xs =>
    obtain ⟨y, l, h1, h2, h3⟩ := hvs.cons_v
    simp only [evK]
    refine Done.opt fun v hv => ?_
    obtain ⟨z, k1, k2⟩ := maxV_sound (P := P) (w := w) xs x hv h2 h3
    refine Done.value (x := z) ?_ k2 hm
    obtain ⟨cs, hrun⟩ := run_builtin (P := P) (a := a) (w := w) ho hb
    rw [hrun]
    simp only [Go.builtin, Go.Builtin.max_, h1, Sem.run_bind, k1, Result.andThen_ok, Sem.run_pure]
end
end Mu
