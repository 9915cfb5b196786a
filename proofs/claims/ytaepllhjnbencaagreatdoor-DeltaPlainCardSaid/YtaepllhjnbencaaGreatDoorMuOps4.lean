/- Each operation of the small code does what the model's does: memory. -/
import Derived.Test.YtaepllhjnbencaaGreatDoorMuOps3
set_option linter.unusedVariables false
set_option linter.unusedSimpArgs false
namespace Mu
open Go (Value World Addr Program IntKind Sem Result Obj TypeDesc TypeInfo Operand Oper)

section
variable {P : Program} {names : List String} {o : Oper} {a : Go.Act} {ρ : Rho} {m : M} {w : World} (W : Prg) (call : Nat → List V → M → R)

theorem VR.one {v : V} {x : Value} (h : Mu.one v = true) (hv : VR ρ v x) : x.oneCell' = true := by
  cases v <;> simp only [Mu.one, Bool.false_eq_true] at h <;> simp only [VR] at hv
  case bool => subst hv; rfl
  case int => subst hv; rfl
  case str => obtain ⟨_, rfl, _⟩ := hv; rfl
  case pnil => subst hv; rfl
  case ptr => obtain ⟨_, _, rfl⟩ := hv; rfl
  case snil => subst hv; rfl
  case sl => obtain ⟨_, _, _, _, rfl, _⟩ := hv; rfl
  case mnil => subst hv; rfl
  case map => obtain ⟨_, _, rfl⟩ := hv; rfl
  case fn => obtain ⟨_, _, rfl, _⟩ := hv; rfl
  case fnil => subst hv; rfl
  case iface => obtain ⟨_, rfl, _⟩ := hv; rfl
  case inil => subst hv; rfl

theorem cells_one {x : Value} (h : x.oneCell' = true) : x.cells = #[x] := by cases x <;> simp [Value.oneCell'] at h <;> rfl

theorem cells_sound {v : V} {x : Value} {l : List V} (h : cellsOf v = some l) (hv : VR ρ v x) : VRC ρ l x.cells.toList := by
  by_cases ho : Mu.one v = true
  · have h1 := VR.one ho hv
    have h2 : l = [v] := by cases v <;> simp [Mu.one] at ho <;> simp [cellsOf] at h <;> exact h.symm
    rw [h2, cells_one h1]
    simp only [VRC]
    exact ⟨x, [], rfl, hv, h1, rfl⟩
  · cases v <;> simp [Mu.one] at ho <;> simp [cellsOf] at h
    subst h
    simp only [VR] at hv
    obtain ⟨cs', rfl, h2⟩ := hv
    exact h2

/-- a new row of cells on both sides -/
theorem MR.row (hm : MR ρ m w) {cs : List V} {cs' : Array Value} (hc : VRC ρ cs cs'.toList) (t : Nat) :
    Good ρ m w (ρ.ext m.n ⟨w.heap.size, 0, cs'.size⟩) (m.new (.cells cs .rw t)) { w with heap := w.heap.push (.cells cs' t) } := by
  refine hm.alloc _ _ _ ?_
  simp only [BR]
  have hl := hc.length
  simp only [Array.length_toList] at hl
  refine ⟨cs', t, (0, 0), by simp, by simp [hl], fun i x hx => ?_, fun _ => ⟨rfl, rfl, trivial⟩, fun _ => rfl, fun h => by cases h⟩
  obtain ⟨x', k1, k2, k3⟩ := hc.get i x hx
  exact ⟨x', by simpa using k1, k2.mono (Sub.ext _ hm.fresh), k3⟩

theorem vr_new (b : Nat) (L : Loc) (hL : L.base = 0) : VR (ρ.ext b L) (.ptr b 0) (.pointer (some ⟨L.blk, 0, none⟩)) := by
  simp only [VR]
  exact ⟨L, Rho.ext_same _ _ _, by rw [hL]⟩

theorem zeroT_inv {t : Nat} {cs : List V} (h : zeroT P t = some cs) : ∃ z, (∀ w : World, (Go.zeroValue t).run P w = .ok z w) ∧ ∀ ρ, VRC ρ cs z.cells.toList := by
  unfold zeroT at h
  cases hi : P.info? t with
  | none => simp [hi] at h
  | some i =>
    simp only [hi, Option.bind_some] at h
    cases hz : i.zero with
    | none => simp [hz] at h
    | some z =>
      simp only [hz, Option.bind_some] at h
      exact ⟨z, fun w => by simp [Go.zeroValue, Go.typeInfo, hi, hz], fun ρ => trL_sound h⟩

theorem done_alloc (t : Nat) {cs : List V} (hz : zeroT P t = some cs) (ho : o.op = .alloc t) {vs : List V} (hvs : VRL ρ vs (o.op.operands.toList.map a.eval)) (hm : MR ρ m w) :
    Done P o a ρ m w (evK W call m (.alloc t cs) vs) := by
  have hop : o.op.operands = #[] := by rw [ho]; rfl
  rw [hop] at hvs
  have := hvs.nil_inv
  subst this
  obtain ⟨z, h1, h2⟩ := zeroT_inv hz
  simp only [evK]
  have hg := hm.row (h2 ρ) t
  refine ⟨.pointer (some ⟨w.heap.size, 0, none⟩), _, _, .inl ?_, vr_new _ _ rfl, hg⟩
  simp [Go.execOp, ho, Go.Instr.alloc, h1, Go.newVar, Go.newRow]

theorem done_box (t n : Nat) (x : Operand) (ho : o.op = .box t x) {vs : List V} (hvs : VRL ρ vs (o.op.operands.toList.map a.eval)) (hm : MR ρ m w) :
    Done P o a ρ m w (evK W call m (.box t n) vs) := by
  have hop : o.op.operands = #[x] := by rw [ho]; rfl
  rw [hop] at hvs
  obtain ⟨v, rfl, hv⟩ := hvs.one_inv
  simp only [evK]
  cases hc : cellsOf v with
  | none => simp [Done]
  | some l =>
    simp only
    split
    · have hg := hm.row (cells_sound hc hv) t
      refine ⟨.pointer (some ⟨w.heap.size, 0, none⟩), _, _, .inl ?_, vr_new _ _ rfl, hg⟩
      simp [Go.execOp, ho, Go.Instr.box, Go.newVar, Go.newRow]
    · simp [Done]

/-! build -/
theorem foldl_set (off : Nat) : ∀ (l : List Value) (k : Nat) (cs : Array Value) (j : Nat), (List.foldl (fun cs (p : Value × Nat) => cs.setIfInBounds (off + p.2) p.1) cs (l.zipIdx k)).size = cs.size ∧
    (List.foldl (fun cs (p : Value × Nat) => cs.setIfInBounds (off + p.2) p.1) cs (l.zipIdx k))[j]? = (if off + k ≤ j ∧ j < off + k + l.length ∧ j < cs.size then l[j - (off + k)]? else cs[j]?)
  | [], k, cs, j => by
    simp
    intro h1 h2 h3
    omega
  | x :: r, k, cs, j => by
    simp only [List.zipIdx_cons, List.foldl_cons]
    obtain ⟨h1, h2⟩ := foldl_set off r (k + 1) (cs.setIfInBounds (off + k) x) j
    refine ⟨by rw [h1]; simp, ?_⟩
    rw [h2]
    simp only [Array.size_setIfInBounds, List.length_cons]
    by_cases hj : j = off + k
    · subst hj
      rw [if_neg (by omega)]
      by_cases hs : off + k < cs.size
      · rw [if_pos ⟨by omega, by omega, hs⟩, Array.getElem?_setIfInBounds_self_of_lt hs]
        simp
      · rw [if_neg (by omega), Array.getElem?_eq_none (by simp; omega), Array.getElem?_eq_none (by omega)]
    · rw [Array.getElem?_setIfInBounds_ne (by omega)]
      by_cases hr : off + (k + 1) ≤ j ∧ j < off + (k + 1) + r.length ∧ j < cs.size
      · rw [if_pos hr, if_pos (by omega), show j - (off + k) = (j - (off + (k + 1))) + 1 by omega]
        simp
      · rw [if_neg hr, if_neg (by omega)]

theorem set_splice {l cs : List V} {l' : List Value} {cs' : Array Value} (hl : VRC ρ l l') (hc : VRC ρ cs cs'.toList) (off : Nat) (hn : off + l.length ≤ cs.length) :
    VRC ρ (splice cs off l) (List.foldl (fun cs (p : Value × Nat) => cs.setIfInBounds (off + p.2) p.1) cs' (l'.zipIdx 0)).toList := by
  have hl1 := hl.length
  have hc1 := hc.length
  simp only [Array.length_toList] at hc1
  refine VRC.of ?_ fun i x hx => ?_
  · rw [Array.length_toList, (foldl_set off l' 0 cs' 0).1, splice_length _ _ _ hn, hc1]
  · rw [splice_get _ _ _ hn] at hx
    rw [Array.getElem?_toList, (foldl_set off l' 0 cs' i).2]
    by_cases hi : off ≤ i ∧ i < off + l.length
    · rw [if_pos hi] at hx
      rw [if_pos (by omega)]
      simpa using hl.get _ _ hx
    · rw [if_neg hi] at hx
      rw [if_neg (by omega)]
      simpa using hc.get _ _ hx

theorem fill_sound (place : Nat → Option (Nat × Nat)) : ∀ (ps : List (Nat × Nat)) (is : List (Nat × Value)) (vs : List V) (cs : List V) (cs' : Array Value) (r : List V),
    fill cs ps vs = some r → VRL ρ vs (is.map (·.2)) → is.length = ps.length → (∀ (j : Nat) (i : Nat × Value) (p : Nat × Nat), is[j]? = some i → ps[j]? = some p → place i.1 = some p) → VRC ρ cs cs'.toList →
    ∃ r', Go.Instr.fill place cs' is = some r' ∧ VRC ρ r r'.toList
  | [], is, vs, cs, cs', r, h, hv, hl, hp, hc => by
    have : is = [] := List.eq_nil_of_length_eq_zero (by simpa using hl)
    subst this
    simp [fill] at h
    subst h
    exact ⟨cs', rfl, hc⟩
  | (off, n) :: ps, is, vs, cs, cs', r, h, hv, hl, hp, hc => by
    cases is with
    | nil => simp at hl
    | cons i is =>
      cases vs with
      | nil => simp [fill] at h
      | cons v vs =>
        obtain ⟨i1, x⟩ := i
        simp only [List.map_cons] at hv
        obtain ⟨x', k, e1, e2, e3⟩ := hv.cons_v
        injection e1 with e1 e4
        subst e1 e4
        simp only [fill] at h
        cases hcv : cellsOf v with
        | none => simp [hcv] at h
        | some l =>
          simp only [hcv] at h
          split at h
          · rename_i hn
            have hl' := cells_sound hcv e2
            have hl1 := hl'.length
            simp only [Array.length_toList] at hl1
            have hc1 := hc.length
            simp only [Array.length_toList] at hc1
            have hpl := hp 0 (i1, x) (off, n) rfl rfl
            have hnext : VRC ρ (splice cs off l) (x.cells.zipIdx.foldl (fun cs (p : Value × Nat) => cs.setIfInBounds (off + p.2) p.1) cs').toList := by
              rw [← Array.foldl_toList, Array.toList_zipIdx]
              exact set_splice hl' hc off (by omega)
            obtain ⟨r', g1, g2⟩ := fill_sound place ps is vs (splice cs off l) _ r h e3 (by simpa using hl) (fun j i p h1 h2 => hp (j + 1) i p (by simpa using h1) (by simpa using h2)) hnext
            refine ⟨r', ?_, g2⟩
            simp only [Go.Instr.fill]
            rw [hpl]
            simp only
            rw [if_neg (by simp; omega)]
            exact g1
          · cases h

theorem partsT_length : ∀ {fs : List Go.Field} {ps : List (Nat × Operand)} {l : List (Nat × Nat)}, partsT P fs ps = some l → l.length = ps.length ∧
    (∀ (j : Nat) (i : Nat × Operand) (p : Nat × Nat), ps[j]? = some i → l[j]? = some p → ∃ f, fs[i.1]? = some f ∧ p.1 = f.offset ∧ sizeT P f.type = some p.2)
  | fs, [], l, h => by simp [partsT] at h; subst h; simp
  | fs, (i, x) :: r, l, h => by
    simp only [partsT] at h
    cases h1 : fs[i]? with
    | none => simp [h1] at h
    | some f =>
      cases h2 : partsT P fs r with
      | none => simp [h1, h2] at h
      | some k =>
        simp only [h1, h2, Option.map_eq_some_iff] at h
        obtain ⟨n, h3, h4⟩ := h
        subst h4
        obtain ⟨g1, g2⟩ := partsT_length h2
        refine ⟨by simp [g1], fun j i' p hj hp => ?_⟩
        cases j with
        | zero =>
          simp at hj hp
          subst hj hp
          exact ⟨f, h1, rfl, h3⟩
        | succ j => exact g2 j i' p (by simpa using hj) (by simpa using hp)

theorem run_places {fs : Array Go.Field} (h : hasFields P fs.toList = true) : ∃ places : Array (Nat × Nat), (fs.mapM fun f => (do pure (f.offset, ← Go.sizeOf f.type) : Sem (Nat × Nat))).run P w = .ok places w ∧
    ∀ (i : Nat) f n, fs[i]? = some f → sizeT P f.type = some n → places[i]? = some (f.offset, n) := by
  obtain ⟨fs⟩ := fs
  have key : ∀ (fs : List Go.Field), hasFields P fs = true → ∃ places : List (Nat × Nat), (fs.mapM fun f => (do pure (f.offset, ← Go.sizeOf f.type) : Sem (Nat × Nat))).run P w = .ok places w ∧
      ∀ (i : Nat) f n, fs[i]? = some f → sizeT P f.type = some n → places[i]? = some (f.offset, n) := by
    intro fs
    induction fs with
    | nil => intro _; exact ⟨[], rfl, by simp⟩
    | cons f fs ih =>
      intro h
      simp only [hasFields, List.all_cons, Bool.and_eq_true] at h
      obtain ⟨n, hn⟩ := Option.isSome_iff_exists.1 h.1
      obtain ⟨places, h1, h2⟩ := ih h.2
      refine ⟨(f.offset, n) :: places, ?_, ?_⟩
      · simp only [List.mapM_cons, Sem.run_bind, run_sizeOf' hn, Result.andThen_ok, Sem.run_pure, h1]
      · intro i g k hg hk
        cases i with
        | zero =>
          simp at hg
          subst hg
          rw [hn] at hk
          injection hk with hk
          simp [hk]
        | succ i => simpa using h2 i g k (by simpa using hg) hk
  obtain ⟨places, h1, h2⟩ := key fs h
  refine ⟨places.toArray, ?_, ?_⟩
  · rw [List.mapM_toArray]
    simp only [Sem.run_map, h1, Result.andThen_ok]
  · intro i f n hf hn
    simpa using h2 i f n (by simpa using hf) hn

theorem done_build_struct (t : Nat) (parts : Array (Nat × Operand)) {fs : Array Go.Field} (hd : P.underlying t = some (.struct fs)) (hf : hasFields P fs.toList = true) {z : List V} (hz : zeroT P t = some z)
    {ps : List (Nat × Nat)} (hp : partsT P fs.toList parts.toList = some ps) (ho : o.op = .build t parts) {vs : List V} (hvs : VRL ρ vs (o.op.operands.toList.map a.eval)) (hm : MR ρ m w) :
    Done P o a ρ m w (evK W call m (.build z ps) vs) := by
  have hop : o.op.operands.toList = parts.toList.map (·.2) := by rw [ho]; simp [Go.Op.operands]
  rw [hop] at hvs
  simp only [evK]
  cases hfl : fill z ps vs with
  | none => simp [Done]
  | some r =>
    obtain ⟨zv, h1, h2⟩ := zeroT_inv hz
    obtain ⟨places, k1, k2⟩ := run_places (P := P) (w := w) hf
    obtain ⟨g1, g2⟩ := partsT_length hp
    obtain ⟨r', e1, e2⟩ := fill_sound (fun i => places[i]?) ps (parts.map fun (i, x) => (i, a.eval x)).toList vs z zv.cells r hfl (by simpa [Function.comp_def] using hvs) (by simpa using g1.symm)
      (fun j i p hi hpj => by
        simp only [Array.toList_map, List.getElem?_map, Option.map_eq_some_iff] at hi
        obtain ⟨q, hq, rfl⟩ := hi
        obtain ⟨f, f1, f2, f3⟩ := g2 j q p hq hpj
        have := k2 q.1 f p.2 (by simpa using f1) f3
        rw [this, ← f2]) (h2 ρ)
    refine Done.value (x := .agg r') ?_ (by simp only [VR]; exact ⟨r', rfl, e2⟩) hm
    simp only [Go.execOp, ho, Go.Instr.build, Sem.run_bind, h1, Result.andThen_ok, Go.run_underlying hd, k1]
    rw [e1]
    rfl

theorem done_build_array (t : Nat) (parts : Array (Nat × Operand)) {len e : Nat} (hd : P.underlying t = some (.array len e)) {n : Nat} (hn : sizeT P e = some n) {z : List V} (hz : zeroT P t = some z)
    (ho : o.op = .build t parts) {vs : List V} (hvs : VRL ρ vs (o.op.operands.toList.map a.eval)) (hm : MR ρ m w) :
    Done P o a ρ m w (evK W call m (.build z (parts.toList.map fun p => (p.1 * n, n))) vs) := by
  have hop : o.op.operands.toList = parts.toList.map (·.2) := by rw [ho]; simp [Go.Op.operands]
  rw [hop] at hvs
  simp only [evK]
  cases hfl : fill z (parts.toList.map fun p => (p.1 * n, n)) vs with
  | none => simp [Done]
  | some r =>
    obtain ⟨zv, h1, h2⟩ := zeroT_inv hz
    obtain ⟨r', e1, e2⟩ := fill_sound (fun i => some (i * n, n)) _ (parts.map fun (i, x) => (i, a.eval x)).toList vs z zv.cells r hfl (by simpa [Function.comp_def] using hvs) (by simp)
      (fun j i p hi hpj => by
        simp only [Array.toList_map, List.getElem?_map, Option.map_eq_some_iff] at hi hpj
        obtain ⟨q, hq, rfl⟩ := hi
        obtain ⟨q', hq', rfl⟩ := hpj
        rw [hq] at hq'
        injection hq' with hq'
        subst hq'
        rfl) (h2 ρ)
    refine Done.value (x := .agg r') ?_ (by simp only [VR]; exact ⟨r', rfl, e2⟩) hm
    simp only [Go.execOp, ho, Go.Instr.build, Sem.run_bind, h1, Result.andThen_ok, Go.run_underlying hd, run_sizeOf' hn]
    rw [e1]
    rfl

theorem rep_length (z : List V) : ∀ n, (rep z n).length = n * z.length
  | 0 => by simp [rep]
  | n + 1 => by simp [rep, rep_length z n, Nat.succ_mul]; omega

theorem rep_get (z : List V) (hz : 0 < z.length) : ∀ (n i : Nat), (rep z n)[i]? = if i < n * z.length then z[i % z.length]? else none
  | 0, i => by simp [rep]
  | n + 1, i => by
    simp only [rep]
    by_cases h : i < z.length
    · rw [List.getElem?_append_left h, Nat.mod_eq_of_lt h, if_pos (by rw [Nat.succ_mul]; omega)]
    · rw [List.getElem?_append_right (by omega), rep_get z hz n]
      by_cases h2 : i - z.length < n * z.length
      · rw [if_pos h2, if_pos (by rw [Nat.succ_mul]; omega)]
        congr 1
        conv => rhs; rw [show i = (i - z.length) + z.length by omega, Nat.add_mod_right]
      · rw [if_neg h2, if_neg (by rw [Nat.succ_mul]; omega)]

theorem rep_sound {z : List V} {z' : Array Value} (hz : VRC ρ z z'.toList) (h0 : 0 < z.length) (n k : Nat) (hk : k = n * z.length) :
    VRC ρ (rep z n) ((Array.range k).map (z'[· % z'.size]!)).toList := by
  have hl := hz.length
  simp only [Array.length_toList] at hl
  subst hk
  refine VRC.of (by simp [rep_length]) fun i x hx => ?_
  rw [rep_get z h0] at hx
  split at hx
  · rename_i hi
    obtain ⟨x', k1, k2, k3⟩ := hz.get _ _ hx
    refine ⟨x', ?_, k2, k3⟩
    have hm : i % z.length < z'.size := by rw [hl]; exact Nat.mod_lt _ h0
    simp only [Array.getElem?_toList] at k1 ⊢
    simp only [Array.getElem?_map, Array.getElem?_range, if_pos hi, Option.map_some]
    rw [hl, getElem!_pos z' _ hm]
    rw [getElem?_pos z' _ hm] at k1
    exact k1
  · cases hx

theorem done_buildSlice (t len : Nat) (parts : Array (Nat × Operand)) {e : Nat} (hd : P.underlying t = some (.slice e)) {n : Nat} (hn : sizeT P e = some n) (h0 : 0 < n) {z : List V} (hz : zeroT P e = some z) (hzl : z.length = n)
    (hlen : len * n ≤ 2 ^ 24) (ho : o.op = .buildSlice t len parts) {vs : List V} (hvs : VRL ρ vs (o.op.operands.toList.map a.eval)) (hm : MR ρ m w) :
    Done P o a ρ m w (evK W call m (.buildSlice e n z len (parts.toList.map fun p => (p.1 * n, n))) vs) := by
  have hop : o.op.operands.toList = parts.toList.map (·.2) := by rw [ho]; simp [Go.Op.operands]
  rw [hop] at hvs
  simp only [evK]
  cases hfl : fill (rep z len) (parts.toList.map fun p => (p.1 * n, n)) vs with
  | none => simp [Done]
  | some r =>
    simp only
    split
    · rename_i hrl
      obtain ⟨zv, h1, h2⟩ := zeroT_inv hz
      have hzc : ∃ zz : Array Value, (len * n = 0 → zz = #[]) ∧ (len * n ≠ 0 → zz = zv.cells) ∧ VRC ρ (rep z len) ((Array.range (len * n)).map (zz[· % zz.size]!)).toList := by
        by_cases hl0 : len * n = 0
        · refine ⟨#[], fun _ => rfl, fun h => absurd hl0 h, ?_⟩
          have : len = 0 := by
            rcases Nat.mul_eq_zero.1 hl0 with h | h
            · exact h
            · omega
          subst this
          simp [rep, VRC]
        · exact ⟨zv.cells, fun h => absurd h hl0, fun _ => rfl, rep_sound (h2 ρ) (by omega) len (len * n) (by rw [hzl])⟩
      obtain ⟨zz, f1, f3, f2⟩ := hzc
      obtain ⟨r', e1, e2⟩ := fill_sound (fun i => some (i * n, n)) _ (parts.map fun (i, x) => (i, a.eval x)).toList vs (rep z len) _ r hfl (by simpa [Function.comp_def] using hvs) (by simp)
        (fun j i p hi hpj => by
          simp only [Array.toList_map, List.getElem?_map, Option.map_eq_some_iff] at hi hpj
          obtain ⟨q, hq, rfl⟩ := hi
          obtain ⟨q', hq', rfl⟩ := hpj
          rw [hq] at hq'
          injection hq' with hq'
          subst hq'
          rfl) f2
      have hg := hm.row e2 e
      have hr' := e2.length
      simp only [Array.length_toList] at hr'
      refine ⟨.slice (some ⟨w.heap.size, 0, none⟩) len len, _, _, .inl ?_, ?_, hg⟩
      · have hbig : ¬ (len * n > 2 ^ 24) := by omega
        simp only [Go.execOp, ho, Go.Instr.buildSlice, Sem.run_bind, Go.run_underlying hd, Result.andThen_ok, run_sizeOf' hn]
        rw [if_neg hbig]
        by_cases hl0 : len * n = 0
        · have hz0 := f1 hl0
          subst hz0
          simp only [if_pos hl0, Sem.run_bind, Sem.run_pure, Result.andThen_ok]
          rw [e1]
          simp [Go.newRow]
        · have hz0 := f3 hl0
          subst hz0
          simp only [if_neg hl0, Sem.run_bind, Sem.run_pure, Result.andThen_ok, h1]
          rw [e1]
          simp [Go.newRow]
      · simp only [VR]
        exact ⟨_, len, _, Rho.ext_same _ _ _, rfl, fun _ => rfl, Nat.le_refl _, Nat.le_refl _, fun _ => rfl, by simp⟩
    · simp [Done]

/-! loads and stores -/
theorem done_load (t : Nat) (x : Operand) {g : Bool} (hgt : isAggT P t = some g) {n : Nat} (hn : sizeT P t = some n) (ho : o.op = .load t x) {vs : List V} (hvs : VRL ρ vs (o.op.operands.toList.map a.eval)) (hm : MR ρ m w) :
    Done P o a ρ m w (evK W call m (.load g n) vs) := by
  have hop : o.op.operands = #[x] := by rw [ho]; rfl
  rw [hop] at hvs
  obtain ⟨v, rfl, hv⟩ := hvs.one_inv
  cases v with
  | ptr b off =>
    simp only [VR] at hv
    obtain ⟨L, h1, h2⟩ := hv
    simp only [evK, loadAt]
    cases hg : m.get b with
    | none => simp [Done]
    | some blk =>
      cases blk with
      | cells cs own ty =>
        simp only
        refine Done.opt fun v hv => ?_
        unfold partV at hv
        cases g
        · simp only [cond_false] at hv
          obtain ⟨y, k1, k2, k3⟩ := hm.cell h1 hg hv
          exact Done.value (x := y) (by simp [Go.execOp, ho, h2, Go.Instr.loadAt, Go.Instr.sureAddr, Go.loadVar, run_isAgg' hgt, k1]) k2 hm
        · simp only [cond_true] at hv
          split at hv
          · rename_i hle
            injection hv with hv
            subst hv
            obtain ⟨l', k1, k2, k3⟩ := hm.load (P := P) h1 hg hle
            refine Done.value (x := .agg l'.toArray) ?_ (by simp only [VR]; exact ⟨_, rfl, by simpa using k2⟩) hm
            simp [Go.execOp, ho, h2, Go.Instr.loadAt, Go.Instr.sureAddr, Go.loadVar, run_isAgg' hgt, run_sizeOf' hn, k1 w rfl]
          · cases hv
      | _ => simp [Done]
  | _ => simp [evK, Done]

theorem done_store (t : Nat) (x y : Operand) {n : Nat} (hn : sizeT P t = some n) (ho : o.op = .store t x y) {vs : List V} (hvs : VRL ρ vs (o.op.operands.toList.map a.eval)) (hm : MR ρ m w) :
    Done P o a ρ m w (evK W call m (.store n) vs) := by
  have hop : o.op.operands = #[x, y] := by rw [ho]; rfl
  rw [hop] at hvs
  obtain ⟨v, u, rfl, hv, hu⟩ := hvs.two_inv
  cases v with
  | ptr b off =>
    simp only [VR] at hv
    obtain ⟨L, h1, h2⟩ := hv
    simp only [evK, storeAt]
    cases hg : m.get b with
    | none => simp [Done]
    | some blk =>
      cases blk with
      | cells cs own ty =>
        cases hc : cellsOf u with
        | none => simp [Done]
        | some l =>
          simp only
          split
          · rename_i hcond
            obtain ⟨c1, c2, c3⟩ := hcond
            have hl := cells_sound hc hu
            have hll := hl.length
            simp only [Array.length_toList] at hll
            obtain ⟨w', k1, k2⟩ := hm.store (P := P) (o := off) (l := l) (l' := (a.eval y).cells.toList) h1 hg (by rintro rfl; simp [canWrite] at c1) hl (by omega)
            refine ⟨Go.undef, w', ρ, .inr ⟨?_, rfl⟩, by simp [VR, VRL, Go.undef], k2⟩
            have hsz : ¬ ((a.eval y).cells.size ≠ n) := by omega
            simp only [Go.execOp, ho, h2, Go.Instr.storeAt, Go.Instr.sureAddr, Go.storeVar, Sem.run_bind, run_sizeOf' hn, Result.andThen_ok, Sem.run_pure]
            rw [if_neg hsz]
            rw [k1]
            rfl
          · simp [Done]
      | _ => simp [Done]
  | _ => simp [evK, Done]

theorem done_convStrBytes (s d : Nat) {e : Nat} (hs : P.underlying s = some .string) (hd : P.underlying d = some (.slice e)) (he : P.underlying e = some (.int .u8)) (x : Operand) (ho : o.op = .convert s d x) {vs : List V}
    (hvs : VRL ρ vs (o.op.operands.toList.map a.eval)) (hm : MR ρ m w) : Done P o a ρ m w (evK W call m (.convStrBytes e) vs) := by
  have hop : o.op.operands = #[x] := by rw [ho]; rfl
  rw [hop] at hvs
  obtain ⟨v, rfl, hv⟩ := hvs.one_inv
  cases v with
  | str s0 =>
    obtain ⟨bs, h1, h2⟩ := vr_str hv
    simp only [evK]
    split
    · simp [Done]
    · have hsz := str_len h2
      have hcut : ∃ c, s0.length ≤ c ∧ (Go.Question.appendCap bs.size 0 e).cut (w.tape w.drawn (.appendCap bs.size 0 e)) = c := ⟨_, by simp only [Go.Question.cut]; rw [hsz]; exact Nat.le_add_right _ _, rfl⟩
      obtain ⟨c, hc1, hc2⟩ := hcut
      let elems : Array Value := bs.data.map fun b => .int .u8 b.toNat
      let arr : Array Value := elems ++ Array.replicate (c - bs.size) (.int .u8 0)
      have hasz : arr.size = c := by
        simp only [arr, elems, Array.size_append, Array.size_map, Array.size_replicate]
        show bs.size + (c - bs.size) = c
        omega
      let w1 : World := { w.drew with heap := w.heap.push (.cells arr e) }
      let w2 : World := w1.freeze ⟨w.heap.size, c, none⟩ 1
      have hw2 : w2 = { w.drew with heap := w.heap.push (.cells arr e (c, c + 1)) } := by
        simp only [w2, w1, World.freeze, if_neg (show ¬ (1 = 0) by decide)]
        congr 1
        apply Array.ext_getElem?
        intro i
        simp only [Go.World.drew, Array.getElem?_modify, Array.getElem?_push]
        by_cases hi : i = w.heap.size
        · subst hi; simp
        · rw [if_neg (fun h => hi h.symm), if_neg hi, if_neg hi]
      have hnew : Good ρ m w (ρ.ext m.n ⟨w.heap.size, 0, c⟩) (m.new (.cells (s0.map fun n => .int .u8 (Int.ofNat n)) .sb e)) w2 := by
        rw [hw2]
        have h0 := Good.tick hm
        refine h0.trans ((h0.mr.alloc _ (.cells arr e (c, c + 1)) c ?_))
        simp only [BR]
        refine ⟨arr, e, (c, c + 1), by show (w.heap.push _)[w.heap.size]? = _; rw [Array.getElem?_push_size], by simp [hasz]; omega, fun i x hx => ?_, fun _ => ⟨rfl, hasz.symm, trivial⟩, by simp, fun _ => by simp [hasz]⟩
        simp only [List.getElem?_map, Option.map_eq_some_iff] at hx
        obtain ⟨b, hb, rfl⟩ := hx
        obtain ⟨u, g1, g2⟩ := str_get h2 hb
        have hlt : i < bs.size := (str_len h2) ▸ (List.getElem?_eq_some_iff.1 hb).1
        refine ⟨.int .u8 u.toNat, ?_, by simp [VR, g2], rfl⟩
        have hb' : bs.data[i]? = some u := by
          rw [getElem?_pos bs i hlt] at g1
          injection g1 with g1
          rw [Array.getElem?_eq_getElem (show i < bs.data.size from hlt)]
          exact congrArg some g1
        simp only [arr, elems, Nat.zero_add]
        rw [Array.getElem?_append_left (by simp; exact hlt)]
        simp [hb']
      refine ⟨.slice (some ⟨w.heap.size, 0, none⟩) s0.length c, w2, _, .inl ?_, ?_, hnew⟩
      · have hrun : (Go.Conv.stringToBytes e bs).run P w = .ok (.slice (some ⟨w.heap.size, 0, none⟩) bs.size c) w2 := by
          simp only [Go.Conv.stringToBytes, Sem.run_bind, Go.run_choose, Go.Question.forced, Bool.false_eq_true, if_false, Result.andThen_ok, hc2, Go.newRow, Go.run_newObj, Sem.run_pure, Go.markStringish, Go.run_shape]
          have hshape : World.shape? { heap := w.heap.push (.cells arr e), tape := w.tape, drawn := w.drawn + 1, os := w.os, output := w.output } w.heap.size = some (e, c) := by
            simp [World.shape?, hasz]
          rw [hshape]
          rfl
        simp only [Go.execOp, ho, h1, Go.convert, Sem.run_bind, Go.run_underlying hs, Go.run_underlying hd, Go.run_underlying he, Result.andThen_ok, hrun]
        rw [hsz]
        rfl
      · simp only [VR]
        refine ⟨_, c, _, Rho.ext_same _ _ _, rfl, fun _ => rfl, Nat.le_refl _, hc1, by simp, fun _ => by simp⟩
  | _ => simp [evK, Done]
end
end Mu
