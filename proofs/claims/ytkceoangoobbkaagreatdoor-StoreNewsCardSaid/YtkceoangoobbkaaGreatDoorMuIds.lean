/- table.ids: the keys of a map, gathered in whatever order the map gives them, then sorted. -/
import Derived.Test.YtkceoangoobbkaaGreatDoorMuFn
import Derived.Test.YtkceoangoobbkaaGreatDoorMuPrims
import Derived.Laws.IdiomRangeMap
import Derived.LoopN
set_option linter.unusedVariables false
set_option linter.unusedSimpArgs false
namespace Mu
open Go (Value World Addr Program IntKind Sem Result Obj TypeDesc TypeInfo Operand Oper Ending Calls Act Exit Code)

section
variable {P : Program} {Q : Exit → Act → World → Prop}

theorem wpOps_cons' {ops : Array Oper} {i : Nat} {rest : List Nat} {o : Oper} {a : Act} {w : World} (ho : ops[i]? = some o) (hg : o.guard = none) (h : o.wp P a w (Go.wpOps P ops Q rest) Q) : Go.wpOps P ops Q (i :: rest) a w := by
  simp only [Go.wpOps, ho, Go.Region.wanted, hg, if_true]
  exact .inl h

theorem wp_value {o : Oper} {a : Act} {w w' : World} {x : Value} {next : Act → World → Prop} (h : (Go.execOp a.eval o).run P w = .ok (.value x) w') (hn : next (a.put o.dst x) w') : o.wp P a w next Q := by
  unfold Oper.wp; rw [h]; exact hn

theorem eval_put' {a : Act} {d t : Nat} {x : Value} (hd : d < a.tmps.size) : (a.put (some d) x).eval (.tmp t) = if d = t then x else a.eval (.tmp t) := by
  by_cases e : d = t
  · subst e
    rw [if_pos rfl]
    simp only [Go.Act.put, Go.Act.eval, Array.getD_eq_getD_getElem?]
    rw [Array.getElem?_setIfInBounds_self_of_lt hd]; rfl
  · rw [if_neg e]
    simp only [Go.Act.put, Go.Act.eval, Array.getD_eq_getD_getElem?]
    rw [Array.getElem?_setIfInBounds_ne e]

theorem size_put' (a : Act) (d : Option Nat) (x : Value) : (a.put d x).tmps.size = a.tmps.size := by cases d <;> simp [Go.Act.put]

/-- the world's old part stands -/
structure Still (w w' : World) (base : Nat) : Prop where
  os : w'.os = w.os
  tape : w'.tape = w.tape
  output : w'.output = w.output
  size : w.heap.size ≤ w'.heap.size
  old : ∀ r, r < base → w'.heap[r]? = w.heap[r]?

theorem Still.trans {w w1 w2 : World} {b : Nat} (h : Still w w1 b) (k : Still w1 w2 b) : Still w w2 b :=
  ⟨k.os.trans h.os, k.tape.trans h.tape, k.output.trans h.output, Nat.le_trans h.size k.size, fun r hr => (k.old r hr).trans (h.old r hr)⟩
theorem Still.refl (w : World) (b : Nat) : Still w w b := ⟨rfl, rfl, rfl, Nat.le_refl _, fun _ _ => rfl⟩

/-- the sort of ints, as far as it is wanted -/
structure SortOk (P : Program) (sf : Nat) : Prop where
  some : ∀ (blk off cap : Nat) (zs : List Int) (w : World) (arr : Array Value) (e : Nat), w.heap[blk]? = some (.cells arr e (0, 0)) → off + zs.length ≤ arr.size → zs.length ≤ 12 → (∀ (i : Nat) (z : Int), zs[i]? = some z → arr[off + i]? = some (.int .i64 z)) →
    Calls P sf #[.slice (some ⟨blk, off, none⟩) zs.length cap] w fun en w' => en = .returned (.tuple #[]) ∧ Still w w' 0 ∧ (∀ r, r < w.heap.size → r ≠ blk → w'.heap[r]? = w.heap[r]?) ∧
      ∃ arr', w'.heap[blk]? = some (.cells arr' e (0, 0)) ∧ arr'.size = arr.size ∧ ∀ (i : Nat) (z : Int), (sortI zs)[i]? = some z → arr'[off + i]? = some (.int .i64 z)
  nil : ∀ (w : World), Calls P sf #[.slice none 0 0] w fun en w' => en = .returned (.tuple #[]) ∧ Still w w' w.heap.size
  call : ∀ (xs : Array Value) (w : World), (Go.callFunc sf xs).run P w = .ok (.enter sf xs) w

structure IdsFn (P : Program) (f sf t : Nat) where
  F : Go.Func
  (a0 a1 b0 b1 b2 b3 b4 c0 c1 d0 d1 d2 e0 e1 e2 e3 e4 g0 g1 h0 h1 : Oper)
  (i0 i1 i2 i3 i4 i5 i6 i7 k0 k1 : Nat)
  (tS tM tK tE : Nat)
  (kc : Go.Call)
  (z : List V)
  func : P.funcs[f]? = some F
  call : ∀ (xs : Array Value) (w : World), (Go.callFunc f xs).run P w = .ok (.enter f xs) w
  body : F.body = some (.seq (.region i0 #[a0] false) (.seq (.region i1 #[a1] false) (.seq (.seq (.region i2 #[b0, b1, b2, b3, b4] false)
    (.block k0 (.loop (.seq (.region i3 #[c0, c1] false) (.seq (.cond (.tmp 11) .skip (.exit k0)) (.block k1 (.seq (.region i4 #[d0, d1, d2] false) (.region i5 #[e0, e1, e2, e3, e4] false))))))))
    (.seq (.region i6 #[g0, g1] false) (.seq (.region i7 #[h0, h1] false) .ret)))))
  ntmps : F.ntmps = 21
  results : F.results = #[.tmp 2]
  kne : k0 ≠ k1
  guards : ∀ o ∈ [a0, a1, b0, b1, b2, b3, b4, c0, c1, d0, d1, d2, e0, e1, e2, e3, e4, g0, g1, h0, h1], o.guard = none
  A0 : a0.op = .assign (.const (.slice none 0 0)) ∧ a0.dst = some 2
  A1 : a1.op = .assign (.const (.slice none 0 0)) ∧ a1.dst = some 3
  B0 : b0.op = .move (.tmp 0) ∧ b0.dst = some 5
  B1 : b1.op = .nilCheck (.tmp 5) ∧ b1.dst = some 6
  B2 : b2.op = .fieldAddr tS (.tmp 6) 0 ∧ b2.dst = some 7
  B2k : trK P [] b2.op = some (.fieldAddr 0)
  B3 : b3.op = .load tM (.tmp 7) ∧ b3.dst = some 8
  B3k : trK P [] b3.op = some (.load false 1)
  B4 : b4.op = .range tM (.tmp 8) ∧ b4.dst = some 9
  B4m : P.underlying tM = some (.map tK tE)
  C0 : c0.op = .next (.tmp 9) false ∧ c0.dst = some 10
  C1 : c1.op = .extract (.tmp 10) 0 ∧ c1.dst = some 11
  D0 : d0.op = .entry (.tmp 9) ∧ d0.dst = some 12
  D1 : d1.op = .extract (.tmp 12) 0 ∧ d1.dst = some 13
  D2 : d2.op = .assign (.tmp 13) ∧ d2.dst = some 4
  E0 : e0.op = .move (.tmp 3) ∧ e0.dst = some 14
  E1 : e1.op = .move (.tmp 4) ∧ e1.dst = some 15
  E2 : e2.op.operands.toList = [.tmp 15] ∧ e2.dst = some 16
  E2k : trK P [] e2.op = some (.buildSlice t 1 z 1 [(0, 1)])
  Z : z.length = 1
  E3 : e3.op.operands.toList = [.tmp 14, .tmp 16] ∧ e3.dst = some 17
  E3k : trK P [] e3.op = some (.append t 1)
  E4 : e4.op = .assign (.tmp 17) ∧ e4.dst = some 3
  G0 : g0.op = .move (.tmp 3) ∧ g0.dst = some 18
  G1 : g1.op = .call kc ∧ g1.dst = some 19
  G1c : kc.callee = .value (.func sf) ∧ kc.args = #[.tmp 18]
  H0 : h0.op = .move (.tmp 3) ∧ h0.dst = some 20
  H1 : h1.op = .assign (.tmp 20) ∧ h1.dst = some 2

/-- the operations of a function's regions, in the text's order -/
def regs : Code → List (Array Oper)
  | .region _ ops _ => [ops]
  | .seq a b => regs a ++ regs b
  | .cond _ a b => regs a ++ regs b
  | .block _ c => regs c
  | .loop c => regs c
  | _ => []
def operAt (F : Go.Func) (i j : Nat) : Oper := ((regs (F.body.getD .skip)).getD i #[]).getD j default
def callAt (o : Oper) : Go.Call := match o.op with | .call c => c | _ => default

def W0 : Prg := ⟨.nil, fun _ => none, fun _ _ => none, fun _ => false⟩

/-- the slice that has been gathered -/
structure Row (ρ : Rho) (m : M) (w : World) (base t : Nat) (ks : List Int) (x : Value) : Prop where
  mr : MR ρ m w
  only : ∀ b L, ρ b = some L → base ≤ L.blk
  bs : base ≤ w.heap.size
  val : (ks = [] ∧ x = .slice none 0 0) ∨ ∃ b, ks ≠ [] ∧ m.get b = some (.cells (ks.map (.int .i64 ·)) .rw t) ∧ VR ρ (.sl b 0 ks.length ks.length 1 false) x

theorem Row.img {ρ : Rho} {m : M} {w : World} {base t : Nat} {ks : List Int} {x : Value} (R : Row ρ m w base t ks x) : ∀ r, Img ρ m r → base ≤ r := by
  rintro r ⟨b, L, hb, _, rfl⟩
  exact R.only b L hb

def single (b : Nat) (L : Loc) : Rho := fun c => if c = b then some L else none

theorem single_inv {b c : Nat} {L K : Loc} (h : single b L c = some K) : c = b ∧ K = L := by
  unfold single at h
  split at h
  · injection h with h; exact ⟨‹_›, h.symm⟩
  · cases h

theorem MR.single {ρ : Rho} {m : M} {w : World} (h : MR ρ m w) {b : Nat} {L : Loc} (hb : ρ b = some L) {ks : List Int} {t : Nat} (hg : m.get b = some (.cells (ks.map (.int .i64 ·)) .rw t)) : MR (single b L) m w := by
  refine ⟨fun c K hc => ?_, fun c K hc x hx => ?_, fun c K c' K' hc hc' _ _ hne => ?_, fun c K hc => ?_⟩
  · obtain ⟨rfl, rfl⟩ := single_inv hc; exact h.dom _ _ hb
  · obtain ⟨rfl, rfl⟩ := single_inv hc
    rw [hg] at hx
    injection hx with hx
    subst hx
    obtain ⟨arr, e, fr, h1, h2, h3, h4⟩ := h.cells hb hg
    simp only [BR]
    refine ⟨arr, e, fr, h1, h2, fun i y hy => ?_, h4.1, fun _ => h4.2.1 rfl, h4.2.2⟩
    obtain ⟨x', k1, k2, k3⟩ := h3 i y hy
    refine ⟨x', k1, ?_, k3⟩
    rw [List.getElem?_map] at hy
    cases hk : ks[i]? with
    | none => simp [hk] at hy
    | some z =>
      simp only [hk, Option.map_some, Option.some.injEq] at hy
      subst hy
      simpa only [VR] using k2
  · obtain ⟨rfl, _⟩ := single_inv hc
    obtain ⟨rfl, _⟩ := single_inv hc'
    exact absurd rfl hne
  · obtain ⟨rfl, rfl⟩ := single_inv hc; exact h.size _ _ hb

theorem Good.still {ρ ρ' : Rho} {m m' : M} {w w' : World} (h : Good ρ m w ρ' m' w') {base : Nat} (hi : ∀ r, Img ρ m r → base ≤ r) (hb : base ≤ w.heap.size) : Still w w' base :=
  ⟨h.os, h.tape, h.output, h.hsize, fun r hr => h.frame r (by omega) fun hi' => by have := hi r hi'; omega⟩

theorem Good.img' {ρ ρ' : Rho} {m m' : M} {w w' : World} (h : Good ρ m w ρ' m' w') {base : Nat} (hi : ∀ r, Img ρ m r → base ≤ r) (hb : base ≤ w.heap.size) : ∀ r, Img ρ' m' r → base ≤ r := fun r hr => by
  rcases h.img r hr with h1 | h1
  · exact hi r h1
  · omega

/-- one more key -/
theorem row_more {f sf t : Nat} (I : IdsFn P f sf t) {ρ : Rho} {m : M} {w : World} {base : Nat} {ks : List Int} {x : Value} {a : Act} (R : Row ρ m w base t ks x) {k : Int} (hlen : ks.length ≤ 100) (hsz : a.tmps.size = 21)
    (h3 : a.eval (.tmp 3) = x) (h4 : a.eval (.tmp 4) = .int .i64 k) {K : Act → World → Prop}
    (hK : ∀ a' w' ρ' m' x', a'.tmps.size = 21 → a'.defers = a.defers → a'.eval (.tmp 9) = a.eval (.tmp 9) → a'.eval (.tmp 3) = x' → Row ρ' m' w' base t (ks ++ [k]) x' → Still w w' base → (w.heap.size ≤ w'.heap.size) →
      (∀ r, r < w.heap.size → ¬ Img ρ m r → w'.heap[r]? = w.heap[r]?) → K a' w') :
    (Code.region I.i5 #[I.e0, I.e1, I.e2, I.e3, I.e4] false).wp P (Exit.then K Q) a w := by
  refine Go.wp_region ?_
  show Go.wpOps P #[I.e0, I.e1, I.e2, I.e3, I.e4] (Exit.then K Q) [0, 1, 2, 3, 4] a w
  have g := I.guards
  refine wpOps_cons' (o := I.e0) rfl (g _ (by simp)) (wp_value (w' := w) (x := x) (by simp [Go.execOp, I.E0.1, h3]) ?_)
  rw [I.E0.2]
  refine wpOps_cons' (o := I.e1) rfl (g _ (by simp)) (wp_value (w' := w) (x := .int .i64 k) (by simp only [Go.execOp, I.E1.1, Sem.run_pure]; rw [eval_put' (by omega), if_neg (by decide), h4]) ?_)
  rw [I.E1.2]
  refine wpOps_cons' (o := I.e2) rfl (g _ (by simp)) ?_
  have hev15 : ((a.put (some 14) x).put (some 15) (.int .i64 k)).eval (.tmp 15) = .int .i64 k := by rw [eval_put' (by rw [size_put']; omega), if_pos rfl]
  have hev14 : ((a.put (some 14) x).put (some 15) (.int .i64 k)).eval (.tmp 14) = x := by rw [eval_put' (by rw [size_put']; omega), if_neg (by decide), eval_put' (by omega), if_pos rfl]
  have hW : PtrTOk P W0 := fun t h => by cases h
  have hd2 := evK_sound (P := P) (names := []) (o := I.e2) (a := (a.put (some 14) x).put (some 15) (.int .i64 k)) (ρ := ρ) (m := m) (w := w) W0 (fun _ _ _ => .bad) hW I.E2k rfl (vs := [.int .i64 k])
    (by rw [I.E2.1]; simp only [List.map_cons, List.map_nil, hev15, VRL]; exact ⟨_, _, rfl, by simp [VR], rfl⟩) R.mr
  have hev2 : evK W0 (fun _ _ _ => .bad) m (.buildSlice t 1 I.z 1 [(0, 1)]) [.int .i64 k] = .ok (.sl m.n 0 1 1 1 true) (m.new (.cells [.int .i64 k] .rw t)) := by
    obtain ⟨z0, hz⟩ : ∃ z0, I.z = [z0] := by
      have := I.Z
      match hz : I.z, this with
      | [z0], _ => exact ⟨z0, rfl⟩
    simp [evK, hz, rep, fill, cellsOf, splice]
  rw [hev2] at hd2
  refine hd2.wp ?_
  intro y w1 ρ1 hy hg1
  rw [I.E2.2]
  refine wpOps_cons' (o := I.e3) rfl (g _ (by simp)) ?_
  have hev16 : (((a.put (some 14) x).put (some 15) (.int .i64 k)).put (some 16) y).eval (.tmp 16) = y := by rw [eval_put' (by simp only [size_put']; omega), if_pos rfl]
  have hev14' : (((a.put (some 14) x).put (some 15) (.int .i64 k)).put (some 16) y).eval (.tmp 14) = x := by rw [eval_put' (by simp only [size_put']; omega), if_neg (by decide), hev14]
  -- the slice as it was
  have hS : ∃ s : V, VR ρ1 s x ∧ ∃ m2, evK W0 (fun _ _ _ => .bad) (m.new (.cells [.int .i64 k] .rw t)) (.append t 1) [s, .sl m.n 0 1 1 1 true] = .ok (.sl (m.n + 1) 0 (ks.length + 1) (ks.length + 1) 1 false) m2 ∧
      m2.get (m.n + 1) = some (.cells ((ks ++ [k]).map (.int .i64 ·)) .rw t) := by
    have hget : (m.new (.cells [.int .i64 k] .rw t)).get m.n = some (.cells [.int .i64 k] .rw t) := M.get_new_same _ _
    rcases R.val with ⟨rfl, rfl⟩ | ⟨b, hne, hb, hv⟩
    · refine ⟨.snil, by simp [VR], (m.new (.cells [.int .i64 k] .rw t)).new (.cells [.int .i64 k] .rw t), ?_, M.get_new_same (m.new (.cells [.int .i64 k] .rw t)) _⟩
      simp only [evK, evAppend, rdSl, hget]
      simp [slice1, lenV, big]
    · have hbn : b ≠ m.n := by
        simp only [VR] at hv
        obtain ⟨L, _, _, h1, _⟩ := hv
        have := R.mr.dom _ _ h1
        omega
      have hgb : (m.new (.cells [.int .i64 k] .rw t)).get b = some (.cells (ks.map (.int .i64 ·)) .rw t) := by rw [M.get_new_ne _ _ _ hbn]; exact hb
      refine ⟨.sl b 0 ks.length ks.length 1 false, hv.mono hg1.sub, ((m.new (.cells [.int .i64 k] .rw t)).put b .dead).new (.cells (ks.map (.int .i64 ·) ++ [.int .i64 k]) .rw t), ?_, ?_⟩
      · simp only [evK, evAppend, rdSl, hget]
        have hsl : slice1 (ks.map (V.int .i64 ·)) 0 ks.length = ks.map (V.int .i64 ·) := by simp only [slice1, List.drop_zero]; exact List.take_of_length_le (by simp)
        have hbig : ¬ big < ks.length + 1 := by unfold big; omega
        simp [lenV, hgb, slice1, hbig]
        have hlt : List.take ks.length (ks.map (V.int .i64 ·)) = ks.map (V.int .i64 ·) := List.take_of_length_le (by simp)
        rw [if_neg (by omega), hlt]
      · rw [List.map_append]
        exact M.get_new_same ((m.new (.cells [.int .i64 k] .rw t)).put b .dead) _
  obtain ⟨s, hs, m2, hev3, hget2⟩ := hS
  have hd3 := evK_sound (P := P) (names := []) (o := I.e3) (a := ((a.put (some 14) x).put (some 15) (.int .i64 k)).put (some 16) y) (ρ := ρ1) (m := m.new (.cells [.int .i64 k] .rw t)) (w := w1) W0 (fun _ _ _ => .bad) hW I.E3k rfl (vs := [s, .sl m.n 0 1 1 1 true])
    (by rw [I.E3.1]; simp only [List.map_cons, List.map_nil, hev14', hev16, VRL]; exact ⟨_, _, rfl, hs, _, _, rfl, hy, rfl⟩) hg1.mr
  rw [hev3] at hd3
  refine hd3.wp ?_
  intro u w2 ρ2 hu hg2
  rw [I.E3.2]
  refine wpOps_cons' (o := I.e4) rfl (g _ (by simp)) (wp_value (w' := w2) (x := u) (by simp only [Go.execOp, I.E4.1, Sem.run_pure]; rw [eval_put' (by simp only [size_put']; omega), if_pos rfl]) ?_)
  rw [I.E4.2]
  have hgg := hg1.trans hg2
  obtain ⟨L, c', p', k1, k2⟩ : ∃ L c' p', ρ2 (m.n + 1) = some L ∧ u = .slice (some p') (ks.length + 1) c' ∧ (c' ≠ 0 → p' = ⟨L.blk, L.base + 0, none⟩) ∧ ks.length + 1 ≤ ks.length + 1 ∧ ks.length + 1 ≤ c' ∧ (false = true → c' = ks.length + 1) ∧ (false = false → L.base + 0 + c' * 1 = L.endd) := by simpa only [VR] using hu
  have hL : base ≤ L.blk := hgg.img' R.img R.bs L.blk ⟨m.n + 1, L, k1, by unfold owns; rw [hget2]; simp, rfl⟩
  refine hK _ w2 (single (m.n + 1) L) m2 u (by simp only [size_put']; exact hsz) (by simp only [put_defers]) ?_ ?_ ⟨hgg.mr.single k1 hget2, fun b K hb => by obtain ⟨rfl, rfl⟩ := single_inv hb; exact hL, Nat.le_trans R.bs hgg.hsize,
    .inr ⟨m.n + 1, by simp, hget2, by simp only [VR]; exact ⟨L, c', p', by simp [single], by simpa using k2⟩⟩⟩ (hgg.still R.img R.bs) hgg.hsize (fun r hr hi => hgg.frame r hr hi)
  · rw [eval_put' (by simp only [size_put']; omega), if_neg (by decide), eval_put' (by simp only [size_put']; omega), if_neg (by decide), eval_put' (by simp only [size_put']; omega), if_neg (by decide), eval_put' (by simp only [size_put']; omega), if_neg (by decide), eval_put' (by omega), if_neg (by decide)]
  · rw [eval_put' (by simp only [size_put']; omega), if_pos rfl]

theorem run_getIter {w : World} {r : Nat} {a : Option Nat} {b : Nat} {c : Array Nat} {d : Nat} (h : w.heap[r]? = some (.mapIter a b c d)) : (Go.getObj r).run P w = .ok (.mapIter a b c d) w := by simp [Go.getObj, Sem.run, h]

theorem run_setIter {w : World} {r : Nat} {a : Option Nat} {b : Nat} {c : Array Nat} {d : Nat} (o : Obj) (h : w.heap[r]? = some (.mapIter a b c d)) : (Go.setObj r o).run P w = .ok () { w with heap := w.heap.setIfInBounds r o } := by
  simp [Go.setObj, Sem.run, h]

theorem run_next {w : World} (ty : Nat) {r bm since c0 : Nat} {seen : Array Nat} {es : Array Go.MapEntry} {clock : Nat} (hr : w.heap[r]? = some (.mapIter (some bm) since seen c0)) (hb : w.heap[bm]? = some (.map es clock))
    (hold : ∀ x ∈ es.toList, x.born < since) (hsc : since ≤ c0) :
    ((Go.leftOf es seen).size = 0 ∧ (Go.Instr.next (.pointer (some ⟨r, 0, none⟩)) false ty).run P w = .ok (.tuple #[.bool false]) w) ∨
    ∃ e ∈ (Go.leftOf es seen).toList, ∃ w1 : World, w1.heap = w.heap ∧ w1.os = w.os ∧ w1.tape = w.tape ∧ w1.output = w.output ∧
      (Go.Instr.next (.pointer (some ⟨r, 0, none⟩)) false ty).run P w = .ok (.tuple #[.bool true, e.key, e.val]) { w1 with heap := w.heap.setIfInBounds r (.mapIter (some bm) since (seen.push e.born) clock) } := by
  simp only [Go.Instr.next, Sem.run_bind, run_getIter hr, run_getObj_map hb, Result.andThen_ok, Go.next_test_false seen es since c0 hold hsc, Bool.false_eq_true, if_false]
  unfold Go.leftOf
  have hmem : ∀ x ∈ (Array.filter (fun e => !seen.contains e.born) es).toList, x.born < since := fun x hx => hold x (by simp at hx ⊢; exact hx.1)
  generalize Array.filter (fun e => !seen.contains e.born) es = L at hmem ⊢
  have e1 : L.filter (fun x => decide (x.born < since)) = L := Array.filter_eq_self.2 (fun x hx => by simpa using hmem x (by simpa using hx))
  have e2 : L.filter (fun x => decide (x.born ≥ since)) = #[] := by
    rw [Array.filter_eq_empty_iff]
    intro x hx
    have := hmem x (by simpa using hx)
    simp
    omega
  simp only [e1, e2, Array.append_empty]
  by_cases h0 : L.size = 0
  · left
    have : L = #[] := Array.eq_empty_of_size_eq_zero h0
    subst this
    refine ⟨rfl, ?_⟩
    simp [Go.choose, Sem.run, Go.Question.forced]
  · right
    have hne : L.isEmpty = false := by simp [Array.isEmpty, h0]
    simp only [hne, Bool.false_eq_true, if_false, Array.empty_append, Array.size_map]
    have hch : ∃ (j : Nat) (w1 : World), j < L.size ∧ (w1.heap = w.heap ∧ w1.os = w.os ∧ w1.tape = w.tape ∧ w1.output = w.output) ∧ (Go.choose (Go.Question.mapNext L.size)).run P w = .ok j w1 := by
      by_cases hf : L.size ≤ 1
      · exact ⟨0, w, by omega, ⟨rfl, rfl, rfl, rfl⟩, by simp [Go.choose, Sem.run, Go.Question.forced, hf]⟩
      · exact ⟨_, w.drew, Nat.mod_lt _ (by omega), ⟨rfl, rfl, rfl, rfl⟩, by
          simp only [Go.choose, Sem.run, Go.Question.forced, decide_eq_true_eq, hf, if_false, Go.Question.cut]
          rfl⟩
    obtain ⟨j, w1, hj, hal, hrun⟩ := hch
    refine ⟨L[j], by simp, w1, hal.1, hal.2.1, hal.2.2.1, hal.2.2.2, ?_⟩
    have hr1 : w1.heap[r]? = some (.mapIter (some bm) since seen c0) := by rw [hal.1]; exact hr
    simp only [hrun, Array.getElem?_map, Array.getElem?_eq_getElem hj, Option.map_some, Sem.run_bind, run_setIter _ hr1, Result.andThen_ok, Sem.run_pure, hal.1]

theorem run_entry {w : World} {r bm since : Nat} {seen : Array Nat} {es : Array Go.MapEntry} {clock : Nat} {e : Go.MapEntry} (hr : w.heap[r]? = some (.mapIter (some bm) since (seen.push e.born) clock)) (hb : w.heap[bm]? = some (.map es clock))
    (he : e ∈ es.toList) (hn : (es.toList.map (·.born)).Nodup) : (Go.Instr.entry (.pointer (some ⟨r, 0, none⟩))).run P w = .ok (.tuple #[e.key, e.val]) w := by
  have hf : es.find? (·.born == e.born) = some e := by rw [← Array.find?_toList]; exact Go.find_born e es.toList hn he
  simp only [Go.Instr.entry, Sem.run_bind, run_getIter hr, run_getObj_map hb, Result.andThen_ok, Array.back?_push, bne_self_eq_false, Bool.false_eq_true, if_false, hf]
  rfl

theorem left_perm {seen : Array Nat} {e : Go.MapEntry} (hs : seen.contains e.born = false) : ∀ {l : List Go.MapEntry}, (l.map (·.born)).Nodup → e ∈ l →
    (l.filter fun x => !seen.contains x.born).Perm (e :: l.filter fun x => !(seen.push e.born).contains x.born)
  | [], _, h => by cases h
  | x :: l, hn, h => by
    simp only [List.map_cons, List.nodup_cons] at hn
    have hq : ∀ y : Go.MapEntry, (!(seen.push e.born).contains y.born) = (!seen.contains y.born && !(y.born == e.born)) := fun y => by rw [Go.contains_push]; simp
    by_cases hx : x = e
    · subst hx
      have hrest : (l.filter fun y => !(seen.push x.born).contains y.born) = l.filter fun y => !seen.contains y.born := by
        refine List.filter_congr fun y hy => ?_
        rw [hq]
        have : (y.born == x.born) = false := by
          cases hc : y.born == x.born with
          | false => rfl
          | true => exact absurd (by rw [← beq_iff_eq.1 hc]; exact List.mem_map.2 ⟨y, hy, rfl⟩) hn.1
        rw [this]; simp
      rw [List.filter_cons_of_pos (by rw [hs]; rfl), List.filter_cons_of_neg (by rw [hq]; simp), hrest]
    · have hm : e ∈ l := by
        cases h with
        | head => exact absurd rfl hx
        | tail _ h => exact h
      have ih := left_perm hs hn.2 hm
      have hb : (x.born == e.born) = false := by
        cases hc : x.born == e.born with
        | false => rfl
        | true => exact absurd (by rw [beq_iff_eq.1 hc]; exact List.mem_map.2 ⟨e, hm, rfl⟩) hn.1
      by_cases hc : seen.contains x.born = true
      · rw [List.filter_cons_of_neg (by rw [hc]; simp), List.filter_cons_of_neg (by rw [hq, hc]; simp)]
        exact ih
      · have hc : seen.contains x.born = false := by simpa using hc
        rw [List.filter_cons_of_pos (by rw [hc]; rfl), List.filter_cons_of_pos (by rw [hq, hc, hb]; rfl)]
        exact (ih.cons x).trans (List.Perm.swap _ _ _)

def keyI (e : Go.MapEntry) : Int := match e.key with | .int _ z => z | _ => 0

theorem still_set {w : World} {r : Nat} (o : Obj) {w1 : World} (h : w1.heap = w.heap ∧ w1.os = w.os ∧ w1.tape = w.tape ∧ w1.output = w.output) : Still w { w1 with heap := w.heap.setIfInBounds r o } r :=
  ⟨h.2.1, h.2.2.1, h.2.2.2, by simp, fun k hk => by simp [Array.getElem?_setIfInBounds_ne (show r ≠ k by omega)]⟩

/-- the loop over the map -/
theorem loop_sound {f sf t : Nat} (I : IdsFn P f sf t) {r bm clock : Nat} {ents : Array Go.MapEntry} (hbr : bm < r) (hst : Stamps ents.toList clock) (hkey : ∀ e ∈ ents.toList, e.key = .int .i64 (keyI e)) (hlen : ents.size ≤ 12)
    {a : Act} {w : World} (hsz : a.tmps.size = 21) (h9 : a.eval (.tmp 9) = .pointer (some ⟨r, 0, none⟩)) (hr : w.heap[r]? = some (.mapIter (some bm) clock #[] clock)) (hb : w.heap[bm]? = some (.map ents clock))
    {ρ : Rho} {m : M} {x : Value} (hR : Row ρ m w (r + 1) t [] x) (h3 : a.eval (.tmp 3) = x) {K : Act → World → Prop} {Q' : Exit → Act → World → Prop}
    (hK : ∀ a' w' ρ' m' x' ks', a'.tmps.size = 21 → a'.defers = a.defers → Row ρ' m' w' (r + 1) t ks' x' → a'.eval (.tmp 3) = x' → ks'.Perm (ents.toList.map keyI) → Still w w' r → K a' w') :
    (Code.block I.k0 (.loop (.seq (.region I.i3 #[I.c0, I.c1] false) (.seq (.cond (.tmp 11) .skip (.exit I.k0)) (.block I.k1 (.seq (.region I.i4 #[I.d0, I.d1, I.d2] false) (.region I.i5 #[I.e0, I.e1, I.e2, I.e3, I.e4] false))))))).wp P (Exit.then K Q') a w := by
  have g := I.guards
  refine Go.wp_block ?_
  refine Go.wp_loop (fun a' w' => ∃ ρ' m' x' ks' seen, a'.tmps.size = 21 ∧ a'.defers = a.defers ∧ a'.eval (.tmp 9) = .pointer (some ⟨r, 0, none⟩) ∧ Row ρ' m' w' (r + 1) t ks' x' ∧ a'.eval (.tmp 3) = x' ∧
      w'.heap[r]? = some (.mapIter (some bm) clock seen clock) ∧ w'.heap[bm]? = some (.map ents clock) ∧ (ks' ++ (Go.leftOf ents seen).toList.map keyI).Perm (ents.toList.map keyI) ∧ Still w w' r)
    (fun _ w' => (Go.leftOf ents (w'.iterSeen r)).size) ?_ ?_
  · refine ⟨ρ, m, x, [], #[], hsz, rfl, h9, hR, h3, hr, hb, ?_, Still.refl _ _⟩
    have : (Go.leftOf ents #[]).toList = ents.toList := by
      unfold Go.leftOf
      rw [Array.toList_filter]
      exact List.filter_eq_self.2 fun _ _ => by simp
    rw [this]
    exact List.Perm.refl _
  · rintro a1 w1 ⟨ρ1, m1, x1, ks, seen, s1, s2, s3, s4, s5, s6, s7, s8, s9⟩
    have hseen : w1.iterSeen r = seen := by unfold World.iterSeen; rw [s6]
    refine Go.wp_seq ?_
    refine Go.wp_region ?_
    show Go.wpOps P #[I.c0, I.c1] _ [0, 1] a1 w1
    rcases run_next (P := P) I.c0.type s6 s7 hst.1 (Nat.le_refl _) with ⟨hz, hrun⟩ | ⟨e, he, w2, hw2, hw3, hw4, hw5, hrun⟩
    · refine wpOps_cons' (o := I.c0) rfl (g _ (by simp)) (wp_value (w' := w1) (x := .tuple #[.bool false]) (by simp only [Go.execOp, I.C0.1, s3, Sem.run_bind, hrun, Result.andThen_ok, Sem.run_pure]) ?_)
      rw [I.C0.2]
      refine wpOps_cons' (o := I.c1) rfl (g _ (by simp)) (wp_value (w' := w1) (x := .bool false) (by simp only [Go.execOp, I.C1.1]; rw [eval_put' (by omega), if_pos rfl]; simp [Go.Instr.extract]) ?_)
      rw [I.C1.2]
      simp only [Go.wpOps, Go.Exit.then]
      refine Go.wp_seq (Go.wp_cond_false (by rw [eval_put' (by simp only [size_put']; omega), if_pos rfl]) (Go.wp_exit ?_))
      simp only [Go.Exit.then, Go.Exit.inBlock, if_true]
      refine hK _ w1 ρ1 m1 x1 ks (by simp only [size_put']; exact s1) (by simp only [put_defers]; exact s2) s4 ?_ ?_ s9
      · rw [eval_put' (by simp only [size_put']; omega), if_neg (by decide), eval_put' (by omega), if_neg (by decide), s5]
      · have : (Go.leftOf ents seen).toList = [] := by
          have : Go.leftOf ents seen = #[] := Array.eq_empty_of_size_eq_zero hz
          rw [this]
        rw [this] at s8
        simpa using s8
    · obtain ⟨he1, he2⟩ := Go.mem_left he
      refine wpOps_cons' (o := I.c0) rfl (g _ (by simp)) (wp_value (w' := { w2 with heap := w1.heap.setIfInBounds r (.mapIter (some bm) clock (seen.push e.born) clock) }) (x := .tuple #[.bool true, e.key, e.val]) (by simp only [Go.execOp, I.C0.1, s3, Sem.run_bind, hrun, Result.andThen_ok, Sem.run_pure]) ?_)
      rw [I.C0.2]
      refine wpOps_cons' (o := I.c1) rfl (g _ (by simp)) (wp_value (w' := { w2 with heap := w1.heap.setIfInBounds r (.mapIter (some bm) clock (seen.push e.born) clock) }) (x := .bool true) (by simp only [Go.execOp, I.C1.1]; rw [eval_put' (by omega), if_pos rfl]; simp [Go.Instr.extract]) ?_)
      rw [I.C1.2]
      simp only [Go.wpOps, Go.Exit.then]
      generalize hw6 : ({ w2 with heap := w1.heap.setIfInBounds r (.mapIter (some bm) clock (seen.push e.born) clock) } : World) = w6
      have hrlt : r < w1.heap.size := by
        rcases Nat.lt_or_ge r w1.heap.size with h | h
        · exact h
        · simp [Array.getElem?_eq_none h] at s6
      have hst6 : Still w1 w6 r := by rw [← hw6]; exact still_set _ ⟨hw2, hw3, hw4, hw5⟩
      have h6r : w6.heap[r]? = some (.mapIter (some bm) clock (seen.push e.born) clock) := by rw [← hw6]; simp [Array.getElem?_setIfInBounds, hrlt]
      have h6b : w6.heap[bm]? = some (.map ents clock) := by rw [hst6.old bm hbr]; exact s7
      have h6size : w6.heap.size = w1.heap.size := by rw [← hw6]; simp
      have hR6 : Row ρ1 m1 w6 (r + 1) t ks x1 := by
        refine ⟨⟨s4.mr.dom, ?_, s4.mr.inj, fun b L hb => by rw [h6size]; exact s4.mr.size b L hb⟩, s4.only, by rw [h6size]; exact s4.bs, s4.val⟩
        intro b L hbL y hy
        have := s4.only b L hbL
        refine (s4.mr.blk b L hbL y hy).congr (Sub.refl _) ?_
        rw [← hw6]
        simp [Array.getElem?_setIfInBounds_ne (show r ≠ L.blk by omega)]
      have h11 : ((a1.put (some 10) (.tuple #[.bool true, e.key, e.val])).put (some 11) (.bool true)).eval (.tmp 11) = .bool true := by rw [eval_put' (by simp only [size_put']; omega), if_pos rfl]
      generalize ha6 : (a1.put (some 10) (.tuple #[.bool true, e.key, e.val])).put (some 11) (.bool true) = a6 at h11
      have h6sz : a6.tmps.size = 21 := by rw [← ha6]; simp only [size_put']; exact s1
      have h6d : a6.defers = a.defers := by rw [← ha6]; simp only [put_defers]; exact s2
      have h69 : a6.eval (.tmp 9) = .pointer (some ⟨r, 0, none⟩) := by
        rw [← ha6, eval_put' (by simp only [size_put']; omega), if_neg (by decide), eval_put' (by omega), if_neg (by decide), s3]
      have h63 : a6.eval (.tmp 3) = x1 := by
        rw [← ha6, eval_put' (by simp only [size_put']; omega), if_neg (by decide), eval_put' (by omega), if_neg (by decide), s5]
      refine Go.wp_seq (Go.wp_cond_true h11 (Go.wp_skip ?_))
      simp only [Go.Exit.then]
      refine Go.wp_block (Go.wp_seq (Go.wp_region ?_))
      show Go.wpOps P #[I.d0, I.d1, I.d2] _ [0, 1, 2] a6 w6
      refine wpOps_cons' (o := I.d0) rfl (g _ (by simp)) (wp_value (w' := w6) (x := .tuple #[e.key, e.val]) (by simp only [Go.execOp, I.D0.1, h69, Sem.run_bind, run_entry h6r h6b he1 hst.2, Result.andThen_ok, Sem.run_pure]) ?_)
      rw [I.D0.2]
      refine wpOps_cons' (o := I.d1) rfl (g _ (by simp)) (wp_value (w' := w6) (x := e.key) (by simp only [Go.execOp, I.D1.1]; rw [eval_put' (by omega), if_pos rfl]; simp [Go.Instr.extract]) ?_)
      rw [I.D1.2]
      refine wpOps_cons' (o := I.d2) rfl (g _ (by simp)) (wp_value (w' := w6) (x := e.key) (by simp only [Go.execOp, I.D2.1, Sem.run_pure]; rw [eval_put' (by simp only [size_put']; omega), if_pos rfl]) ?_)
      rw [I.D2.2]
      simp only [Go.wpOps, Go.Exit.then]
      have hperm := left_perm he2 hst.2 he1
      have hks : ks.length ≤ 100 := by
        have h1 := s8.length_eq
        simp at h1
        omega
      refine Go.wp_mono (row_more (Q := fun _ _ _ => False) I hR6 (k := keyI e) hks (by simp only [size_put']; exact h6sz) (a := ((a6.put (some 12) (.tuple #[e.key, e.val])).put (some 13) e.key).put (some 4) e.key)
        (by rw [eval_put' (by simp only [size_put']; omega), if_neg (by decide), eval_put' (by simp only [size_put']; omega), if_neg (by decide), eval_put' (by omega), if_neg (by decide), h63])
        (by rw [eval_put' (by simp only [size_put']; omega), if_pos rfl]; exact hkey e he1)
        (K := fun a' w' => Go.Exit.inBlock I.k1 (Go.Exit.then (fun a' w' => (∃ ρ' m' x' ks' seen, a'.tmps.size = 21 ∧ a'.defers = a.defers ∧ a'.eval (.tmp 9) = .pointer (some ⟨r, 0, none⟩) ∧ Row ρ' m' w' (r + 1) t ks' x' ∧ a'.eval (.tmp 3) = x' ∧
            w'.heap[r]? = some (.mapIter (some bm) clock seen clock) ∧ w'.heap[bm]? = some (.map ents clock) ∧ (ks' ++ (Go.leftOf ents seen).toList.map keyI).Perm (ents.toList.map keyI) ∧ Still w w' r) ∧
            (Go.leftOf ents (w'.iterSeen r)).size < (Go.leftOf ents (w1.iterSeen r)).size) (Go.Exit.inBlock I.k0 (Exit.then K Q'))) .normal a' w') ?_) ?_
      · intro a' w' ρ' m' x' t1 t2 t3 t4 t5 t6 t7 t8
        simp only [Go.Exit.inBlock, Go.Exit.then]
        have hr' : w'.heap[r]? = some (.mapIter (some bm) clock (seen.push e.born) clock) := by rw [t6.old r (by omega)]; exact h6r
        refine ⟨⟨ρ', m', x', ks ++ [keyI e], seen.push e.born, t1, ?_, ?_, t5, t4, hr', ?_, ?_, ?_⟩, ?_⟩
        · rw [t2]; simp only [put_defers]; exact h6d
        · rw [t3, eval_put' (by simp only [size_put']; omega), if_neg (by decide), eval_put' (by simp only [size_put']; omega), if_neg (by decide), eval_put' (by omega), if_neg (by decide), h69]
        · rw [t6.old bm (by omega)]; exact h6b
        · refine List.Perm.trans ?_ s8
          rw [List.append_assoc]
          refine List.Perm.append_left _ ?_
          have := (hperm.map keyI).symm
          unfold Go.leftOf
          rw [Array.toList_filter, Array.toList_filter]
          simpa using this
        · exact s9.trans (hst6.trans ⟨t6.os, t6.tape, t6.output, t6.size, fun k hk => t6.old k (by omega)⟩)
        · have h1 : w'.iterSeen r = seen.push e.born := by unfold World.iterSeen; rw [hr']
          rw [h1, hseen]
          exact Go.left_shrinks ents seen e he
      · intro en a' w' h
        cases en <;> simp only [Go.Exit.then] at h
        exact h

/-- a block that lies there already is taken over as a new one -/
theorem MR.adopt {ρ : Rho} {m : M} {w : World} (h : MR ρ m w) {L : Loc} (hne : ∀ c K, ρ c = some K → K.blk ≠ L.blk) (hlt : L.blk < w.heap.size) {x : Blk} (hx : BR (ρ.ext m.n L) w L x) : MR (ρ.ext m.n L) (m.new x) w := by
  have hs : Sub ρ (ρ.ext m.n L) := Sub.ext _ h.fresh
  have hcn : ∀ c K, ρ c = some K → c ≠ m.n := fun c K hc e => by have := h.dom c K hc; omega
  refine ⟨?_, ?_, ?_, ?_⟩
  · intro c K hc
    by_cases e : c = m.n
    · rw [e]; exact Nat.lt_succ_self _
    · rw [Rho.ext_ne _ _ e] at hc; exact Nat.lt_succ_of_lt (h.dom c K hc)
  · intro c K hc y hy
    by_cases e : c = m.n
    · subst e
      rw [Rho.ext_same] at hc
      injection hc with hc
      subst hc
      rw [M.get_new_same] at hy
      injection hy with hy
      subst hy
      exact hx
    · rw [Rho.ext_ne _ _ e] at hc
      rw [M.get_new_ne _ _ _ e] at hy
      exact (h.blk c K hc y hy).congr hs rfl
  · intro c K c' K' hc hc' ho hl hne'
    by_cases e : c = m.n
    · subst e
      rw [Rho.ext_same] at hc
      injection hc with hc
      subst hc
      rw [Rho.ext_ne _ _ (Ne.symm hne')] at hc'
      exact (hne c' K' hc').symm
    · rw [Rho.ext_ne _ _ e] at hc
      by_cases e' : c' = m.n
      · subst e'
        rw [Rho.ext_same] at hc'
        injection hc' with hc'
        subst hc'
        exact hne c K hc
      · rw [Rho.ext_ne _ _ e'] at hc'
        exact h.inj c K c' K' hc hc' ((owns_new e).1 ho) ((lives_new e').1 hl) hne'
  · intro c K hc
    by_cases e : c = m.n
    · subst e
      rw [Rho.ext_same] at hc
      injection hc with hc
      subst hc
      exact hlt
    · rw [Rho.ext_ne _ _ e] at hc; exact h.size c K hc

theorem keys_KR {ρ : Rho} : ∀ {es : List (V × V)} {l : List Go.MapEntry} {ks : List Int}, KR ρ es l → keysI es = some ks → l.map keyI = ks ∧ ∀ e ∈ l, e.key = .int .i64 (keyI e)
  | [], l, ks, h, hk => by
    simp only [KR] at h
    subst h
    simp only [keysI, Option.some.injEq] at hk
    subst hk
    simp
  | (k, v) :: es, l, ks, h, hk => by
    simp only [KR] at h
    obtain ⟨e, r, rfl, h1, h2, h3⟩ := h
    cases k with
    | int kd z =>
      cases kd <;> simp only [keysI, Option.map_eq_some_iff, reduceCtorEq] at hk
      obtain ⟨ks', hk', rfl⟩ := hk
      obtain ⟨i1, i2⟩ := keys_KR h3 hk'
      have hek := vr_int h1
      have hz : keyI e = z := by unfold keyI; rw [hek]
      refine ⟨by simp [hz, i1], fun e' he' => ?_⟩
      rw [List.mem_cons] at he'
      rcases he' with rfl | he'
      · rw [hek, hz]
      · exact i2 e' he'
    | _ => simp [keysI] at hk

theorem insI_perm (v : Int) : ∀ l : List Int, (insI v l).Perm (v :: l)
  | [] => List.Perm.refl _
  | x :: r => by
    simp only [insI]
    split
    · exact List.Perm.refl _
    · exact ((insI_perm v r).cons x).trans (List.Perm.swap _ _ _)

theorem sortI_perm : ∀ l : List Int, (sortI l).Perm l
  | [] => List.Perm.refl _
  | x :: r => (insI_perm x _).trans ((sortI_perm r).cons x)

theorem insI_sorted (v : Int) : ∀ {l : List Int}, l.Pairwise (· ≤ ·) → (insI v l).Pairwise (· ≤ ·)
  | [], _ => by simp [insI]
  | x :: r, h => by
    simp only [insI]
    split
    · rename_i hv
      rw [List.pairwise_cons] at h ⊢
      refine ⟨fun y hy => ?_, List.pairwise_cons.2 h⟩
      rw [List.mem_cons] at hy
      rcases hy with rfl | hy
      · omega
      · have := h.1 y hy; omega
    · rename_i hv
      rw [List.pairwise_cons] at h ⊢
      refine ⟨fun y hy => ?_, insI_sorted v h.2⟩
      have := (insI_perm v r).subset hy
      rw [List.mem_cons] at this
      rcases this with rfl | hy
      · omega
      · exact h.1 y hy

theorem sortI_sorted : ∀ l : List Int, (sortI l).Pairwise (· ≤ ·)
  | [] => by simp [sortI]
  | x :: r => insI_sorted x (sortI_sorted r)

theorem perm_sorted_eq : ∀ {l k : List Int}, l.Perm k → l.Pairwise (· ≤ ·) → k.Pairwise (· ≤ ·) → l = k
  | [], k, h, _, _ => (List.Perm.nil_eq h)
  | x :: l, k, h, hl, hk => by
    cases k with
    | nil => exact absurd h.symm.nil_eq (by simp)
    | cons y k =>
      rw [List.pairwise_cons] at hl hk
      have hxy : x = y := by
        have h1 : y ∈ x :: l := h.symm.subset (List.mem_cons_self ..)
        have h2 : x ∈ y :: k := h.subset (List.mem_cons_self ..)
        rw [List.mem_cons] at h1 h2
        rcases h1 with h1 | h1
        · exact h1.symm
        · rcases h2 with h2 | h2
          · exact h2
          · have := hl.1 y h1; have := hk.1 x h2; omega
      subst hxy
      rw [perm_sorted_eq (List.Perm.cons_inv h) hl.2 hk.2]

theorem sortI_eq {l k : List Int} (h : l.Perm k) : sortI l = sortI k := perm_sorted_eq ((sortI_perm l).trans (h.trans (sortI_perm k).symm)) (sortI_sorted l) (sortI_sorted k)

theorem oper_call {o : Oper} {c : Go.Call} {sf : Nat} (ho : o.op = .call c) (hc : c.callee = .value (.func sf)) {a : Act} {w : World} (hcall : ∀ (xs : Array Value) (w : World), (Go.callFunc sf xs).run P w = .ok (.enter sf xs) w) {next : Act → World → Prop}
    (h : Calls P sf (c.args.map a.eval) w fun en w' => ∃ x, en = .returned x ∧ next (a.put o.dst x) w') : o.wp P a w next Q := by
  unfold Oper.wp
  have hrun : (Go.execOp a.eval o).run P w = .ok (.enter sf (c.args.map a.eval)) w := by
    have := hcall (c.args.map a.eval) w
    simp [Go.execOp, ho, Go.resolve, hc, Go.Act.eval, Go.Deferred.ofValue, Go.invoke]
    simpa [Go.Act.eval] using this
  rw [hrun]
  simp only [Oper.upon]
  refine Calls.mono h ?_
  rintro en w' ⟨x, rfl, hn⟩
  exact hn

theorem ids_sound {f sf t : Nat} (I : IdsFn P f sf t) (hS : SortOk P sf) (args : List V) (m : M) (hne : pIds t args m ≠ .bad) (ρ : Rho) (w : World) (xs : Array Value) (hv : VRL ρ args xs.toList) (hm : MR ρ m w) :
    FnRuns P f xs w (Res ρ m w (pIds t args m)) := by
  unfold pIds at hne ⊢
  split at hne
  case h_2 => exact absurd rfl hne
  rename_i mB b o
  split at hne
  case h_2 => exact absurd rfl hne
  rename_i r mm hld
  split at hne
  case h_2 => exact absurd rfl hne
  rename_i es hget
  have hW : PtrTOk P W0 := fun t h => by cases h
  have g := I.guards
  obtain ⟨x0, hx0, hv0⟩ := hv.one_v
  have hxs : xs = #[x0] := arr_one hx0
  subst hxs
  unfold FnRuns
  rw [I.call]
  refine Go.calls_of_wp I.func I.body ?_
  rw [I.ntmps]
  generalize ha0 : (⟨#[x0] ++ Array.replicate (21 - (#[x0] : Array Value).size) Go.undef, []⟩ : Act) = a0
  have h0sz : a0.tmps.size = 21 := by rw [← ha0]; simp
  have h0d : a0.defers = [] := by rw [← ha0]
  have h00 : a0.eval (.tmp 0) = x0 := by rw [← ha0]; simp [Go.Act.eval]
  refine Go.wp_seq (Go.wp_region ?_)
  show Go.wpOps P #[I.a0] _ [0] a0 w
  refine wpOps_cons' (o := I.a0) rfl (g _ (by simp)) (wp_value (w' := w) (x := .slice none 0 0) (by simp [Go.execOp, I.A0.1, Go.Act.eval]) ?_)
  rw [I.A0.2]
  simp only [Go.wpOps, Go.Exit.then]
  refine Go.wp_seq (Go.wp_region ?_)
  show Go.wpOps P #[I.a1] _ [0] _ w
  refine wpOps_cons' (o := I.a1) rfl (g _ (by simp)) (wp_value (w' := w) (x := .slice none 0 0) (by simp [Go.execOp, I.A1.1, Go.Act.eval]) ?_)
  rw [I.A1.2]
  simp only [Go.wpOps, Go.Exit.then]
  generalize ha1 : (a0.put (some 2) (.slice none 0 0)).put (some 3) (.slice none 0 0) = a1
  have h1sz : a1.tmps.size = 21 := by rw [← ha1]; simp only [size_put']; exact h0sz
  have h1d : a1.defers = [] := by rw [← ha1]; simp only [put_defers]; exact h0d
  have h10 : a1.eval (.tmp 0) = x0 := by rw [← ha1, eval_put' (by simp only [size_put']; omega), if_neg (by decide), eval_put' (by omega), if_neg (by decide), h00]
  have h13 : a1.eval (.tmp 3) = .slice none 0 0 := by rw [← ha1, eval_put' (by simp only [size_put']; omega), if_pos rfl]
  refine Go.wp_seq (Go.wp_seq (Go.wp_region ?_))
  show Go.wpOps P #[I.b0, I.b1, I.b2, I.b3, I.b4] _ [0, 1, 2, 3, 4] a1 w
  refine wpOps_cons' (o := I.b0) rfl (g _ (by simp)) (wp_value (w' := w) (x := x0) (by simp [Go.execOp, I.B0.1, h10]) ?_)
  rw [I.B0.2]
  have hx0p : ∃ L, ρ b = some L ∧ x0 = .pointer (some ⟨L.blk, L.base + o, none⟩) := by simpa only [VR] using hv0
  obtain ⟨L0, hL0, hx0p⟩ := hx0p
  refine wpOps_cons' (o := I.b1) rfl (g _ (by simp)) (wp_value (w' := w) (x := x0) (by simp only [Go.execOp, I.B1.1]; rw [eval_put' (by omega), if_pos rfl, hx0p]; simp) ?_)
  rw [I.B1.2]
  generalize ha2 : (a1.put (some 5) x0).put (some 6) x0 = a2
  have h2sz : a2.tmps.size = 21 := by rw [← ha2]; simp only [size_put']; exact h1sz
  have h26 : a2.eval (.tmp 6) = x0 := by rw [← ha2, eval_put' (by simp only [size_put']; omega), if_pos rfl]
  refine wpOps_cons' (o := I.b2) rfl (g _ (by simp)) ?_
  have hd2 := evK_sound (P := P) (names := []) (o := I.b2) (a := a2) (ρ := ρ) (m := m) (w := w) W0 (fun _ _ _ => .bad) hW I.B2k rfl (vs := [.ptr b o])
    (by rw [I.B2.1]; simp only [Go.Op.operands, List.map_cons, List.map_nil, h26, VRL]; exact ⟨_, _, rfl, hv0, rfl⟩) hm
  simp only [evK] at hd2
  refine hd2.wp ?_
  intro x7 w1 ρ1 hx7 g1
  rw [I.B2.2]
  refine wpOps_cons' (o := I.b3) rfl (g _ (by simp)) ?_
  have h37 : (a2.put (some 7) x7).eval (.tmp 7) = x7 := by rw [eval_put' (by omega), if_pos rfl]
  have hd3 := evK_sound (P := P) (names := []) (o := I.b3) (a := a2.put (some 7) x7) (ρ := ρ1) (m := m) (w := w1) W0 (fun _ _ _ => .bad) hW I.B3k rfl (vs := [.ptr b (o + 0)])
    (by rw [I.B3.1]; simp only [Go.Op.operands, List.map_cons, List.map_nil, h37, VRL]; exact ⟨_, _, rfl, hx7, rfl⟩) g1.mr
  simp only [evK, Nat.add_zero, hld] at hd3
  have hmm : mm = m := by
    have := hld
    simp only [loadAt] at this
    split at this
    · exact (opt_mem this)
    · cases this
  subst hmm
  refine hd3.wp ?_
  intro x8 w2 ρ2 hx8 g2
  rw [I.B3.2]
  have gA := g1.trans g2
  obtain ⟨Lr, hLr, hx8'⟩ : ∃ Lr, ρ2 r = some Lr ∧ x8 = .map (some Lr.blk) := by simpa only [VR] using hx8
  obtain ⟨ents, clock, hents, hKR, hst⟩ := gA.mr.map2 hLr hget
  have hlr : Lr.blk < w2.heap.size := gA.mr.size _ _ hLr
  refine wpOps_cons' (o := I.b4) rfl (g _ (by simp)) ?_
  have h48 : ((a2.put (some 7) x7).put (some 8) x8).eval (.tmp 8) = x8 := by rw [eval_put' (by simp only [size_put']; omega), if_pos rfl]
  refine wp_value (w' := w2.alloc (.mapIter (some Lr.blk) clock #[] clock)) (x := .pointer (some ⟨w2.heap.size, 0, none⟩)) (by
    simp only [Go.execOp, I.B4.1, h48]
    rw [hx8']
    simp only [Sem.run_bind, Go.run_range_map (P := P) w2 I.tM I.tK I.tE Lr.blk ents clock I.B4m hents, Result.andThen_ok, Sem.run_pure]) ?_
  rw [I.B4.2]
  simp only [Go.wpOps, Go.Exit.then]
  generalize ha5 : ((a2.put (some 7) x7).put (some 8) x8).put (some 9) (.pointer (some ⟨w2.heap.size, 0, none⟩)) = a5
  have h5sz : a5.tmps.size = 21 := by rw [← ha5]; simp only [size_put']; exact h2sz
  have h5d : a5.defers = [] := by rw [← ha5, ← ha2]; simp only [put_defers]; exact h1d
  have h59 : a5.eval (.tmp 9) = .pointer (some ⟨w2.heap.size, 0, none⟩) := by rw [← ha5, eval_put' (by simp only [size_put']; omega), if_pos rfl]
  have h53 : a5.eval (.tmp 3) = .slice none 0 0 := by
    rw [← ha5, eval_put' (by simp only [size_put']; omega), if_neg (by decide), eval_put' (by simp only [size_put']; omega), if_neg (by decide), eval_put' (by omega), if_neg (by decide), ← ha2,
      eval_put' (by simp only [size_put']; omega), if_neg (by decide), eval_put' (by omega), if_neg (by decide), h13]
  -- what is known of the keys
  have hks : ∃ ks, keysI es = some ks ∧ ks.length ≤ 12 := by
    cases hk : keysI es with
    | none => simp [hk] at hne
    | some ks =>
      refine ⟨ks, rfl, ?_⟩
      cases ks with
      | nil => simp
      | cons k r =>
        simp only [hk] at hne
        cases hb : Nat.ble (k :: r).length 12 with
        | true => exact Nat.le_of_ble_eq_true hb
        | false => rw [hb] at hne; exact absurd rfl hne
  obtain ⟨ks, hks, hlen⟩ := hks
  obtain ⟨hkeys, hkey⟩ := keys_KR hKR hks
  have hsize : ents.size ≤ 12 := by
    have : ents.toList.length = ks.length := by rw [← hkeys, List.length_map]
    rw [← Array.length_toList]; omega
  have halloc : Still w2 (w2.alloc (.mapIter (some Lr.blk) clock #[] clock)) w2.heap.size := ⟨rfl, rfl, rfl, by show _ ≤ (w2.heap.push _).size; simp, fun k hk => Go.heap_alloc_old w2 _ hk⟩
  refine loop_sound I (r := w2.heap.size) hlr hst hkey hsize h5sz h59 (Go.heap_alloc_new w2 _) (by rw [Go.heap_alloc_old w2 _ hlr]; exact hents) (ρ := fun _ => none) (m := ⟨.nil, 0⟩) (x := .slice none 0 0)
    ⟨⟨fun _ _ h => (by cases h), fun _ _ h => (by cases h), fun _ _ _ _ h => (by cases h), fun _ _ h => (by cases h)⟩, fun _ _ h => (by cases h), by show _ ≤ (w2.heap.push _).size; simp, .inl ⟨rfl, rfl⟩⟩ h53 ?_
  intro a6 w6 ρ6 m6 x6 ks6 t1 t2 t3 t4 t5 t6
  rw [hkeys] at t5
  have hst6 : Still w2 w6 w2.heap.size := halloc.trans t6
  have hlen6 : ks6.length ≤ 12 := by rw [t5.length_eq]; exact hlen
  refine Go.wp_seq (Go.wp_region ?_)
  show Go.wpOps P #[I.g0, I.g1] _ [0, 1] a6 w6
  refine wpOps_cons' (o := I.g0) rfl (g _ (by simp)) (wp_value (w' := w6) (x := x6) (by simp [Go.execOp, I.G0.1, t4]) ?_)
  rw [I.G0.2]
  refine wpOps_cons' (o := I.g1) rfl (g _ (by simp)) (oper_call I.G1.1 I.G1c.1 hS.call ?_)
  have hargs : I.kc.args.map (a6.put (some 18) x6).eval = #[x6] := by
    rw [I.G1c.2]
    have : (a6.put (some 18) x6).eval (.tmp 18) = x6 := by rw [eval_put' (by omega), if_pos rfl]
    simp [this]
  rw [hargs]
  -- what comes behind the sort
  have behind : ∀ w7 : World, (∃ ρ', VR ρ' (match ks6 with | [] => .snil | _ => .sl mm.n 0 ks6.length ks6.length 1 false) x6 ∧
        Good ρ mm w ρ' (match ks6 with | [] => mm | _ => mm.new (.cells ((sortI ks6).map (.int .i64 ·)) .rw t)) w7) →
      Go.wpOps P #[I.g0, I.g1] (Exit.then ((Code.seq (.region I.i7 #[I.h0, I.h1] false) .ret).wp P (Go.bodyPost P I.F (Res ρ mm w (match keysI es with | some [] => .ok .snil mm | some ks => bif Nat.ble ks.length 12 then .ok (.sl mm.n 0 ks.length ks.length 1 false) (mm.new (.cells ((sortI ks).map (.int .i64 ·)) .rw t)) else .bad | none => .bad)))) (Go.bodyPost P I.F (Res ρ mm w (match keysI es with | some [] => .ok .snil mm | some ks => bif Nat.ble ks.length 12 then .ok (.sl mm.n 0 ks.length ks.length 1 false) (mm.new (.cells ((sortI ks).map (.int .i64 ·)) .rw t)) else .bad | none => .bad)))) [] ((a6.put (some 18) x6).put I.g1.dst (.tuple #[])) w7 := by
    rintro w7 ⟨ρ', hvr, hgd⟩
    rw [I.G1.2]
    simp only [Go.wpOps, Go.Exit.then]
    refine Go.wp_seq (Go.wp_region ?_)
    show Go.wpOps P #[I.h0, I.h1] _ [0, 1] _ w7
    have h73 : ((a6.put (some 18) x6).put (some 19) (.tuple #[])).eval (.tmp 3) = x6 := by
      rw [eval_put' (by simp only [size_put']; omega), if_neg (by decide), eval_put' (by omega), if_neg (by decide), t4]
    refine wpOps_cons' (o := I.h0) rfl (g _ (by simp)) (wp_value (w' := w7) (x := x6) (by simp [Go.execOp, I.H0.1, h73]) ?_)
    rw [I.H0.2]
    refine wpOps_cons' (o := I.h1) rfl (g _ (by simp)) (wp_value (w' := w7) (x := x6) (by simp only [Go.execOp, I.H1.1, Sem.run_pure]; rw [eval_put' (by simp only [size_put']; omega), if_pos rfl]) ?_)
    rw [I.H1.2]
    simp only [Go.wpOps, Go.Exit.then]
    refine Go.wp_ret ⟨by simp only [put_defers]; rw [t2]; exact h5d, x6, ?_, ?_⟩
    · have h2 : ((((a6.put (some 18) x6).put (some 19) (.tuple #[])).put (some 20) x6).put (some 2) x6).eval (.tmp 2) = x6 := by rw [eval_put' (by simp only [size_put']; omega), if_pos rfl]
      simp only [Go.Act.eval, Array.getD_eq_getD_getElem?] at h2
      simp [Go.results, I.results, h2]
    · rw [hks]
      cases ks with
      | nil =>
        have : ks6 = [] := List.Perm.eq_nil t5
        subst this
        exact ⟨ρ', hvr, hgd⟩
      | cons k r =>
        have hb : Nat.ble (k :: r).length 12 = true := Nat.ble_eq_true_of_le hlen
        simp only [hb, cond_true]
        cases ks6 with
        | nil => exact absurd t5.symm.eq_nil (by simp)
        | cons k6 r6 =>
          rw [← sortI_eq t5, ← t5.length_eq]
          exact ⟨ρ', hvr, hgd⟩
  have quiet : ∀ w7, Still w2 w7 w2.heap.size → Good ρ2 mm w2 ρ2 mm w7 := fun w7 h => gA.mr.quiet h.size (fun k hk => h.old k hk) h.os h.tape h.output
  rcases t3.val with ⟨rfl, rfl⟩ | ⟨b6, hne6, hb6, hv6⟩
  · refine Calls.mono (hS.nil w6) ?_
    rintro en w7 ⟨rfl, hs7⟩
    refine ⟨_, rfl, behind w7 ⟨ρ2, by simp [VR], gA.trans (quiet w7 (hst6.trans ⟨hs7.os, hs7.tape, hs7.output, hs7.size, fun k hk => hs7.old k (by have := hst6.size; omega)⟩))⟩⟩
  · obtain ⟨L6, c6, p6, e1, e2, e3, e4, e5, e6, e7⟩ : ∃ L c' p, ρ6 b6 = some L ∧ x6 = .slice (some p) ks6.length c' ∧ (c' ≠ 0 → p = ⟨L.blk, L.base + 0, none⟩) ∧ ks6.length ≤ ks6.length ∧ ks6.length ≤ c' ∧ (false = true → c' = ks6.length) ∧ (false = false → L.base + 0 + c' * 1 = L.endd) := by
      simpa only [VR] using hv6
    have hpos : 0 < ks6.length := List.length_pos_iff.2 hne6
    have hp6 := e3 (by omega)
    rw [Nat.add_zero] at hp6
    obtain ⟨arr, et, fr, q1, q2, q3, q4, q5, q6⟩ := t3.mr.cells e1 hb6
    have hfr := q5 rfl
    subst hfr
    obtain ⟨rfl, hend⟩ := q4 (by simp)
    rw [List.length_map] at q2
    have hbase := t3.only b6 L6 e1
    have hlt6 := t3.mr.size b6 L6 e1
    have hcell : ∀ (i : Nat) (z : Int), ks6[i]? = some z → arr[L6.base + i]? = some (.int .i64 z) := fun i z hz => by
      obtain ⟨x', k1, k2, k3⟩ := q3 i (.int .i64 z) (by rw [List.getElem?_map, hz]; rfl)
      rw [k1, vr_int k2]
    have hcall := hS.some L6.blk L6.base c6 ks6 w6 arr et q1 q2 hlen6 hcell
    rw [e2, hp6]
    refine Calls.mono hcall ?_
    rintro en w7 ⟨rfl, hs7, hold7, arr', n1, n2, n3⟩
    rw [← hp6, ← e2]
    have hst7 : Still w2 w7 w2.heap.size := hst6.trans ⟨hs7.os, hs7.tape, hs7.output, hs7.size, fun k hk => hold7 k (by have := hst6.size; omega) (by omega)⟩
    refine ⟨_, rfl, behind w7 ⟨ρ2.ext mm.n L6, ?_, ?_⟩⟩
    · cases ks6 with
      | nil => exact absurd rfl hne6
      | cons k6 r6 =>
        simp only [VR]
        exact ⟨L6, c6, p6, Rho.ext_same _ _ _, e2, fun h => by rw [e3 h], e4, e5, fun h => (by cases h), fun _ => e7 rfl⟩
    · have hq := quiet w7 hst7
      have hblk7 : L6.blk < w7.heap.size := Nat.lt_of_lt_of_le hlt6 hs7.size
      have hmr : MR (ρ2.ext mm.n L6) (mm.new (.cells ((sortI ks6).map (.int .i64 ·)) .rw et)) w7 := by
        refine hq.mr.adopt (fun c K hc => ?_) hblk7 ?_
        · have := gA.mr.size c K hc
          omega
        · simp only [BR]
          refine ⟨arr', et, (0, 0), n1, by rw [List.length_map, (sortI_perm ks6).length_eq, n2]; exact q2, fun i x hx => ?_, fun _ => ⟨rfl, by rw [hend, n2]⟩, fun _ => rfl, fun h => by cases h⟩
          rw [List.getElem?_map] at hx
          cases hz : (sortI ks6)[i]? with
          | none => simp [hz] at hx
          | some z =>
            simp only [hz, Option.map_some, Option.some.injEq] at hx
            subst hx
            exact ⟨_, n3 i z hz, by simp only [VR], rfl⟩
      have hgood : Good ρ2 mm w2 (ρ2.ext mm.n L6) (mm.new (.cells ((sortI ks6).map (.int .i64 ·)) .rw et)) w7 := by
        refine ⟨hmr, Sub.ext _ gA.mr.fresh, fun c h1 h2 => ?_, Nat.le_succ _, hq.os, hq.tape, hq.output, hq.hsize, hq.frame, ?_⟩
        · by_cases e : c = mm.n
          · omega
          · rw [Rho.ext_ne _ _ e] at h2; exact absurd h1 h2
        · rintro k ⟨c, K, hc, hoc, rfl⟩
          by_cases e : c = mm.n
          · subst e
            rw [Rho.ext_same] at hc
            injection hc with hc
            subst hc
            exact .inr (by omega)
          · rw [Rho.ext_ne _ _ e] at hc
            exact .inl ⟨c, K, hc, (owns_new e).1 hoc, rfl⟩
      have := gA.trans hgood
      cases ks6 with
      | nil => exact absurd rfl hne6
      | cons k6 r6 => exact this
end
end Mu
