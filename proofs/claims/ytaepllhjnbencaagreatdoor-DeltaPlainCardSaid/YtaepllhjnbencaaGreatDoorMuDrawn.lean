/- A region without an order of its own: whatever the order is, what comes out is what the text's order tells. -/
import Derived.Test.YtaepllhjnbencaaGreatDoorMuStatic
set_option linter.unusedVariables false
set_option linter.unusedSimpArgs false
set_option linter.unusedSectionVars false
set_option linter.deprecated false
namespace Mu
open Go (Value World Addr Program IntKind Sem Result Obj TypeDesc TypeInfo Operand Oper Ending Calls Act Exit Code)

/-- blocks are added that stand for nothing yet -/
inductive More : M → M → Prop
  | refl (m : M) : More m m
  | new {m m' : M} (h : More m m') (x : Blk) : More m (m'.new x)

theorem More.n {m m' : M} (h : More m m') : m.n ≤ m'.n := by
  induction h with
  | refl => exact Nat.le_refl _
  | new _ x ih => exact Nat.le_succ_of_le ih

theorem More.trans {a b c : M} (h : More a b) (k : More b c) : More a c := by
  induction k with
  | refl => exact h
  | new _ x ih => exact .new ih x

theorem Good.more1 {ρ ρ' : Rho} {m m' : M} {w w' : World} (h : Good ρ m w ρ' m' w') (x : Blk) : Good ρ m w ρ' (m'.new x) w' := by
  refine ⟨h.mr.more x, h.sub, h.new, Nat.le_succ_of_le h.n, h.os, h.tape, h.output, h.hsize, h.frame, ?_⟩
  rintro r ⟨b, L, hb, ho, e⟩
  have hne : b ≠ m'.n := fun e => by have := h.mr.dom b L hb; omega
  exact h.img r ⟨b, L, hb, (owns_new hne).1 ho, e⟩

theorem Good.more {ρ ρ' : Rho} {m m' m'' : M} {w w' : World} (h : Good ρ m w ρ' m' w') (hm : More m' m'') : Good ρ m w ρ' m'' w' := by
  induction hm with
  | refl => exact h
  | new _ x ih => exact ih.more1 x

section
variable {P : Program} {names : List String} {W : Prg} {call : Nat → List V → M → R} {nt : Nat} {ops : Array Oper} {l : List DOp} {infs : List Inf} {s0 : St}

structure Sit (P : Program) (names : List String) (W : Prg) (call : Nat → List V → M → R) (nt : Nat) (ops : Array Oper) (l : List DOp) (infs : List Inf) (s0 : St) : Prop where
  g1 : Good1 infs
  map : infs.map (·.d) = l
  size : ops.size = l.length
  tr : ∀ (i : Nat) (d : DOp), nth l i = some d → ∃ o, ops[i]? = some o ∧ trOp P names nt ops.toList o = some d.op ∧ binding o = d.after
  idxs : ∀ i, i < l.length → ∃ d, nth l i = some d
  lt : ∀ d ∈ l, d.idx < l.length
  h0 : s0.h = []
  facts : ∀ (p : Nat) (d : DOp), l[p]? = some d → DFact W call (run W call l s0) d (run W call (l.take p) s0)

/-- the state ahead of the p-th operation -/
abbrev at_ (W : Prg) (call : Nat → List V → M → R) (l : List DOp) (s0 : St) (p : Nat) : St := run W call (l.take p) s0

theorem run_append (x y : List DOp) (s : St) : run W call (x ++ y) s = run W call y (run W call x s) := by simp [run]

theorem at_succ {p : Nat} {d : DOp} (h : l[p]? = some d) : at_ W call l s0 (p + 1) = after1 W call d (at_ W call l s0 p) := by
  unfold at_
  rw [List.take_succ, h, run_append]
  rfl

theorem at_len : at_ W call l s0 l.length = run W call l s0 := by unfold at_; rw [List.take_length]

theorem run_cnt : ∀ (l : List DOp) (s : St), (run W call l s).h.length = s.h.length + cnt l
  | [], s => by simp [run, cnt]
  | d :: l, s => by
    have := run_cnt l (after1 W call d s)
    simp only [run, List.foldl_cons] at this ⊢
    rw [this]
    simp only [after1, cnt, List.filter_cons]
    split <;> simp <;> omega

theorem cnt_take_le {p q : Nat} (h : p ≤ q) : cnt (l.take p) ≤ cnt (l.take q) := by
  have : l.take q = l.take p ++ (l.take q).drop p := by
    have := (List.take_append_drop p (l.take q)).symm
    rwa [List.take_take, Nat.min_eq_left h] at this
  rw [this, cnt, cnt, List.filter_append, List.length_append]
  omega

theorem cnt_take_eff {q : Nat} {d : DOp} (h : l[q]? = some d) (he : d.cls.isEff = true) : cnt (l.take (q + 1)) = cnt (l.take q) + 1 := by
  rw [List.take_succ, h, cnt, cnt, List.filter_append, List.length_append]
  simp [he]

theorem cnt_take_not {q : Nat} {d : DOp} (h : l[q]? = some d) (he : d.cls.isEff = false) : cnt (l.take (q + 1)) = cnt (l.take q) := by
  rw [List.take_succ, h, cnt, cnt, List.filter_append, List.length_append]
  simp [he]

namespace Sit
variable (S : Sit P names W call nt ops l infs s0)
include S

theorem hcnt (p : Nat) : (at_ W call l s0 p).h.length = cnt (l.take p) := by
  unfold at_; rw [run_cnt, S.h0]; simp

theorem hfin : (run W call l s0).h.length = cnt l := by rw [run_cnt, S.h0]; simp

theorem inf {p : Nat} {d : DOp} (h : l[p]? = some d) : ∃ i, infs[p]? = some i ∧ i.d = d ∧ i.f = cnt (l.take p) := by
  have h' := h
  rw [← S.map, List.getElem?_map] at h'
  cases hi : infs[p]? with
  | none => simp [hi] at h'
  | some i =>
    simp only [hi, Option.map_some, Option.some.injEq] at h'
    exact ⟨i, rfl, h', by rw [S.g1.f p i hi, S.map]⟩

theorem ofInf {p : Nat} {i : Inf} (h : infs[p]? = some i) : l[p]? = some i.d := by rw [← S.map, List.getElem?_map, h]; rfl

theorem eff_lt {q p : Nat} {d : DOp} (h : l[q]? = some d) (he : d.cls.isEff = true) (hq : q < p) : cnt (l.take q) < cnt (l.take p) := by
  have h1 := cnt_take_eff h he
  have h2 := cnt_take_le (l := l) (show q + 1 ≤ p by omega)
  omega

theorem exists_eff : ∀ (p : Nat) (k : Nat), k < cnt (l.take p) → ∃ q d, q < p ∧ l[q]? = some d ∧ d.cls.isEff = true ∧ cnt (l.take q) = k
  | 0, k, h => by simp [cnt] at h
  | p + 1, k, h => by
    by_cases hk : k < cnt (l.take p)
    · obtain ⟨q, d, h1, h2⟩ := exists_eff p k hk
      exact ⟨q, d, Nat.lt_succ_of_lt h1, h2⟩
    · cases hp : l[p]? with
      | none =>
        rw [List.take_succ, hp] at h
        simp at h
        omega
      | some d =>
        by_cases he : d.cls.isEff = true
        · have := cnt_take_eff hp he
          exact ⟨p, d, Nat.lt_succ_self _, hp, he, by omega⟩
        · have := cnt_take_not hp (by simpa using he)
          omega

theorem fin_split {q : Nat} {d : DOp} (h : l[q]? = some d) : run W call l s0 = run W call (l.drop (q + 1)) (after1 W call d (at_ W call l s0 q)) := by
  rw [← at_succ h]
  unfold at_
  rw [← run_append, List.take_append_drop]

theorem memAt_eff {q : Nat} {d : DOp} (h : l[q]? = some d) (he : d.cls.isEff = true) : memAt (run W call l s0) (cnt (l.take q)) = (at_ W call l s0 q).m := by
  rw [S.fin_split h, ← S.hcnt]
  exact Mu.memAt_eff W call _ d _ he

theorem mem_step {p : Nat} {d : DOp} (h : l[p]? = some d) (he : d.cls.isEff = false) : More (at_ W call l s0 p).m (at_ W call l s0 (p + 1)).m := by
  rw [at_succ h]
  simp only [after1, memD]
  split
  · split
    · rename_i hc; simp [hc, Cls.isEff] at he
    · split
      · exact .new (.refl _) _
      · exact .refl _
    · exact .refl _
  · exact .refl _

theorem moreS {p q : Nat} (hpq : p ≤ q) (hc : cnt (l.take p) = cnt (l.take q)) : More (at_ W call l s0 p).m (at_ W call l s0 q).m := by
  induction q with
  | zero =>
    have : p = 0 := by omega
    subst this
    exact .refl _
  | succ q ih =>
    by_cases e : p = q + 1
    · subst e; exact .refl _
    · have h1 := cnt_take_le (l := l) (show p ≤ q by omega)
      have h2 := cnt_take_le (l := l) (show q ≤ q + 1 by omega)
      have ih := ih (by omega) (by omega)
      cases hq : l[q]? with
      | none =>
        have : at_ W call l s0 (q + 1) = at_ W call l s0 q := by
          unfold at_
          rw [List.take_succ, hq]; simp
        rw [this]; exact ih
      | some d =>
        have he : d.cls.isEff = false := by
          cases he : d.cls.isEff with
          | false => rfl
          | true => have := cnt_take_eff hq he; omega
        exact ih.trans (S.mem_step hq he)

theorem memAt_of (p : Nat) (hp : p ≤ l.length) : More (at_ W call l s0 p).m (memAt (run W call l s0) (cnt (l.take p))) := by
  by_cases hN : cnt (l.take p) < cnt l
  · have : cnt l = cnt (l.take l.length) := by rw [List.take_length]
    obtain ⟨q, d, h1, h2, h3, h4⟩ := S.exists_eff l.length (cnt (l.take p)) (by omega)
    rw [← h4, S.memAt_eff h2 h3]
    have hpq : p ≤ q := by
      rcases Nat.lt_or_ge q p with h | h
      · have := S.eff_lt h2 h3 h; omega
      · exact h
    exact S.moreS hpq h4.symm
  · have h1 := cnt_take_le (l := l) hp
    rw [List.take_length] at h1
    have h2 : cnt (l.take p) = cnt l := by omega
    rw [h2, ← S.hfin, memAt_fin, ← at_len]
    exact S.moreS hp (by rw [List.take_length]; exact h2)
end Sit

def on (listed : Array Bool) (i : Nat) : Bool := listed.getD i false

theorem on_set {listed : Array Bool} {i j : Nat} (hi : i < listed.size) : on (listed.setIfInBounds i true) j = if i = j then true else on listed j := by
  unfold on
  simp only [Array.getD_eq_getD_getElem?]
  by_cases e : i = j
  · subst e
    rw [if_pos rfl, Array.getElem?_setIfInBounds_self_of_lt hi]
    rfl
  · rw [if_neg e, Array.getElem?_setIfInBounds_ne e]

structure Inv (W : Prg) (call : Nat → List V → M → R) (nt : Nat) (l : List DOp) (s0 : St) (ρ0 : Rho) (w0 : World) (a0 : Act) (listed : Array Bool) (a : Act) (w : World) (ρ : Rho) (f : Nat) : Prop where
  size : listed.size = l.length
  down : ∀ (p : Nat) (d : DOp), l[p]? = some d → on listed d.idx = true → ∀ j ∈ d.after, on listed j = true
  fle : f ≤ cnt l
  eff : ∀ (p : Nat) (d : DOp), l[p]? = some d → d.cls.isEff = true → (on listed d.idx = true ↔ cnt (l.take p) < f)
  good : Good ρ0 s0.m w0 ρ (memAt (run W call l s0) f) w
  env : ∀ (t p : Nat), p ≤ l.length → (∀ (q : Nat) (d : DOp), q < p → l[q]? = some d → d.op.dst = some (key t) → on listed d.idx = true) →
    (∀ (q : Nat) (d : DOp), p ≤ q → l[q]? = some d → d.op.dst = some (key t) → on listed d.idx = false) →
    ∀ v, (at_ W call l s0 p).e.get (key t) = some v → VR ρ v (a.tmps.getD t Go.undef)
  tsize : a.tmps.size = nt
  defers : a.defers = a0.defers
  allocs : ∀ (p : Nat) (d : DOp) (hi : Nat), l[p]? = some d → d.cls = .alloc hi → wanted (at_ W call l s0 p).e d.op.guard = some true → on listed d.idx = false → cnt (l.take p) ≤ f →
    ρ (at_ W call l s0 p).m.n = none ∧ (at_ W call l s0 p).m.n < (memAt (run W call l s0) f).n
  mono : ∀ p q, p ≤ q → q ≤ l.length → cnt (l.take q) ≤ f → (at_ W call l s0 p).m.n ≤ (at_ W call l s0 q).m.n

variable {ρ0 : Rho} {w0 : World} {a0 : Act} {listed : Array Bool} {a : Act} {w : World} {ρ : Rho} {f : Nat}

namespace Inv
variable (S : Sit P names W call nt ops l infs s0) (I : Inv W call nt l s0 ρ0 w0 a0 listed a w ρ f)
include S I

/-- what comes ahead of what is listed is listed -/
theorem bef : ∀ (p : Nat) (i : Inf), infs[p]? = some i → (on listed i.d.idx = true ∨ ∀ x ∈ i.d.after, on listed x = true) → ∀ x ∈ i.b, on listed x = true := by
  intro p
  induction p using Nat.strongRecOn with
  | _ p ih =>
    intro i hi ho x hx
    have ha : ∀ x ∈ i.d.after, on listed x = true := ho.elim (fun h => I.down p i.d (S.ofInf hi) h) id
    rcases S.g1.bef p i hi x hx with h | ⟨q, j, h1, h2, h3, h4⟩
    · exact ha x h
    · exact ih q h1 j h2 (.inl (ha _ h3)) x h4

/-- who comes behind what is not listed is not listed -/
theorem aft {p q : Nat} {i j : Inf} (hi : infs[p]? = some i) (hj : infs[q]? = some j) (hp : on listed i.d.idx = false) (hb : i.d.idx ∈ j.b) : on listed j.d.idx = false := by
  cases h : on listed j.d.idx with
  | false => rfl
  | true => have := bef S I q j hj (.inl h) _ hb; rw [hp] at this; cases this

/-- an operand of one that is ready -/
theorem operand {p : Nat} {i : Inf} (hi : infs[p]? = some i) (hr : ∀ x ∈ i.d.after, on listed x = true) (hn : on listed i.d.idx = false) {t : Nat} (ht : key t ∈ useP i.d) {v : V}
    (hv : (at_ W call l s0 p).e.get (key t) = some v) : VR ρ v (a.tmps.getD t Go.undef) := by
  have hp : p < l.length := (List.getElem?_eq_some_iff.1 (S.ofInf hi)).1
  refine I.env t p (by omega) (fun q d hq hd hdst => ?_) (fun q d hq hd hdst => ?_) v hv
  · obtain ⟨j, hj, rfl, _⟩ := S.inf hd
    refine bef S I p i hi (.inr hr) _ (S.g1.ord q p i j hq hj hi ?_)
    simp [need, conflict, hdst, memP_iff.2 ht]
  · by_cases e : q = p
    · subst e
      rw [S.ofInf hi] at hd
      injection hd with hd
      rw [← hd]; exact hn
    · obtain ⟨j, hj, rfl, _⟩ := S.inf hd
      refine aft S I hi hj hn (S.g1.ord p q j i (by omega) hi hj ?_)
      simp [need, conflict, hdst, memP_iff.2 ht]

theorem ev_rel {p : Nat} {i : Inf} (hi : infs[p]? = some i) (hr : ∀ x ∈ i.d.after, on listed x = true) (hn : on listed i.d.idx = false) {t : Nat} (ht : key t ∈ useP i.d) :
    VR ρ (ev (at_ W call l s0 p).e (.tmp (key t))) (a.eval (.tmp t)) := by
  simp only [ev]
  cases hg : (at_ W call l s0 p).e.get (key t) with
  | none => simp only [VR]
  | some v => exact operand S I hi hr hn ht hg

theorem mem_argTmps {p : Mu.P} {y : List Opd} : p ∈ argTmps y ↔ Opd.tmp p ∈ y := by
  induction y with
  | nil => simp [argTmps]
  | cons x r ih => cases x <;> simp [argTmps, ih]

theorem evs_rel {p : Nat} {i : Inf} (hi : infs[p]? = some i) (hr : ∀ x ∈ i.d.after, on listed x = true) (hn : on listed i.d.idx = false) :
    ∀ {xs : List Operand} {ys : List Opd}, (∀ y ∈ ys, y ∈ i.d.op.args) → trOs xs = some ys → VRL ρ (evs (at_ W call l s0 p).e ys) (xs.map a.eval)
  | [], ys, _, hx => by simp [trOs] at hx; subst hx; simp [VRL, evs]
  | x :: r, ys, hy, hx => by
    simp only [trOs] at hx
    split at hx
    case h_2 => cases hx
    rename_i y l' h1 h2
    injection hx with hx
    subst hx
    simp only [evs, List.map_cons, VRL]
    refine ⟨_, _, rfl, ?_, evs_rel hi hr hn (fun z hz => hy z (List.mem_cons_of_mem _ hz)) h2⟩
    cases x with
    | tmp t =>
      simp only [trO, Option.some.injEq] at h1
      subst h1
      refine ev_rel S I hi hr hn ?_
      have : key t ∈ argTmps i.d.op.args := (mem_argTmps S I).2 (hy _ (List.mem_cons_self ..))
      unfold useP
      split
      · exact List.mem_cons_of_mem _ this
      · exact this
    | const v =>
      simp only [trO, Option.map_eq_some_iff] at h1
      obtain ⟨c, h3, rfl⟩ := h1
      exact trC_sound h3
    | func g =>
      simp only [trO, Option.some.injEq] at h1
      subst h1
      simp [ev, VR, VRL, Go.Act.eval]
    | global g => simp [trO] at h1

/-- the value that was put stays until the next one that writes there -/
theorem kept {p : Nat} {i : Inf} (hi : infs[p]? = some i) {t : Nat} (hdst : i.d.op.dst = some (key t)) (hn : on listed i.d.idx = false) {p' : Nat} (hp' : p < p')
    (hall : ∀ (q : Nat) (d : DOp), q < p' → q ≠ p → l[q]? = some d → d.op.dst = some (key t) → on listed d.idx = true) (hle : p' ≤ l.length) :
    (at_ W call l s0 p').e.get (key t) = some (valD W call i.d (at_ W call l s0 p)) := by
  induction p' with
  | zero => omega
  | succ q ih =>
    by_cases e : q = p
    · subst e
      rw [at_succ (S.ofInf hi)]
      simp only [after1, hdst, putD]
      exact T.get_set_same _ _ _
    · have ih := ih (by omega) (fun q' d hq => hall q' d (by omega)) (by omega)
      have hq : q < l.length := by omega
      have hd : l[q]? = some l[q] := List.getElem?_eq_getElem hq
      rw [at_succ hd]
      simp only [after1]
      cases hw : (l[q]).op.dst with
      | none => exact ih
      | some u =>
        by_cases eu : u = key t
        · subst eu
          obtain ⟨j, hj, hjd, _⟩ := S.inf hd
          have h1 := hall q _ (by omega) e hd hw
          have h2 := aft S I hi hj hn (S.g1.ord p q j i (by omega) hi hj (by simp [need, conflict, hdst, hjd, dstIs, hw, Mu.P.beq_iff.2 rfl]))
          rw [hjd, h1] at h2
          cases h2
        · simp only [putD]
          rw [T.get_set_ne _ _ _ _ eu]
          exact ih

theorem uniq {p q : Nat} {i : Inf} (hi : infs[p]? = some i) {d : DOp} (hd : l[q]? = some d) (hne : q ≠ p) : i.d.idx ≠ d.idx := by
  obtain ⟨j, hj, rfl, _⟩ := S.inf hd
  rcases Nat.lt_or_gt_of_ne hne with h | h
  · exact (S.g1.uniq q p i j h hj hi).symm
  · exact S.g1.uniq p q j i h hi hj

theorem step {p : Nat} {i : Inf} (hi : infs[p]? = some i) (hr : ∀ x ∈ i.d.after, on listed x = true) (hn : on listed i.d.idx = false) {o : Oper} (ho : trOp P names nt ops.toList o = some i.d.op)
    {x : Value} {w' : World} {ρ' : Rho} {f' : Nat} (hx : VR ρ' (valD W call i.d (at_ W call l s0 p)) x) (hsub : Sub ρ ρ') (hf' : f' = if i.d.cls.isEff = true then f + 1 else f)
    (hfe : i.d.cls.isEff = true → f = cnt (l.take p)) (hgood : Good ρ0 s0.m w0 ρ' (memAt (run W call l s0) f') w')
    (hallocs : ∀ (q : Nat) (d : DOp) (hi : Nat), q ≠ p → l[q]? = some d → d.cls = .alloc hi → wanted (at_ W call l s0 q).e d.op.guard = some true → on listed d.idx = false → cnt (l.take q) ≤ f' →
      ρ' (at_ W call l s0 q).m.n = none ∧ (at_ W call l s0 q).m.n < (memAt (run W call l s0) f').n)
    (hmono : ∀ p q, p ≤ q → q ≤ l.length → cnt (l.take q) ≤ f' → (at_ W call l s0 p).m.n ≤ (at_ W call l s0 q).m.n) :
    Inv W call nt l s0 ρ0 w0 a0 (listed.setIfInBounds i.d.idx true) (a.put o.dst x) w' ρ' f' := by
  have hd := S.ofInf hi
  have hp : p < l.length := (List.getElem?_eq_some_iff.1 hd).1
  have hlt : i.d.idx < listed.size := by rw [I.size]; exact S.lt _ (List.mem_of_getElem? hd)
  have hon : ∀ (q : Nat) (d : DOp), l[q]? = some d → q ≠ p → on (listed.setIfInBounds i.d.idx true) d.idx = on listed d.idx := fun q d hq hne => by
    rw [on_set hlt, if_neg (uniq S I hi hq hne)]
  have honp : on (listed.setIfInBounds i.d.idx true) i.d.idx = true := by rw [on_set hlt, if_pos rfl]
  have hup : ∀ j, on listed j = true → on (listed.setIfInBounds i.d.idx true) j = true := fun j hj => by
    rw [on_set hlt]; split
    · rfl
    · exact hj
  obtain ⟨_, hdst, _⟩ := trOp_inv ho
  refine ⟨by simp [I.size], ?_, ?_, ?_, hgood, ?_, ?_, ?_, ?_, hmono⟩
  · intro q d hq ho j hj
    by_cases e : q = p
    · subst e
      rw [hd] at hq
      injection hq with hq
      exact hup j (hr j (by rw [hq]; exact hj))
    · rw [hon q d hq e] at ho
      exact hup j (I.down q d hq ho j hj)
  · subst hf'
    split
    · rename_i he
      rw [hfe he]
      have h1 := cnt_take_eff hd he
      have h2 := cnt_take_le (l := l) (show p + 1 ≤ l.length by omega)
      rw [List.take_length] at h2
      omega
    · exact I.fle
  · intro q d hq he
    by_cases e : q = p
    · subst e
      rw [hd] at hq
      injection hq with hq
      subst hq
      rw [hf', if_pos he, hfe he]
      exact ⟨fun _ => Nat.lt_succ_self _, fun _ => honp⟩
    · rw [hon q d hq e, I.eff q d hq he, hf']
      split
      · rename_i hep
        have hf := hfe hep
        have : cnt (l.take q) ≠ f := by
          rcases Nat.lt_or_gt_of_ne e with h | h
          · have := S.eff_lt hq he h; omega
          · have := S.eff_lt hd hep h; omega
        omega
      · exact Iff.rfl
  · intro t p' hp' hw hnw v hv
    by_cases ht : o.dst = some t
    · rw [ht] at hdst
      simp only [trD] at hdst
      split at hdst
      case isFalse => cases hdst
      rename_i htn
      injection hdst with hdst
      have htn : t < nt := by simpa using htn
      have hpp : p < p' := by
        rcases Nat.lt_or_ge p p' with h | h
        · exact h
        · have := hnw p _ h hd hdst.symm; rw [honp] at this; cases this
      have hk := kept S I hi hdst.symm hn hpp (fun q d hq hne hqd hdd => by
        have := hw q d hq hqd hdd
        rwa [hon q d hqd hne] at this) hp'
      rw [hk] at hv
      injection hv with hv
      subst hv
      rw [ht]
      simp only [Go.Act.put, Array.getD_eq_getD_getElem?]
      rw [Array.getElem?_setIfInBounds_self_of_lt (by rw [I.tsize]; exact htn)]
      exact hx
    · have hnd : i.d.op.dst ≠ some (key t) := by
        intro h
        rw [h] at hdst
        cases ho : o.dst with
        | none => rw [ho] at hdst; simp [trD] at hdst
        | some t' =>
          rw [ho] at hdst
          simp only [trD] at hdst
          split at hdst
          · injection hdst with hdst
            injection hdst with hdst
            have := key_inj hdst
            subst this
            exact ht ho
          · cases hdst
      have htm : (a.put o.dst x).tmps.getD t Go.undef = a.tmps.getD t Go.undef := by
        cases ho : o.dst with
        | none => rfl
        | some t' =>
          have hne : t' ≠ t := fun e => ht (by rw [ho, e])
          simp only [Go.Act.put, Array.getD_eq_getD_getElem?]
          rw [Array.getElem?_setIfInBounds_ne hne]
      rw [htm]
      refine (I.env t p' hp' (fun q d hq hqd hdd => ?_) (fun q d hq hqd hdd => ?_) v hv).mono hsub
      · by_cases e : q = p
        · subst e
          rw [hd] at hqd
          injection hqd with hqd
          exact absurd (by rw [hqd]; exact hdd) hnd
        · have := hw q d hq hqd hdd
          rwa [hon q d hqd e] at this
      · by_cases e : q = p
        · subst e
          rw [hd] at hqd
          injection hqd with hqd
          exact absurd (by rw [hqd]; exact hdd) hnd
        · have := hnw q d hq hqd hdd
          rwa [hon q d hqd e] at this
  · cases o.dst <;> simp [Go.Act.put, I.tsize]
  · rw [put_defers]; exact I.defers
  · intro q d hi' hq hc hg hl hcnt
    by_cases e : q = p
    · subst e
      rw [hd] at hq
      injection hq with hq
      rw [← hq, honp] at hl
      cases hl
    · rw [hon q d hq e] at hl
      exact hallocs q d hi' e hq hc hg hl hcnt

theorem lo_le {p : Nat} {i : Inf} (hi : infs[p]? = some i) (hr : ∀ x ∈ i.d.after, on listed x = true) {lo : Nat} (hlo : lo ≤ cnt (l.take p))
    (hneed : ∀ (j : Inf), j.d.cls.isEff = true → j.f < lo → need j i = true) : lo ≤ f := by
  rcases Nat.lt_or_ge f lo with h | h
  · obtain ⟨q, d, h1, h2, h3, h4⟩ := S.exists_eff p f (by omega)
    obtain ⟨j, hj, rfl, hjf⟩ := S.inf h2
    have := bef S I p i hi (.inr hr) _ (S.g1.ord q p i j h1 hj hi (hneed j h3 (by omega)))
    rw [I.eff q _ h2 h3] at this
    omega
  · exact h

theorem le_hi {p : Nat} {i : Inf} (hi : infs[p]? = some i) (hn : on listed i.d.idx = false) (hne : i.d.cls.isEff = false) {h : Nat} (hh : cnt (l.take p) ≤ h)
    (hneed : ∀ (j : Inf), j.d.cls.isEff = true → h ≤ j.f → need i j = true) : f ≤ h := by
  rcases Nat.lt_or_ge h f with hlt | hge
  · have hfl := I.fle
    obtain ⟨q, d, h1, h2, h3, h4⟩ := S.exists_eff l.length h (by rw [List.take_length]; omega)
    obtain ⟨j, hj, rfl, hjf⟩ := S.inf h2
    have hqp : q ≠ p := by
      rintro rfl
      rw [hi] at hj
      injection hj with hj
      subst hj
      rw [h3] at hne
      cases hne
    have hpq : p < q := by
      rcases Nat.lt_or_gt_of_ne hqp with k | k
      · have := S.eff_lt h2 h3 k; omega
      · exact k
    have := aft S I hi hj hn (S.g1.ord p q j i hpq hi hj (hneed j h3 (by omega)))
    have h5 := (I.eff q _ h2 h3).2 (by omega)
    rw [h5] at this
    cases this
  · exact hge

theorem eff_f {p : Nat} {i : Inf} (hi : infs[p]? = some i) (hr : ∀ x ∈ i.d.after, on listed x = true) (hn : on listed i.d.idx = false) (he : i.d.cls.isEff = true) : f = cnt (l.take p) := by
  have h1 := lo_le S I hi hr (Nat.le_refl (cnt (l.take p))) (fun j hj _ => by simp [need, hj, he])
  have h2 : ¬ cnt (l.take p) < f := fun h => by
    have := (I.eff p _ (S.ofInf hi) he).2 h
    rw [hn] at this; cases this
  omega

theorem step_eff {p : Nat} {i : Inf} (hi : infs[p]? = some i) (hr : ∀ x ∈ i.d.after, on listed x = true) (hn : on listed i.d.idx = false) {o : Oper} (ho : trOp P names nt ops.toList o = some i.d.op)
    (he : i.d.cls.isEff = true) {x : Value} {w' : World} {ρ' : Rho} (hx : VR ρ' (valD W call i.d (at_ W call l s0 p)) x) (hg : Good ρ (at_ W call l s0 p).m w ρ' (at_ W call l s0 (p + 1)).m w') :
    Inv W call nt l s0 ρ0 w0 a0 (listed.setIfInBounds i.d.idx true) (a.put o.dst x) w' ρ' (f + 1) := by
  have hd := S.ofInf hi
  have hp : p < l.length := (List.getElem?_eq_some_iff.1 hd).1
  have hf := eff_f S I hi hr hn he
  have hc := cnt_take_eff hd he
  have hmem : memAt (run W call l s0) f = (at_ W call l s0 p).m := by rw [hf]; exact S.memAt_eff hd he
  have hgood := I.good
  rw [hmem] at hgood
  have hmore := S.memAt_of (p + 1) (by omega)
  rw [hc, ← hf] at hmore
  refine step S I hi hr hn ho hx hg.sub (by rw [if_pos he]) (fun _ => hf) ((hgood.trans hg).more hmore) ?_ ?_
  · intro q d h' hqp hq hdc hgd hl hcnt
    by_cases hle : cnt (l.take q) ≤ f
    · obtain ⟨k1, k2⟩ := I.allocs q d h' hq hdc hgd hl hle
      rw [hmem] at k2
      refine ⟨?_, ?_⟩
      · cases h1 : ρ' (at_ W call l s0 q).m.n with
        | none => rfl
        | some L =>
          have := hg.new _ k1 (by simp [h1])
          omega
      · have h1 := hg.n
        have h2 := hmore.n
        omega
    · have hqp : p + 1 ≤ q := by
        rcases Nat.lt_or_ge p q with h | h
        · exact h
        · have := cnt_take_le (l := l) h; omega
      have hq1 : q < l.length := (List.getElem?_eq_some_iff.1 hq).1
      have hms := S.moreS hqp (by omega)
      refine ⟨?_, ?_⟩
      · cases h1 : ρ' (at_ W call l s0 q).m.n with
        | none => rfl
        | some L =>
          have := hg.mr.dom _ _ h1
          have := hms.n
          omega
      · have hne : d.cls.isEff = false := by rw [hdc]; rfl
        have h1 := S.memAt_of (q + 1) (by omega)
        rw [cnt_take_not hq hne, show cnt (l.take q) = f + 1 by omega] at h1
        have h2 := h1.n
        have h3 : (at_ W call l s0 (q + 1)).m.n = (at_ W call l s0 q).m.n + 1 := by
          obtain ⟨g, hg1, hg2⟩ := S.facts q d hq
          rw [hgd] at hg1
          injection hg1 with hg1
          subst hg1
          have hg2 := hg2 rfl
          rw [hdc] at hg2
          obtain ⟨t, cs, hk, _⟩ := hg2
          rw [at_succ hq]
          simp only [after1, memD, hgd, hdc, hk, allocOf]
          rfl
        omega
  · intro p1 q hpq hq hcnt
    by_cases hle : cnt (l.take q) ≤ f
    · exact I.mono p1 q hpq hq hle
    · have hqp : p + 1 ≤ q := by
        rcases Nat.lt_or_ge p q with h | h
        · exact h
        · have := cnt_take_le (l := l) h; omega
      have hms := (S.moreS hqp (by omega)).n
      by_cases hp1 : p1 ≤ p
      · have h1 := I.mono p1 p hp1 (by omega) (by omega)
        have h2 := hg.n
        omega
      · have h1 := cnt_take_le (l := l) (show p + 1 ≤ p1 by omega)
        have h2 := cnt_take_le (l := l) hpq
        exact (S.moreS hpq (by omega)).n

theorem step_still {p : Nat} {i : Inf} (hi : infs[p]? = some i) (hr : ∀ x ∈ i.d.after, on listed x = true) (hn : on listed i.d.idx = false) {o : Oper} (ho : trOp P names nt ops.toList o = some i.d.op)
    (he : i.d.cls.isEff = false) {x : Value} {w' : World} {ρ' : Rho} (hx : VR ρ' (valD W call i.d (at_ W call l s0 p)) x) (hg : Good ρ (memAt (run W call l s0) f) w ρ' (memAt (run W call l s0) f) w') :
    Inv W call nt l s0 ρ0 w0 a0 (listed.setIfInBounds i.d.idx true) (a.put o.dst x) w' ρ' f := by
  refine step S I hi hr hn ho hx hg.sub (by rw [he]; rfl) (fun h => by rw [he] at h; cases h) (I.good.trans hg) ?_ I.mono
  intro q d h' hqp hq hdc hgd hl hcnt
  obtain ⟨k1, k2⟩ := I.allocs q d h' hq hdc hgd hl hcnt
  refine ⟨?_, k2⟩
  cases h1 : ρ' (at_ W call l s0 q).m.n with
  | none => rfl
  | some L =>
    have := hg.new _ k1 (by simp [h1])
    omega

theorem step_alloc {p : Nat} {i : Inf} (hi : infs[p]? = some i) (hr : ∀ x ∈ i.d.after, on listed x = true) (hn : on listed i.d.idx = false) {o : Oper} (ho : trOp P names nt ops.toList o = some i.d.op)
    {h : Nat} (hcls : i.d.cls = .alloc h) (hw : wanted (at_ W call l s0 p).e i.d.op.guard = some true) {t : Nat} {cs : List V} (hk : i.d.op.k = .alloc t cs) (hargs : evs (at_ W call l s0 p).e i.d.op.args = [])
    (hget : (memAt (run W call l s0) f).get (at_ W call l s0 p).m.n = some (.cells cs .rw t)) (hle : cnt (l.take p) ≤ f) :
    ∃ x w' ρ', (Go.execOp a.eval o).run P w = .ok (.value x) w' ∧ Inv W call nt l s0 ρ0 w0 a0 (listed.setIfInBounds i.d.idx true) (a.put o.dst x) w' ρ' f := by
  have he : i.d.cls.isEff = false := by rw [hcls]; rfl
  have hd := S.ofInf hi
  obtain ⟨hka, _, _⟩ := trOp_inv ho
  rw [hk] at hka
  rcases hka with ⟨htk, _⟩ | hnv
  case inr => cases hnv
  have hoz : o.op = .alloc t ∧ zeroT P t = some cs := by
    have h' := htk
    unfold trK at h'
    split at h'
    all_goals first
      | (rename_i t' hop
         simp only [Option.map_eq_some_iff] at h'
         obtain ⟨z, hz, h'⟩ := h'
         injection h' with h1 h2
         subst h1 h2
         exact ⟨hop, hz⟩)
      | (exfalso; cases h'; done)
      | (exfalso; simp only [Option.map_eq_some_iff] at h'; obtain ⟨_, _, h'⟩ := h'; cases h'; done)
      | (exfalso; repeat' split at h'
         all_goals first
           | (cases h'; done)
           | (simp only [Option.map_eq_some_iff] at h'; obtain ⟨_, _, h'⟩ := h'; cases h'; done)
           | (simp only [Option.bind_eq_some_iff] at h'; obtain ⟨_, _, h'⟩ := h'; split at h' <;> cases h'; done))
  obtain ⟨hop, hz⟩ := hoz
  obtain ⟨z, z1, z2⟩ := zeroT_inv hz
  obtain ⟨k1, k2⟩ := I.allocs p i.d h hd hcls hw hn hle
  have hval : valD W call i.d (at_ W call l s0 p) = .ptr (at_ W call l s0 p).m.n 0 := by simp [valD, hw, hk, hargs, evK]
  have hc := z2 ρ
  have hl := hc.length
  simp only [Array.length_toList] at hl
  have hlate := I.good.mr.late k1 k2 hget (.cells z.cells t) z.cells.size (by
    simp only [BR]
    refine ⟨z.cells, t, (0, 0), by simp, by simp [hl], fun j x hx => ?_, fun _ => ⟨rfl, rfl, trivial⟩, fun _ => rfl, fun h => by cases h⟩
    obtain ⟨x', g1, g2, g3⟩ := hc.get j x hx
    exact ⟨x', by simpa using g1, g2.mono (Sub.ext _ k1), g3⟩)
  refine ⟨.pointer (some ⟨w.heap.size, 0, none⟩), { w with heap := w.heap.push (.cells z.cells t) }, ρ.ext (at_ W call l s0 p).m.n ⟨w.heap.size, 0, z.cells.size⟩, ?_, ?_⟩
  · simp [Go.execOp, hop, Go.Instr.alloc, z1, Go.newVar, Go.newRow]
  have hG := I.good
  have hbase : s0.m.n ≤ (at_ W call l s0 p).m.n := by
    have := I.mono 0 p (Nat.zero_le _) (by have := (List.getElem?_eq_some_iff.1 hd).1; omega) hle
    simpa [at_, run] using this
  refine step S I hi hr hn ho (by rw [hval]; exact vr_new _ _ rfl) (Sub.ext _ k1) (by rw [he]; rfl) (fun h => by rw [he] at h; cases h) ?_ ?_ I.mono
  · refine ⟨hlate, hG.sub.trans (Sub.ext _ k1), ?_, hG.n, hG.os, hG.tape, hG.output, ?_, ?_, ?_⟩
    · intro b h1 h2
      by_cases e : b = (at_ W call l s0 p).m.n
      · omega
      · rw [Rho.ext_ne _ _ e] at h2
        exact hG.new b h1 h2
    · have := hG.hsize
      simp only [Array.size_push]
      omega
    · intro r hr' hni
      have := hG.hsize
      simp only
      rw [Array.getElem?_push, if_neg (by omega)]
      exact hG.frame r hr' hni
    · rintro r ⟨b, L, hb, hob, e⟩
      by_cases eb : b = (at_ W call l s0 p).m.n
      · subst eb
        rw [Rho.ext_same] at hb
        injection hb with hb
        subst hb
        have := hG.hsize
        simp only at e
        exact .inr (by omega)
      · rw [Rho.ext_ne _ _ eb] at hb
        exact hG.img r ⟨b, L, hb, hob, e⟩
  · intro q d h' hqp hq hdc hgd hlq hcnt
    obtain ⟨j1, j2⟩ := I.allocs q d h' hq hdc hgd hlq hcnt
    refine ⟨?_, j2⟩
    have hsucc : ∀ (q : Nat) (d : DOp) (h : Nat), l[q]? = some d → d.cls = .alloc h → wanted (at_ W call l s0 q).e d.op.guard = some true → (at_ W call l s0 (q + 1)).m.n = (at_ W call l s0 q).m.n + 1 := by
      intro q d h hq hdc hgd
      obtain ⟨g, hg1, hg2⟩ := S.facts q d hq
      rw [hgd] at hg1
      injection hg1 with hg1
      subst hg1
      have hg2 := hg2 rfl
      rw [hdc] at hg2
      obtain ⟨t, cs, hk, _⟩ := hg2
      rw [at_succ hq]
      simp only [after1, memD, hgd, hdc, hk, allocOf]
      rfl
    have hql : q < l.length := (List.getElem?_eq_some_iff.1 hq).1
    have hpl : p < l.length := (List.getElem?_eq_some_iff.1 hd).1
    have hne : (at_ W call l s0 q).m.n ≠ (at_ W call l s0 p).m.n := by
      rcases Nat.lt_or_gt_of_ne hqp with hlt | hlt
      · have h1 := hsucc q d h' hq hdc hgd
        have h2 := I.mono (q + 1) p (by omega) (by omega) hle
        omega
      · have h1 := hsucc p i.d h hd hcls hw
        have h2 := I.mono (p + 1) q (by omega) (by omega) hcnt
        omega
    rw [Rho.ext_ne _ _ hne]
    exact j1

end Inv

def unl (n : Nat) (listed : Array Bool) : Nat := ((List.range n).filter fun i => !on listed i).length

theorem filter_lt {p q : Nat → Bool} (hpq : ∀ j, q j = true → p j = true) {i : Nat} (hp : p i = true) (hq : q i = false) : ∀ {L : List Nat}, i ∈ L → (L.filter q).length < (L.filter p).length
  | [], h => by cases h
  | j :: L, h => by
    have hle : ∀ L : List Nat, (L.filter q).length ≤ (L.filter p).length := by
      intro L
      induction L with
      | nil => simp
      | cons j L ih =>
        simp only [List.filter_cons]
        cases hqj : q j with
        | true => rw [hpq j hqj]; simp; exact ih
        | false => cases p j <;> simp <;> omega
    simp only [List.filter_cons]
    cases h with
    | head => rw [hp, hq]; simp; have := hle L; omega
    | tail _ h =>
      have ih := filter_lt hpq hp hq h
      cases hqj : q j with
      | true => rw [hpq j hqj]; simp; exact ih
      | false => cases p j <;> simp <;> omega

theorem getD_on {listed : Array Bool} {i : Nat} (hi : i < listed.size) (b : Bool) : listed.getD i b = on listed i := by
  unfold on
  simp only [Array.getD_eq_getD_getElem?, Array.getElem?_eq_getElem hi, Option.getD_some]

theorem ready_iff {md : Go.Region.Mode} {i : Nat} : i ∈ Go.Region.ready md ops listed ↔ i < ops.size ∧ (!listed.getD i true && ((ops[i]?).map (·.after.all fun e => !Go.Region.binds md e || listed.getD e.on false)).getD false) = true := by
  unfold Go.Region.ready
  rw [List.mem_filter, List.mem_range]

theorem after_iff {o : Oper} : (o.after.all fun e => !Go.Region.binds .any e || listed.getD e.on false) = true ↔ ∀ x ∈ binding o, on listed x = true := by
  rw [Array.all_eq_true']
  unfold binding on
  constructor
  · intro h x hx
    rw [List.mem_map] at hx
    obtain ⟨e, he, rfl⟩ := hx
    rw [List.mem_filter] at he
    have := h e (by simpa using he.1)
    rw [he.2] at this
    simpa using this
  · intro h e he
    cases hb : Go.Region.binds .any e with
    | false => rfl
    | true => simpa using h e.on (List.mem_map.2 ⟨e, List.mem_filter.2 ⟨by simpa using he, hb⟩, rfl⟩)

theorem evs_args_guard {o : Oper} {x : Op} (h : trOp P names nt ops.toList o = some x) : trG ops.toList o.guard = some x.guard := (trOp_inv h).2.2

section
variable (hW : PtrTOk P W) (hc : CallOk P call) (hM : MethOk P W names) (S : Sit P names W call nt ops l infs s0)
include hW hc hM S

theorem wpOp_sound {Q : Exit → Act → World → Prop} {K : Act → World → Prop} (I : Inv W call nt l s0 ρ0 w0 a0 listed a w ρ f) {p : Nat} {i : Inf} (hi : infs[p]? = some i)
    (hr : ∀ x ∈ i.d.after, on listed x = true) (hn : on listed i.d.idx = false) {o : Oper} (hop : ops[i.d.idx]? = some o) (ho : trOp P names nt ops.toList o = some i.d.op)
    (hK : ∀ a' w' ρ' f', Inv W call nt l s0 ρ0 w0 a0 (listed.setIfInBounds i.d.idx true) a' w' ρ' f' → K a' w') : Go.wpOp P ops Q i.d.idx K a w := by
  have hd := S.ofInf hi
  obtain ⟨hka, hdst, hguard⟩ := trOp_inv ho
  obtain ⟨g, hg1, hg2⟩ := S.facts p i.d hd
  have hwant : Go.Region.wanted o (Go.yielded ops a.tmps) = g := wanted_sound' (ρ := ρ) hguard hg1 fun t want hgt => Inv.ev_rel S I hi hr hn (by unfold useP; rw [hgt]; exact List.mem_cons_self ..)
  have hown := S.g1.own p i hi
  obtain ⟨i', hi', hid, hif⟩ := S.inf hd
  rw [hi] at hi'
  injection hi' with hi'
  subst hi'
  unfold Go.wpOp
  simp only [hop, hwant]
  cases g with
  | false =>
    simp only [Bool.false_eq_true, if_false]
    have hval : valD W call i.d (at_ W call l s0 p) = .tup [] := by simp [valD, hg1]
    by_cases he : i.d.cls.isEff = true
    · have hmem : memAt (run W call l s0) f = (at_ W call l s0 p).m := by rw [Inv.eff_f S I hi hr hn he]; exact S.memAt_eff hd he
      have hsucc : (at_ W call l s0 (p + 1)).m = (at_ W call l s0 p).m := by rw [at_succ hd]; simp [after1, memD, hg1]
      refine hK _ _ _ _ (Inv.step_eff S I hi hr hn ho he (ρ' := ρ) (by rw [hval]; simp [VR, VRL, Go.undef]) ?_)
      rw [hsucc]
      exact Good.refl (hmem ▸ I.good.mr)
    · exact hK _ _ _ _ (Inv.step_still S I hi hr hn ho (by simpa using he) (ρ' := ρ) (by rw [hval]; simp [VR, VRL, Go.undef]) (Good.refl I.good.mr))
  | true =>
    have hg2 := hg2 rfl
    rcases hka with ⟨htk, hargs⟩ | hnv
    case inr =>
      exfalso
      rw [hnv] at hg2
      revert hg2
      cases i.d.cls <;> simp [evK_never, allocOf]
    have hvs : VRL ρ (evs (at_ W call l s0 p).e i.d.op.args) (o.op.operands.toList.map a.eval) := Inv.evs_rel S I hi hr hn (fun y hy => hy) hargs
    simp only [if_true]
    refine .inl ?_
    have still : ∀ v, i.d.cls.isEff = false → evK W call (memAt (run W call l s0) f) i.d.op.k (evs (at_ W call l s0 p).e i.d.op.args) = .ok v (memAt (run W call l s0) f) →
        valD W call i.d (at_ W call l s0 p) = v → o.wp P a w K Q := by
      intro v he hev hval
      refine op_sound hW hc hM htk hvs I.good.mr ?_
      rw [hev]
      intro x w' ρ' hv hg
      exact hK _ _ _ _ (Inv.step_still S I hi hr hn ho he (by rw [hval]; exact hv) hg)
    cases hcls : i.d.cls with
    | pure =>
      simp only [hcls] at hg2
      obtain ⟨v, m', hv⟩ := hg2
      have hpure : isPure i.d.op.k = true := by simpa [ownOk, hcls] using hown
      refine still v (by rw [hcls]; rfl) ?_ (by simp [valD, hg1, hv])
      rw [evK_at W call hpure _ (at_ W call l s0 p).m, hv]
      rfl
    | read lo h =>
      simp only [hcls] at hg2
      obtain ⟨v, m', hv, hall⟩ := hg2
      simp only [ownOk, hcls, Bool.and_eq_true] at hown
      obtain ⟨⟨hread, h1⟩, h2⟩ := hown
      have h1 := Nat.le_of_ble_eq_true h1
      have h2 := Nat.le_of_ble_eq_true h2
      have k1 := Inv.lo_le S I hi hr (lo := lo) (by omega) (fun j hj hlt => by
        have hb : Nat.blt j.f lo = true := by simpa using hlt
        simp [need, hcls, hj, hb])
      have k2 := Inv.le_hi S I hi hn (by rw [hcls]; rfl) (h := h) (by omega) (fun j hj hle => by
        have hb : Nat.ble h j.f = true := by simpa using hle
        simp [need, hcls, hj, hb])
      obtain ⟨m1, hm1⟩ := hall f k1 k2 (by rw [S.hfin]; exact I.fle)
      have := evK_mem W call hread _ _ _ hm1
      subst this
      exact still v (by rw [hcls]; rfl) hm1 (by simp [valD, hg1, hv])
    | alloc h =>
      simp only [hcls] at hg2
      obtain ⟨t, cs, hk, ha, hall⟩ := hg2
      simp only [ownOk, hcls] at hown
      have h2 := Nat.le_of_ble_eq_true hown
      have k1 := Inv.lo_le S I hi hr (Nat.le_refl (cnt (l.take p))) (fun j hj _ => by simp [need, hcls, hj])
      have k2 := Inv.le_hi S I hi hn (by rw [hcls]; rfl) (h := h) (by omega) (fun j hj hle => by
        have hb : Nat.ble h j.f = true := by simpa using hle
        simp [need, hcls, hj, hb])
      obtain ⟨x, w', ρ', h3, h4⟩ := Inv.step_alloc S I hi hr hn ho hcls hg1 hk ha (hall f (by rw [S.hcnt]; exact k1) k2 (by rw [S.hfin]; exact I.fle)) k1
      unfold Oper.wp
      rw [h3]
      exact hK _ _ _ _ h4
    | eff =>
      simp only [hcls] at hg2
      obtain ⟨v, m', hv⟩ := hg2
      have he : i.d.cls.isEff = true := by rw [hcls]; rfl
      have hmem : memAt (run W call l s0) f = (at_ W call l s0 p).m := by rw [Inv.eff_f S I hi hr hn he]; exact S.memAt_eff hd he
      have hsucc : (at_ W call l s0 (p + 1)).m = m' := by rw [at_succ hd]; simp [after1, memD, hg1, hcls, hv]
      refine op_sound hW hc hM htk hvs (m := (at_ W call l s0 p).m) (hmem ▸ I.good.mr) ?_
      rw [hv]
      intro x w' ρ' hvx hg
      refine hK _ _ _ _ (Inv.step_eff S I hi hr hn ho he (ρ' := ρ') (by simp only [valD, hg1, hv]; exact hvx) ?_)
      rw [hsucc]
      exact hg

theorem all_listed (I : Inv W call nt l s0 ρ0 w0 a0 listed a w ρ f) (h : Go.Region.ready .any ops listed = []) : ∀ (p : Nat) (d : DOp), l[p]? = some d → on listed d.idx = true := by
  intro p
  induction p using Nat.strongRecOn with
  | _ p ih =>
    intro d hd
    cases hon : on listed d.idx with
    | true => rfl
    | false =>
      exfalso
      obtain ⟨i, hi, rfl, _⟩ := S.inf hd
      have hlt := S.lt _ (List.mem_of_getElem? hd)
      have hall : ∀ x ∈ i.d.after, on listed x = true := fun x hx => by
        obtain ⟨q, j, h1, h2, rfl⟩ := S.g1.aft p i hi x hx
        exact ih q h1 j.d (S.ofInf h2)
      obtain ⟨d', hd'⟩ := S.idxs _ hlt
      obtain ⟨hmem, hidx⟩ := nth_some hd'
      obtain ⟨q, hq⟩ := List.mem_iff_getElem?.1 hmem
      have : q = p := by
        by_cases e : q = p
        · exact e
        · exact absurd hidx.symm (Inv.uniq S I hi hq e)
      subst this
      rw [hd] at hq
      injection hq with hq
      obtain ⟨o, ho1, ho2, ho3⟩ := S.tr _ _ hd'
      have : i.d.idx ∈ Go.Region.ready .any ops listed := by
        rw [ready_iff]
        refine ⟨by rw [S.size]; exact hlt, ?_⟩
        rw [getD_on (by rw [I.size]; exact hlt), hon, ho1]
        simp only [Bool.not_false, Bool.true_and, Option.map_some, Option.getD_some]
        rw [after_iff, ho3, ← hq]
        exact hall
      rw [h] at this
      cases this

theorem any_sound {Q : Exit → Act → World → Prop} (hQ : ∀ a' w' ρ', ER ρ' nt (run W call l s0).e a' → a'.defers = a0.defers → Good ρ0 s0.m w0 ρ' (run W call l s0).m w' → Q .normal a' w') :
    ∀ (fuel : Nat) (listed : Array Bool) (a : Act) (w : World) (ρ : Rho) (f : Nat), Inv W call nt l s0 ρ0 w0 a0 listed a w ρ f → unl l.length listed ≤ fuel → Go.wpAny P .any ops Q fuel listed a w := by
  have fin : ∀ (listed : Array Bool) (a : Act) (w : World) (ρ : Rho) (f : Nat), Inv W call nt l s0 ρ0 w0 a0 listed a w ρ f → Go.Region.ready .any ops listed = [] → Q .normal a w := by
    intro listed a w ρ f I h
    have hall := all_listed hW hc hM S I h
    have hf : f = cnt l := by
      have hle := I.fle
      rcases Nat.lt_or_ge f (cnt l) with hlt | hge
      · obtain ⟨q, d, h1, h2, h3, h4⟩ := S.exists_eff l.length f (by rw [List.take_length]; exact hlt)
        have := (I.eff q d h2 h3).1 (hall q d h2)
        omega
      · omega
    have hmem : memAt (run W call l s0) f = (run W call l s0).m := by rw [hf, ← S.hfin]; exact memAt_fin _
    refine hQ a w ρ ⟨I.tsize, fun t v hv => ?_⟩ I.defers (hmem ▸ I.good)
    refine I.env t l.length (Nat.le_refl _) (fun q d _ hq _ => hall q d hq) (fun q d hq hqd _ => ?_) v (by rw [at_len]; exact hv)
    have := (List.getElem?_eq_some_iff.1 hqd).1
    omega
  intro fuel
  induction fuel with
  | zero =>
    intro listed a w ρ f I hu
    have hr : Go.Region.ready .any ops listed = [] := by
      rw [List.eq_nil_iff_forall_not_mem]
      intro i hi
      rw [ready_iff] at hi
      obtain ⟨h1, h2⟩ := hi
      rw [S.size] at h1
      rw [Bool.and_eq_true, getD_on (by rw [I.size]; exact h1)] at h2
      have : i ∈ (List.range l.length).filter fun i => !on listed i := List.mem_filter.2 ⟨List.mem_range.2 h1, h2.1⟩
      have := List.length_pos_of_mem this
      unfold unl at hu
      omega
    exact ⟨hr, fin listed a w ρ f I hr⟩
  | succ fuel ih =>
    intro listed a w ρ f I hu
    refine ⟨fin listed a w ρ f I, fun k hk => ?_⟩
    rw [ready_iff] at hk
    obtain ⟨h1, h2⟩ := hk
    have h1' := h1
    rw [S.size] at h1
    rw [Bool.and_eq_true, getD_on (by rw [I.size]; exact h1)] at h2
    obtain ⟨h2, h3⟩ := h2
    have hon : on listed k = false := by simpa using h2
    obtain ⟨d, hd⟩ := S.idxs k h1
    obtain ⟨hmem, hidx⟩ := nth_some hd
    obtain ⟨p, hp⟩ := List.mem_iff_getElem?.1 hmem
    obtain ⟨i, hi, rfl, _⟩ := S.inf hp
    obtain ⟨o, ho1, ho2, ho3⟩ := S.tr _ _ hd
    subst hidx
    rw [ho1] at h3
    simp only [Option.map_some, Option.getD_some] at h3
    rw [after_iff, ho3] at h3
    refine wpOp_sound hW hc hM S I hi h3 hon ho1 ho2 fun a' w' ρ' f' I' => ih _ a' w' ρ' f' I' ?_
    have hlt : i.d.idx < listed.size := by rw [I.size]; exact h1
    have : unl l.length (listed.setIfInBounds i.d.idx true) < unl l.length listed := by
      refine filter_lt (fun j hj => ?_) (i := i.d.idx) (by rw [hon]; rfl) (by rw [on_set hlt, if_pos rfl]; rfl) (List.mem_range.2 h1)
      rw [on_set hlt] at hj
      split at hj
      · cases hj
      · exact hj
    omega
end

/-- a region without an order of its own -/
theorem drawn_sound (hW : PtrTOk P W) (hc : CallOk P call) (hM : MethOk P W names)
    (hl : trOps P names nt ops.toList ops.toList = some (inText l l.length).1) (ha : ops.toList.map binding = (inText l l.length).2) (hs : staticOk l = true)
    {e : Env} {m : M} {N : Env → M → X} {r : X} (hr : execD W call l ⟨e, m, []⟩ [] N = r) (hne : r ≠ .bad) {ρ : Rho} {a : Act} {w : World} {Q : Exit → Act → World → Prop} (he : ER ρ nt e a) (hm : MR ρ m w)
    (hQ : ∀ e' m' a' w' ρ', ER ρ' nt e' a' → a'.defers = a.defers → Good ρ m w ρ' m' w' → N e' m' = r → Q .normal a' w') :
    Go.wpAny P .any ops Q ops.size (Array.replicate ops.size false) a w := by
  obtain ⟨infs, g1, hmap, hlt, hidx⟩ := staticOk_spec hs
  obtain ⟨t1, t2, t3⟩ := inText_spec hidx
  obtain ⟨o1, o2⟩ := trOps_get hl
  have hsize : ops.size = l.length := by rw [← Array.length_toList, ← o1, t1]
  obtain ⟨x1, x2, x3⟩ := execD_spec W call hne l ⟨e, m, []⟩ [] hr
  have S : Sit P names W call nt ops l infs ⟨e, m, []⟩ := by
    refine ⟨g1, hmap, hsize, fun i d hd => ?_, hidx, hlt, rfl, x3⟩
    obtain ⟨hdm, hdi⟩ := nth_some hd
    have hil : i < l.length := by rw [← hdi]; exact hlt d hdm
    obtain ⟨t4, t5⟩ := t3 i d hil hd
    have hio : i < ops.size := by omega
    refine ⟨ops[i], by rw [Array.getElem?_eq_getElem hio], ?_, ?_⟩
    · obtain ⟨x, h1, h2⟩ := o2 i ops[i] (by rw [Array.getElem?_toList, Array.getElem?_eq_getElem hio])
      rw [t4] at h1
      injection h1 with h1
      rw [h2, h1]
    · rw [← ha, List.getElem?_map, Array.getElem?_toList, Array.getElem?_eq_getElem hio] at t5
      simpa using t5
  have honf : ∀ i, on (Array.replicate ops.size false) i = false := fun i => by
    unfold on
    simp only [Array.getD_eq_getD_getElem?, Array.getElem?_replicate]
    split <;> rfl
  have hz : cnt (l.take 0) = 0 := by simp [cnt]
  have I : Inv W call nt l ⟨e, m, []⟩ ρ w a (Array.replicate ops.size false) a w ρ 0 := by
    refine ⟨by simp [hsize], ?_, Nat.zero_le _, ?_, ?_, ?_, he.size, rfl, ?_, ?_⟩
    · intro p d hd ho; rw [honf] at ho; cases ho
    · intro p d hd hef; rw [honf]; simp
    · have := S.memAt_of 0 (Nat.zero_le _)
      rw [hz] at this
      exact (Good.refl hm).more this
    · intro t p hp hw hnw v hv
      refine he.tmp t v ?_
      have : ∀ p', p' ≤ p → (at_ W call l ⟨e, m, []⟩ p').e.get (key t) = e.get (key t) := by
        intro p'
        induction p' with
        | zero => intro _; rfl
        | succ q ih =>
          intro hq
          have hql : l[q]? = some (l[q]'(by omega)) := List.getElem?_eq_getElem (by omega)
          rw [at_succ hql]
          simp only [after1]
          cases hdst : (l[q]'(by omega)).op.dst with
          | none => exact ih (by omega)
          | some u =>
            by_cases eu : u = key t
            · subst eu
              have := hw q _ (by omega) hql hdst
              rw [honf] at this
              cases this
            · simp only [putD]
              rw [T.get_set_ne _ _ _ _ eu]
              exact ih (by omega)
      rw [← this p (Nat.le_refl _)]
      exact hv
    · intro q d h hq hdc hgd _ hcnt
      have hq1 : q < l.length := (List.getElem?_eq_some_iff.1 hq).1
      have hm1 := (S.moreS (Nat.zero_le q) (by rw [hz]; omega)).n
      have hbase : (at_ W call l ⟨e, m, []⟩ 0).m = m := rfl
      rw [hbase] at hm1
      refine ⟨?_, ?_⟩
      · cases h1 : ρ (at_ W call l ⟨e, m, []⟩ q).m.n with
        | none => rfl
        | some L => have := hm.dom _ _ h1; omega
      · have hne : d.cls.isEff = false := by rw [hdc]; rfl
        have h1 := S.memAt_of (q + 1) (by omega)
        rw [cnt_take_not hq hne, show cnt (l.take q) = 0 by omega] at h1
        have h2 := h1.n
        have h3 : (at_ W call l ⟨e, m, []⟩ (q + 1)).m.n = (at_ W call l ⟨e, m, []⟩ q).m.n + 1 := by
          obtain ⟨g, hg1, hg2⟩ := S.facts q d hq
          rw [hgd] at hg1
          injection hg1 with hg1
          subst hg1
          have hg2 := hg2 rfl
          rw [hdc] at hg2
          obtain ⟨t, cs, hk, _⟩ := hg2
          rw [at_succ hq]
          simp only [after1, memD, hgd, hdc, hk, allocOf]
          rfl
        omega
    · intro p q hpq hq hcnt
      have := cnt_take_le (l := l) hpq
      exact (S.moreS hpq (by omega)).n
  refine any_sound hW hc hM S (fun a' w' ρ' he' hd' hg' => hQ _ _ a' w' ρ' he' hd' hg' x1) ops.size _ a w ρ 0 I ?_
  unfold unl
  rw [hsize]
  exact Nat.le_trans (List.length_filter_le _ _) (by simp)
end
end Mu
