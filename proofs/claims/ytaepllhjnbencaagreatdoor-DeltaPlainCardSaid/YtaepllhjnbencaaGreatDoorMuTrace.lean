/- A region without an order of its own, carried out in the text's order: what is seen on the way. -/
import Derived.Test.YtaepllhjnbencaaGreatDoorMuPure
set_option linter.unusedVariables false
set_option linter.unusedSimpArgs false
namespace Mu
section
variable (W : Prg) (call : Nat → List V → M → R)

def Cls.isEff : Cls → Bool
  | .eff => true
  | _ => false

def valD (d : DOp) (s : St) : V :=
  match wanted s.e d.op.guard with
  | some true => (match evK W call s.m d.op.k (evs s.e d.op.args) with | .ok v _ => v | _ => .junk)
  | some false => .tup []
  | none => .junk

def memD (d : DOp) (s : St) : M :=
  match wanted s.e d.op.guard with
  | some true => (match d.cls with
    | .eff => (match evK W call s.m d.op.k (evs s.e d.op.args) with | .ok _ m' => m' | _ => s.m)
    | .alloc _ => (match allocOf d.op.k with | some (t, cs) => s.m.new (.cells cs .rw t) | none => s.m)
    | _ => s.m)
  | _ => s.m

def after1 (d : DOp) (s : St) : St := ⟨putD d.op.dst (valD W call d s) s.e, memD W call d s, if d.cls.isEff = true then s.m :: s.h else s.h⟩

def run (l : List DOp) (s : St) : St := l.foldl (fun s d => after1 W call d s) s

/-- the memory when f effects are done -/
def memAt (fin : St) (f : Nat) : M := match fin.h.reverse[f]? with | some m => m | none => fin.m

def Pend.Ok (f : Nat) (m : M) : Pend → Prop
  | .rd k vs v hi => f ≤ hi → ∃ m', evK W call m k vs = .ok v m'
  | .bl b cs t hi => f ≤ hi → m.get b = some (.cells cs .rw t)

def DFact (fin : St) (d : DOp) (s : St) : Prop :=
  ∃ g, wanted s.e d.op.guard = some g ∧ (g = true → match d.cls with
    | .pure => ∃ v m', evK W call s.m d.op.k (evs s.e d.op.args) = .ok v m'
    | .read lo hi => ∃ v m', evK W call s.m d.op.k (evs s.e d.op.args) = .ok v m' ∧ ∀ f, lo ≤ f → f ≤ hi → f ≤ fin.h.length → ∃ m', evK W call (memAt fin f) d.op.k (evs s.e d.op.args) = .ok v m'
    | .alloc hi => ∃ t cs, d.op.k = .alloc t cs ∧ evs s.e d.op.args = [] ∧ ∀ f, s.h.length ≤ f → f ≤ hi → f ≤ fin.h.length → (memAt fin f).get s.m.n = some (.cells cs .rw t)
    | .eff => ∃ v m', evK W call s.m d.op.k (evs s.e d.op.args) = .ok v m')

theorem run_hist : ∀ (l : List DOp) (s : St), ∃ x, (run W call l s).h = x ++ s.h
  | [], s => ⟨[], rfl⟩
  | d :: l, s => by
    obtain ⟨x, hx⟩ := run_hist l (after1 W call d s)
    simp only [run, List.foldl_cons] at hx ⊢
    rw [hx]
    simp only [after1]
    split
    · exact ⟨x ++ [s.m], by simp⟩
    · exact ⟨x, rfl⟩

theorem memAt_old (l : List DOp) (s : St) {f : Nat} (hf : f < s.h.length) : some (memAt (run W call l s) f) = s.h.reverse[f]? := by
  obtain ⟨x, hx⟩ := run_hist W call l s
  unfold memAt
  rw [hx, List.reverse_append, List.getElem?_append_left (by simpa using hf)]
  cases h : s.h.reverse[f]? with
  | none => rw [List.getElem?_eq_none_iff] at h; simp at h; omega
  | some m => rfl

theorem memAt_eff (l : List DOp) (d : DOp) (s : St) (hd : d.cls.isEff = true) : memAt (run W call l (after1 W call d s)) s.h.length = s.m := by
  have := memAt_old W call l (after1 W call d s) (f := s.h.length) (by simp [after1, hd])
  simp only [after1, hd, if_true, List.reverse_cons] at this
  rw [List.getElem?_append_right (by simp)] at this
  simpa [after1, hd] using this

theorem memAt_fin (s : St) : memAt s s.h.length = s.m := by
  unfold memAt
  rw [List.getElem?_eq_none (by simp)]

theorem ifX_true {b : Bool} {x r : X} (h : ifX b x = r) (hr : r ≠ .bad) : b = true ∧ x = r := by
  cases b
  · exact absurd h.symm hr
  · exact ⟨rfl, h⟩

theorem again_ok {m : M} {k : Kind} {vs : List V} {v : V} (h : again W call m k vs v = true) : ∃ m', evK W call m k vs = .ok v m' := by
  unfold again at h
  split at h
  · rename_i v' m' hv
    rw [beq_eq h] at hv
    exact ⟨m', hv⟩
  · cases h

theorem chk1_ok {m : M} {f : Nat} {p : Pend} (h : chk1 W call m f p = true) : p.Ok W call f m := by
  cases p with
  | rd k vs v hi =>
    simp only [chk1, Bool.or_eq_true] at h
    intro hf
    rcases h with h | h
    · have := Nat.le_of_ble_eq_true h; omega
    · exact again_ok W call h
  | bl b cs t hi =>
    simp only [chk1, Bool.or_eq_true] at h
    intro hf
    rcases h with h | h
    · have := Nat.le_of_ble_eq_true h; omega
    · unfold isBlk at h
      split at h
      · rename_i cs' t' hg
        simp only [Bool.and_eq_true] at h
        rw [hg, beqL_eq h.1, Nat.eq_of_beq_eq_true h.2]
      · cases h

theorem chkPend_ok {m : M} {f : Nat} : ∀ {ps : List Pend}, chkPend W call m f ps = true → ∀ p ∈ ps, p.Ok W call f m
  | [], _, p, hp => by cases hp
  | q :: r, h, p, hp => by
    simp only [chkPend, Bool.and_eq_true] at h
    cases hp with
    | head => exact chk1_ok W call h.1
    | tail _ hp => exact chkPend_ok h.2 p hp

theorem chkHist_ok {k : Kind} {vs : List V} {v : V} {lo : Nat} : ∀ {h : List M}, chkHist W call k vs v lo h = true → ∀ (f : Nat) (m : M), h.reverse[f]? = some m → lo ≤ f → ∃ m', evK W call m k vs = .ok v m'
  | [], _, f, m, hm, _ => by simp at hm
  | m0 :: r, hc, f, m, hm, hf => by
    simp only [chkHist, Bool.or_eq_true, Bool.and_eq_true] at hc
    rw [List.reverse_cons] at hm
    by_cases hlt : f < r.length
    · rw [List.getElem?_append_left (by simpa using hlt)] at hm
      rcases hc with hc | hc
      · have := Nat.le_of_ble_eq_true hc; omega
      · exact chkHist_ok hc.2 f m hm hf
    · rw [List.getElem?_append_right (by simp; omega)] at hm
      have hf' : f = r.length := by
        have := (List.getElem?_eq_some_iff.1 hm).1
        simp at this
        omega
      subst hf'
      simp at hm
      subst hm
      rcases hc with hc | hc
      · have := Nat.le_of_ble_eq_true hc; omega
      · exact again_ok W call hc.1

theorem sure_ok {r : R} {f : V → M → X} {x : X} (h : r.sure f = x) (hx : x ≠ .bad) : ∃ v m, r = .ok v m ∧ f v m = x := by
  cases r with
  | ok v m => exact ⟨v, m, rfl, h⟩
  | _ => exact absurd h.symm hx

theorem gd_some' {g : Option Bool} {x y r : X} (h : gd g x y = r) (hr : r ≠ .bad) : ∃ b, g = some b ∧ (if b then x else y) = r := by
  cases g with
  | none => exact absurd h.symm hr
  | some b => cases b <;> exact ⟨_, rfl, h⟩

theorem allocOf_some {k : Kind} {t : Nat} {cs : List V} (h : allocOf k = some (t, cs)) : k = .alloc t cs := by
  cases k <;> simp [allocOf] at h
  rw [h.1, h.2]

theorem execD_spec {N : Env → M → X} {r : X} (hr : r ≠ .bad) : ∀ (l : List DOp) (s : St) (pend : List Pend), execD W call l s pend N = r →
    N (run W call l s).e (run W call l s).m = r ∧ (∀ p ∈ pend, ∀ f, s.h.length ≤ f → f ≤ (run W call l s).h.length → p.Ok W call f (memAt (run W call l s) f)) ∧
    ∀ p d, l[p]? = some d → DFact W call (run W call l s) d (run W call (l.take p) s)
  | [], s, pend, h => by
    simp only [execD] at h
    obtain ⟨h1, h2⟩ := ifX_true h hr
    refine ⟨h2, fun p hp f h3 h4 => ?_, fun p d hd => by simp at hd⟩
    have : f = s.h.length := Nat.le_antisymm h4 h3
    subst this
    have := chkPend_ok W call h1 p hp
    rwa [show run W call [] s = s from rfl, memAt_fin]
  | d :: l, s, pend, h => by
    -- what is so once the first operation is done
    have step : ∀ (s' : St) (pend' : List Pend), s' = after1 W call d s → execD W call l s' pend' N = r → (∀ p ∈ pend, p ∈ pend' ∧ (d.cls.isEff = true → p.Ok W call s.h.length s.m)) →
        DFact W call (run W call (d :: l) s) d s →
        N (run W call (d :: l) s).e (run W call (d :: l) s).m = r ∧ (∀ p ∈ pend, ∀ f, s.h.length ≤ f → f ≤ (run W call (d :: l) s).h.length → p.Ok W call f (memAt (run W call (d :: l) s) f)) ∧
        ∀ p d', (d :: l)[p]? = some d' → DFact W call (run W call (d :: l) s) d' (run W call ((d :: l).take p) s) := by
      intro s' pend' hs' hx hp hd
      subst hs'
      obtain ⟨i1, i2, i3⟩ := execD_spec hr l (after1 W call d s) pend' hx
      refine ⟨i1, fun p hpm f h3 h4 => ?_, fun p d' hd' => ?_⟩
      · by_cases hf : (after1 W call d s).h.length ≤ f
        · exact i2 p (hp p hpm).1 f hf h4
        · by_cases he : d.cls.isEff = true
          · have : f = s.h.length := by simp [after1, he] at hf; omega
            subst this
            have := memAt_eff W call l d s he
            simp only [run, List.foldl_cons] at this ⊢
            rw [this]
            exact (hp p hpm).2 he
          · simp [after1, he] at hf; omega
      · cases p with
        | zero =>
          simp only [List.getElem?_cons_zero, Option.some.injEq] at hd'
          subst hd'
          simpa [run] using hd
        | succ p =>
          simp only [List.getElem?_cons_succ] at hd'
          exact i3 p d' hd'
    simp only [execD] at h
    cases hcls : d.cls with
    | pure =>
      simp only [hcls] at h
      obtain ⟨g, hg, h⟩ := gd_some' h hr
      cases g with
      | true =>
        simp only [if_true] at h
        obtain ⟨v, m', hv, h⟩ := sure_ok h hr
        exact step _ pend (by simp [after1, valD, memD, hg, hv, hcls, Cls.isEff]) h (fun p hp => ⟨hp, by simp [hcls, Cls.isEff]⟩) ⟨true, hg, fun _ => by simp only [hcls]; exact ⟨v, m', hv⟩⟩
      | false =>
        exact step _ pend (by simp [after1, valD, memD, hg, hcls, Cls.isEff]) h (fun p hp => ⟨hp, by simp [hcls, Cls.isEff]⟩) ⟨false, hg, fun h => by cases h⟩
    | read lo hi =>
      simp only [hcls] at h
      obtain ⟨g, hg, h⟩ := gd_some' h hr
      cases g with
      | true =>
        simp only [if_true] at h
        obtain ⟨v, m', hv, h⟩ := sure_ok h hr
        obtain ⟨hh, h⟩ := ifX_true h hr
        have hs' : (⟨putD d.op.dst v s.e, s.m, s.h⟩ : St) = after1 W call d s := by simp [after1, valD, memD, hg, hv, hcls, Cls.isEff]
        have hr2 := (execD_spec hr l _ _ h).2.1 _ (List.mem_cons_self ..)
        refine step _ _ hs' h (fun p hp => ⟨List.mem_cons_of_mem _ hp, by simp [hcls, Cls.isEff]⟩) ⟨true, hg, fun _ => ?_⟩
        simp only [hcls]
        refine ⟨v, m', hv, fun f h1 h2 h3 => ?_⟩
        by_cases hf : f < s.h.length
        · have hm := memAt_old W call (d :: l) s hf
          obtain ⟨m1, k1⟩ := chkHist_ok W call hh f _ hm.symm h1
          exact ⟨m1, k1⟩
        · have := hr2 f (by simpa using hf)
          rw [hs'] at this
          exact this h3 h2
      | false =>
        exact step _ pend (by simp [after1, valD, memD, hg, hcls, Cls.isEff]) h (fun p hp => ⟨hp, by simp [hcls, Cls.isEff]⟩) ⟨false, hg, fun h => by cases h⟩
    | alloc hi =>
      simp only [hcls] at h
      obtain ⟨g, hg, h⟩ := gd_some' h hr
      cases g with
      | true =>
        simp only [if_true] at h
        split at h
        · rename_i t cs hk ha
          have hk' := allocOf_some hk
          have hs' : (⟨putD d.op.dst (.ptr s.m.n 0) s.e, s.m.new (.cells cs .rw t), s.h⟩ : St) = after1 W call d s := by simp [after1, valD, memD, hg, ha, hk', evK, allocOf, hcls, Cls.isEff]
          have hr2 := (execD_spec hr l _ _ h).2.1 _ (List.mem_cons_self ..)
          refine step _ _ hs' h (fun p hp => ⟨List.mem_cons_of_mem _ hp, by simp [hcls, Cls.isEff]⟩) ⟨true, hg, fun _ => ?_⟩
          simp only [hcls]
          refine ⟨t, cs, hk', ha, fun f h1 h2 h3 => ?_⟩
          have := hr2 f (by simpa using h1)
          rw [hs'] at this
          exact this h3 h2
        · exact absurd h.symm hr
      | false =>
        exact step _ pend (by simp [after1, valD, memD, hg, hcls, Cls.isEff]) h (fun p hp => ⟨hp, by simp [hcls, Cls.isEff]⟩) ⟨false, hg, fun h => by cases h⟩
    | eff =>
      simp only [hcls] at h
      obtain ⟨hc, h⟩ := ifX_true h hr
      obtain ⟨g, hg, h⟩ := gd_some' h hr
      have hpo := chkPend_ok W call hc
      cases g with
      | true =>
        simp only [if_true] at h
        obtain ⟨v, m', hv, h⟩ := sure_ok h hr
        exact step _ pend (by simp [after1, valD, memD, hg, hv, hcls, Cls.isEff]) h (fun p hp => ⟨hp, fun _ => hpo p hp⟩) ⟨true, hg, fun _ => by simp only [hcls]; exact ⟨v, m', hv⟩⟩
      | false =>
        exact step _ pend (by simp [after1, valD, memD, hg, hcls, Cls.isEff]) h (fun p hp => ⟨hp, fun _ => hpo p hp⟩) ⟨false, hg, fun h => by cases h⟩
end
end Mu
