/- A region without an order of its own: what its orders have in common, looked at by program. -/
import Derived.Test.YtaepllhjnbencaaGreatDoorMuTrace
set_option linter.unusedVariables false
set_option linter.unusedSimpArgs false
namespace Mu

def P.beq : P → P → Bool
  | .h, .h => true
  | .o a, .o b => P.beq a b
  | .i a, .i b => P.beq a b
  | _, _ => false

theorem P.beq_iff : ∀ {a b : P}, P.beq a b = true ↔ a = b
  | .h, b => by cases b <;> simp [P.beq]
  | .o a, b => by cases b <;> simp [P.beq, P.beq_iff]
  | .i a, b => by cases b <;> simp [P.beq, P.beq_iff]

structure Inf where
  d : DOp
  b : List Nat
  f : Nat

def memN (x : Nat) : List Nat → Bool
  | [] => false
  | y :: r => Nat.beq x y || memN x r
def memP (x : P) : List P → Bool
  | [] => false
  | y :: r => P.beq x y || memP x r

theorem memN_iff {x : Nat} : ∀ {l : List Nat}, memN x l = true ↔ x ∈ l
  | [] => by simp [memN]
  | y :: r => by simp [memN, memN_iff]
theorem memP_iff {x : P} : ∀ {l : List P}, memP x l = true ↔ x ∈ l
  | [] => by simp [memP]
  | y :: r => by simp [memP, memP_iff, P.beq_iff]

def union (a b : List Nat) : List Nat := a.foldr (fun x l => if memN x l = true then l else x :: l) b

theorem mem_union {x : Nat} : ∀ {a b : List Nat}, x ∈ union a b → x ∈ a ∨ x ∈ b
  | [], b, h => .inr h
  | y :: a, b, h => by
    simp only [union, List.foldr_cons] at h
    split at h
    · rcases mem_union (a := a) (b := b) h with h | h
      · exact .inl (List.mem_cons_of_mem _ h)
      · exact .inr h
    · rw [List.mem_cons] at h
      rcases h with rfl | h
      · exact .inl (List.mem_cons_self ..)
      · rcases mem_union (a := a) (b := b) h with h | h
        · exact .inl (List.mem_cons_of_mem _ h)
        · exact .inr h

def befOf (acc : List Inf) : List Nat → Option (List Nat)
  | [] => some []
  | j :: r => match acc.find? fun i => Nat.beq i.d.idx j with
    | some i => (befOf acc r).map fun l => union (j :: i.b) l
    | none => none

theorem befOf_spec {acc : List Inf} : ∀ {js l : List Nat}, befOf acc js = some l →
    (∀ x ∈ js, ∃ j ∈ acc, j.d.idx = x) ∧ ∀ x ∈ l, x ∈ js ∨ ∃ j ∈ acc, j.d.idx ∈ js ∧ x ∈ j.b
  | [], l, h => by simp only [befOf, Option.some.injEq] at h; subst h; simp
  | j :: r, l, h => by
    simp only [befOf] at h
    split at h
    case h_2 => cases h
    rename_i i hi
    simp only [Option.map_eq_some_iff] at h
    obtain ⟨l', h1, rfl⟩ := h
    obtain ⟨k1, k2⟩ := befOf_spec h1
    have him := List.mem_of_find?_eq_some hi
    have hij : i.d.idx = j := Nat.eq_of_beq_eq_true (by simpa using List.find?_some hi)
    refine ⟨fun x hx => ?_, fun x hx => ?_⟩
    · rw [List.mem_cons] at hx
      rcases hx with rfl | hx
      · exact ⟨i, him, hij⟩
      · exact k1 x hx
    · rcases mem_union hx with hx | hx
      · rw [List.mem_cons] at hx
        rcases hx with rfl | hx
        · exact .inl (List.mem_cons_self ..)
        · exact .inr ⟨i, him, by rw [hij]; exact List.mem_cons_self .., hx⟩
      · rcases k2 x hx with h | ⟨j', h1, h2, h3⟩
        · exact .inl (List.mem_cons_of_mem _ h)
        · exact .inr ⟨j', h1, List.mem_cons_of_mem _ h2, h3⟩

def argTmps : List Opd → List P
  | [] => []
  | .tmp p :: r => p :: argTmps r
  | .const _ :: r => argTmps r

def useP (d : DOp) : List P := match d.op.guard with
  | some (g, _) => g :: argTmps d.op.args
  | none => argTmps d.op.args

def dstIs (d : DOp) (t : P) : Bool := match d.op.dst with | some u => P.beq u t | none => false

def conflict (q p : DOp) : Bool :=
  (match q.op.dst with | some t => memP t (useP p) || dstIs p t | none => false) || (match p.op.dst with | some t => memP t (useP q) | none => false)

def need (q p : Inf) : Bool :=
  conflict q.d p.d || (q.d.cls.isEff && p.d.cls.isEff) ||
  (match p.d.cls with | .read lo _ => q.d.cls.isEff && Nat.blt q.f lo | .alloc _ => q.d.cls.isEff | _ => false) ||
  (p.d.cls.isEff && match q.d.cls with | .read _ hi => Nat.ble hi p.f | .alloc hi => Nat.ble hi p.f | _ => false)

def ownOk (i : Inf) : Bool :=
  match i.d.cls with
  | .pure => isPure i.d.op.k
  | .read lo hi => isRead i.d.op.k && Nat.ble lo i.f && Nat.ble i.f hi
  | .alloc hi => Nat.ble i.f hi
  | .eff => true

def staticGo : List DOp → List Inf → Nat → Option (List Inf)
  | [], acc, _ => some acc
  | d :: r, acc, f => match befOf acc d.after with
    | some b => if ownOk ⟨d, b, f⟩ && acc.all (fun q => (!need q ⟨d, b, f⟩ || memN q.d.idx b) && !Nat.beq q.d.idx d.idx) then
        staticGo r (acc ++ [⟨d, b, f⟩]) (if d.cls.isEff = true then f + 1 else f) else none
    | none => none

def staticOk (l : List DOp) : Bool :=
  match staticGo l [] 0 with
  | some _ => l.all (fun d => Nat.blt d.idx l.length) && (List.range l.length).all fun i => (nth l i).isSome
  | none => false

def cnt (l : List DOp) : Nat := (l.filter fun d => d.cls.isEff).length

structure Good1 (infs : List Inf) : Prop where
  f : ∀ (p : Nat) (i : Inf), infs[p]? = some i → i.f = cnt ((infs.map (·.d)).take p)
  ord : ∀ (q p : Nat) (i j : Inf), q < p → infs[q]? = some j → infs[p]? = some i → need j i = true → j.d.idx ∈ i.b
  aft : ∀ (p : Nat) (i : Inf), infs[p]? = some i → ∀ x ∈ i.d.after, ∃ (q : Nat) (j : Inf), q < p ∧ infs[q]? = some j ∧ j.d.idx = x
  bef : ∀ (p : Nat) (i : Inf), infs[p]? = some i → ∀ x ∈ i.b, x ∈ i.d.after ∨ ∃ (q : Nat) (j : Inf), q < p ∧ infs[q]? = some j ∧ j.d.idx ∈ i.d.after ∧ x ∈ j.b
  own : ∀ (p : Nat) (i : Inf), infs[p]? = some i → ownOk i = true
  uniq : ∀ (q p : Nat) (i j : Inf), q < p → infs[q]? = some j → infs[p]? = some i → j.d.idx ≠ i.d.idx

theorem Good1.step {acc : List Inf} (h : Good1 acc) {d : DOp} {b : List Nat} {f : Nat} (hb : befOf acc d.after = some b) (hf : f = cnt (acc.map (·.d))) (ho : ownOk ⟨d, b, f⟩ = true)
    (ha : ∀ q ∈ acc, (need q ⟨d, b, f⟩ = true → q.d.idx ∈ b) ∧ q.d.idx ≠ d.idx) : Good1 (acc ++ [⟨d, b, f⟩]) := by
  obtain ⟨b1, b2⟩ := befOf_spec hb
  have look : ∀ (p : Nat) (i : Inf), (acc ++ [⟨d, b, f⟩])[p]? = some i → (p < acc.length ∧ acc[p]? = some i) ∨ (p = acc.length ∧ i = ⟨d, b, f⟩) := by
    intro p i hi
    by_cases hp : p < acc.length
    · rw [List.getElem?_append_left hp] at hi; exact .inl ⟨hp, hi⟩
    · rw [List.getElem?_append_right (by omega)] at hi
      have : p = acc.length := by
        have := (List.getElem?_eq_some_iff.1 hi).1
        simp at this
        omega
      subst this
      simp at hi
      exact .inr ⟨rfl, hi.symm⟩
  have up : ∀ (p : Nat) (i : Inf), acc[p]? = some i → (acc ++ [⟨d, b, f⟩])[p]? = some i := fun p i hi => by
    rw [List.getElem?_append_left (List.getElem?_eq_some_iff.1 hi).1]; exact hi
  have ofMem : ∀ j ∈ acc, ∃ q, q < acc.length ∧ (acc ++ [⟨d, b, f⟩])[q]? = some j := fun j hj => by
    obtain ⟨q, hq, e⟩ := List.mem_iff_getElem.1 hj
    exact ⟨q, hq, up q j (by rw [List.getElem?_eq_getElem hq, e])⟩
  refine ⟨?_, ?_, ?_, ?_, ?_, ?_⟩
  · intro p i hi
    rcases look p i hi with ⟨h1, h2⟩ | ⟨rfl, rfl⟩
    · rw [h.f p i h2, List.map_append, List.take_append_of_le_length (by simp; omega)]
    · rw [List.map_append, List.take_append_of_le_length (by simp), List.take_of_length_le (by simp)]
      exact hf
  · intro q p i j hqp hj hi hn
    rcases look p i hi with ⟨h1, h2⟩ | ⟨rfl, rfl⟩
    · rcases look q j hj with ⟨h3, h4⟩ | ⟨rfl, rfl⟩
      · exact h.ord q p i j hqp h4 h2 hn
      · omega
    · rcases look q j hj with ⟨h3, h4⟩ | ⟨rfl, rfl⟩
      · exact (ha j (List.mem_of_getElem? h4)).1 hn
      · omega
  · intro p i hi x hx
    rcases look p i hi with ⟨h1, h2⟩ | ⟨rfl, rfl⟩
    · obtain ⟨q, j, k1, k2, k3⟩ := h.aft p i h2 x hx
      exact ⟨q, j, k1, up q j k2, k3⟩
    · obtain ⟨j, k1, k2⟩ := b1 x hx
      obtain ⟨q, k3, k4⟩ := ofMem j k1
      exact ⟨q, j, k3, k4, k2⟩
  · intro p i hi x hx
    rcases look p i hi with ⟨h1, h2⟩ | ⟨rfl, rfl⟩
    · rcases h.bef p i h2 x hx with k | ⟨q, j, k1, k2, k3, k4⟩
      · exact .inl k
      · exact .inr ⟨q, j, k1, up q j k2, k3, k4⟩
    · rcases b2 x hx with k | ⟨j, k1, k2, k3⟩
      · exact .inl k
      · obtain ⟨q, k4, k5⟩ := ofMem j k1
        exact .inr ⟨q, j, k4, k5, k2, k3⟩
  · intro p i hi
    rcases look p i hi with ⟨h1, h2⟩ | ⟨rfl, rfl⟩
    · exact h.own p i h2
    · exact ho
  · intro q p i j hqp hj hi
    rcases look p i hi with ⟨h1, h2⟩ | ⟨rfl, rfl⟩
    · rcases look q j hj with ⟨h3, h4⟩ | ⟨rfl, rfl⟩
      · exact h.uniq q p i j hqp h4 h2
      · omega
    · rcases look q j hj with ⟨h3, h4⟩ | ⟨rfl, rfl⟩
      · exact (ha j (List.mem_of_getElem? h4)).2
      · omega

theorem staticGo_spec : ∀ (l : List DOp) (acc : List Inf) (f : Nat) {infs : List Inf}, Good1 acc → f = cnt (acc.map (·.d)) → staticGo l acc f = some infs → Good1 infs ∧ infs.map (·.d) = acc.map (·.d) ++ l
  | [], acc, f, infs, hg, hf, h => by
    simp only [staticGo, Option.some.injEq] at h
    subst h
    exact ⟨hg, by simp⟩
  | d :: r, acc, f, infs, hg, hf, h => by
    simp only [staticGo] at h
    split at h
    case h_2 => cases h
    rename_i b hb
    split at h
    case isFalse => cases h
    rename_i hc
    rw [Bool.and_eq_true, List.all_eq_true] at hc
    have hg' := hg.step hb hf hc.1 (fun q hq => by
      have := hc.2 q hq
      rw [Bool.and_eq_true, Bool.or_eq_true] at this
      refine ⟨fun hn => ?_, fun e => ?_⟩
      · rcases this.1 with h1 | h1
        · rw [hn] at h1; cases h1
        · exact memN_iff.1 h1
      · have h2 := this.2
        rw [e] at h2
        simp at h2)
    obtain ⟨k1, k2⟩ := staticGo_spec r _ _ hg' (by
      rw [List.map_append, cnt, List.filter_append, List.length_append, hf]
      simp only [List.map_cons, List.map_nil, cnt]
      by_cases he : d.cls.isEff = true
      · simp [he]
      · simp [he]) h
    exact ⟨k1, by rw [k2]; simp⟩

theorem staticOk_spec {l : List DOp} (h : staticOk l = true) : ∃ infs, Good1 infs ∧ infs.map (·.d) = l ∧ (∀ d ∈ l, d.idx < l.length) ∧ ∀ i, i < l.length → ∃ d, nth l i = some d := by
  unfold staticOk at h
  split at h
  case h_2 => cases h
  rename_i infs hi
  obtain ⟨k1, k2⟩ := staticGo_spec l [] 0 ⟨by simp, by simp, by simp, by simp, by simp, by simp⟩ rfl hi
  rw [Bool.and_eq_true, List.all_eq_true, List.all_eq_true] at h
  refine ⟨infs, k1, by simpa using k2, fun d hd => ?_, fun i hi => ?_⟩
  · exact Nat.le_of_ble_eq_true (h.1 d hd)
  · have := h.2 i (List.mem_range.2 hi)
    exact Option.isSome_iff_exists.1 this

theorem nth_some {l : List DOp} {i : Nat} {d : DOp} (h : nth l i = some d) : d ∈ l ∧ d.idx = i :=
  ⟨List.mem_of_find?_eq_some h, Nat.eq_of_beq_eq_true (by simpa using List.find?_some h)⟩

theorem inText_spec {l : List DOp} : ∀ {n : Nat}, (∀ i, i < n → ∃ d, nth l i = some d) → (inText l n).1.length = n ∧ (inText l n).2.length = n ∧
    ∀ i d, i < n → nth l i = some d → (inText l n).1[i]? = some d.op ∧ (inText l n).2[i]? = some d.after
  | 0, _ => by simp [inText]
  | n + 1, h => by
    obtain ⟨k1, k2, k3⟩ := inText_spec fun i hi => h i (Nat.lt_succ_of_lt hi)
    obtain ⟨d, hd⟩ := h n (Nat.lt_succ_self _)
    simp only [inText, hd]
    refine ⟨by simp [k1], by simp [k2], fun i d' hi hd' => ?_⟩
    by_cases e : i = n
    · subst e
      rw [hd] at hd'
      injection hd' with hd'
      subst hd'
      rw [List.getElem?_append_right (by omega), List.getElem?_append_right (by omega)]
      simp [k1, k2]
    · rw [List.getElem?_append_left (by omega), List.getElem?_append_left (by omega)]
      exact k3 i d' (by omega) hd'
end Mu
