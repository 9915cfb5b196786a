/- Reading, writing, making memory: on both sides. -/
import Derived.Test.YtaepllhjnbencaaGreatDoorMuRel
set_option linter.unusedVariables false
set_option linter.unusedSimpArgs false
namespace Mu
open Go (Value World Addr Program IntKind Sem Result Obj)

theorem BR.congr {ρ ρ' : Rho} {w w' : World} {L : Loc} (hs : Sub ρ ρ') (hh : w'.heap[L.blk]? = w.heap[L.blk]?) : ∀ {x : Blk}, BR ρ w L x → BR ρ' w' L x
  | .cells cs own t, h => by
    simp only [BR] at h ⊢
    obtain ⟨arr, e, fr, h1, h2, h3, h4⟩ := h
    refine ⟨arr, e, fr, hh.trans h1, h2, fun i x hx => ?_, h4⟩
    obtain ⟨x', k1, k2, k3⟩ := h3 i x hx
    exact ⟨x', k1, k2.mono hs, k3⟩
  | .map es, h => by
    simp only [BR] at h ⊢
    obtain ⟨ents, c, h1, h2, h5⟩ := h
    refine ⟨ents, c, hh.trans h1, ?_, h5⟩
    clear h5
    generalize ents.toList = l at h2
    clear h1
    induction es generalizing l with
    | nil => simpa only [KR] using h2
    | cons p r ih =>
      obtain ⟨k, v⟩ := p
      simp only [KR] at h2 ⊢
      obtain ⟨e, r', k1, k3, k4, k5⟩ := h2
      exact ⟨e, r', k1, k3.mono hs, k4.mono hs, ih _ k5⟩
  | .dead, h => by simp only [BR]

theorem owns_put {m : M} {b c : Nat} {x : Blk} (hc : b ≠ c) : owns (m.put b x) c ↔ owns m c := by
  unfold owns; rw [M.get_put_ne _ _ _ _ hc]
theorem lives_put {m : M} {b c : Nat} {x : Blk} (hc : b ≠ c) : lives (m.put b x) c ↔ lives m c := by
  unfold lives; rw [M.get_put_ne _ _ _ _ hc]
theorem owns_new {m : M} {c : Nat} {x : Blk} (hc : c ≠ m.n) : owns (m.new x) c ↔ owns m c := by
  unfold owns; rw [M.get_new_ne _ _ _ hc]
theorem lives_new {m : M} {c : Nat} {x : Blk} (hc : c ≠ m.n) : lives (m.new x) c ↔ lives m c := by
  unfold lives; rw [M.get_new_ne _ _ _ hc]
theorem owns.lives {m : M} {b : Nat} (h : owns m b) : lives m b := by
  unfold owns at h; unfold Mu.lives
  cases hg : m.get b with
  | none => rw [hg] at h; exact h
  | some x => cases x <;> simp_all

/-- a block of one's own is turned into another one -/
theorem MR.write {ρ : Rho} {m : M} {w w' : World} (h : MR ρ m w) {b : Nat} {L : Loc} (hb : ρ b = some L) (ho : owns m b) {x : Blk}
    (hx : BR ρ w' L x) (os : w'.os = w.os) (tape : w'.tape = w.tape) (output : w'.output = w.output) (hsize : w'.heap.size = w.heap.size)
    (hh : ∀ r, r ≠ L.blk → w'.heap[r]? = w.heap[r]?) : Good ρ m w ρ (m.put b x) w' := by
  have hl := ho.lives
  refine ⟨⟨h.dom, ?_, ?_, fun c Lc hc => by rw [hsize]; exact h.size c Lc hc⟩, Sub.refl _, fun _ h1 h2 => absurd h1 h2, Nat.le_refl _, os, tape, output, Nat.le_of_eq hsize.symm, ?_, ?_⟩
  · intro c Lc hc y hy
    by_cases e : b = c
    · subst e
      rw [M.get_put_same] at hy
      injection hy with hy
      subst hy
      rw [hb] at hc
      injection hc with hc
      subst hc
      exact hx
    · rw [M.get_put_ne _ _ _ _ e] at hy
      by_cases hly : lives m c
      · exact (h.blk c Lc hc y hy).congr (Sub.refl _) (hh _ (h.inj b L c Lc hb hc ho hly e).symm)
      · cases y with
        | dead => simp only [BR]
        | cells cs own t => exact absurd (by unfold lives; rw [hy]; trivial) hly
        | map es => exact absurd (by unfold lives; rw [hy]; trivial) hly
  · intro c Lc c' Lc' hc hc' hoc hlc' hne
    have hoc' : owns m c := by
      by_cases e : b = c
      · exact e ▸ ho
      · exact (owns_put e).1 hoc
    have hlc : lives m c' := by
      by_cases e : b = c'
      · exact e ▸ hl
      · exact (lives_put e).1 hlc'
    exact h.inj c Lc c' Lc' hc hc' hoc' hlc hne
  · intro r hr hi
    exact hh r fun e => hi ⟨b, L, hb, ho, e.symm⟩
  · rintro r ⟨c, Lc, hc, hoc, he⟩
    refine .inl ⟨c, Lc, hc, ?_, he⟩
    by_cases e : b = c
    · exact e ▸ ho
    · exact (owns_put e).1 hoc

def Rho.ext (ρ : Rho) (b : Nat) (L : Loc) : Rho := fun c => if c = b then some L else ρ c
theorem Rho.ext_same (ρ : Rho) (b : Nat) (L : Loc) : ρ.ext b L b = some L := by simp [Rho.ext]
theorem Rho.ext_ne (ρ : Rho) {b c : Nat} (L : Loc) (h : c ≠ b) : ρ.ext b L c = ρ c := by simp [Rho.ext, h]
theorem Sub.ext {ρ : Rho} {b : Nat} (L : Loc) (h : ρ b = none) : Sub ρ (ρ.ext b L) := fun c K hc => by
  by_cases e : c = b
  · rw [e, h] at hc; cases hc
  · rw [Rho.ext_ne _ _ e]; exact hc
theorem MR.fresh {ρ : Rho} {m : M} {w : World} (h : MR ρ m w) : ρ m.n = none := by
  cases e : ρ m.n with
  | none => rfl
  | some L => exact absurd (h.dom _ _ e) (Nat.lt_irrefl _)

/-- a block that the abstract memory has already is made in the model's memory -/
theorem MR.late {ρ : Rho} {m : M} {w : World} (h : MR ρ m w) {b : Nat} (hb : ρ b = none) (hn : b < m.n) {x : Blk} (hg : m.get b = some x) (o : Obj) (endd : Nat)
    (hx : BR (ρ.ext b ⟨w.heap.size, 0, endd⟩) { w with heap := w.heap.push o } ⟨w.heap.size, 0, endd⟩ x) :
    MR (ρ.ext b ⟨w.heap.size, 0, endd⟩) m { w with heap := w.heap.push o } := by
  have hs := Sub.ext (ρ := ρ) ⟨w.heap.size, 0, endd⟩ hb
  have hold : ∀ r, r < w.heap.size → (w.heap.push o)[r]? = w.heap[r]? := fun r hr => by rw [Array.getElem?_push, if_neg (by omega)]
  refine ⟨?_, ?_, ?_, ?_⟩
  · intro c Lc hc
    by_cases e : c = b
    · exact e ▸ hn
    · rw [Rho.ext_ne _ _ e] at hc; exact h.dom _ _ hc
  · intro c Lc hc y hy
    by_cases e : c = b
    · subst e
      rw [Rho.ext_same] at hc
      injection hc with hc
      subst hc
      rw [hg] at hy
      injection hy with hy
      subst hy
      exact hx
    · rw [Rho.ext_ne _ _ e] at hc
      exact (h.blk c Lc hc y hy).congr hs (hold _ (h.size _ _ hc))
  · intro c Lc c' Lc' hc hc' hoc hlc' hne
    by_cases e : c = b
    · subst e
      rw [Rho.ext_same] at hc
      injection hc with hc
      subst hc
      rw [Rho.ext_ne _ _ (Ne.symm hne)] at hc'
      have := h.size _ _ hc'
      simp only
      omega
    · rw [Rho.ext_ne _ _ e] at hc
      by_cases e' : c' = b
      · subst e'
        rw [Rho.ext_same] at hc'
        injection hc' with hc'
        subst hc'
        have := h.size _ _ hc
        simp only
        omega
      · rw [Rho.ext_ne _ _ e'] at hc'
        exact h.inj c Lc c' Lc' hc hc' hoc hlc' hne
  · intro c Lc hc
    simp only [Array.size_push]
    by_cases e : c = b
    · subst e
      rw [Rho.ext_same] at hc
      injection hc with hc
      subst hc
      simp only
      omega
    · rw [Rho.ext_ne _ _ e] at hc
      have := h.size _ _ hc
      omega

/-- the abstract memory alone gets one more block, that stands for nothing yet -/
theorem MR.more {ρ : Rho} {m : M} {w : World} (h : MR ρ m w) (x : Blk) : MR ρ (m.new x) w := by
  have hne : ∀ c L, ρ c = some L → c ≠ m.n := fun c L hc e => by have := h.dom c L hc; omega
  refine ⟨fun b L hb => Nat.lt_succ_of_lt (h.dom b L hb), fun b L hb y hy => ?_, fun b L b' L' hb hb' ho hl => ?_, h.size⟩
  · rw [M.get_new_ne _ _ _ (hne b L hb)] at hy
    exact h.blk b L hb y hy
  · exact h.inj b L b' L' hb hb' ((owns_new (hne b L hb)).1 ho) ((lives_new (hne b' L' hb')).1 hl)

theorem MR.alloc {ρ : Rho} {m : M} {w : World} (h : MR ρ m w) (x : Blk) (o : Obj) (endd : Nat)
    (hx : BR (ρ.ext m.n ⟨w.heap.size, 0, endd⟩) { w with heap := w.heap.push o } ⟨w.heap.size, 0, endd⟩ x) :
    Good ρ m w (ρ.ext m.n ⟨w.heap.size, 0, endd⟩) (m.new x) { w with heap := w.heap.push o } := by
  refine ⟨(h.more x).late h.fresh (Nat.lt_succ_self _) (M.get_new_same _ _) o endd hx, Sub.ext _ h.fresh, ?_, Nat.le_succ _, rfl, rfl, rfl, ?_, ?_, ?_⟩
  · intro b h1 h2
    by_cases e : b = m.n
    · omega
    · rw [Rho.ext_ne _ _ e] at h2; exact absurd h1 h2
  · simp
  · intro r hr _
    simp only
    rw [Array.getElem?_push, if_neg (by omega)]
  · rintro r ⟨c, Lc, hc, hoc, he⟩
    by_cases e : c = m.n
    · subst e
      rw [Rho.ext_same] at hc
      injection hc with hc
      subst hc
      simp only at he
      exact .inr (by omega)
    · rw [Rho.ext_ne _ _ e] at hc
      exact .inl ⟨c, Lc, hc, (owns_new e).1 hoc, he⟩

/-- the model has gone on in a way that the abstract memory does not see -/
theorem MR.quiet {ρ : Rho} {m : M} {w : World} (h : MR ρ m w) {w' : World} (hsize : w.heap.size ≤ w'.heap.size) (hh : ∀ r, r < w.heap.size → w'.heap[r]? = w.heap[r]?)
    (os : w'.os = w.os) (tape : w'.tape = w.tape) (output : w'.output = w.output) : Good ρ m w ρ m w' :=
  ⟨⟨h.dom, fun b L hb x hx => (h.blk b L hb x hx).congr (Sub.refl _) (hh _ (h.size _ _ hb)), h.inj, fun b L hb => Nat.lt_of_lt_of_le (h.size b L hb) hsize⟩,
    Sub.refl _, fun _ h1 h2 => absurd h1 h2, Nat.le_refl _, os, tape, output, hsize, fun r hr _ => hh r hr, fun r hi => .inl hi⟩

/-! ### Cells -/
theorem MR.cells {ρ : Rho} {m : M} {w : World} (h : MR ρ m w) {b : Nat} {L : Loc} {cs : List V} {own : Own} {t : Nat} (hb : ρ b = some L) (hg : m.get b = some (.cells cs own t)) :
    ∃ (arr : Array Value) (e : Nat) (fr : Nat × Nat), w.heap[L.blk]? = some (.cells arr e fr) ∧ L.base + cs.length ≤ arr.size ∧
      (∀ i x, cs[i]? = some x → ∃ x', arr[L.base + i]? = some x' ∧ VR ρ x x' ∧ x'.oneCell' = true) ∧
      (own ≠ .ro → e = t ∧ L.endd = arr.size ∧ L.base = 0) ∧ (own = .rw → fr = (0, 0)) ∧ (own = .sb → arr.size ≤ fr.1) := by
  have := h.blk b L hb _ hg
  simpa only [BR] using this

theorem MR.cell {ρ : Rho} {m : M} {w : World} (h : MR ρ m w) {b i : Nat} {L : Loc} {cs : List V} {own : Own} {t : Nat} {x : V} (hb : ρ b = some L)
    (hg : m.get b = some (.cells cs own t)) (hx : cs[i]? = some x) : ∃ x', w.cell? ⟨L.blk, L.base + i, none⟩ = some x' ∧ VR ρ x x' ∧ x'.oneCell' = true := by
  obtain ⟨arr, e, fr, h1, h2, h3, _⟩ := h.cells hb hg
  obtain ⟨x', k1, k2, k3⟩ := h3 i x hx
  exact ⟨x', by simp [World.cell?, h1, k1], k2, k3⟩

theorem addr_add (b o i : Nat) : (⟨b, o, none⟩ : Addr).add i = ⟨b, o + i, none⟩ := by
  unfold Addr.add; split <;> simp_all

theorem VRC.length {ρ : Rho} : ∀ {l : List V} {l' : List Value}, VRC ρ l l' → l'.length = l.length
  | [], _, h => by simp only [VRC] at h; simp [h]
  | x :: r, _, h => by
    simp only [VRC] at h
    obtain ⟨x', r', h1, _, _, h3⟩ := h
    simp [h1, h3.length]

theorem VRL.length {ρ : Rho} : ∀ {l : List V} {l' : List Value}, VRL ρ l l' → l'.length = l.length
  | [], _, h => by simp only [VRL] at h; simp [h]
  | x :: r, _, h => by
    simp only [VRL] at h
    obtain ⟨x', r', h1, _, h3⟩ := h
    simp [h1, h3.length]

theorem VRC.one {ρ : Rho} : ∀ {l : List V} {l' : List Value}, VRC ρ l l' → ∀ v ∈ l', v.oneCell' = true
  | [], _, h => by simp only [VRC] at h; simp [h]
  | x :: r, _, h => by
    simp only [VRC] at h
    obtain ⟨x', r', h1, h2, h3, h4⟩ := h
    subst h1
    intro v hv
    cases hv with
    | head => exact h3
    | tail _ hv => exact h4.one v hv

theorem VRC.get {ρ : Rho} : ∀ {l : List V} {l' : List Value}, VRC ρ l l' → ∀ (i : Nat) (x : V), l[i]? = some x → ∃ x', l'[i]? = some x' ∧ VR ρ x x' ∧ x'.oneCell' = true
  | [], _, h => by simp
  | x :: r, _, h => by
    simp only [VRC] at h
    obtain ⟨x', r', h1, h2, h3, h4⟩ := h
    subst h1
    intro i y hy
    cases i with
    | zero => simp at hy; subst hy; exact ⟨x', rfl, h2, h3⟩
    | succ i => simp at hy; simpa using h4.get i y hy

theorem VRC.of {ρ : Rho} : ∀ {l : List V} {l' : List Value}, l'.length = l.length → (∀ (i : Nat) (x : V), l[i]? = some x → ∃ x', l'[i]? = some x' ∧ VR ρ x x' ∧ x'.oneCell' = true) → VRC ρ l l'
  | [], [], _, _ => by simp only [VRC]
  | [], _ :: _, h, _ => by simp at h
  | x :: r, [], h, _ => by simp at h
  | x :: r, x' :: r', h, k => by
    simp only [VRC]
    obtain ⟨y, h1, h2, h3⟩ := k 0 x rfl
    simp at h1
    subst h1
    exact ⟨x', r', rfl, h2, h3, VRC.of (by simpa using h) fun i z hz => by simpa using k (i + 1) z (by simpa using hz)⟩

theorem VRL.get {ρ : Rho} : ∀ {l : List V} {l' : List Value}, VRL ρ l l' → ∀ (i : Nat) (x : V), l[i]? = some x → ∃ x', l'[i]? = some x' ∧ VR ρ x x'
  | [], _, h => by simp
  | x :: r, _, h => by
    simp only [VRL] at h
    obtain ⟨x', r', h1, h2, h4⟩ := h
    subst h1
    intro i y hy
    cases i with
    | zero => simp at hy; subst hy; exact ⟨x', rfl, h2⟩
    | succ i => simp at hy; simpa using h4.get i y hy

theorem VRL.append {ρ : Rho} : ∀ {l k : List V} {l' k' : List Value}, VRL ρ l l' → VRL ρ k k' → VRL ρ (l ++ k) (l' ++ k')
  | [], _, _, _, h, g => by simp only [VRL] at h; subst h; simpa using g
  | x :: r, _, _, _, h, g => by
    simp only [VRL] at h
    obtain ⟨x', r', h1, h2, h4⟩ := h
    subst h1
    simp only [List.cons_append, VRL]
    exact ⟨x', _, rfl, h2, h4.append g⟩

theorem VRL.take {ρ : Rho} : ∀ {l : List V} {l' : List Value} (n : Nat), VRL ρ l l' → VRL ρ (l.take n) (l'.take n)
  | [], _, n, h => by simp only [VRL] at h; subst h; simp [VRL]
  | x :: r, _, 0, h => by simp [VRL]
  | x :: r, _, n + 1, h => by
    simp only [VRL] at h
    obtain ⟨x', r', h1, h2, h4⟩ := h
    subst h1
    simp only [List.take_succ_cons, VRL]
    exact ⟨x', _, rfl, h2, h4.take n⟩

theorem VRL.drop {ρ : Rho} : ∀ {l : List V} {l' : List Value} (n : Nat), VRL ρ l l' → VRL ρ (l.drop n) (l'.drop n)
  | [], _, n, h => by simp only [VRL] at h; subst h; simp [VRL]
  | x :: r, _, 0, h => by simpa using h
  | x :: r, _, n + 1, h => by
    simp only [VRL] at h
    obtain ⟨x', r', h1, h2, h4⟩ := h
    subst h1
    simpa using h4.drop n

theorem VRC.slice {ρ : Rho} {l : List V} {l' : List Value} (h : VRC ρ l l') (o n : Nat) (hn : o + n ≤ l.length) : VRC ρ (slice1 l o n) ((l'.drop o).take n) := by
  have hl := h.length
  refine VRC.of (by simp [slice1]; omega) fun i x hx => ?_
  have hi : i < n := by
    have := (List.getElem?_eq_some_iff.1 hx).1
    simp [slice1] at this
    omega
  simp only [slice1, List.getElem?_take, if_pos hi, List.getElem?_drop] at hx ⊢
  exact h.get _ _ hx

/-- n cells are read -/
theorem MR.load {P : Program} {ρ : Rho} {m : M} {w : World} (h : MR ρ m w) {b o n : Nat} {L : Loc} {cs : List V} {own : Own} {t : Nat} (hb : ρ b = some L)
    (hg : m.get b = some (.cells cs own t)) (hn : o + n ≤ cs.length) :
    ∃ l' : List Value, (∀ w' : World, w'.heap = w.heap → (Go.loadCells ⟨L.blk, L.base + o, none⟩ n).run P w' = .ok l'.toArray w') ∧ VRC ρ (slice1 cs o n) l' ∧ l'.length = n := by
  obtain ⟨arr, e, fr, h1, h2, h3, _⟩ := h.cells hb hg
  have hlen : ((arr.toList.drop (L.base + o)).take n).length = n := by simp; omega
  refine ⟨(arr.toList.drop (L.base + o)).take n, ?_, ?_, hlen⟩
  · intro w' hw'
    have := Go.run_loadCells_list (P := P) w' ⟨L.blk, L.base + o, none⟩ ((arr.toList.drop (L.base + o)).take n) (fun j v hv => by
      rw [addr_add]
      have hj : j < n := by
        have := (List.getElem?_eq_some_iff.1 hv).1
        omega
      simp only [List.getElem?_take, if_pos hj, List.getElem?_drop] at hv
      simp [World.cell?, hw', h1]
      simpa using hv)
    rwa [hlen] at this
  · refine VRC.of (by rw [hlen]; simp [slice1]; omega) fun i x hx => ?_
    have hi : i < n := by
      have := (List.getElem?_eq_some_iff.1 hx).1
      simp [slice1] at this
      omega
    simp only [slice1, List.getElem?_take, if_pos hi, List.getElem?_drop] at hx ⊢
    obtain ⟨x', k1, k2, k3⟩ := h3 _ _ hx
    exact ⟨x', by simpa [Nat.add_assoc] using k1, k2, k3⟩

/-- a row of cells is written in the model -/
theorem run_storeCells_ex {P : Program} (b : Nat) : ∀ (vs : List Value) (o i : Nat) (w : World) (arr : Array Value) (e : Nat) (fr : Nat × Nat), w.heap[b]? = some (.cells arr e fr) →
    o + i + vs.length ≤ arr.size → (∀ j, o + i ≤ j → j < o + i + vs.length → ¬ (fr.1 ≤ j ∧ j < fr.2)) → (∀ v ∈ vs, v.oneCell' = true) →
    ∃ w' arr', (Go.storeCells ⟨b, o, none⟩ vs i).run P w = .ok () w' ∧ w'.heap[b]? = some (.cells arr' e fr) ∧ arr'.size = arr.size ∧
      (∀ j, arr'[j]? = if o + i ≤ j ∧ j < o + i + vs.length then vs[j - (o + i)]? else arr[j]?) ∧ w'.heap.size = w.heap.size ∧
      (∀ r, r ≠ b → w'.heap[r]? = w.heap[r]?) ∧ w'.os = w.os ∧ w'.tape = w.tape ∧ w'.output = w.output := by
  intro vs
  induction vs with
  | nil =>
    intro o i w arr e fr hh _ _ _
    refine ⟨w, arr, rfl, hh, rfl, fun j => ?_, rfl, fun _ _ => rfl, rfl, rfl, rfl⟩
    rw [if_neg (by simp)]
  | cons v vs ih =>
    intro o i w arr e fr hh hsz hfr h1
    simp only [List.length_cons] at hsz hfr
    have hc : w.cell? ⟨b, o + i, none⟩ = some (arr[o + i]'(by omega)) := by simp [World.cell?, hh]
    have hf : w.frozen? ⟨b, o + i, none⟩ = false := by
      have := hfr (o + i) (Nat.le_refl _) (by omega)
      simp only [World.frozen?, hh]
      simpa using this
    have hrun := Go.run_store P w ⟨b, o + i, none⟩ v .plain (h1 v (List.mem_cons_self ..))
    rw [hc, hf] at hrun
    simp only [Bool.false_eq_true, if_false] at hrun
    have hlt : b < w.heap.size := (Array.getElem?_eq_some_iff.1 hh).1
    have hget : w.heap[b]'hlt = .cells arr e fr := by
      have := (Array.getElem?_eq_some_iff.1 hh).2
      exact this
    have hh1 : (w.setCell ⟨b, o + i, none⟩ v).heap[b]? = some (.cells (arr.setIfInBounds (o + i) v) e fr) := by
      simp [World.setCell, Array.getElem?_modify, hh]
    obtain ⟨w', arr', k1, k2, k3, k4, k5, k6, k7, k8, k9⟩ := ih o (i + 1) (w.setCell ⟨b, o + i, none⟩ v) (arr.setIfInBounds (o + i) v) e fr hh1 (by simp; omega)
      (fun j hj1 hj2 => hfr j (by omega) (by omega)) (fun u hu => h1 u (List.mem_cons_of_mem _ hu))
    refine ⟨w', arr', ?_, k2, by rw [k3]; simp, fun j => ?_, ?_, ?_, k7, k8, k9⟩
    · simp only [Go.storeCells, Sem.run, Go.Sem.run_bind, addr_add, hrun, Go.Result.andThen_ok, k1]
    · rw [k4 j]
      by_cases hj : j = o + i
      · subst hj
        rw [if_neg (by omega), if_pos ⟨Nat.le_refl _, by simp⟩, Array.getElem?_setIfInBounds_self_of_lt (by omega)]
        simp
      · by_cases hr : o + (i + 1) ≤ j ∧ j < o + (i + 1) + vs.length
        · rw [if_pos hr, if_pos (by simp; omega), show j - (o + i) = (j - (o + (i + 1))) + 1 by omega]
          simp
        · rw [if_neg hr, if_neg (by simp; omega), Array.getElem?_setIfInBounds_ne (by omega)]
    · rw [k5]; simp [World.setCell]
    · intro r hr
      rw [k6 r hr]
      simp [World.setCell, Array.getElem?_modify, Ne.symm hr]

theorem splice_length (cs : List V) (o : Nat) (l : List V) (h : o + l.length ≤ cs.length) : (splice cs o l).length = cs.length := by
  simp [splice]; omega

theorem splice_get (cs : List V) (o : Nat) (l : List V) (h : o + l.length ≤ cs.length) (j : Nat) :
    (splice cs o l)[j]? = if o ≤ j ∧ j < o + l.length then l[j - o]? else cs[j]? := by
  unfold splice
  by_cases h1 : j < o
  · rw [if_neg (by omega), List.getElem?_append_left (by simp; omega), List.getElem?_take, if_pos h1]
  · rw [List.getElem?_append_right (by simp; omega)]
    have ht : (cs.take o).length = o := by simp; omega
    rw [ht]
    by_cases h2 : j < o + l.length
    · rw [if_pos ⟨by omega, h2⟩, List.getElem?_append_left (by omega)]
    · rw [if_neg (by omega), List.getElem?_append_right (by omega), List.getElem?_drop]
      congr 1
      omega

/-- cells are written on both sides -/
theorem MR.store {P : Program} {ρ : Rho} {m : M} {w : World} (h : MR ρ m w) {b o : Nat} {L : Loc} {cs : List V} {own : Own} {t : Nat} (hb : ρ b = some L)
    (hg : m.get b = some (.cells cs own t)) (hw : own ≠ .ro) {l : List V} {l' : List Value} (hl : VRC ρ l l') (hn : o + l.length ≤ cs.length) :
    ∃ w', (Go.storeCells ⟨L.blk, L.base + o, none⟩ l').run P w = .ok () w' ∧ Good ρ m w ρ (m.put b (.cells (splice cs o l) own t)) w' := by
  obtain ⟨arr, e, fr, h1, h2, h3, h4, h5, h6⟩ := h.cells hb hg
  have hll := hl.length
  have hfr : ∀ j, L.base + o ≤ j → j < L.base + o + l'.length → ¬ (fr.1 ≤ j ∧ j < fr.2) := by
    intro j _ hj2
    cases own with
    | rw => rw [h5 rfl]; simp
    | sb => have := h6 rfl; omega
    | ro => exact absurd rfl hw
  obtain ⟨w', arr', k1, k2, k3, k4, k5, k6, k7, k8, k9⟩ := run_storeCells_ex (P := P) L.blk l' (L.base + o) 0 w arr e fr h1 (by omega) (by simpa using hfr) hl.one
  refine ⟨w', k1, h.write hb ?_ ?_ k7 k8 k9 k5 k6⟩
  · unfold owns; rw [hg]; exact hw
  · simp only [BR]
    refine ⟨arr', e, fr, k2, by rw [splice_length _ _ _ hn, k3]; exact h2, ?_, fun hne => by rw [k3]; exact h4 hne, h5, fun hs => by rw [k3]; exact h6 hs⟩
    intro i x hx
    rw [splice_get _ _ _ hn] at hx
    rw [k4]
    by_cases hi : o ≤ i ∧ i < o + l.length
    · rw [if_pos hi] at hx
      rw [if_pos (by omega)]
      obtain ⟨x', g1, g2, g3⟩ := hl.get _ _ hx
      exact ⟨x', by rw [← g1]; congr 1; omega, g2, g3⟩
    · rw [if_neg hi] at hx
      rw [if_neg (by omega)]
      exact h3 i x hx
end Mu
